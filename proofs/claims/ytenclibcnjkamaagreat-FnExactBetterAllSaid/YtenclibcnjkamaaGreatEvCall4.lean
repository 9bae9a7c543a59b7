import Derived.Test.YtenclibcnjkamaaGreatEvOps6
set_option linter.all false
namespace Go.Ev
open Go.RowKit
mutual
theorem Gw{w:World}{S S':Nat→Prop}(hS:∀k,S k→S' k):∀(g:G),g.ok w S→(∀k∈g.bl,S' k)→g.er.rd w S' g.val
 |.l d v,h,_=>by
  simp only[G.ok] at h
  simp only[G.er,G.val]
  exact D.rd_congr (fun k hk=>⟨hS k hk,rfl⟩) d v h.2
 |.s sz none els,h,_=>by
  simp only[G.ok] at h
  simp only[G.er,G.val,h.1,cD,D.rd]
  exact⟨none,0,rfl,by simp,by simp,⟨sz,by simp⟩,by simp[dZ]⟩
 |.s sz (some b) els,h,hb=>by
  have h0:=h
  simp only[G.ok] at h
  obtain⟨⟨h1,h2,cur,e,h3,h4,h5⟩,h6,h7⟩:=h
  simp only[G.er,G.val,D.rd]
  simp only[G.bl,List.singleton_append,List.mem_cons] at hb
  refine⟨some ⟨b.1,b.3,none⟩,b.2,by rw[cY],by rw[cY];exact h1,h2,⟨sz,fun el hel=> ?_⟩,Xi hS els b.1 b.3 0 (fun j u hj=> ?_) h7 (fun k hk=>hb k (.inr hk)) (hb b.1 (.inl rfl))⟩
  ·rw[cG] at hel
   obtain⟨gs,hgs,rfl⟩:=List.mem_map.1 hel
   simpa using h6 gs hgs
  ·rw[←h5,List.getElem?_take] at hj
   split at hj
   ·rw[cell_of_row w b.1 _ cur e (0,0) h3]
    rw[List.getElem?_drop] at hj
    simpa using hj
   ·simp at hj
theorem Xi{w:World}{S S':Nat→Prop}(hS:∀k,S k→S' k):∀(els:List (List G)) (b o0 off:Nat),(∀(j:Nat) (u:Value),(a7 els)[j]? = some u→w.cell? ⟨b,o0+(off+j),none⟩=some u)→gK w S els→(∀k∈bX els,S' k)→S' b→dZ w S' (some ⟨b,o0,none⟩) off (cD els)
 |[],b,o0,off,_,_,_,_=>by simp[cD,dZ]
 |el::els,b,o0,off,hc,hok,hb,hS'b=>by
  simp only[gK] at hok
  simp only[bX,List.mem_append] at hb
  simp only[cD,dZ]
  refine⟨⟨_,rfl,Uo hS el b o0 off (fun j u hj=>hc j u (by simp only[a7];rw[List.getElem?_append_left (List.getElem?_eq_some_iff.1 hj).1];exact hj)) hok.1 (fun k hk=>hb k (.inl hk)) hS'b⟩,?_⟩
  rw[d4]
  refine Xi hS els b o0 _ (fun j u hj=> ?_) hok.2 (fun k hk=>hb k (.inr hk)) hS'b
  have:=hc (el.length+j) u (by simp only[a7];rw[List.getElem?_append_right (by rw[dH];omega),dH];simpa using hj)
  rwa [show o0+(off+el.length+j)=o0+(off+(el.length+j)) by omega]
theorem Uo{w:World}{S S':Nat→Prop}(hS:∀k,S k→S' k):∀(gs:List G) (b o0 off:Nat),(∀(j:Nat) (u:Value),(cL gs)[j]? = some u→w.cell? ⟨b,o0+(off+j),none⟩=some u)→oks w S gs→(∀k∈bls gs,S' k)→S' b→rds w S' ⟨b,o0,none⟩ off (ers gs)
 |[],b,o0,off,_,_,_,_=>by simp[ers,rds]
 |g::gs,b,o0,off,hc,hok,hb,hS'b=>by
  simp only[oks] at hok
  simp only[bls,List.mem_append] at hb
  simp only[ers,rds]
  refine⟨⟨g.val,?_,hS'b,Gw hS g hok.1 (fun k hk=>hb k (.inl hk))⟩,Uo hS gs b o0 (off+1) (fun j u hj=> ?_) hok.2 (fun k hk=>hb k (.inr hk)) hS'b⟩
  ·rw[Addr.add_lit]
   simpa using hc 0 g.val rfl
  ·have:=hc (j+1) u (by simpa[cL] using hj)
   rwa [show o0+(off+1+j)=o0+(off+(j+1)) by omega]
end
theorem z8w{w:World}{S:Nat→Prop}{sz:Nat}{els:List (List D)}{v:Value}:D.rd w S (.s sz els) v↔D.rd w S (.r els) v:=by simp only[D.rd]
theorem r8:∀els:List (List D),(fzs els).length=els.length
 |[]=>by simp[fzs]
 |el::els=>by simp[fzs,r8 els]
theorem Uk:∀ds:List D,(fzl ds).length=ds.length
 |[]=>by simp[fzl]
 |d::ds=>by simp[fzl,Uk ds]
theorem zjT{sz:Nat}:∀{els:List (List D)},(∀el∈els,el.length=sz)→∀el∈fzs els,el.length=sz
 |[],_,el,h=>by simp[fzs] at h
 |e::els,ha,el,h=>by
  simp only[fzs,List.mem_cons] at h
  rcases h with rfl|h
  ·rw[Uk];exact ha e (by simp)
  ·exact zjT (fun el hel=>ha el (by simp[hel])) el h
mutual
theorem Wc{w:World}{S:Nat→Prop}:∀(d:D) (v:Value),d.rd w S v→d.fz.rd w S v
 |.v x,v,h=>by simpa only[D.fz] using h
 |.u,v,h=>by simpa only[D.fz] using h
 |.s _ els,v,h=>by
  simp only[D.fz,D.rd] at h ⊢
  obtain⟨A,c,h1,h2,h3,⟨sz,h4⟩,h5⟩:=h
  exact⟨A,c,by rw[r8];exact h1,by rw[r8];exact h2,h3,⟨sz,zjT h4⟩,T8 els A 0 h5⟩
 |.r els,v,h=>by
  simp only[D.fz,D.rd] at h ⊢
  obtain⟨A,c,h1,h2,h3,⟨sz,h4⟩,h5⟩:=h
  exact⟨A,c,by rw[r8];exact h1,by rw[r8];exact h2,h3,⟨sz,zjT h4⟩,T8 els A 0 h5⟩
theorem T8{w:World}{S:Nat→Prop}:∀(els:List (List D)) (A:Option Addr) (off:Nat),dZ w S A off els→dZ w S A off (fzs els)
 |[],A,off,_=>by simp only[fzs,dZ]
 |el::els,A,off,h=>by
  simp only[fzs,dZ] at h ⊢
  obtain⟨⟨a,h1,h2⟩,h3⟩:=h
  exact⟨⟨a,h1,Tz el a off h2⟩,by rw[Uk];exact T8 els A _ h3⟩
theorem Tz{w:World}{S:Nat→Prop}:∀(ds:List D) (a:Addr) (off:Nat),rds w S a off ds→rds w S a off (fzl ds)
 |[],a,off,_=>by simp only[fzl,rds]
 |d::ds,a,off,h=>by
  simp only[fzl,rds] at h ⊢
  obtain⟨⟨u,h1,h2,h3⟩,h4⟩:=h
  exact⟨⟨u,h1,h2,Wc d u h3⟩,Tz ds a _ h4⟩
end
theorem W5{w:World}{S:Nat→Prop}{sz:Nat}:∀(els:List (List D)) (A:Option Addr) (off j:Nat) (el:List D),(∀e∈els,e.length=sz)→dZ w S A off els→els[j]? = some el→∃a,A=some a∧rds w S a (off+j*sz) el
 |[],_,_,_,_,_,_,h=>by simp at h
 |e::els,A,off,0,el,_,hs,h=>by
  simp only[List.getElem?_cons_zero,oi] at h
  subst h
  simp only[dZ] at hs
  obtain⟨⟨a,h1,h2⟩,_⟩:=hs
  exact⟨a,h1,by simpa using h2⟩
 |e::els,A,off,j+1,el,hl,hs,h=>by
  simp only[dZ] at hs
  obtain⟨a,h1,h2⟩:=W5 els A (off+e.length) j el (fun e he=>hl e (by simp[he])) hs.2 (by simpa using h)
  refine⟨a,h1,?_⟩
  rw[hl e (by simp)] at h2
  rw[Nat.add_mul,Nat.one_mul,show off+(j*sz+sz)=off+sz+j*sz by omega]
  exact h2
theorem zq8{w:World}{S:Nat→Prop}:∀(ds:List D) (i:Nat) (a:Addr) (off:Nat),rds w S a off ds→rds w S a (off+i) (ds.drop i)
 |ds,0,a,off,h=>by simpa using h
 |[],i+1,a,off,h=>by simp[rds]
 |d::ds,i+1,a,off,h=>by
  simp only[rds] at h
  have:=zq8 ds i a (off+1) h.2
  rw[List.drop_succ_cons,show off+(i+1)=off+1+i by omega]
  exact this
theorem Qn{w:World}{S:Nat→Prop}:∀(ds:List D) (b o k off:Nat),rds w S ⟨b,o,none⟩ (k+off) ds→rds w S ⟨b,o+k,none⟩ off ds
 |[],b,o,k,off,h=>by simp[rds]
 |d::ds,b,o,k,off,h=>by
  simp only[rds] at h ⊢
  obtain⟨⟨u,h1,h2,h3⟩,h4⟩:=h
  refine⟨⟨u,?_,h2,h3⟩,Qn ds b o k (off+1) (by rw[←Nat.add_assoc];exact h4)⟩
  rw[Addr.add_lit] at h1 ⊢
  rw[show o+k+off=o+(k+off) by omega]
  exact h1
section
variable{γ:Gm}{S S':Nat→Prop}{w:World}{h:Heap}
theorem Vs(m:Mm h γ S w){x y:X}{v:Value}(hx:x.vr γ w S v)(hs:kY h x=some y)(hS:∀k,S k→S' k)(hS':x.roC=true∨∀id g,γ (.inl id)=some g→∀k∈g.bl,S' k):y.vr (fun _=>none) w S' v∧(∀φ:Id→Path→Prop,y.allp φ)∧v.oneCell'=true:=by
 unfold kY at hs
 split at hs
 ·simp only[oi] at hs
  subst hs
  simp only[X.vr] at hx ⊢
  exact⟨hx,fun φ=>by simp only[X.allp],by rw[hx.1];exact hx.2⟩
 ·simp only[oi] at hs
  subst hs
  simp only[X.vr] at hx ⊢
  exact⟨D.rd_congr (fun k hk=>⟨hS k hk,rfl⟩) _ _ hx,fun φ=>by simp only[X.allp],Gu hx⟩
 ·simp only[oi] at hs
  subst hs
  simp only[X.vr] at hx
  rw[hx.2]
  exact⟨by simp only[X.vr,D.rd];exact⟨none,0,rfl,by simp,by simp,⟨0,by simp⟩,by simp[dZ]⟩,fun φ=>by simp only[X.allp],rfl⟩
 ·simp only[oi] at hs
  subst hs
  simp only[X.vr] at hx ⊢
  exact⟨hx,fun φ=>by simp only[X.allp],hx⟩
 ·rename_i id p
  simp only[aC] at hs
  obtain⟨r,h1,rfl⟩:=hs
  obtain⟨b,els,h2,h3⟩:=m.row h1
  simp only[X.vr] at hx
  have hok:=m.nav_ok h2
  have hv:=(hx.2 _ h2).1
  have hall:∀id g,γ (.inl id)=some g→∀k∈g.bl,S' k:=hS'.resolve_left (by simp[X.roC])
  have h2':=h2
  simp only[Gm.nav,aA] at h2'
  obtain⟨g0,h4,h5⟩:=h2'
  have:=Gw (S':=S') hS _ hok (fun k hk=>hall id g0 h4 k (Nc _ _ _ h5 k hk))
  simp only[G.er] at this
  rw[hv,z8w,h3] at this
  exact⟨by simp only[X.vr];exact Wc (.r r.2) v this,fun φ=>by simp only[X.allp],hx.1⟩
 ·rename_i id q j i
  simp only[aA,aC] at hs
  obtain⟨r,h1,el,hel,rfl⟩:=hs
  obtain⟨b,els,h2,h3⟩:=m.row h1
  simp only[X.vr] at hx
  obtain⟨ad,rfl,had⟩:=hx
  have hok:=m.nav_ok h2
  have hall:∀id g,γ (.inl id)=some g→∀k∈g.bl,S' k:=hS'.resolve_left (by simp[X.roC])
  have h2':=h2
  simp only[Gm.nav,aA] at h2'
  obtain⟨g0,h4,h5⟩:=h2'
  have hrd:=Gw (S':=S') hS _ hok (fun k hk=>hall id g0 h4 k (Nc _ _ _ h5 k hk))
  have hlen:∀e∈r.2,e.length=r.1:=fun e he=>by
   rw[←h3,cG,List.mem_map] at he
   obtain⟨ge,hge,rfl⟩:=he
   rw[←gV,d4]
   simp only[G.ok] at hok
   exact hok.2.1 ge hge
  cases b with
  |none =>
   simp only[G.ok] at hok
   rw[hok.1] at h3
   rw[←h3] at hel
   simp[cD] at hel
  |some b =>
   have hade:=had _ _ _ h2
   subst hade
   simp only[G.er,G.val,D.rd,h3] at hrd
   obtain⟨A,cp,hv,_,_,_,hss⟩:=hrd
   simp only[Value.slice.injEq] at hv
   obtain⟨hA,_⟩:=hv
   subst hA
   obtain⟨a',ha',hr1⟩:=W5 (sz:=r.1) r.2 _ 0 j el hlen hss hel
   simp only[oi] at ha'
   subst ha'
   have hr2:=Qn _ _ _ (j*r.1+i) 0 (by simpa using zq8 el i _ _ hr1)
   refine⟨by simp only[X.vr];exact⟨_,rfl,Tz _ _ _ hr2⟩,fun φ=>by simp only[X.allp],rfl⟩
 ·simp at hs
theorem Va(m:Mm h γ S w)(hS:∀k,S k→S' k):∀{xs ys:List X} {vs:List Value},vrs γ w S xs vs→uR h xs=some ys→(Fd xs=true∨∀id g,γ (.inl id)=some g→∀k∈g.bl,S' k)→vrs (fun _=>none) w S' ys vs∧(∀φ:Id→Path→Prop,aR φ ys)∧∀u∈vs,u.oneCell'=true
 |[],ys,[],_,hs,_=>by
  simp only[uR,oi] at hs
  subst hs
  exact⟨by simp[vrs],fun φ=>by simp[aR],by simp⟩
 |x::xs,ys,v::vs,hv,hs,hr=>by
  simp only[uR,aA,aC] at hs
  obtain⟨y,h1,zs,h2,rfl⟩:=hs
  simp only[vrs] at hv
  obtain⟨h3,h4,h5⟩:=Vs m hv.1 h1 hS (hr.imp (fun h=>by simp only[Fd,bE] at h;exact h.1) (fun h=>h))
  obtain⟨h6,h7,h8⟩:=Va m hS hv.2 h2 (hr.imp (fun h=>by simp only[Fd,bE] at h;exact h.2) (fun h=>h))
  exact⟨by simp only[vrs];exact⟨h3,h6⟩,fun φ=>by simp only[aR];exact⟨h4 φ,h7 φ⟩,fun u hu=>by rcases List.mem_cons.1 hu with rfl|hu;exact h5;exact h8 u hu⟩
 |[],_,_::_,h,_,_=>by simp[vrs] at h
 |_::_,_,[],h,_,_=>by simp[vrs] at h
theorem zqx(m:Mm h γ S w){x y:X}{v:Value}(hx:x.vr γ w S v)(hs:Ag h x=some y)(hS:∀k,S k→S' k)(hS':x.roV=true∨∀id g,γ (.inl id)=some g→∀k∈g.bl,S' k):y.vr (fun _=>none) w S' v∧(∀φ:Id→Path→Prop,y.allp φ):=by
 unfold Ag at hs
 split at hs
 ·rename_i cs
  simp only[aC] at hs
  obtain⟨ys,h1,rfl⟩:=hs
  simp only[X.vr] at hx
  obtain⟨vs,rfl,h2,h3⟩:=hx
  obtain⟨h4,h5,_⟩:=Va m hS h2 h1 hS'
  exact⟨by simp only[X.vr];exact⟨vs,rfl,h4,h3⟩,fun φ=>by simp only[X.allp];exact h5 φ⟩
 ·rename_i hna
  have hro:x.roV=true→x.roC=true:=fun h=>by
   cases x<;>simp_all[X.roV]
  obtain⟨h1,h2,_⟩:=Vs m hx hs hS (hS'.imp hro (fun h=>h))
  exact⟨h1,h2⟩
theorem Ln(m:Mm h γ S w)(hS:∀k,S k→S' k):∀{xs ys:List X} {vs:List Value},vrs γ w S xs vs→kV h xs=some ys→(iY xs=true∨∀id g,γ (.inl id)=some g→∀k∈g.bl,S' k)→vrs (fun _=>none) w S' ys vs∧∀φ:Id→Path→Prop,aR φ ys
 |[],ys,[],_,hs,_=>by
  simp only[kV,oi] at hs
  subst hs
  exact⟨by simp[vrs],fun φ=>by simp[aR]⟩
 |x::xs,ys,v::vs,hv,hs,hr=>by
  simp only[kV,aA,aC] at hs
  obtain⟨y,h1,zs,h2,rfl⟩:=hs
  simp only[vrs] at hv
  obtain⟨h3,h4⟩:=zqx m hv.1 h1 hS (hr.imp (fun h=>by simp only[iY,bE] at h;exact h.1) (fun h=>h))
  obtain⟨h6,h7⟩:=Ln m hS hv.2 h2 (hr.imp (fun h=>by simp only[iY,bE] at h;exact h.2) (fun h=>h))
  exact⟨by simp only[vrs];exact⟨h3,h6⟩,fun φ=>by simp only[aR];exact⟨h4 φ,h7 φ⟩⟩
 |[],_,_::_,h,_,_=>by simp[vrs] at h
 |_::_,_,[],h,_,_=>by simp[vrs] at h
end
def X.own:X→Bool
 |.d (.s _ _)=>true
 |_=>false
def Jm(γ:Gm)(w:World)(S:Nat→Prop)(x:X)(v:Value)(is:List GId):Prop :=
 (x.own=false∧is=[]∧x.vr γ w S v)∨∃sz els i g,x= .d (.s sz els)∧is=[i]∧γ i=some g∧(∃n,i= .inr n)∧g.er= .s sz els∧g.val=v
def fZ(γ:Gm)(w:World)(S:Nat→Prop):List X→List Value→List GId→Prop
 |[],[],is=>is=[]
 |x::xs,v::vs,is=>∃i1 i2,is=i1++i2∧Jm γ w S x v i1∧fZ γ w S xs vs i2
 |_,_,_=>False
def d6(γ:Gm)(w:World)(S:Nat→Prop):X→Value→List GId→Prop
 |.agg cs,v,is=>∃vs:List Value,v= .agg vs.toArray∧fZ γ w S cs vs is∧∀u∈vs,u.oneCell'=true
 |x,v,is=>Jm γ w S x v is
def eZ(γ:Gm)(w:World)(S:Nat→Prop):List X→List Value→List GId→Prop
 |[],[],is=>is=[]
 |x::xs,v::vs,is=>∃i1 i2,is=i1++i2∧d6 γ w S x v i1∧eZ γ w S xs vs i2
 |_,_,_=>False
def cV(γ:Gm)(w:World)(S:Nat→Prop):X→Value→List GId→Prop
 |.tup cs,v,is=>∃vs:List Value,v= .tuple vs.toArray∧eZ γ w S cs vs is
 |x,v,is=>d6 γ w S x v is
structure ResTo (γ γ':Gm) (w w':World) (S S':Nat→Prop) (φ:Id→Path→Prop):Prop where
 same:∀id p,φ id p→Same γ γ' id p
 hS:∀k,S k→S' k∧w'.heap[k]? = w.heap[k]?
theorem pO{γ γ':Gm}{w w':World}{S S':Nat→Prop}{φ:Id→Path→Prop}(t:ResTo γ γ' w w' S S' φ){x:X}{v:Value}{is:List GId}(hφ:x.allp φ)(hr:Jm γ w S x v is)(hk:∀i∈is,γ' i=γ i):Jm γ' w' S' x v is:=by
 rcases hr with⟨h1,h2,h3⟩|⟨sz,els,i,g,h1,h2,h3,h4,h5,h6⟩
 ·exact .inl ⟨h1,h2,fW t.hS x v (bS t.same x hφ) h3⟩
 ·subst h2
  exact .inr ⟨sz,els,i,g,h1,rfl,(hk i (by simp)).trans h3,h4,h5,h6⟩
theorem Sq{γ γ':Gm}{w w':World}{S S':Nat→Prop}{φ:Id→Path→Prop}(t:ResTo γ γ' w w' S S' φ):∀{xs:List X} {vs:List Value} {is:List GId},aR φ xs→fZ γ w S xs vs is→(∀i∈is,γ' i=γ i)→fZ γ' w' S' xs vs is
 |[],[],is,_,hr,_=>hr
 |x::xs,v::vs,is,hφ,hr,hk=>by
  simp only[fZ,aR] at hr hφ ⊢
  obtain⟨i1,i2,rfl,h1,h2⟩:=hr
  exact⟨i1,i2,rfl,pO t hφ.1 h1 (fun i hi=>hk i (by simp[hi])),Sq t hφ.2 h2 (fun i hi=>hk i (by simp[hi]))⟩
 |[],_::_,_,_,h,_=>by simp[fZ] at h
 |_::_,[],_,_,h,_=>by simp[fZ] at h
theorem fV{γ γ':Gm}{w w':World}{S S':Nat→Prop}{φ:Id→Path→Prop}(t:ResTo γ γ' w w' S S' φ){x:X}{v:Value}{is:List GId}(hφ:x.allp φ)(hr:d6 γ w S x v is)(hk:∀i∈is,γ' i=γ i):d6 γ' w' S' x v is:=by
 cases x with
 |agg cs =>
  simp only[d6,X.allp] at hr hφ ⊢
  obtain⟨vs,h1,h2,h3⟩:=hr
  exact⟨vs,h1,Sq t hφ h2 hk,h3⟩
 |d x=>exact pO t hφ (by simpa[d6] using hr) hk
 |tup cs=>exact pO t hφ (by simpa[d6] using hr) hk
 |ref id p=>exact pO t hφ (by simpa[d6] using hr) hk
 |ptr id q j i=>exact pO t hφ (by simpa[d6] using hr) hk
 |rop cs=>exact pO t hφ (by simpa[d6] using hr) hk
 |vp cs=>exact pO t hφ (by simpa[d6] using hr) hk
 |clo f cs=>exact pO t hφ (by simpa[d6] using hr) hk
theorem Jx{γ γ':Gm}{w w':World}{S S':Nat→Prop}{φ:Id→Path→Prop}(t:ResTo γ γ' w w' S S' φ):∀{xs:List X} {vs:List Value} {is:List GId},aR φ xs→eZ γ w S xs vs is→(∀i∈is,γ' i=γ i)→eZ γ' w' S' xs vs is
 |[],[],is,_,hr,_=>hr
 |x::xs,v::vs,is,hφ,hr,hk=>by
  simp only[eZ,aR] at hr hφ ⊢
  obtain⟨i1,i2,rfl,h1,h2⟩:=hr
  exact⟨i1,i2,rfl,fV t hφ.1 h1 (fun i hi=>hk i (by simp[hi])),Jx t hφ.2 h2 (fun i hi=>hk i (by simp[hi]))⟩
 |[],_::_,_,_,h,_=>by simp[eZ] at h
 |_::_,[],_,_,h,_=>by simp[eZ] at h
structure TookF (h h':Heap) (γ γ':Gm) (S:Nat→Prop) (w:World) (is:List GId):Prop where
 mm:Mm h' γ' S w
 some:∀i∈is,(∃n,i= .inr n)∧(γ' i).isSome=true
 nd:is.Nodup
 new:∀j,Flo h j→(γ j).isSome=true→j∉is∧γ' j=γ j
 mono:∀id,h id=none→h' id=none
 same:∀id p,Same γ γ' id p
 sub:Sub γ' γ
theorem zqQ{h:Heap}{i:GId}(hi:∃n,i= .inr n):Flo h i:=fun id e=>by obtain⟨n,rfl⟩:=hi;simp at e
theorem TookF.refl{h:Heap}{γ:Gm}{S:Nat→Prop}{w:World}(m:Mm h γ S w):TookF h h γ γ S w [] :=
 ⟨m,by simp,by simp,fun j _ _=>⟨by simp,rfl⟩,fun _ h=>h,fun id p=>Same.refl γ id p,Sub.refl γ⟩
theorem TookF.of{h h':Heap}{γ γ':Gm}{S:Nat→Prop}{w:World}{i:GId}{g:G}(t:Took h h' γ γ' S w i g):TookF h h' γ γ' S w [i] :=
 ⟨t.mm,fun j hj=>by rw[List.mem_singleton] at hj;subst hj;exact⟨t.isr,by rw[t.at_];rfl⟩,by simp,fun j hj hs=>⟨by simp[(t.new j hj hs).1],(t.new j hj hs).2⟩,t.mono,t.same,t.sub⟩
theorem TookF.trans{h h1 h2:Heap}{γ γ1 γ2:Gm}{S:Nat→Prop}{w:World}{i1 i2:List GId}(t1:TookF h h1 γ γ1 S w i1)(t2:TookF h1 h2 γ1 γ2 S w i2):TookF h h2 γ γ2 S w (i1++i2)∧∀i∈i1,γ2 i=γ1 i:=by
 have key:∀i∈i1,i∉i2∧γ2 i=γ1 i:=fun i hi=>t2.new i (zqQ (t1.some i hi).1) (t1.some i hi).2
 refine⟨⟨t2.mm,fun i hi=> ?_,List.nodup_append.2 ⟨t1.nd,t2.nd,fun a ha b hb e=> ?_⟩,fun j hj hs=> ?_,fun id hid=>t2.mono id (t1.mono id hid),fun id p=>(t1.same id p).trans (t2.same id p),t2.sub.trans t1.sub⟩,fun i hi=>(key i hi).2⟩
 ·rcases List.mem_append.1 hi with hi|hi
  ·exact⟨(t1.some i hi).1,by rw[(key i hi).2];exact(t1.some i hi).2⟩
  ·exact t2.some i hi
 ·subst e
  exact(key a ha).1 hb
 ·obtain⟨a1,a2⟩:=t1.new j hj hs
  obtain⟨a3,a4⟩:=t2.new j (fun id e=>t1.mono id (hj id e)) (by rw[a2];exact hs)
  exact⟨by simp[a1,a3],a4.trans a2⟩
theorem TookF.to{h1 h2:Heap}{γ1 γ2:Gm}{S:Nat→Prop}{w:World}{i2:List GId}(t2:TookF h1 h2 γ1 γ2 S w i2):ResTo γ1 γ2 w w S S (fun _ _=>True) :=
 ⟨fun id p _=>t2.same id p,fun k hk=>⟨hk,rfl⟩⟩
theorem zqN(x:X):x.allp (fun _ _=>True):=cS (fun _ _=>trivial) x
section
variable{S:Nat→Prop}{w:World}{fr:Nat}{A:Id→Prop}
theorem Ca{h h':Heap}{γ:Gm}(m:Mm h γ S w){x y:X}{v:Value}(hx:x.vr γ w S v)(hi:x.allp (fun id _=>(id.1<fr∧A id)∨id.1=fr))(hf:lV fr h x=some (y,h')) :
  ∃γ' is,TookF h h' γ γ' S w is∧Jm γ' w S y v is∧y.allp (fun id _=>id.1<fr∧A id):=by
 unfold lV at hf
 split at hf
 ·rename_i id q j i
  split at hf
  ·simp at hf
  ·rename_i hne
   simp only[oi,zqb] at hf
   obtain⟨rfl,rfl⟩:=hf
   simp only[X.allp] at hi
   exact⟨γ,[],TookF.refl m,.inl ⟨rfl,rfl,hx⟩,by simp only[X.allp];exact hi.resolve_right hne⟩
 ·rename_i id p
  split at hf
  ·simp only[aC] at hf
   obtain⟨⟨d,h1⟩,h2,h3⟩:=hf
   simp only[zqb] at h3
   obtain⟨rfl,rfl⟩:=h3
   simp only[X.vr] at hx
   obtain⟨γ',i,g,t,e1,e2,sz,b,els,rfl⟩:=Fy m h2 (fun g hg=>(hx.2 g hg).1)
   subst e1
   exact⟨γ',[i],TookF.of t,.inr ⟨sz,cD els,i,_,by simp[G.er],rfl,t.at_,t.isr,by simp[G.er],e2⟩,by simp only[X.allp]⟩
  ·rename_i hne
   simp only[oi,zqb] at hf
   obtain⟨rfl,rfl⟩:=hf
   simp only[X.allp] at hi
   exact⟨γ,[],TookF.refl m,.inl ⟨rfl,rfl,hx⟩,by simp only[X.allp];exact hi.resolve_right hne⟩
 ·simp only[oi,zqb] at hf
  obtain⟨rfl,rfl⟩:=hf
  exact⟨γ,[],TookF.refl m,.inl ⟨rfl,rfl,hx⟩,by simp only[X.allp]⟩
 ·simp only[oi,zqb] at hf
  obtain⟨rfl,rfl⟩:=hf
  exact⟨γ,[],TookF.refl m,.inl ⟨rfl,rfl,hx⟩,by simp only[X.allp]⟩
 ·rename_i sz
  simp only[oi,zqb] at hf
  obtain⟨rfl,rfl⟩:=hf
  simp only[X.vr] at hx
  obtain⟨γ',i,t⟩:=nG m (g:= .s sz none []) (by simp[G.ok,gK]) (by simp[G.bl,bX])
  exact⟨γ',[i],TookF.of t,.inr ⟨sz,[],i,_,rfl,rfl,t.at_,t.isr,by simp[G.er,cD],by simp[G.val,hx]⟩,by simp only[X.allp]⟩
 ·simp only[oi,zqb] at hf
  obtain⟨rfl,rfl⟩:=hf
  exact⟨γ,[],TookF.refl m,.inl ⟨rfl,rfl,hx⟩,by simp only[X.allp]⟩
 ·simp at hf
theorem zkb:∀{xs ys:List X} {vs:List Value} {h h':Heap} {γ:Gm},Mm h γ S w→vrs γ w S xs vs→aR (fun id _=>(id.1<fr∧A id)∨id.1=fr) xs→Oc fr h xs=some (ys,h') →
  ∃γ' is,TookF h h' γ γ' S w is∧fZ γ' w S ys vs is∧aR (fun id _=>id.1<fr∧A id) ys
 |[],ys,[],h,h',γ,m,_,_,hf=>by
  simp only[Oc,oi,zqb] at hf
  obtain⟨rfl,rfl⟩:=hf
  exact⟨γ,[],TookF.refl m,by simp[fZ],by simp[aR]⟩
 |x::xs,ys,v::vs,h,h',γ,m,hv,hi,hf=>by
  simp only[Oc,aA,aC] at hf
  obtain⟨⟨y,h1⟩,h2,⟨zs,h3⟩,h4,h5⟩:=hf
  simp only[zqb] at h5
  obtain⟨rfl,rfl⟩:=h5
  simp only[vrs,aR] at hv hi
  obtain⟨γ1,i1,t1,r1,a1⟩:=Ca m hv.1 hi.1 h2
  obtain⟨γ2,i2,t2,r2,a2⟩:=zkb t1.mm (gJ (fun k hk=>⟨hk,rfl⟩) xs vs (fY t1.same xs) hv.2) hi.2 h4
  obtain⟨t3,hk⟩:=t1.trans t2
  exact⟨γ2,i1++i2,t3,by simp only[fZ];exact⟨i1,i2,rfl,pO t2.to (zqN y) r1 hk,r2⟩,by simp only[aR];exact⟨a1,a2⟩⟩
 |[],_,_::_,_,_,_,_,h,_,_=>by simp[vrs] at h
 |_::_,_,[],_,_,_,_,h,_,_=>by simp[vrs] at h
theorem zXo{h h':Heap}{γ:Gm}(m:Mm h γ S w){x y:X}{v:Value}(hx:x.vr γ w S v)(hi:x.allp (fun id _=>(id.1<fr∧A id)∨id.1=fr))(hf:oQ fr h x=some (y,h')) :
  ∃γ' is,TookF h h' γ γ' S w is∧d6 γ' w S y v is∧y.allp (fun id _=>id.1<fr∧A id):=by
 cases x with
 |agg cs =>
  simp only[oQ,aC] at hf
  obtain⟨⟨ys,h1⟩,h2,h3⟩:=hf
  simp only[zqb] at h3
  obtain⟨rfl,rfl⟩:=h3
  simp only[X.vr,X.allp] at hx hi
  obtain⟨vs,rfl,h4,h5⟩:=hx
  obtain⟨γ',is,t,r,a⟩:=zkb m h4 hi h2
  exact⟨γ',is,t,by simp only[d6];exact⟨vs,rfl,r,h5⟩,by simp only[X.allp];exact a⟩
 |d x =>
  obtain⟨γ',is,t,r,a⟩:=Ca m hx hi (by simpa[oQ] using hf)
  refine⟨γ',is,t,?_,a⟩
  cases y<;>first|exact r|(rcases r with⟨_,_,r⟩|⟨_,_,_,_,e,_⟩<;>first|(cases e;done)|skip)
  ·simp only[oQ,lV] at hf
   split at hf<;>simp_all
 |tup cs=>simp[oQ,lV] at hf
 |ref id p =>
  obtain⟨γ',is,t,r,a⟩:=Ca m hx hi (by simpa[oQ] using hf)
  refine⟨γ',is,t,?_,a⟩
  cases y<;>first|exact r|(simp only[oQ,lV] at hf;split at hf<;>simp_all[aC])
 |ptr id q j i =>
  obtain⟨γ',is,t,r,a⟩:=Ca m hx hi (by simpa[oQ] using hf)
  refine⟨γ',is,t,?_,a⟩
  cases y<;>first|exact r|(simp only[oQ,lV] at hf;split at hf<;>simp_all)
 |rop cs =>
  obtain⟨γ',is,t,r,a⟩:=Ca m hx hi (by simpa[oQ] using hf)
  refine⟨γ',is,t,?_,a⟩
  cases y<;>first|exact r|(simp[oQ,lV] at hf)
 |vp cs=>simp[oQ,lV] at hf
 |clo f cs=>simp[oQ,lV] at hf
theorem J1:∀{xs ys:List X} {vs:List Value} {h h':Heap} {γ:Gm},Mm h γ S w→vrs γ w S xs vs→aR (fun id _=>(id.1<fr∧A id)∨id.1=fr) xs→oY fr h xs=some (ys,h') →
  ∃γ' is,TookF h h' γ γ' S w is∧eZ γ' w S ys vs is∧aR (fun id _=>id.1<fr∧A id) ys
 |[],ys,[],h,h',γ,m,_,_,hf=>by
  simp only[oY,oi,zqb] at hf
  obtain⟨rfl,rfl⟩:=hf
  exact⟨γ,[],TookF.refl m,by simp[eZ],by simp[aR]⟩
 |x::xs,ys,v::vs,h,h',γ,m,hv,hi,hf=>by
  simp only[oY,aA,aC] at hf
  obtain⟨⟨y,h1⟩,h2,⟨zs,h3⟩,h4,h5⟩:=hf
  simp only[zqb] at h5
  obtain⟨rfl,rfl⟩:=h5
  simp only[vrs,aR] at hv hi
  obtain⟨γ1,i1,t1,r1,a1⟩:=zXo m hv.1 hi.1 h2
  obtain⟨γ2,i2,t2,r2,a2⟩:=J1 t1.mm (gJ (fun k hk=>⟨hk,rfl⟩) xs vs (fY t1.same xs) hv.2) hi.2 h4
  obtain⟨t3,hk⟩:=t1.trans t2
  exact⟨γ2,i1++i2,t3,by simp only[eZ];exact⟨i1,i2,rfl,fV t2.to (zqN y) r1 hk,r2⟩,by simp only[aR];exact⟨a1,a2⟩⟩
 |[],_,_::_,_,_,_,_,h,_,_=>by simp[vrs] at h
 |_::_,_,[],_,_,_,_,h,_,_=>by simp[vrs] at h
end
section
variable{γ:Gm}{S S':Nat→Prop}{w:World}{h:Heap}
theorem zJC:∀(ds:List D) (a:Addr) (off:Nat),rds w S a off ds→rds w S a off (ds.map D.du)
 |[],a,off,_=>by simp[rds]
 |d::ds,a,off,h=>by
  simp only[rds,mc] at h ⊢
  obtain⟨⟨u,h1,h2,h3⟩,h4⟩:=h
  refine⟨⟨u,h1,h2,?_⟩,zJC ds a _ h4⟩
  cases d with
  |v x=>exact h3
  |_=>simp only[D.du,D.rd];exact Gu h3
theorem zko:∀(els:List (List D)) (A:Option Addr) (off:Nat),dZ w S A off els→dZ w S A off (els.map fun el=>el.map D.du)
 |[],A,off,_=>by simp[dZ]
 |el::els,A,off,h=>by
  simp only[dZ,mc] at h ⊢
  obtain⟨⟨a,h1,h2⟩,h3⟩:=h
  exact⟨⟨a,h1,zJC el a off h2⟩,by rw[lm];exact zko els A _ h3⟩
theorem z6e{x:X}{v:Value}(h:x.vr γ w S v):x.du.vr γ w S v:=by
 unfold X.du
 split
 ·simp only[X.vr,D.rd] at h ⊢
  obtain⟨A,c,h1,h2,h3,⟨sz,h4⟩,h5⟩:=h
  refine⟨A,c,by rw[lm];exact h1,by rw[lm];exact h2,h3,⟨sz,fun el hel=> ?_⟩,zko _ A _ h5⟩
  obtain⟨e,he,rfl⟩:=List.mem_map.1 hel
  rw[lm];exact h4 e he
 ·exact h
theorem zYh{x:X}{φ:Id→Path→Prop}(h:x.allp φ):x.du.allp φ:=by
 unfold X.du
 split
 ·simp only[X.allp]
 ·exact h
theorem zZX:∀{xs:List X} {vs:List Value},vrs γ w S xs vs→vrs γ w S (xs.map X.du) vs
 |[],[],h=>h
 |x::xs,v::vs,h=>by
  simp only[vrs,mc] at h ⊢
  exact⟨z6e h.1,zZX h.2⟩
 |[],_::_,h=>by simp[vrs] at h
 |_::_,[],h=>by simp[vrs] at h
theorem Vb{φ:Id→Path→Prop}:∀{xs:List X},aR φ xs→aR φ (xs.map X.du)
 |[],h=>h
 |x::xs,h=>by
  simp only[aR,mc] at h ⊢
  exact⟨zYh h.1,Vb h.2⟩
end
open Go.RowKit
structure CallPost (A:Id→Prop) (γ:Gm) (S:Nat→Prop) (w:World) (h:Heap) (fr:Nat) (r:X) (h':Heap) (v:Value) (w':World) (γ':Gm) (S':Nat→Prop) (is:List GId):Prop where
 mm:Mm h' γ' S' w'
 res:cV γ' w' S' r v is
 nd:is.Nodup
 ids:r.allp (fun id _=>id.1<fr∧A id)
 os:w'.os=w.os
 tape:w'.tape=w.tape
 output:w'.output=w.output
 size:w.heap.size≤w'.heap.size
 keep:∀k,k<w.heap.size→¬Bl γ k→w'.heap[k]? = w.heap[k]?
 own:∀k,Bl γ' k→Bl γ k∨w.heap.size≤k
 hd:∀id:Id,id.1<fr→Same γ γ' id []
 s0:∀k,S k→S' k
 sg:∀k,S' k→S k∨w.heap.size≤k
 dom:∀id:Id,id.1<fr→h id=none→h' id=none
 low:∀id d,h' id=some d→id.1<fr
def iD(P:Program)(f:Nat):Prop:=∃fn,P.funcs[f]? = some fn∧¬fn.name= "runtime.NumGoroutine" ∧ ¬fn.body=none
def CallOk(P:Program)(C:Cl):Prop:=∀f args h fr r h',C f args h fr=some (r,h')→iD P f∧∀A γ S w vs,Mm h γ S w→vrs γ w S args vs→aR (fun id _=>id.1<fr∧A id) args→(∀id d,h id=some d→id.1<fr∧A id) →
 Calls P f vs.toArray w fun e w'=>∃v γ' S' is,e= .returned v∧CallPost A γ S w h fr r h' v w' γ' S' is
section
variable{c:Ctx}{st st':St}{U:Nat→Prop}{γ:Gm}{S:Nat→Prop}{a:Act}{w:World}{C:Cl}{o:Oper}{id:Nat}
theorem Mm.place{h:Heap}(m:Mm h γ S w){i:GId}{g:G}(hi:γ i=some g)(hr:∃n,i= .inr n)(id:Id):Mm (upd h id (some g.er)) (upd (rem γ [i]) (.inl id) (some g)) S w :=
 m.regroup (S':=S) (w':=w) [i] (by simpa using zqQ hr) (m.ok _ _ hi) (m.nd _ _ hi) (fun k hk=> .inl ⟨i,by simp,g,hi,hk⟩) (fun _ _ _ _ _ _=>rfl) (fun k hk=>⟨hk,rfl⟩) (fun k hk=>⟨(m.sd k hk).1,(m.sd k hk).2 _ _ hi,fun i g hi _=>(m.sd k hk).2 i g hi⟩) id
structure Imp (c:Ctx) (st:St) (γ γ':Gm) (S:Nat→Prop) (a:Act) (w:World) (U':Nat→Prop) (h':Heap) (is:List GId) (n m:Nat):Prop where
 rep:Rep c (st.with h') U' γ' S a w
 keep:∀j,(∃q,j= .inr q)→j∉is→γ' j=γ j
 same:∀(id:Id) p,(id.1=st.fr→¬(n≤id.2∧id.2<n+m))→Same γ γ' id p
abbrev UB(U:Nat→Prop)(n m:Nat):Nat→Prop:=fun k=>U k∨(n≤k∧k<n+m)
theorem Imp.refl(R:Rep c st U γ S a w){n m:Nat}:Imp c st γ γ S a w (UB U n m) st.heap [] n m :=
 ⟨R.mono (fun k h=> .inl h),fun _ _ _=>rfl,fun id p _=>Same.refl γ id p⟩
theorem pP(R:Rep c st U γ S a w){x:X}{v:Value}{is:List GId}(hr:Jm γ w S x v is)(hi:x.allp (fun id _=>fO c.A st.fr U id)){n:Nat}(hn:¬U n) :
  ∃γ',Imp c st γ γ' S a w (UB U n 1) (jT st.heap (st.fr,n) x).2 is n 1∧(jT st.heap (st.fr,n) x).1.vr γ' w S v∧(jT st.heap (st.fr,n) x).1.allp (fun id _=>fO c.A st.fr (UB U n 1) id):=by
 rcases hr with⟨h1,rfl,h2⟩|⟨sz,els,i,g,rfl,rfl,h3,h4,h5,h6⟩
 ·have hx:jT st.heap (st.fr,n) x=(x,st.heap):=by
   unfold jT
   split
   ·simp[X.own] at h1
   ·rfl
  rw[hx]
  exact⟨γ,⟨R.mono (fun k h=> .inl h),fun _ _ _=>rfl,fun id p _=>Same.refl γ id p⟩,h2,bS (fun id _ h=>h.imp (fun h=>h) (fun h=>⟨h.1,.inl h.2⟩)) x hi⟩
 ·simp only[jT]
  have hM:=R.mm.place h3 h4 (st.fr,n)
  rw[h5] at hM
  have hR:=R.change (U':=UB U n 1) hM rfl rfl rfl (Nat.le_refl _) (fun _ _ _=>rfl) (fun k ⟨j,g',g1,g2⟩=> ?_) (fun t x hx=>bS (fun id p h=>Same.regroup id p h) x (G3 R hn t x hx)) (fun id hid=> ?_) (fun k h=>h) (fun k h=> .inl h) (fun id d hd=> ?_) (fun k h=> .inl h) (fun id hid h0=> ?_)
  ·refine⟨_,⟨hR,fun j hj hji=> ?_,fun id p hid=> ?_⟩,?_,?_⟩
   ·obtain⟨q,rfl⟩:=hj
    have:rem γ [i] (.inr q)=γ (.inr q):=by
     unfold rem
     rw[if_neg hji]
    simp[upd,this]
   ·refine Same.regroup id p fun e=> ?_
    subst e
    exact hid rfl ⟨Nat.le_refl _,by omega⟩
   ·simp only[X.vr]
    refine⟨by rw[←h6];exact mZ (R.mm.ok _ _ h3),fun g' hg'=> ?_⟩
    simp only[Gm.nav,upd,if_true,obs,G.nav,oi] at hg'
    subst hg'
    refine⟨h6,?_⟩
    cases g with
    |s sz b els=>rfl
    |l d v =>
     have:=R.mm.ok _ _ h3
     simp only[G.ok] at this
     simp only[G.er] at h5
     subst h5
     simp[D.leaf] at this
   ·simp only[X.allp]
    exact .inr ⟨rfl,.inr ⟨Nat.le_refl _,by omega⟩⟩
  ·unfold upd at g1
   split at g1
   ·simp only[oi] at g1
    subst g1
    exact .inl ⟨i,g,h3,g2⟩
   ·rw[cA] at g1
    exact .inl ⟨j,g',g1.2,g2⟩
  ·have:id≠(st.fr,n):=fun e=>by rw[e] at hid;simp at hid
   exact Same.regroup id [] this
  ·unfold upd at hd
   split at hd
   ·rename_i e
    subst e
    exact .inr ⟨rfl,.inr ⟨Nat.le_refl _,by omega⟩⟩
   ·exact(R.hid id d hd).imp (fun h=>h) (fun h=>⟨h.1,.inl h.2⟩)
  ·have hne:id≠(st.fr,n):=fun e=>by rw[e] at hid;simp at hid
   simp only[upd,hne,if_false]
   exact h0
theorem Imp.trans{γ1 γ2:Gm}{U1 U2:Nat→Prop}{h1 h2:Heap}{i1 i2:List GId}{n m m':Nat}(p1:Imp c st γ γ1 S a w U1 h1 i1 n m)(p2:Imp c (st.with h1) γ1 γ2 S a w U2 h2 i2 (n+m) m')(hU:∀k,U2 k→UB U n (m+m') k):Imp c st γ γ2 S a w (UB U n (m+m')) h2 (i1++i2) n (m+m') :=
 ⟨p2.rep.mono hU,fun j hj hji=>(p2.keep j hj (fun h=>hji (by simp[h]))).trans (p1.keep j hj (fun h=>hji (by simp[h]))),fun id p hid=>(p1.same id p (fun e h=>hid e ⟨h.1,by omega⟩)).trans (p2.same id p (fun e h=>hid e ⟨by omega,by omega⟩))⟩
theorem zqV:∀{xs:List X} {st:St} {U:Nat→Prop} {γ:Gm} {vs:List Value} {is:List GId} {n:Nat},Rep c st U γ S a w→fZ γ w S xs vs is→is.Nodup→aR (fun id _=>fO c.A st.fr U id) xs→(∀k,n≤k→k<n+xs.length→¬U k) →
  ∃γ',Imp c st γ γ' S a w (UB U n xs.length) (vR st.heap (st.fr,n) xs).2 is n xs.length∧vrs γ' w S (vR st.heap (st.fr,n) xs).1 vs∧aR (fun id _=>fO c.A st.fr (UB U n xs.length) id) (vR st.heap (st.fr,n) xs).1
 |[],st,U,γ,vs,is,n,R,hr,hnd,hi,hn=>by
  cases vs with
  |nil =>
   simp only[fZ] at hr
   subst hr
   exact⟨γ,Imp.refl R,by simp[vR,vrs],by simp[vR,aR]⟩
  |cons v vs=>simp[fZ] at hr
 |x::xs,st,U,γ,vs,is,n,R,hr,hnd,hi,hn=>by
  cases vs with
  |nil=>simp[fZ] at hr
  |cons v vs =>
   simp only[fZ] at hr
   obtain⟨i1,i2,rfl,r1,r2⟩:=hr
   simp only[aR] at hi
   obtain⟨hnd1,hnd2,hdis⟩:=List.nodup_append.1 hnd
   obtain⟨γ1,p1,v1,a1⟩:=pP R r1 hi.1 (n:=n) (hn n (Nat.le_refl _) (by simp))
   have hinr:∀j∈i2,∃q,j=(Sum.inr q:GId):=by
    have:∀{xs:List X} {vs:List Value} {is:List GId},fZ γ w S xs vs is→∀j∈is,∃q,j= .inr q:=by
     intro xs
     induction xs with
     |nil=>intro vs is h j hj;cases vs<;>simp[fZ] at h;subst h;simp at hj
     |cons x xs ih =>
      intro vs is h j hj
      cases vs with
      |nil=>simp[fZ] at h
      |cons v vs =>
       simp only[fZ] at h
       obtain⟨i1,i2,rfl,r1,r2⟩:=h
       rcases List.mem_append.1 hj with hj|hj
       ·rcases r1 with⟨_,rfl,_⟩|⟨_,_,i,_,_,rfl,_,hq,_⟩
        ·simp at hj
        ·rw[List.mem_singleton] at hj;subst hj;exact hq
       ·exact ih r2 j hj
    exact this r2
   have hfresh:∀k,n+1≤k→k<n+1+xs.length→¬UB U n 1 k:=fun k h1 h2 h3=>by
    rcases h3 with h3|h3
    ·exact hn k (by omega) (by simp;omega) h3
    ·omega
   have r2':fZ γ1 w S xs vs i2:=Sq (φ:=fun id _=>fO c.A st.fr U id) ⟨fun id p hid=>p1.same id p (fun e h=>by
     rcases hid with hid|hid
     ·omega
     ·exact hn id.2 (by omega) (by simp;omega) hid.2),fun k hk=>⟨hk,rfl⟩⟩ hi.2 r2 (fun j hj=>p1.keep j (hinr j hj) (fun h=>hdis j h j hj rfl))
   obtain⟨γ2,p2,v2,a2⟩:=zqV (st:=st.with (jT st.heap (st.fr,n) x).2) (n:=n+1) p1.rep r2' hnd2 (fM (fun id _ h=>h.imp (fun h=>h) (fun h=>⟨h.1,.inl h.2⟩)) xs hi.2) hfresh
   have p3:=p1.trans (U:=U) p2 (fun k h=>by
    rcases h with (h|h)|h
    ·exact .inl h
    ·exact .inr (by omega)
    ·exact .inr (by omega))
   simp only[lc]
   rw[Nat.add_comm xs.length 1]
   refine⟨γ2,p3,?_,?_⟩
   ·simp only[vR,vrs]
    refine⟨fW (fun k hk=>⟨hk,rfl⟩) _ _ (bS (fun id p hid=>p2.same id p (fun e h=> ?_)) _ a1) v1,v2⟩
    rcases hid with hid|hid
    ·have:(st.with (jT st.heap (st.fr,n) x).2).fr=st.fr:=rfl
     omega
    ·exact hfresh id.2 h.1 h.2 hid.2
   ·simp only[vR,aR]
    refine⟨bS (fun id _ h=>h.imp (fun h=>h) (fun h=>⟨h.1,h.2.imp (fun h=>h) (fun h=>by omega)⟩)) _ a1,fM (fun id _ h=>h.imp (fun h=>h) (fun h=>⟨h.1,?_⟩)) _ a2⟩
    rcases h.2 with (h|h)|h
    ·exact .inl h
    ·exact .inr (by omega)
    ·exact .inr (by omega)
theorem sB(R:Rep c st U γ S a w){x:X}{v:Value}{is:List GId}(hr:d6 γ w S x v is)(hnd:is.Nodup)(hi:x.allp (fun id _=>fO c.A st.fr U id)){n:Nat}(hn:∀k,n≤k→k<n+x.cells.length→¬U k) :
  ∃γ',Imp c st γ γ' S a w (UB U n x.cells.length) (mG st.heap (st.fr,n) x).2 is n x.cells.length∧(mG st.heap (st.fr,n) x).1.vr γ' w S v∧(mG st.heap (st.fr,n) x).1.allp (fun id _=>fO c.A st.fr (UB U n x.cells.length) id):=by
 cases x with
 |agg cs =>
  simp only[d6,X.allp,X.cells] at hr hi hn ⊢
  obtain⟨vs,rfl,h1,h2⟩:=hr
  obtain⟨γ',p,v1,a1⟩:=zqV R h1 hnd hi hn
  exact⟨γ',p,by simp only[mG,X.vr];exact⟨vs,rfl,v1,h2⟩,by simp only[mG,X.allp];exact a1⟩
 |d x=>exact pP R (by simpa only[d6] using hr) hi (hn n (Nat.le_refl _) (by simp[X.cells]))
 |tup cs=>exact pP R (by simpa only[d6] using hr) hi (hn n (Nat.le_refl _) (by simp[X.cells]))
 |ref id p=>exact pP R (by simpa only[d6] using hr) hi (hn n (Nat.le_refl _) (by simp[X.cells]))
 |ptr id q j i=>exact pP R (by simpa only[d6] using hr) hi (hn n (Nat.le_refl _) (by simp[X.cells]))
 |rop cs=>exact pP R (by simpa only[d6] using hr) hi (hn n (Nat.le_refl _) (by simp[X.cells]))
 |vp cs=>exact pP R (by simpa only[d6] using hr) hi (hn n (Nat.le_refl _) (by simp[X.cells]))
 |clo f cs=>exact pP R (by simpa only[d6] using hr) hi (hn n (Nat.le_refl _) (by simp[X.cells]))
theorem Xr{γ:Gm}{w:World}{S:Nat→Prop}:∀{xs:List X} {vs:List Value} {is:List GId},fZ γ w S xs vs is→∀j∈is,∃q,j= .inr q
 |[],[],is,h,j,hj=>by simp only[fZ] at h;subst h;simp at hj
 |x::xs,v::vs,is,h,j,hj=>by
  simp only[fZ] at h
  obtain⟨i1,i2,rfl,r1,r2⟩:=h
  rcases List.mem_append.1 hj with hj|hj
  ·rcases r1 with⟨_,rfl,_⟩|⟨_,_,i,_,_,rfl,_,hq,_⟩
   ·simp at hj
   ·rw[List.mem_singleton] at hj;subst hj;exact hq
  ·exact Xr r2 j hj
 |[],_::_,_,h,_,_=>by simp[fZ] at h
 |_::_,[],_,h,_,_=>by simp[fZ] at h
theorem rC{γ:Gm}{w:World}{S:Nat→Prop}{x:X}{v:Value}{is:List GId}(h:Jm γ w S x v is):∀j∈is,∃q,j= .inr q:=fun j hj=>by
 rcases h with⟨_,rfl,_⟩|⟨_,_,i,_,_,rfl,_,hq,_⟩
 ·simp at hj
 ·rw[List.mem_singleton] at hj;subst hj;exact hq
theorem oE{γ:Gm}{w:World}{S:Nat→Prop}{x:X}{v:Value}{is:List GId}(h:d6 γ w S x v is):∀j∈is,∃q,j= .inr q:=by
 cases x with
 |agg cs=>simp only[d6] at h;obtain⟨vs,_,h,_⟩:=h;exact Xr h
 |d x=>exact rC (by simpa only[d6] using h)
 |tup cs=>exact rC (by simpa only[d6] using h)
 |ref id p=>exact rC (by simpa only[d6] using h)
 |ptr id q j i=>exact rC (by simpa only[d6] using h)
 |rop cs=>exact rC (by simpa only[d6] using h)
 |vp cs=>exact rC (by simpa only[d6] using h)
 |clo f cs=>exact rC (by simpa only[d6] using h)
theorem Kp{γ:Gm}{w:World}{S:Nat→Prop}:∀{xs:List X} {vs:List Value} {is:List GId},eZ γ w S xs vs is→∀j∈is,∃q,j= .inr q
 |[],[],is,h,j,hj=>by simp only[eZ] at h;subst h;simp at hj
 |x::xs,v::vs,is,h,j,hj=>by
  simp only[eZ] at h
  obtain⟨i1,i2,rfl,r1,r2⟩:=h
  rcases List.mem_append.1 hj with hj|hj
  ·exact oE r1 j hj
  ·exact Kp r2 j hj
 |[],_::_,_,h,_,_=>by simp[eZ] at h
 |_::_,[],_,h,_,_=>by simp[eZ] at h
theorem uQ{γ:Gm}{w:World}{S:Nat→Prop}{x:X}{v:Value}{is:List GId}(h:cV γ w S x v is):∀j∈is,∃q,j= .inr q:=by
 cases x with
 |tup cs=>simp only[cV] at h;obtain⟨vs,_,h⟩:=h;exact Kp h
 |agg cs=>exact oE (by simpa only[cV] using h)
 |d x=>exact oE (by simpa only[cV] using h)
 |ref id p=>exact oE (by simpa only[cV] using h)
 |ptr id q j i=>exact oE (by simpa only[cV] using h)
 |rop cs=>exact oE (by simpa only[cV] using h)
 |vp cs=>exact oE (by simpa only[cV] using h)
 |clo f cs=>exact oE (by simpa only[cV] using h)
def ncT:List X→Nat
 |[]=>0
 |x::xs=>x.cells.length+ncT xs
theorem z92(cs:List X):(cs.map fun x=>x.cells.length).sum=ncT cs:=by
 induction cs with
 |nil=>rfl
 |cons x xs ih=>simp[ncT,ih]
theorem zqR:∀{xs:List X} {st:St} {U:Nat→Prop} {γ:Gm} {vs:List Value} {is:List GId} {n:Nat},Rep c st U γ S a w→eZ γ w S xs vs is→is.Nodup→aR (fun id _=>fO c.A st.fr U id) xs→(∀k,n≤k→k<n+ncT xs→¬U k) →
  ∃γ',Imp c st γ γ' S a w (UB U n (ncT xs)) (vC st.heap (st.fr,n) xs).2 is n (ncT xs)∧vrs γ' w S (vC st.heap (st.fr,n) xs).1 vs∧aR (fun id _=>fO c.A st.fr (UB U n (ncT xs)) id) (vC st.heap (st.fr,n) xs).1
 |[],st,U,γ,vs,is,n,R,hr,hnd,hi,hn=>by
  cases vs with
  |nil =>
   simp only[eZ] at hr
   subst hr
   exact⟨γ,Imp.refl R,by simp[vC,vrs],by simp[vC,aR]⟩
  |cons v vs=>simp[eZ] at hr
 |x::xs,st,U,γ,vs,is,n,R,hr,hnd,hi,hn=>by
  cases vs with
  |nil=>simp[eZ] at hr
  |cons v vs =>
   simp only[eZ] at hr
   obtain⟨i1,i2,rfl,r1,r2⟩:=hr
   simp only[aR] at hi
   simp only[ncT] at hn ⊢
   obtain⟨hnd1,hnd2,hdis⟩:=List.nodup_append.1 hnd
   obtain⟨γ1,p1,v1,a1⟩:=sB R r1 hnd1 hi.1 (n:=n) (fun k h1 h2=>hn k h1 (by omega))
   have hinr:∀j∈i2,∃q,j=(Sum.inr q:GId):=Kp r2
   have hfresh:∀k,n+x.cells.length≤k→k<n+x.cells.length+ncT xs→¬UB U n x.cells.length k:=fun k h1 h2 h3=>by
    rcases h3 with h3|h3
    ·exact hn k (by omega) (by omega) h3
    ·omega
   have r2':eZ γ1 w S xs vs i2:=Jx (φ:=fun id _=>fO c.A st.fr U id) ⟨fun id p hid=>p1.same id p (fun e h=>by
     rcases hid with hid|hid
     ·omega
     ·exact hn id.2 (by omega) (by omega) hid.2),fun k hk=>⟨hk,rfl⟩⟩ hi.2 r2 (fun j hj=>p1.keep j (hinr j hj) (fun h=>hdis j h j hj rfl))
   obtain⟨γ2,p2,v2,a2⟩:=zqR (st:=st.with (mG st.heap (st.fr,n) x).2) (n:=n+x.cells.length) p1.rep r2' hnd2 (fM (fun id _ h=>h.imp (fun h=>h) (fun h=>⟨h.1,.inl h.2⟩)) xs hi.2) hfresh
   have p3:=p1.trans (U:=U) p2 (fun k h=>by
    rcases h with (h|h)|h
    ·exact .inl h
    ·exact .inr (by omega)
    ·exact .inr (by omega))
   refine⟨γ2,p3,?_,?_⟩
   ·simp only[vC,vrs]
    refine⟨fW (fun k hk=>⟨hk,rfl⟩) _ _ (bS (fun id p hid=>p2.same id p (fun e h=> ?_)) _ a1) v1,v2⟩
    rcases hid with hid|hid
    ·have:(st.with (mG st.heap (st.fr,n) x).2).fr=st.fr:=rfl
     omega
    ·exact hfresh id.2 h.1 h.2 hid.2
   ·simp only[vC,aR]
    refine⟨bS (fun id _ h=>h.imp (fun h=>h) (fun h=>⟨h.1,h.2.imp (fun h=>h) (fun h=>by omega)⟩)) _ a1,fM (fun id _ h=>h.imp (fun h=>h) (fun h=>⟨h.1,?_⟩)) _ a2⟩
    rcases h.2 with (h|h)|h
    ·exact .inl h
    ·exact .inr (by omega)
    ·exact .inr (by omega)
theorem zWb(R:Rep c st U γ S a w){x:X}{v:Value}{is:List GId}(hr:cV γ w S x v is)(hnd:is.Nodup)(hi:x.allp (fun id _=>fO c.A st.fr U id)){n:Nat}(hn:∀k,n≤k→k<n+x.ncells→¬U k) :
  ∃γ',Imp c st γ γ' S a w (UB U n x.ncells) (vF st.heap (st.fr,n) x).2 is n x.ncells∧(vF st.heap (st.fr,n) x).1.vr γ' w S v∧(vF st.heap (st.fr,n) x).1.allp (fun id _=>fO c.A st.fr (UB U n x.ncells) id):=by
 cases x with
 |tup cs =>
  simp only[cV,X.allp,X.ncells,z92] at hr hi hn ⊢
  obtain⟨vs,rfl,h1⟩:=hr
  obtain⟨γ',p,v1,a1⟩:=zqR R h1 hnd hi hn
  exact⟨γ',p,by simp only[vF,X.vr];exact⟨vs,rfl,v1⟩,by simp only[vF,X.allp];exact a1⟩
 |agg cs=>exact sB R (by simpa only[cV] using hr) hnd hi hn
 |d x=>exact sB R (by simpa only[cV] using hr) hnd hi hn
 |ref id p=>exact sB R (by simpa only[cV] using hr) hnd hi hn
 |ptr id q j i=>exact sB R (by simpa only[cV] using hr) hnd hi hn
 |rop cs=>exact sB R (by simpa only[cV] using hr) hnd hi hn
 |vp cs=>exact sB R (by simpa only[cV] using hr) hnd hi hn
 |clo f cs=>exact sB R (by simpa only[cV] using hr) hnd hi hn
theorem Hf(R:Rep c st U γ S a w){d:Option Nat}(hd:∀k,d=some k→k<c.nt){x:X}{v:Value}{is:List GId}(hr:cV γ w S x v is)(hnd:is.Nodup)(hi:x.allp (fun id _=>fO c.A st.fr U id)){n:Nat}(hn:∀k,n≤k→k<n+32→¬U k){U':Nat→Prop}(hU:∀k,UB U n 32 k→U' k)
  (hl:kP st d n x st.heap=some st'):Ok c st' U' (a.put d v) w:=by
 unfold kP at hl
 split at hl
 ·rename_i hle
  simp only[oi] at hl
  subst hl
  obtain⟨γ',p,v1,a1⟩:=zWb R hr hnd hi (n:=n) (fun k h1 h2=>hn k h1 (by omega))
  have h32:∀k,UB U n x.ncells k→U' k:=fun k h=>hU k (h.imp (fun h=>h) (fun h=>by omega))
  exact⟨γ',S,((p.rep.mono h32).put hd v1 (bS (fun id _ h=>h.imp (fun h=>h) (fun h=>⟨h.1,h32 _ h.2⟩)) _ a1))⟩
 ·simp at hl
end
open Go.RowKit
section
variable{c:Ctx}{st st':St}{U:Nat→Prop}{γ:Gm}{S:Nat→Prop}{a:Act}{w:World}{C:Cl}{o:Oper}{id:Nat}
theorem Av{P:Program}{o:Oper}{a:Act}{w:World}{y:Operand}{ys:Array Operand}{ts:Array TypeId}{f:Nat}{caps:Array Value}(ho:o.op= .call {callee:= .value y,args:=ys,argTypes:=ts})(hy:a.eval y= .func (.func f) #[] caps)(hc:iD P f) :
  (execOp a.eval o).run P w= .ok (.enter f ((ys.toList.map a.eval).toArray++caps)) w:=by
 obtain⟨fn,h1,h2,h3⟩:=hc
 have hm:ys.map a.eval=(ys.toList.map a.eval).toArray:=by rw[←Array.toList_map,Array.toArray_toList]
 simp[execOp,ho,resolve,hy,Deferred.ofValue,invoke,callFunc,h1,h2,h3,hm]
def Au(γ γ':Gm):Gm:=fun i=>match i with
 |.inl id=>γ (.inl id)
 |.inr n=>γ' (.inr n)
theorem Q4{h h':Heap}{γ γ':Gm}{S S0 S1 S2:Nat→Prop}{w w':World}(m:Mm h γ S w)(m':Mm h' γ' S1 w')(hsz:w.heap.size≤w'.heap.size)(hold:∀k,k<w.heap.size→w'.heap[k]? = w.heap[k]?)(hown:∀k,Bl γ' k→w.heap.size≤k)
  (hS:∀k,S k→S2 k) (hok:∀i g,γ' i=some g→g.ok w' S2) (hS2:∀k,S2 k→S k∨(w.heap.size≤k∧S1 k)):Mm h (Au γ γ') S2 w':=by
 have hlt:∀i g,γ i=some g→∀k∈g.bl,k<w.heap.size:=fun i g hg=>G.ok_lt g (m.ok i g hg)
 have hge:∀i g,γ' i=some g→∀k∈g.bl,w.heap.size≤k:=fun i g hg k hk=>hown k ⟨i,g,hg,hk⟩
 have key:∀i g,Au γ γ' i=some g→((∃id,i= .inl id)∧γ i=some g)∨((∃n,i= .inr n)∧γ' i=some g):=fun i g hg=>by
  cases i with
  |inl id=>exact .inl ⟨⟨id,rfl⟩,hg⟩
  |inr n=>exact .inr ⟨⟨n,rfl⟩,hg⟩
 refine⟨fun id d hd=>m.er id d hd,fun i g hg=> ?_,fun i g hg=> ?_,fun i i' g g' hg hg' hne k hk=> ?_,fun k hk=> ?_,?_⟩
 ·rcases key i g hg with⟨_,h1⟩|⟨_,h1⟩
  ·exact G.ok_congr (fun k hk=>⟨hS k hk,hold k (m.sd k hk).1⟩) g (fun k hk=>hold k (hlt i g h1 k hk)) (m.ok i g h1)
  ·exact hok i g h1
 ·rcases key i g hg with⟨_,h1⟩|⟨_,h1⟩
  ·exact m.nd i g h1
  ·exact m'.nd i g h1
 ·rcases key i g hg with⟨_,h1⟩|⟨_,h1⟩
  ·rcases key i' g' hg' with⟨_,h2⟩|⟨_,h2⟩
   ·exact m.dj i i' g g' h1 h2 hne k hk
   ·exact fun hk'=>by have:=hlt i g h1 k hk;have:=hge i' g' h2 k hk';omega
  ·rcases key i' g' hg' with⟨_,h2⟩|⟨_,h2⟩
   ·exact fun hk'=>by have:=hge i g h1 k hk;have:=hlt i' g' h2 k hk';omega
   ·exact m'.dj i i' g g' h1 h2 hne k hk
 ·rcases hS2 k hk with h1|⟨h1,h2⟩
  ·refine⟨by have:=(m.sd k h1).1;omega,fun i g hg hk'=> ?_⟩
   rcases key i g hg with⟨_,h3⟩|⟨_,h3⟩
   ·exact(m.sd k h1).2 i g h3 hk'
   ·have:=(m.sd k h1).1
    have:=hge i g h3 k hk'
    omega
  ·refine⟨(m'.sd k h2).1,fun i g hg hk'=> ?_⟩
   rcases key i g hg with⟨_,h3⟩|⟨_,h3⟩
   ·have:=hlt i g h3 k hk'
    omega
   ·exact(m'.sd k h2).2 i g h3 hk'
 ·obtain⟨N,hN⟩:=m'.fin
  exact⟨N,fun n hn=>hN n hn⟩
mutual
theorem Rx{w:World}{S S':Nat→Prop}:∀(g:G),g.er.noR=true→g.ok w S→g.ok w S'
 |.l d v,hn,h=>by
  simp only[G.ok,G.er] at h hn ⊢
  refine⟨h.1,?_⟩
  cases d with
  |v x=>simpa only[D.rd] using h.2
  |s sz els=>simp[D.leaf] at h
  |r els=>simp[D.noR] at hn
  |u=>simpa only[D.rd] using h.2
 |.s sz b els,hn,h=>by
  simp only[G.ok,G.er,D.noR] at h hn ⊢
  exact⟨h.1,h.2.1,Yt els hn h.2.2⟩
theorem Yt{w:World}{S S':Nat→Prop}:∀(els:List (List G)),D.noR.noRss (cD els)=true→gK w S els→gK w S' els
 |[],_,_=>by simp[gK]
 |el::els,hn,h=>by
  simp only[cD,D.noR.noRss,bE,gK] at hn h ⊢
  exact⟨zkl el hn.1 h.1,Yt els hn.2 h.2⟩
theorem zkl{w:World}{S S':Nat→Prop}:∀(gs:List G),D.noR.noRs (ers gs)=true→oks w S gs→oks w S' gs
 |[],_,_=>by simp[oks]
 |g::gs,hn,h=>by
  simp only[ers,D.noR.noRs,bE,oks] at hn h ⊢
  exact⟨Rx g hn.1 h.1,zkl gs hn.2 h.2⟩
end
theorem Vy{γ γ':Gm}{w:World}{S S':Nat→Prop}{x:X}{v:Value}{is:List GId}(hn:x.noRC=true)(h:Jm γ w S x v is)(hγ:∀i∈is,γ' i=γ i):Jm γ' w S' x v is∧∀i∈is,∀g,γ i=some g→g.er.noR=true:=by
 rcases h with⟨h1,rfl,h2⟩|⟨sz,els,i,g,rfl,rfl,h3,h4,h5,h6⟩
 ·refine⟨.inl ⟨h1,rfl,?_⟩,by simp⟩
  cases x with
  |d x =>
   cases x with
   |v x=>simpa only[X.vr] using h2
   |s sz els=>simp[X.own] at h1
   |r els=>simp[X.noRC,D.noR] at hn
   |u=>simpa only[X.vr] using h2
  |_=>simp[X.noRC] at hn
 ·refine⟨.inr ⟨sz,els,i,g,rfl,rfl,(hγ i (by simp)).trans h3,h4,h5,h6⟩,fun j hj g' hg'=> ?_⟩
  rw[List.mem_singleton] at hj
  subst hj
  rw[h3] at hg'
  simp only[oi] at hg'
  subst hg'
  rw[h5]
  simpa only[X.noRC] using hn
theorem Y7{γ γ':Gm}{w:World}{S S':Nat→Prop}:∀{xs:List X} {vs:List Value} {is:List GId},Sg xs=true→fZ γ w S xs vs is→(∀i∈is,γ' i=γ i)→fZ γ' w S' xs vs is∧∀i∈is,∀g,γ i=some g→g.er.noR=true
 |[],[],is,_,h,_=>by simp only[fZ] at h;subst h;exact⟨by simp[fZ],by simp⟩
 |x::xs,v::vs,is,hn,h,hγ=>by
  simp only[fZ,Sg,bE] at h hn ⊢
  obtain⟨i1,i2,rfl,h1,h2⟩:=h
  obtain⟨a1,a2⟩:=Vy (γ':=γ') (S':=S') hn.1 h1 (fun i hi=>hγ i (by simp[hi]))
  obtain⟨b1,b2⟩:=Y7 (γ':=γ') (S':=S') hn.2 h2 (fun i hi=>hγ i (by simp[hi]))
  exact⟨⟨i1,i2,rfl,a1,b1⟩,fun i hi=>(List.mem_append.1 hi).elim (a2 i) (b2 i)⟩
 |[],_::_,_,_,h,_=>by simp[fZ] at h
 |_::_,[],_,_,h,_=>by simp[fZ] at h
theorem Ma{γ γ':Gm}{w:World}{S S':Nat→Prop}{x:X}{v:Value}{is:List GId}(hn:x.noRV=true)(h:d6 γ w S x v is)(hγ:∀i∈is,γ' i=γ i):d6 γ' w S' x v is∧∀i∈is,∀g,γ i=some g→g.er.noR=true:=by
 cases x with
 |agg cs =>
  simp only[d6] at h ⊢
  obtain⟨vs,h1,h2,h3⟩:=h
  obtain⟨a1,a2⟩:=Y7 (γ':=γ') (S':=S') (by simpa only[X.noRV] using hn) h2 hγ
  exact⟨⟨vs,h1,a1,h3⟩,a2⟩
 |d x=>simp only[d6,X.noRV] at h hn ⊢;exact Vy hn h hγ
 |tup cs=>simp[X.noRV,X.noRC] at hn
 |ref id p=>simp[X.noRV,X.noRC] at hn
 |ptr id q j i=>simp[X.noRV,X.noRC] at hn
 |rop cs=>simp[X.noRV,X.noRC] at hn
 |vp cs=>simp[X.noRV,X.noRC] at hn
 |clo f cs=>simp[X.noRV,X.noRC] at hn
theorem Xp{γ γ':Gm}{w:World}{S S':Nat→Prop}:∀{xs:List X} {vs:List Value} {is:List GId},zyw xs=true→eZ γ w S xs vs is→(∀i∈is,γ' i=γ i)→eZ γ' w S' xs vs is∧∀i∈is,∀g,γ i=some g→g.er.noR=true
 |[],[],is,_,h,_=>by simp only[eZ] at h;subst h;exact⟨by simp[eZ],by simp⟩
 |x::xs,v::vs,is,hn,h,hγ=>by
  simp only[eZ,zyw,bE] at h hn ⊢
  obtain⟨i1,i2,rfl,h1,h2⟩:=h
  obtain⟨a1,a2⟩:=Ma (γ':=γ') (S':=S') hn.1 h1 (fun i hi=>hγ i (by simp[hi]))
  obtain⟨b1,b2⟩:=Xp (γ':=γ') (S':=S') hn.2 h2 (fun i hi=>hγ i (by simp[hi]))
  exact⟨⟨i1,i2,rfl,a1,b1⟩,fun i hi=>(List.mem_append.1 hi).elim (a2 i) (b2 i)⟩
 |[],_::_,_,_,h,_=>by simp[eZ] at h
 |_::_,[],_,_,h,_=>by simp[eZ] at h
theorem Fc{γ γ':Gm}{w:World}{S S':Nat→Prop}{x:X}{v:Value}{is:List GId}(hn:x.noR=true)(h:cV γ w S x v is)(hγ:∀i∈is,γ' i=γ i):cV γ' w S' x v is∧∀i∈is,∀g,γ i=some g→g.er.noR=true:=by
 cases x with
 |tup cs =>
  simp only[cV,X.noR] at h hn ⊢
  obtain⟨vs,h1,h2⟩:=h
  obtain⟨a1,a2⟩:=Xp (γ':=γ') (S':=S') hn h2 hγ
  exact⟨⟨vs,h1,a1⟩,a2⟩
 |agg cs=>simp only[cV,X.noR] at h hn ⊢;exact Ma hn h hγ
 |d x=>simp only[cV,X.noR] at h hn ⊢;exact Ma hn h hγ
 |ref id p=>simp[X.noR,X.noRV,X.noRC] at hn
 |ptr id q j i=>simp[X.noR,X.noRV,X.noRC] at hn
 |rop cs=>simp[X.noR,X.noRV,X.noRC] at hn
 |vp cs=>simp[X.noR,X.noRV,X.noRC] at hn
 |clo f cs=>simp[X.noR,X.noRV,X.noRC] at hn
theorem Rh{γ:Gm}{w:World}{S:Nat→Prop}{ys ys0:List X}{vs:List Value}(h:ys=ys0∨ys=ys0.map X.du)(h1:vrs γ w S ys0 vs)(h2:∀φ:Id→Path→Prop,aR φ ys0):vrs γ w S ys vs∧∀φ:Id→Path→Prop,aR φ ys:=by
 rcases h with rfl|rfl
 ·exact⟨h1,h2⟩
 ·exact⟨zZX h1,fun φ=>Vb (h2 φ)⟩
theorem Kl(R:Rep c st U γ S a w){xs ys:List X}{vs:List Value}(hv:vrs γ w S xs vs){ys0:List X}(hs:kV st.heap xs=some ys0)(hdu:ys=ys0∨ys=ys0.map X.du)(hC:CallOk c.P C){f:Nat}{r:X}{h':Heap}(hf:C f ys emp 0=some (r,h'))(hro:(iY xs||r.noR)=true) :
  iD c.P f∧Calls c.P f vs.toArray w fun e w'=>∃v γ1 S1 is,e= .returned v∧Rep c st U γ1 S1 a w'∧cV γ1 w' S1 r v is∧is.Nodup∧(∀φ:Id→Path→Prop,r.allp φ)∧∀i∈is,∀g,γ1 i=some g→∀k∈g.bl,w.heap.size≤k:=by
 classical
 obtain⟨hcal,hcl⟩:=hC f ys emp 0 r h' hf
 refine⟨hcal,?_⟩
 have hem:∀S':Nat→Prop,(∀k,S' k→k<w.heap.size)→Mm emp (fun _=>none) S' w:=fun S' hlt =>
  ⟨fun id d h=>by simp[emp] at h,fun i g h=>by simp at h,fun i g h=>by simp at h,fun i i' g g' h=>by simp at h,fun k hk=>⟨hlt k hk,fun i g h=>by simp at h⟩,⟨0,fun _ _=>rfl⟩⟩
 have hnoBl:∀k,¬Bl (fun _=>none) k:=fun k ⟨i,g,h,_⟩=>by simp at h
 have hlow:∀(r:X),r.allp (fun id _=>id.1<0∧True)→∀φ:Id→Path→Prop,r.allp φ:=fun r hr φ=>bS (fun id _ h=>absurd h.1 (Nat.not_lt_zero _)) r hr
 by_cases hr:iY xs=true
 ·obtain⟨h1,h2⟩:=Ln R.mm (S':=S) (fun k h=>h) hv hs (.inl hr)
  obtain⟨h1,h2⟩:=Rh hdu h1 h2
  refine(hcl (fun _=>True) (fun _=>none) S w vs (hem S (fun k hk=>(R.mm.sd k hk).1)) h1 (h2 _) (fun id d h=>by simp[emp] at h)).mono ?_
  rintro e w' ⟨v,γ',S',is,rfl,p⟩
  have hold:∀k,k<w.heap.size→w'.heap[k]? = w.heap[k]? := fun k hk=>p.keep k hk (hnoBl k)
  have hown:∀k,Bl γ' k→w.heap.size≤k:=fun k hk=>(p.own k hk).resolve_left (hnoBl k)
  have hM:=Q4 (S2:=S') (S0:=S) R.mm p.mm p.size hold hown p.s0 (fun i g hg=>p.mm.ok i g hg) (fun k hk=>(p.sg k hk).imp (fun h=>h) (fun h=>⟨h,hk⟩))
  refine⟨v,Au γ γ',S',is,rfl,?_,?_,p.nd,hlow r p.ids,fun i hi g hg k hk=>by
   obtain⟨n,rfl⟩:=uQ p.res i hi
   exact hown k ⟨.inr n,g,hg,hk⟩⟩
  ·have hR:=R.change (U':=U) (h':=st.heap) hM p.os p.tape p.output p.size (fun k hk _=>hold k hk) (fun k ⟨i,g,h3,h4⟩=> ?_) (fun t x _=>cS (fun id q=>Same.of_eq rfl q) x) (fun id _=>Same.of_eq rfl []) p.s0 p.sg R.hid (fun _ h=>h) (fun _ _ h=>h)
   ·exact hR
   ·cases i with
    |inl id=>exact .inl ⟨.inl id,g,h3,h4⟩
    |inr n=>exact .inr (hown k ⟨.inr n,g,h3,h4⟩)
  ·have hinr:=uQ p.res
   have:∀{φ:Id→Path→Prop},ResTo γ' (Au γ γ') w' w' S' S' φ→cV (Au γ γ') w' S' r v is:=fun t=>by
    have hk:∀i∈is,Au γ γ' i=γ' i:=fun i hi=>by obtain⟨n,rfl⟩:=hinr i hi;rfl
    cases r with
    |tup cs =>
     have:=p.res
     simp only[cV] at this ⊢
     obtain⟨us,e1,e2⟩:=this
     exact⟨us,e1,Jx t (by simpa only[X.allp] using hlow _ p.ids _) e2 hk⟩
    |agg cs=>exact fV t (hlow _ p.ids _) (by simpa only[cV] using p.res) hk
    |d x=>exact fV t (hlow _ p.ids _) (by simpa only[cV] using p.res) hk
    |ref id q=>exact fV t (hlow _ p.ids _) (by simpa only[cV] using p.res) hk
    |ptr id q j i=>exact fV t (hlow _ p.ids _) (by simpa only[cV] using p.res) hk
    |rop cs=>exact fV t (hlow _ p.ids _) (by simpa only[cV] using p.res) hk
    |vp cs=>exact fV t (hlow _ p.ids _) (by simpa only[cV] using p.res) hk
    |clo f cs=>exact fV t (hlow _ p.ids _) (by simpa only[cV] using p.res) hk
   exact this (φ:=fun _ _=>False) ⟨fun id q h=>h.elim,fun k hk=>⟨hk,rfl⟩⟩
 ·have hnr:r.noR=true:=by simpa[hr] using hro
  obtain⟨h1,h2⟩:=Ln R.mm (S':=fun k=>k<w.heap.size) (fun k h=>(R.mm.sd k h).1) hv hs (.inr fun id g hg k hk=>G.ok_lt g (R.mm.ok _ _ hg) k hk)
  obtain⟨h1,h2⟩:=Rh hdu h1 h2
  refine(hcl (fun _=>True) (fun _=>none) _ w vs (hem _ (fun k hk=>hk)) h1 (h2 _) (fun id d h=>by simp[emp] at h)).mono ?_
  rintro e w' ⟨v,γ',S',is,rfl,p⟩
  have hold:∀k,k<w.heap.size→w'.heap[k]? = w.heap[k]? := fun k hk=>p.keep k hk (hnoBl k)
  have hown:∀k,Bl γ' k→w.heap.size≤k:=fun k hk=>(p.own k hk).resolve_left (hnoBl k)
  have hinr:=uQ p.res
  let γr:Gm:=fun i=>if i∈is then γ' i else none
  have hγr:∀i g,γr i=some g→i∈is∧γ' i=some g:=fun i g h=>by
   simp only[γr] at h
   split at h
   ·exact⟨‹_›,h⟩
   ·simp at h
  obtain⟨hres,hpure⟩:=Fc (γ':=γr) (S':=S) hnr p.res (fun i hi=>by simp[γr,hi])
  have hm':Mm emp γr (fun _=>False) w':=⟨fun id d h=>by simp[emp] at h,fun i g hg=>Rx g (hpure i (hγr i g hg).1 g (hγr i g hg).2) (p.mm.ok i g (hγr i g hg).2),fun i g hg=>p.mm.nd i g (hγr i g hg).2,fun i i' g g' hg hg'=>p.mm.dj i i' g g' (hγr i g hg).2 (hγr i' g' hg').2,fun k hk=>hk.elim,by
   obtain⟨N,hN⟩:=p.mm.fin
   refine⟨N,fun n hn=> ?_⟩
   simp only[γr]
   split
   ·exact hN n hn
   ·rfl⟩
  have hownr:∀k,Bl γr k→w.heap.size≤k:=fun k ⟨i,g,h3,h4⟩=>hown k ⟨i,g,(hγr i g h3).2,h4⟩
  have hM:=Q4 (S2:=S) (S0:=S) R.mm hm' p.size hold hownr (fun k h=>h) (fun i g hg=>Rx g (hpure i (hγr i g hg).1 g (hγr i g hg).2) (p.mm.ok i g (hγr i g hg).2)) (fun k hk=> .inl hk)
  refine⟨v,Au γ γr,S,is,rfl,?_,?_,p.nd,hlow r p.ids,fun i hi g hg k hk=>by
   obtain⟨n,rfl⟩:=hinr i hi
   exact hownr k ⟨.inr n,g,hg,hk⟩⟩
  ·have hR:=R.change (U':=U) (h':=st.heap) hM p.os p.tape p.output p.size (fun k hk _=>hold k hk) (fun k ⟨i,g,h3,h4⟩=> ?_) (fun t x _=>cS (fun id q=>Same.of_eq rfl q) x) (fun id _=>Same.of_eq rfl []) (fun k h=>h) (fun k h=> .inl h) R.hid (fun _ h=>h) (fun _ _ h=>h)
   ·exact hR
   ·cases i with
    |inl id=>exact .inl ⟨.inl id,g,h3,h4⟩
    |inr n=>exact .inr (hownr k ⟨.inr n,g,h3,h4⟩)
  ·exact(Fc (γ':=Au γ γr) (S':=S) hnr hres (fun i hi=>by obtain⟨n,rfl⟩:=hinr i hi;rfl)).1
theorem zXA(R:Rep c st U γ S a w)(hd:∀k,o.dst=some k→k<c.nt){y:Operand}{ys:Array Operand}{ts:Array TypeId}{f:Nat}{xs:List O}(ho:o.op= .call {callee:= .value y,args:=ys,argTypes:=ts})(hf:eqO y (.f f)=true)(hx:qB ys.toList xs=true)(hC:CallOk c.P C)
  {n:Nat} (hn:∀k,n≤k→k<n+32→¬U k) {U':Nat→Prop} (hU:∀k,UB U n 32 k→U' k) (hs:opS C st o.dst n (.call f xs)=some st'):Runs c o a w st' U':=by
 simp only[opS,aA] at hs
 obtain⟨as,h1,bs,h2,r,h3,h4⟩:=hs
 obtain⟨h',h3⟩:=jI.1 h3
 split at h4
 ·rename_i hro
  obtain⟨h5,h6⟩:=wI R hx h1
  obtain⟨hcal,hcl⟩:=Kl R h5 h2 (.inl rfl) hC h3 hro
  have hy:=(bV R hf (y:= .d (.v (.func (.func f) #[] #[]))) rfl).1
  simp only[X.vr] at hy
  refine .enter f _ w (by
   have:=Av (w:=w) ho hy.1 hcal
   simpa using this) (hcl.mono ?_)
  rintro e w' ⟨v,γ1,S1,is,rfl,hR,hres,hnd,hids,_⟩
  exact⟨v,rfl,Hf hR hd hres hnd (hids _) hn hU h4⟩
 ·simp at h4
end
open Go.RowKit
section
variable{c:Ctx}{st st':St}{U:Nat→Prop}{γ:Gm}{S:Nat→Prop}{a:Act}{w:World}{C:Cl}{o:Oper}{id:Nat}
theorem Mm.drop{h:Heap}(m:Mm h γ S w){is:List GId}(hr:∀j∈is,∃q,j=(Sum.inr q:GId)) :
  Mm h (rem γ is) (fun k=>S k∨∃i∈is,∃g,γ i=some g∧k∈g.bl) w:=by
 refine⟨fun id d hd=> ?_,fun i g hg=> ?_,fun i g hg=> ?_,fun i i' g g' hg hg' hne=> ?_,fun k hk=> ?_,?_⟩
 ·obtain⟨g,h1,h2⟩:=m.er id d hd
  refine⟨g,cA.2 ⟨fun hin=> ?_,h1⟩,h2⟩
  obtain⟨q,hq⟩:=hr _ hin
  simp at hq
 ·exact G.ok_congr (fun k hk=>⟨.inl hk,rfl⟩) g (fun _ _=>rfl) (m.ok i g (cA.1 hg).2)
 ·exact m.nd i g (cA.1 hg).2
 ·exact m.dj i i' g g' (cA.1 hg).2 (cA.1 hg').2 hne
 ·rcases hk with hk|⟨i,hi,g,hg,hkg⟩
  ·exact⟨(m.sd k hk).1,fun i g hg=>(m.sd k hk).2 i g (cA.1 hg).2⟩
  ·refine⟨G.ok_lt g (m.ok i g hg) k hkg,fun i' g' hg' hk'=> ?_⟩
   obtain⟨h1,h2⟩:=cA.1 hg'
   exact m.dj i i' g g' hg h2 (fun e=>h1 (e ▸ hi)) k hkg hk'
 ·obtain⟨N,hN⟩:=m.fin
  refine⟨N,fun n hn=> ?_⟩
  unfold rem
  split
  ·rfl
  ·exact hN n hn
theorem Same.rem{is:List GId}(hr:∀j∈is,∃q,j=(Sum.inr q:GId))(id:Id)(p:Path):Same γ (rem γ is) id p:=Same.of_eq (by
 unfold Ev.rem
 rw[if_neg]
 intro hin
 obtain⟨q,hq⟩:=hr _ hin
 simp at hq) p
theorem rW{S2:Nat→Prop}{is js:List GId}(m:Mm st.heap γ S w)(hr:∀j∈js,∃q,j=(Sum.inr q:GId))(hS:∀k,S k→S2 k)(hb:∀i∈js,∀g,γ i=some g→∀k∈g.bl,S2 k)(hij:∀i∈is,i∈js){x:X}{v:Value}(h:Jm γ w S x v is):x.frzC.vr (rem γ js) w S2 v:=by
 rcases h with⟨h1,_,h2⟩|⟨sz,els,i,g,rfl,rfl,h3,h4,h5,h6⟩
 ·have hx:x.frzC=x:=by
   unfold X.frzC
   split
   ·simp[X.own] at h1
   ·rfl
  rw[hx]
  exact fW (fun k hk=>⟨hS k hk,rfl⟩) x v (cS (Same.rem hr) x) h2
 ·have:=Gw hS g (m.ok _ _ h3) (hb i (hij i (by simp)) g h3)
  rw[h5,h6,z8w] at this
  simp only[X.frzC,X.vr]
  exact Wc (.r els) v this
theorem zkq{S2:Nat→Prop}{js:List GId}(m:Mm st.heap γ S w)(hr:∀j∈js,∃q,j=(Sum.inr q:GId))(hS:∀k,S k→S2 k)(hb:∀i∈js,∀g,γ i=some g→∀k∈g.bl,S2 k):∀{xs:List X} {vs:List Value} {is:List GId},(∀i∈is,i∈js)→fZ γ w S xs vs is→vrs (rem γ js) w S2 (y6 xs) vs
 |[],[],_,_,_=>by simp[y6,vrs]
 |x::xs,v::vs,is,hij,h=>by
  simp only[fZ] at h
  obtain⟨i1,i2,rfl,h1,h2⟩:=h
  simp only[y6,vrs]
  exact⟨rW m hr hS hb (fun i hi=>hij i (by simp[hi])) h1,zkq m hr hS hb (fun i hi=>hij i (by simp[hi])) h2⟩
 |[],_::_,_,_,h=>by simp[fZ] at h
 |_::_,[],_,_,h=>by simp[fZ] at h
theorem sH{S2:Nat→Prop}{is js:List GId}(m:Mm st.heap γ S w)(hr:∀j∈js,∃q,j=(Sum.inr q:GId))(hS:∀k,S k→S2 k)(hb:∀i∈js,∀g,γ i=some g→∀k∈g.bl,S2 k)(hij:∀i∈is,i∈js){x:X}{v:Value}(h:d6 γ w S x v is):x.frzV.vr (rem γ js) w S2 v:=by
 cases x with
 |agg cs =>
  simp only[d6] at h
  obtain⟨vs,rfl,h1,h2⟩:=h
  simp only[X.frzV,X.vr]
  exact⟨vs,rfl,zkq m hr hS hb hij h1,h2⟩
 |d x=>exact rW m hr hS hb hij (by simpa only[d6] using h)
 |tup cs=>exact rW m hr hS hb hij (by simpa only[d6] using h)
 |ref id p=>exact rW m hr hS hb hij (by simpa only[d6] using h)
 |ptr id q j i=>exact rW m hr hS hb hij (by simpa only[d6] using h)
 |rop cs=>exact rW m hr hS hb hij (by simpa only[d6] using h)
 |vp cs=>exact rW m hr hS hb hij (by simpa only[d6] using h)
 |clo f cs=>exact rW m hr hS hb hij (by simpa only[d6] using h)
theorem zkh{S2:Nat→Prop}{js:List GId}(m:Mm st.heap γ S w)(hr:∀j∈js,∃q,j=(Sum.inr q:GId))(hS:∀k,S k→S2 k)(hb:∀i∈js,∀g,γ i=some g→∀k∈g.bl,S2 k):∀{xs:List X} {vs:List Value} {is:List GId},(∀i∈is,i∈js)→eZ γ w S xs vs is→vrs (rem γ js) w S2 (Py xs) vs
 |[],[],_,_,_=>by simp[Py,vrs]
 |x::xs,v::vs,is,hij,h=>by
  simp only[eZ] at h
  obtain⟨i1,i2,rfl,h1,h2⟩:=h
  simp only[Py,vrs]
  exact⟨sH m hr hS hb (fun i hi=>hij i (by simp[hi])) h1,zkh m hr hS hb (fun i hi=>hij i (by simp[hi])) h2⟩
 |[],_::_,_,_,h=>by simp[eZ] at h
 |_::_,[],_,_,h=>by simp[eZ] at h
theorem zxv{S2:Nat→Prop}{is:List GId}(m:Mm st.heap γ S w)(hr:∀j∈is,∃q,j=(Sum.inr q:GId))(hS:∀k,S k→S2 k)(hb:∀i∈is,∀g,γ i=some g→∀k∈g.bl,S2 k){x:X}{v:Value}(h:cV γ w S x v is):x.frz.vr (rem γ is) w S2 v:=by
 cases x with
 |tup cs =>
  simp only[cV] at h
  obtain⟨vs,rfl,h1⟩:=h
  simp only[X.frz,X.vr]
  exact⟨vs,rfl,zkh m hr hS hb (fun _ h=>h) h1⟩
 |agg cs=>exact sH m hr hS hb (fun _ h=>h) (by simpa only[cV] using h)
 |d x=>exact sH m hr hS hb (fun _ h=>h) (by simpa only[cV] using h)
 |ref id p=>exact sH m hr hS hb (fun _ h=>h) (by simpa only[cV] using h)
 |ptr id q j i=>exact sH m hr hS hb (fun _ h=>h) (by simpa only[cV] using h)
 |rop cs=>exact sH m hr hS hb (fun _ h=>h) (by simpa only[cV] using h)
 |vp cs=>exact sH m hr hS hb (fun _ h=>h) (by simpa only[cV] using h)
 |clo f cs=>exact sH m hr hS hb (fun _ h=>h) (by simpa only[cV] using h)
theorem lX{φ:Id→Path→Prop}{x:X}(h:x.allp φ):x.frzC.allp φ:=by
 unfold X.frzC
 split
 ·simp only[X.allp]
 ·exact h
theorem Q6{φ:Id→Path→Prop}:∀{xs:List X},aR φ xs→aR φ (y6 xs)
 |[],_=>by simp[y6,aR]
 |x::xs,h=>by simp only[y6,aR] at h ⊢;exact⟨lX h.1,Q6 h.2⟩
theorem l8{φ:Id→Path→Prop}{x:X}(h:x.allp φ):x.frzV.allp φ:=by
 cases x with
 |agg cs=>simp only[X.frzV,X.allp] at h ⊢;exact Q6 h
 |d x=>exact lX h
 |tup cs=>exact lX h
 |ref id p=>exact lX h
 |ptr id q j i=>exact lX h
 |rop cs=>exact lX h
 |vp cs=>exact lX h
 |clo f cs=>exact lX h
theorem Q2{φ:Id→Path→Prop}:∀{xs:List X},aR φ xs→aR φ (Py xs)
 |[],_=>by simp[Py,aR]
 |x::xs,h=>by simp only[Py,aR] at h ⊢;exact⟨l8 h.1,Q2 h.2⟩
theorem Yp{φ:Id→Path→Prop}{x:X}(h:x.allp φ):x.frz.allp φ:=by
 cases x with
 |tup cs=>simp only[X.frz,X.allp] at h ⊢;exact Q2 h
 |agg cs=>exact l8 h
 |d x=>exact l8 h
 |ref id p=>exact l8 h
 |ptr id q j i=>exact l8 h
 |rop cs=>exact l8 h
 |vp cs=>exact l8 h
 |clo f cs=>exact l8 h
theorem zJX(R:Rep c st U γ S a w)(hd:∀k,o.dst=some k→k<c.nt){y:Operand}{ys:Array Operand}{ts:Array TypeId}{f:Nat}{xs:List O}(ho:o.op= .call {callee:= .value y,args:=ys,argTypes:=ts})(hf:eqO y (.f f)=true)(hx:qB ys.toList xs=true)(hC:CallOk c.P C)
  (hs:opS C st o.dst id (.callr f xs)=some st'):Runs c o a w st' U:=by
 simp only[opS,aA] at hs
 obtain⟨as,h1,bs,h2,r,h3,h4⟩:=hs
 obtain⟨h',h3⟩:=jI.1 h3
 split at h4
 ·rename_i hro
  simp only[oi] at h4
  subst h4
  obtain⟨h5,h6⟩:=wI R hx h1
  obtain⟨hcal,hcl⟩:=Kl R h5 h2 (.inl rfl) hC h3 hro
  have hy:=(bV R hf (y:= .d (.v (.func (.func f) #[] #[]))) rfl).1
  simp only[X.vr] at hy
  refine .enter f _ w (by
   have:=Av (w:=w) ho hy.1 hcal
   simpa using this) (hcl.mono ?_)
  rintro e w' ⟨v,γ1,S1,is,rfl,hR,hres,hnd,hids,hnew⟩
  have hinr:=uQ hres
  have hM:=hR.mm.drop hinr
  have hv:=zxv (S2:=fun k=>S1 k∨∃i∈is,∃g,γ1 i=some g∧k∈g.bl) hR.mm hinr (fun k hk=> .inl hk) (fun i hi g hg k hk=> .inr ⟨i,hi,g,hg,hk⟩) hres
  have hR2:Rep c st U (rem γ1 is) (fun k=>S1 k∨∃i∈is,∃g,γ1 i=some g∧k∈g.bl) a w':=by
   refine⟨hM,hR.os,hR.tape,hR.output,hR.size,hR.keep,fun k ⟨i,g,g1,g2⟩=>hR.own k ⟨i,g,(cA.1 g1).2,g2⟩,fun id hid=>(hR.hd id hid).trans (Same.rem hinr id []),fun k hk=> ?_,fun k hk=> .inl (hR.s0 k hk),hR.s00,fun t x hx=> ?_,hR.ids,hR.hid,hR.dom,hR.df,hR.sz,hR.iso⟩
   ·rcases hk with hk|⟨i,hi,g,hg,hkg⟩
    ·exact hR.sg k hk
    ·have:=hnew i hi g hg k hkg
     have:=R.size
     exact .inr (by omega)
   ·exact fW (fun k hk=>⟨.inl hk,rfl⟩) x _ (cS (Same.rem hinr) x) (hR.env t x hx)
  exact⟨v,rfl,dU hR2 hd hv (Yp (hids _))⟩
 ·simp at h4
theorem zxh(R:Rep c st U γ S a w)(hd:∀k,o.dst=some k→k<c.nt){y:Operand}{ys:Array Operand}{ts:Array TypeId}{f:Nat}{xs:List O}(ho:o.op= .call {callee:= .value y,args:=ys,argTypes:=ts})(hf:eqO y (.f f)=true)(hx:qB ys.toList xs=true)(hC:CallOk c.P C)
  (hs:opS C st o.dst id (.callu f xs)=some st'):Runs c o a w st' U:=by
 simp only[opS,aA] at hs
 obtain⟨as,h1,bs,h2,r,h3,h4⟩:=hs
 obtain⟨h',h3⟩:=jI.1 h3
 split at h4
 ·rename_i hro
  simp only[oi] at h4
  subst h4
  obtain⟨h5,h6⟩:=wI R hx h1
  obtain⟨hcal,hcl⟩:=Kl R h5 h2 (.inr rfl) hC h3 hro
  have hy:=(bV R hf (y:= .d (.v (.func (.func f) #[] #[]))) rfl).1
  simp only[X.vr] at hy
  refine .enter f _ w (by
   have:=Av (w:=w) ho hy.1 hcal
   simpa using this) (hcl.mono ?_)
  rintro e w' ⟨v,γ1,S1,is,rfl,hR,hres,hnd,hids,hnew⟩
  have hinr:=uQ hres
  have hM:=hR.mm.drop hinr
  have hv:=zxv (S2:=fun k=>S1 k∨∃i∈is,∃g,γ1 i=some g∧k∈g.bl) hR.mm hinr (fun k hk=> .inl hk) (fun i hi g hg k hk=> .inr ⟨i,hi,g,hg,hk⟩) hres
  have hR2:Rep c st U (rem γ1 is) (fun k=>S1 k∨∃i∈is,∃g,γ1 i=some g∧k∈g.bl) a w':=by
   refine⟨hM,hR.os,hR.tape,hR.output,hR.size,hR.keep,fun k ⟨i,g,g1,g2⟩=>hR.own k ⟨i,g,(cA.1 g1).2,g2⟩,fun id hid=>(hR.hd id hid).trans (Same.rem hinr id []),fun k hk=> ?_,fun k hk=> .inl (hR.s0 k hk),hR.s00,fun t x hx=> ?_,hR.ids,hR.hid,hR.dom,hR.df,hR.sz,hR.iso⟩
   ·rcases hk with hk|⟨i,hi,g,hg,hkg⟩
    ·exact hR.sg k hk
    ·have:=hnew i hi g hg k hkg
     have:=R.size
     exact .inr (by omega)
   ·exact fW (fun k hk=>⟨.inl hk,rfl⟩) x _ (cS (Same.rem hinr) x) (hR.env t x hx)
  exact⟨v,rfl,dU hR2 hd hv (Yp (hids _))⟩
 ·simp at h4
theorem z7R{xs cs:List X}{vs us:List Value}(h1:vrs γ w S xs vs)(h2:vrs γ w S cs us):vrs γ w S (xs++cs) (vs++us):=D4 h1 h2
theorem zvy{φ:Id→Path→Prop}{ψ:Id→Prop}(h:∀id,ψ id→φ id []){x:X}(hr:x.root=true)(hx:x.allp (fun id _=>ψ id)):x.allp φ:=by
 have hc:∀y:X,y.rootC=true→y.allp (fun id _=>ψ id)→y.allp φ:=fun y hy hy2=>by
  cases y with
  |ref id p =>
   simp only[X.rootC,List.isEmpty_iff] at hy
   subst hy
   simp only[X.allp] at hy2 ⊢
   exact h id hy2
  |ptr id q j i =>
   simp only[X.rootC,List.isEmpty_iff] at hy
   subst hy
   simp only[X.allp] at hy2 ⊢
   exact h id hy2
  |d x=>simp only[X.allp]
  |rop cs=>simp only[X.allp]
  |vp cs=>simp[X.rootC] at hy
  |agg cs=>simp[X.rootC] at hy
  |tup cs=>simp[X.rootC] at hy
  |clo f cs=>simp[X.rootC] at hy
 have hl:∀ys:List X,C4 ys=true→aR (fun id _=>ψ id) ys→aR φ ys:=fun ys=>by
  induction ys with
  |nil=>intro _ _;simp[aR]
  |cons y ys ih =>
   intro h1 h2
   simp only[C4,bE,aR] at h1 h2 ⊢
   exact⟨hc y h1.1 h2.1,ih h1.2 h2.2⟩
 cases x with
 |agg cs=>simp only[X.root,X.allp] at hr hx ⊢;exact hl cs hr hx
 |clo f cs=>simp only[X.root,X.allp] at hr hx ⊢;exact hl cs hr hx
 |d x=>simp only[X.allp]
 |rop cs=>simp only[X.allp]
 |vp cs=>simp only[X.root,X.allp] at hr hx ⊢;exact hl cs hr hx
 |ref id p=>exact hc _ (by simpa only[X.root] using hr) hx
 |ptr id q j i=>exact hc _ (by simpa only[X.root] using hr) hx
 |tup cs=>simp[X.root,X.rootC] at hr
theorem zxf(R:Rep c st U γ S a w)(hd:∀k,o.dst=some k→k<c.nt){y:Operand}{ys:Array Operand}{ts:Array TypeId}{f:O}{xs:List O}(ho:o.op= .call {callee:= .value y,args:=ys,argTypes:=ts})(hf:eqO y f=true)(hx:qB ys.toList xs=true)(hC:CallOk c.P C)
  {n:Nat} (hn:∀k,n≤k→k<n+32→¬U k) {U':Nat→Prop} (hU:∀k,UB U n 32 k→U' k) (hs:opS C st o.dst n (.calli f xs)=some st'):Runs c o a w st' U':=by
 simp only[opS,aA] at hs
 obtain⟨z,h1,⟨g,caps⟩,h2,as,h3,⟨r,h'⟩,h4,h5⟩:=hs
 obtain⟨h6,h7⟩:=bV R hf h1
 obtain⟨h8,h9⟩:=wI R hx h3
 obtain⟨cvs,hcv,hcvs,hci⟩:∃cvs:List Value,a.eval y= .func (.func g) #[] cvs.toArray∧vrs γ w S caps cvs∧aR (fun id _=>fO c.A st.fr U id) caps:=by
  unfold Et at h2
  split at h2
  ·rename_i x
   rw[aC] at h2
   obtain⟨f',h10,h11⟩:=h2
   simp only[zqb] at h11
   obtain⟨rfl,rfl⟩:=h11
   simp only[X.vr] at h6
   unfold fnOf at h10
   split at h10
   ·rename_i fn first captured
    split at h10
    ·rename_i he
     simp only[oi] at h10
     subst h10
     refine⟨[],?_,by simp[vrs],by simp[aR]⟩
     rw[h6.1,Array.eq_empty_of_size_eq_zero he.1,Array.eq_empty_of_size_eq_zero he.2]
    ·simp at h10
   ·simp at h10
  ·rename_i f' cs
   simp only[oi,zqb] at h2
   obtain⟨rfl,rfl⟩:=h2
   simp only[X.vr,X.allp] at h6 h7
   obtain⟨vs,e1,e2⟩:=h6
   exact⟨vs,e1,e2,h7⟩
  ·simp at h2
 obtain⟨hcal,hcl⟩:=hC g (as++caps) st.heap (st.fr+1) r h' h4
 have hall:aR (fun id _=>id.1<st.fr+1∧fO c.A st.fr U id) (as++caps):=bG.2 fun x hx=>by
  have:x.allp (fun id _=>fO c.A st.fr U id):=by
   rcases List.mem_append.1 hx with hx|hx
   ·exact bG.1 h9 x hx
   ·exact bG.1 hci x hx
  exact bS (fun id _ h=>⟨by rcases h with h|h<;>omega,h⟩) x this
 refine .enter g _ w (Av (w:=w) ho hcv hcal) ?_
 have hcl':=hcl (fun id=>fO c.A st.fr U id) γ S w _ R.mm (D4 h8 hcvs) hall (fun id d h=>⟨by have:=R.hid id d h;rcases this with h|h<;>omega,R.hid id d h⟩)
 rw[show((ys.toList.map a.eval).toArray++cvs.toArray)=(ys.toList.map a.eval++cvs).toArray by simp]
 refine hcl'.mono ?_
 rintro e w' ⟨v,γ',S',is,rfl,p⟩
 refine⟨v,rfl,?_⟩
 have hpe:∀t x,qJ st.env t=some x→st.env t=some x∧x.root=true:=fun t x hx=>by
  unfold qJ at hx
  rw[aA] at hx
  obtain⟨x',h10,h11⟩:=hx
  split at h11
  ·simp only[oi] at h11
   subst h11
   exact⟨h10,‹_›⟩
  ·simp at h11
 have hR:=(R.less (fun t x hx=>(hpe t x hx).1)).change (U':=U) p.mm p.os p.tape p.output p.size p.keep p.own (fun t x hx=>zvy (ψ:=fun id=>fO c.A st.fr U id) (fun id hid=>p.hd id (by rcases hid with h|h<;>omega)) (hpe t x hx).2 (R.ids t x (hpe t x hx).1)) (fun id hid=>p.hd id (by have:id.1<st.fr:=hid;omega)) p.s0 p.sg (fun id d hd=> ?_) (fun _ h=>h) (fun id hid h0=>p.dom id (by have:id.1<st.fr:=hid;omega) h0)
 ·exact Hf (st:={st with env:=qJ st.env,heap:=h'}) hR hd p.res p.nd (bS (fun id _ h=>h.2) _ p.ids) hn hU h5
 ·have hlow:=p.low id d hd
  have hne:st.heap id≠none:=fun h0=>by
   have:=p.dom id hlow h0
   rw[this] at hd
   simp at hd
  obtain⟨d0,hd0⟩:=Option.ne_none_iff_exists'.1 hne
  exact R.hid id d0 hd0
end
end Go.Ev
