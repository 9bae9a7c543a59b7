import Derived.Test.YtenclibcnjkamaaGreatEvOps6
set_option linter.all false
namespace Go.Ev
open Go.RowKit
mutual
theorem D9{w:World}{S S':Nat→Prop}(hS:∀k,S k→S' k):∀(g:G),g.ok w S→(∀k∈g.bl,S' k)→g.er.rd w S' g.val
 |.l d v,h,_=>by
  simp only[G.ok] at h
  simp only[G.er,G.val]
  exact D.rd_congr (fun k hk=>⟨hS k hk,rfl⟩) d v h.2
 |.s sz none els,h,_=>by
  simp only[G.ok] at h
  simp only[G.er,G.val,h.1,b9,D.rd]
  exact⟨none,0,rfl,by simp,by simp,⟨sz,by simp⟩,by simp[dN]⟩
 |.s sz (some b) els,h,hb=>by
  have h0:=h
  simp only[G.ok] at h
  obtain⟨⟨h1,h2,cur,e,h3,h4,h5⟩,h6,h7⟩:=h
  simp only[G.er,G.val,D.rd]
  simp only[G.bl,List.singleton_append,List.mem_cons] at hb
  refine⟨some ⟨b.1,b.3,none⟩,b.2,by rw[cR],by rw[cR];exact h1,h2,⟨sz,fun el hel=> ?_⟩,Tk hS els b.1 b.3 0 (fun j u hj=> ?_) h7 (fun k hk=>hb k (.inr hk)) (hb b.1 (.inl rfl))⟩
  ·rw[cC] at hel
   obtain⟨gs,hgs,rfl⟩:=List.mem_map.1 hel
   simpa using h6 gs hgs
  ·rw[←h5,List.getElem?_take] at hj
   split at hj
   ·rw[cell_of_row w b.1 _ cur e (0,0) h3]
    rw[List.getElem?_drop] at hj
    simpa using hj
   ·simp at hj
theorem Tk{w:World}{S S':Nat→Prop}(hS:∀k,S k→S' k):∀(els:List (List G)) (b o0 off:Nat),(∀(j:Nat) (u:Value),(a7 els)[j]? = some u→w.cell? ⟨b,o0+(off+j),none⟩=some u)→fV w S els→(∀k∈bS els,S' k)→S' b→dN w S' (some ⟨b,o0,none⟩) off (b9 els)
 |[],b,o0,off,_,_,_,_=>by simp[b9,dN]
 |el::els,b,o0,off,hc,hok,hb,hS'b=>by
  simp only[fV] at hok
  simp only[bS,List.mem_append] at hb
  simp only[b9,dN]
  refine⟨⟨_,rfl,Qt hS el b o0 off (fun j u hj=>hc j u (by simp only[a7];rw[List.getElem?_append_left (List.getElem?_eq_some_iff.1 hj).1];exact hj)) hok.1 (fun k hk=>hb k (.inl hk)) hS'b⟩,?_⟩
  rw[dP]
  refine Tk hS els b o0 _ (fun j u hj=> ?_) hok.2 (fun k hk=>hb k (.inr hk)) hS'b
  have:=hc (el.length+j) u (by simp only[a7];rw[List.getElem?_append_right (by rw[dA];omega),dA];simpa using hj)
  rwa [show o0+(off+el.length+j)=o0+(off+(el.length+j)) by omega]
theorem Qt{w:World}{S S':Nat→Prop}(hS:∀k,S k→S' k):∀(gs:List G) (b o0 off:Nat),(∀(j:Nat) (u:Value),(cH gs)[j]? = some u→w.cell? ⟨b,o0+(off+j),none⟩=some u)→oks w S gs→(∀k∈bls gs,S' k)→S' b→rds w S' ⟨b,o0,none⟩ off (ers gs)
 |[],b,o0,off,_,_,_,_=>by simp[ers,rds]
 |g::gs,b,o0,off,hc,hok,hb,hS'b=>by
  simp only[oks] at hok
  simp only[bls,List.mem_append] at hb
  simp only[ers,rds]
  refine⟨⟨g.val,?_,hS'b,D9 hS g hok.1 (fun k hk=>hb k (.inl hk))⟩,Qt hS gs b o0 (off+1) (fun j u hj=> ?_) hok.2 (fun k hk=>hb k (.inr hk)) hS'b⟩
  ·rw[Addr.add_lit]
   simpa using hc 0 g.val rfl
  ·have:=hc (j+1) u (by simpa[cH] using hj)
   rwa [show o0+(off+1+j)=o0+(off+(j+1)) by omega]
end
theorem zXC{w:World}{S:Nat→Prop}{sz:Nat}{els:List (List D)}{v:Value}:D.rd w S (.s sz els) v↔D.rd w S (.r els) v:=by simp only[D.rd]
theorem qQ:∀els:List (List D),(fzs els).length=els.length
 |[]=>by simp[fzs]
 |el::els=>by simp[fzs,qQ els]
theorem Qe:∀ds:List D,(fzl ds).length=ds.length
 |[]=>by simp[fzl]
 |d::ds=>by simp[fzl,Qe ds]
theorem Ww{sz:Nat}:∀{els:List (List D)},(∀el∈els,el.length=sz)→∀el∈fzs els,el.length=sz
 |[],_,el,h=>by simp[fzs] at h
 |e::els,ha,el,h=>by
  simp only[fzs,List.mem_cons] at h
  rcases h with rfl|h
  ·rw[Qe];exact ha e (by simp)
  ·exact Ww (fun el hel=>ha el (by simp[hel])) el h
mutual
theorem Rf{w:World}{S:Nat→Prop}:∀(d:D) (v:Value),d.rd w S v→d.fz.rd w S v
 |.v x,v,h=>by simpa only[D.fz] using h
 |.u,v,h=>by simpa only[D.fz] using h
 |.s _ els,v,h=>by
  simp only[D.fz,D.rd] at h ⊢
  obtain⟨A,c,h1,h2,h3,⟨sz,h4⟩,h5⟩:=h
  exact⟨A,c,by rw[qQ];exact h1,by rw[qQ];exact h2,h3,⟨sz,Ww h4⟩,Qd els A 0 h5⟩
 |.r els,v,h=>by
  simp only[D.fz,D.rd] at h ⊢
  obtain⟨A,c,h1,h2,h3,⟨sz,h4⟩,h5⟩:=h
  exact⟨A,c,by rw[qQ];exact h1,by rw[qQ];exact h2,h3,⟨sz,Ww h4⟩,Qd els A 0 h5⟩
theorem Qd{w:World}{S:Nat→Prop}:∀(els:List (List D)) (A:Option Addr) (off:Nat),dN w S A off els→dN w S A off (fzs els)
 |[],A,off,_=>by simp only[fzs,dN]
 |el::els,A,off,h=>by
  simp only[fzs,dN] at h ⊢
  obtain⟨⟨a,h1,h2⟩,h3⟩:=h
  exact⟨⟨a,h1,Ph el a off h2⟩,by rw[Qe];exact Qd els A _ h3⟩
theorem Ph{w:World}{S:Nat→Prop}:∀(ds:List D) (a:Addr) (off:Nat),rds w S a off ds→rds w S a off (fzl ds)
 |[],a,off,_=>by simp only[fzl,rds]
 |d::ds,a,off,h=>by
  simp only[fzl,rds] at h ⊢
  obtain⟨⟨u,h1,h2,h3⟩,h4⟩:=h
  exact⟨⟨u,h1,h2,Rf d u h3⟩,Ph ds a _ h4⟩
end
theorem Vo{w:World}{S:Nat→Prop}{sz:Nat}:∀(els:List (List D)) (A:Option Addr) (off j:Nat) (el:List D),(∀e∈els,e.length=sz)→dN w S A off els→els[j]? = some el→∃a,A=some a∧rds w S a (off+j*sz) el
 |[],_,_,_,_,_,_,h=>by simp at h
 |e::els,A,off,0,el,_,hs,h=>by
  simp only[List.getElem?_cons_zero,oi] at h
  subst h
  simp only[dN] at hs
  obtain⟨⟨a,h1,h2⟩,_⟩:=hs
  exact⟨a,h1,by simpa using h2⟩
 |e::els,A,off,j+1,el,hl,hs,h=>by
  simp only[dN] at hs
  obtain⟨a,h1,h2⟩:=Vo els A (off+e.length) j el (fun e he=>hl e (by simp[he])) hs.2 (by simpa using h)
  refine⟨a,h1,?_⟩
  rw[hl e (by simp)] at h2
  rw[Nat.add_mul,Nat.one_mul,show off+(j*sz+sz)=off+sz+j*sz by omega]
  exact h2
theorem zz3{w:World}{S:Nat→Prop}:∀(ds:List D) (i:Nat) (a:Addr) (off:Nat),rds w S a off ds→rds w S a (off+i) (ds.drop i)
 |ds,0,a,off,h=>by simpa using h
 |[],i+1,a,off,h=>by simp[rds]
 |d::ds,i+1,a,off,h=>by
  simp only[rds] at h
  have:=zz3 ds i a (off+1) h.2
  rw[List.drop_succ_cons,show off+(i+1)=off+1+i by omega]
  exact this
theorem Nk{w:World}{S:Nat→Prop}:∀(ds:List D) (b o k off:Nat),rds w S ⟨b,o,none⟩ (k+off) ds→rds w S ⟨b,o+k,none⟩ off ds
 |[],b,o,k,off,h=>by simp[rds]
 |d::ds,b,o,k,off,h=>by
  simp only[rds] at h ⊢
  obtain⟨⟨u,h1,h2,h3⟩,h4⟩:=h
  refine⟨⟨u,?_,h2,h3⟩,Nk ds b o k (off+1) (by rw[←Nat.add_assoc];exact h4)⟩
  rw[Addr.add_lit] at h1 ⊢
  rw[show o+k+off=o+(k+off) by omega]
  exact h1
section
variable{γ:Gm}{S S':Nat→Prop}{w:World}{h:Heap}
theorem Tg(m:Mm h γ S w){x y:X}{v:Value}(hx:x.vr γ w S v)(hs:jT h x=some y)(hS:∀k,S k→S' k)(hS':x.roC=true∨∀id g,γ (.inl id)=some g→∀k∈g.bl,S' k):y.vr (fun _=>none) w S' v∧(∀φ:Id→Path→Prop,y.allp φ)∧v.oneCell'=true:=by
 unfold jT at hs
 split at hs
 ·simp only[oi] at hs
  subst hs
  simp only[X.vr] at hx ⊢
  exact⟨hx,fun φ=>by simp only[X.allp],by rw[hx.1];exact hx.2⟩
 ·simp only[oi] at hs
  subst hs
  simp only[X.vr] at hx ⊢
  exact⟨D.rd_congr (fun k hk=>⟨hS k hk,rfl⟩) _ _ hx,fun φ=>by simp only[X.allp],Ee hx⟩
 ·simp only[oi] at hs
  subst hs
  simp only[X.vr] at hx
  rw[hx.2]
  exact⟨by simp only[X.vr,D.rd];exact⟨none,0,rfl,by simp,by simp,⟨0,by simp⟩,by simp[dN]⟩,fun φ=>by simp only[X.allp],rfl⟩
 ·simp only[oi] at hs
  subst hs
  simp only[X.vr] at hx ⊢
  exact⟨hx,fun φ=>by simp only[X.allp],hx⟩
 ·rename_i id p
  simp only[aC] at hs
  obtain⟨r,h1,rfl⟩:=hs
  obtain⟨b,els,h2,h3⟩:=m.row h1
  simp only[X.vr] at hx
  have hok:=m.nav_ok h2
  have hv:=(hx.2 _ h2).1
  have hall:∀id g,γ (.inl id)=some g→∀k∈g.bl,S' k:=hS'.resolve_left (by simp[X.roC])
  have h2':=h2
  simp only[Gm.nav,aA] at h2'
  obtain⟨g0,h4,h5⟩:=h2'
  have:=D9 (S':=S') hS _ hok (fun k hk=>hall id g0 h4 k (Kh _ _ _ h5 k hk))
  simp only[G.er] at this
  rw[hv,zXC,h3] at this
  exact⟨by simp only[X.vr];exact Rf (.r r.2) v this,fun φ=>by simp only[X.allp],hx.1⟩
 ·rename_i id q j i
  simp only[aA,aC] at hs
  obtain⟨r,h1,el,hel,rfl⟩:=hs
  obtain⟨b,els,h2,h3⟩:=m.row h1
  simp only[X.vr] at hx
  obtain⟨ad,rfl,had⟩:=hx
  have hok:=m.nav_ok h2
  have hall:∀id g,γ (.inl id)=some g→∀k∈g.bl,S' k:=hS'.resolve_left (by simp[X.roC])
  have h2':=h2
  simp only[Gm.nav,aA] at h2'
  obtain⟨g0,h4,h5⟩:=h2'
  have hrd:=D9 (S':=S') hS _ hok (fun k hk=>hall id g0 h4 k (Kh _ _ _ h5 k hk))
  have hlen:∀e∈r.2,e.length=r.1:=fun e he=>by
   rw[←h3,cC,List.mem_map] at he
   obtain⟨ge,hge,rfl⟩:=he
   rw[←gH,dP]
   simp only[G.ok] at hok
   exact hok.2.1 ge hge
  cases b with
  |none =>
   simp only[G.ok] at hok
   rw[hok.1] at h3
   rw[←h3] at hel
   simp[b9] at hel
  |some b =>
   have hade:=had _ _ _ h2
   subst hade
   simp only[G.er,G.val,D.rd,h3] at hrd
   obtain⟨A,cp,hv,_,_,_,hss⟩:=hrd
   simp only[Value.slice.injEq] at hv
   obtain⟨hA,_⟩:=hv
   subst hA
   obtain⟨a',ha',hr1⟩:=Vo (sz:=r.1) r.2 _ 0 j el hlen hss hel
   simp only[oi] at ha'
   subst ha'
   have hr2:=Nk _ _ _ (j*r.1+i) 0 (by simpa using zz3 el i _ _ hr1)
   refine⟨by simp only[X.vr];exact⟨_,rfl,Ph _ _ _ hr2⟩,fun φ=>by simp only[X.allp],rfl⟩
 ·simp at hs
theorem Sq(m:Mm h γ S w)(hS:∀k,S k→S' k):∀{xs ys:List X} {vs:List Value},vrs γ w S xs vs→tU h xs=some ys→(Cs xs=true∨∀id g,γ (.inl id)=some g→∀k∈g.bl,S' k)→vrs (fun _=>none) w S' ys vs∧(∀φ:Id→Path→Prop,aR φ ys)∧∀u∈vs,u.oneCell'=true
 |[],ys,[],_,hs,_=>by
  simp only[tU,oi] at hs
  subst hs
  exact⟨by simp[vrs],fun φ=>by simp[aR],by simp⟩
 |x::xs,ys,v::vs,hv,hs,hr=>by
  simp only[tU,aA,aC] at hs
  obtain⟨y,h1,zs,h2,rfl⟩:=hs
  simp only[vrs] at hv
  obtain⟨h3,h4,h5⟩:=Tg m hv.1 h1 hS (hr.imp (fun h=>by simp only[Cs,bE] at h;exact h.1) (fun h=>h))
  obtain⟨h6,h7,h8⟩:=Sq m hS hv.2 h2 (hr.imp (fun h=>by simp only[Cs,bE] at h;exact h.2) (fun h=>h))
  exact⟨by simp only[vrs];exact⟨h3,h6⟩,fun φ=>by simp only[aR];exact⟨h4 φ,h7 φ⟩,fun u hu=>by rcases List.mem_cons.1 hu with rfl|hu;exact h5;exact h8 u hu⟩
 |[],_,_::_,h,_,_=>by simp[vrs] at h
 |_::_,_,[],h,_,_=>by simp[vrs] at h
theorem zzy(m:Mm h γ S w){x y:X}{v:Value}(hx:x.vr γ w S v)(hs:xO h x=some y)(hS:∀k,S k→S' k)(hS':x.roV=true∨∀id g,γ (.inl id)=some g→∀k∈g.bl,S' k):y.vr (fun _=>none) w S' v∧(∀φ:Id→Path→Prop,y.allp φ):=by
 unfold xO at hs
 split at hs
 ·rename_i cs
  simp only[aC] at hs
  obtain⟨ys,h1,rfl⟩:=hs
  simp only[X.vr] at hx
  obtain⟨vs,rfl,h2,h3⟩:=hx
  obtain⟨h4,h5,_⟩:=Sq m hS h2 h1 hS'
  exact⟨by simp only[X.vr];exact⟨vs,rfl,h4,h3⟩,fun φ=>by simp only[X.allp];exact h5 φ⟩
 ·rename_i hna
  have hro:x.roV=true→x.roC=true:=fun h=>by
   cases x<;>simp_all[X.roV]
  obtain⟨h1,h2,_⟩:=Tg m hx hs hS (hS'.imp hro (fun h=>h))
  exact⟨h1,h2⟩
theorem Jx(m:Mm h γ S w)(hS:∀k,S k→S' k):∀{xs ys:List X} {vs:List Value},vrs γ w S xs vs→jV h xs=some ys→(gY xs=true∨∀id g,γ (.inl id)=some g→∀k∈g.bl,S' k)→vrs (fun _=>none) w S' ys vs∧∀φ:Id→Path→Prop,aR φ ys
 |[],ys,[],_,hs,_=>by
  simp only[jV,oi] at hs
  subst hs
  exact⟨by simp[vrs],fun φ=>by simp[aR]⟩
 |x::xs,ys,v::vs,hv,hs,hr=>by
  simp only[jV,aA,aC] at hs
  obtain⟨y,h1,zs,h2,rfl⟩:=hs
  simp only[vrs] at hv
  obtain⟨h3,h4⟩:=zzy m hv.1 h1 hS (hr.imp (fun h=>by simp only[gY,bE] at h;exact h.1) (fun h=>h))
  obtain⟨h6,h7⟩:=Jx m hS hv.2 h2 (hr.imp (fun h=>by simp only[gY,bE] at h;exact h.2) (fun h=>h))
  exact⟨by simp only[vrs];exact⟨h3,h6⟩,fun φ=>by simp only[aR];exact⟨h4 φ,h7 φ⟩⟩
 |[],_,_::_,h,_,_=>by simp[vrs] at h
 |_::_,_,[],h,_,_=>by simp[vrs] at h
end
def X.own:X→Bool
 |.d (.s _ _)=>true
 |_=>false
def Gj(γ:Gm)(w:World)(S:Nat→Prop)(x:X)(v:Value)(is:List GId):Prop :=
 (x.own=false∧is=[]∧x.vr γ w S v)∨∃sz els i g,x= .d (.s sz els)∧is=[i]∧γ i=some g∧(∃n,i= .inr n)∧g.er= .s sz els∧g.val=v
def fP(γ:Gm)(w:World)(S:Nat→Prop):List X→List Value→List GId→Prop
 |[],[],is=>is=[]
 |x::xs,v::vs,is=>∃i1 i2,is=i1++i2∧Gj γ w S x v i1∧fP γ w S xs vs i2
 |_,_,_=>False
def dM(γ:Gm)(w:World)(S:Nat→Prop):X→Value→List GId→Prop
 |.agg cs,v,is=>∃vs:List Value,v= .agg vs.toArray∧fP γ w S cs vs is∧∀u∈vs,u.oneCell'=true
 |x,v,is=>Gj γ w S x v is
def eN(γ:Gm)(w:World)(S:Nat→Prop):List X→List Value→List GId→Prop
 |[],[],is=>is=[]
 |x::xs,v::vs,is=>∃i1 i2,is=i1++i2∧dM γ w S x v i1∧eN γ w S xs vs i2
 |_,_,_=>False
def cQ(γ:Gm)(w:World)(S:Nat→Prop):X→Value→List GId→Prop
 |.tup cs,v,is=>∃vs:List Value,v= .tuple vs.toArray∧eN γ w S cs vs is
 |x,v,is=>dM γ w S x v is
structure ResTo (γ γ':Gm) (w w':World) (S S':Nat→Prop) (φ:Id→Path→Prop):Prop where
 same:∀id p,φ id p→Same γ γ' id p
 hS:∀k,S k→S' k∧w'.heap[k]? = w.heap[k]?
theorem oR{γ γ':Gm}{w w':World}{S S':Nat→Prop}{φ:Id→Path→Prop}(t:ResTo γ γ' w w' S S' φ){x:X}{v:Value}{is:List GId}(hφ:x.allp φ)(hr:Gj γ w S x v is)(hk:∀i∈is,γ' i=γ i):Gj γ' w' S' x v is:=by
 rcases hr with⟨h1,h2,h3⟩|⟨sz,els,i,g,h1,h2,h3,h4,h5,h6⟩
 ·exact .inl ⟨h1,h2,fH t.hS x v (bK t.same x hφ) h3⟩
 ·subst h2
  exact .inr ⟨sz,els,i,g,h1,rfl,(hk i (by simp)).trans h3,h4,h5,h6⟩
theorem Qv{γ γ':Gm}{w w':World}{S S':Nat→Prop}{φ:Id→Path→Prop}(t:ResTo γ γ' w w' S S' φ):∀{xs:List X} {vs:List Value} {is:List GId},aR φ xs→fP γ w S xs vs is→(∀i∈is,γ' i=γ i)→fP γ' w' S' xs vs is
 |[],[],is,_,hr,_=>hr
 |x::xs,v::vs,is,hφ,hr,hk=>by
  simp only[fP,aR] at hr hφ ⊢
  obtain⟨i1,i2,rfl,h1,h2⟩:=hr
  exact⟨i1,i2,rfl,oR t hφ.1 h1 (fun i hi=>hk i (by simp[hi])),Qv t hφ.2 h2 (fun i hi=>hk i (by simp[hi]))⟩
 |[],_::_,_,_,h,_=>by simp[fP] at h
 |_::_,[],_,_,h,_=>by simp[fP] at h
theorem fG{γ γ':Gm}{w w':World}{S S':Nat→Prop}{φ:Id→Path→Prop}(t:ResTo γ γ' w w' S S' φ){x:X}{v:Value}{is:List GId}(hφ:x.allp φ)(hr:dM γ w S x v is)(hk:∀i∈is,γ' i=γ i):dM γ' w' S' x v is:=by
 cases x with
 |agg cs =>
  simp only[dM,X.allp] at hr hφ ⊢
  obtain⟨vs,h1,h2,h3⟩:=hr
  exact⟨vs,h1,Qv t hφ h2 hk,h3⟩
 |d x=>exact oR t hφ (by simpa[dM] using hr) hk
 |tup cs=>exact oR t hφ (by simpa[dM] using hr) hk
 |ref id p=>exact oR t hφ (by simpa[dM] using hr) hk
 |ptr id q j i=>exact oR t hφ (by simpa[dM] using hr) hk
 |rop cs=>exact oR t hφ (by simpa[dM] using hr) hk
 |vp cs=>exact oR t hφ (by simpa[dM] using hr) hk
 |clo f cs=>exact oR t hφ (by simpa[dM] using hr) hk
theorem Hm{γ γ':Gm}{w w':World}{S S':Nat→Prop}{φ:Id→Path→Prop}(t:ResTo γ γ' w w' S S' φ):∀{xs:List X} {vs:List Value} {is:List GId},aR φ xs→eN γ w S xs vs is→(∀i∈is,γ' i=γ i)→eN γ' w' S' xs vs is
 |[],[],is,_,hr,_=>hr
 |x::xs,v::vs,is,hφ,hr,hk=>by
  simp only[eN,aR] at hr hφ ⊢
  obtain⟨i1,i2,rfl,h1,h2⟩:=hr
  exact⟨i1,i2,rfl,fG t hφ.1 h1 (fun i hi=>hk i (by simp[hi])),Hm t hφ.2 h2 (fun i hi=>hk i (by simp[hi]))⟩
 |[],_::_,_,_,h,_=>by simp[eN] at h
 |_::_,[],_,_,h,_=>by simp[eN] at h
structure TookF (h h':Heap) (γ γ':Gm) (S:Nat→Prop) (w:World) (is:List GId):Prop where
 mm:Mm h' γ' S w
 some:∀i∈is,(∃n,i= .inr n)∧(γ' i).isSome=true
 nd:is.Nodup
 new:∀j,Flo h j→(γ j).isSome=true→j∉is∧γ' j=γ j
 mono:∀id,h id=none→h' id=none
 same:∀id p,Same γ γ' id p
 sub:Sub γ' γ
theorem zzL{h:Heap}{i:GId}(hi:∃n,i= .inr n):Flo h i:=fun id e=>by obtain⟨n,rfl⟩:=hi;simp at e
theorem TookF.refl{h:Heap}{γ:Gm}{S:Nat→Prop}{w:World}(m:Mm h γ S w):TookF h h γ γ S w [] :=
 ⟨m,by simp,by simp,fun j _ _=>⟨by simp,rfl⟩,fun _ h=>h,fun id p=>Same.refl γ id p,Sub.refl γ⟩
theorem TookF.of{h h':Heap}{γ γ':Gm}{S:Nat→Prop}{w:World}{i:GId}{g:G}(t:Took h h' γ γ' S w i g):TookF h h' γ γ' S w [i] :=
 ⟨t.mm,fun j hj=>by rw[List.mem_singleton] at hj;subst hj;exact⟨t.isr,by rw[t.at_];rfl⟩,by simp,fun j hj hs=>⟨by simp[(t.new j hj hs).1],(t.new j hj hs).2⟩,t.mono,t.same,t.sub⟩
theorem TookF.trans{h h1 h2:Heap}{γ γ1 γ2:Gm}{S:Nat→Prop}{w:World}{i1 i2:List GId}(t1:TookF h h1 γ γ1 S w i1)(t2:TookF h1 h2 γ1 γ2 S w i2):TookF h h2 γ γ2 S w (i1++i2)∧∀i∈i1,γ2 i=γ1 i:=by
 have key:∀i∈i1,i∉i2∧γ2 i=γ1 i:=fun i hi=>t2.new i (zzL (t1.some i hi).1) (t1.some i hi).2
 refine⟨⟨t2.mm,fun i hi=> ?_,List.nodup_append.2 ⟨t1.nd,t2.nd,fun a ha b hb e=> ?_⟩,fun j hj hs=> ?_,fun id hid=>t2.mono id (t1.mono id hid),fun id p=>(t1.same id p).trans (t2.same id p),t2.sub.trans t1.sub⟩,fun i hi=>(key i hi).2⟩
 ·rcases List.mem_append.1 hi with hi|hi
  ·exact⟨(t1.some i hi).1,by rw[(key i hi).2];exact(t1.some i hi).2⟩
  ·exact t2.some i hi
 ·subst e
  exact(key a ha).1 hb
 ·obtain⟨a1,a2⟩:=t1.new j hj hs
  obtain⟨a3,a4⟩:=t2.new j (fun id e=>t1.mono id (hj id e)) (by rw[a2];exact hs)
  exact⟨by simp[a1,a3],a4.trans a2⟩
theorem TookF.to{h1 h2:Heap}{γ1 γ2:Gm}{S:Nat→Prop}{w:World}{i2:List GId}(t2:TookF h1 h2 γ1 γ2 S w i2):ResTo γ1 γ2 w w S S (fun _ _=>True) :=
 ⟨fun id p _=>t2.same id p,fun k hk=>⟨hk,rfl⟩⟩
theorem zzt(x:X):x.allp (fun _ _=>True):=cM (fun _ _=>trivial) x
section
variable{S:Nat→Prop}{w:World}{fr:Nat}{A:Id→Prop}
theorem zR{h h':Heap}{γ:Gm}(m:Mm h γ S w){x y:X}{v:Value}(hx:x.vr γ w S v)(hi:x.allp (fun id _=>(id.1<fr∧A id)∨id.1=fr))(hf:kO fr h x=some (y,h')) :
  ∃γ' is,TookF h h' γ γ' S w is∧Gj γ' w S y v is∧y.allp (fun id _=>id.1<fr∧A id):=by
 unfold kO at hf
 split at hf
 ·rename_i id q j i
  split at hf
  ·simp at hf
  ·rename_i hne
   simp only[oi,zqb] at hf
   obtain⟨rfl,rfl⟩:=hf
   simp only[X.allp] at hi
   exact⟨γ,[],TookF.refl m,.inl ⟨rfl,rfl,hx⟩,by simp only[X.allp];exact hi.resolve_right hne⟩
 ·rename_i id p
  split at hf
  ·simp only[aC] at hf
   obtain⟨⟨d,h1⟩,h2,h3⟩:=hf
   simp only[zqb] at h3
   obtain⟨rfl,rfl⟩:=h3
   simp only[X.vr] at hx
   obtain⟨γ',i,g,t,e1,e2,sz,b,els,rfl⟩:=D2 m h2 (fun g hg=>(hx.2 g hg).1)
   subst e1
   exact⟨γ',[i],TookF.of t,.inr ⟨sz,b9 els,i,_,by simp[G.er],rfl,t.at_,t.isr,by simp[G.er],e2⟩,by simp only[X.allp]⟩
  ·rename_i hne
   simp only[oi,zqb] at hf
   obtain⟨rfl,rfl⟩:=hf
   simp only[X.allp] at hi
   exact⟨γ,[],TookF.refl m,.inl ⟨rfl,rfl,hx⟩,by simp only[X.allp];exact hi.resolve_right hne⟩
 ·simp only[oi,zqb] at hf
  obtain⟨rfl,rfl⟩:=hf
  exact⟨γ,[],TookF.refl m,.inl ⟨rfl,rfl,hx⟩,by simp only[X.allp]⟩
 ·simp only[oi,zqb] at hf
  obtain⟨rfl,rfl⟩:=hf
  exact⟨γ,[],TookF.refl m,.inl ⟨rfl,rfl,hx⟩,by simp only[X.allp]⟩
 ·rename_i sz
  simp only[oi,zqb] at hf
  obtain⟨rfl,rfl⟩:=hf
  simp only[X.vr] at hx
  obtain⟨γ',i,t⟩:=mH m (g:= .s sz none []) (by simp[G.ok,fV]) (by simp[G.bl,bS])
  exact⟨γ',[i],TookF.of t,.inr ⟨sz,[],i,_,rfl,rfl,t.at_,t.isr,by simp[G.er,b9],by simp[G.val,hx]⟩,by simp only[X.allp]⟩
 ·simp only[oi,zqb] at hf
  obtain⟨rfl,rfl⟩:=hf
  exact⟨γ,[],TookF.refl m,.inl ⟨rfl,rfl,hx⟩,by simp only[X.allp]⟩
 ·simp at hf
theorem zzV:∀{xs ys:List X} {vs:List Value} {h h':Heap} {γ:Gm},Mm h γ S w→vrs γ w S xs vs→aR (fun id _=>(id.1<fr∧A id)∨id.1=fr) xs→K7 fr h xs=some (ys,h') →
  ∃γ' is,TookF h h' γ γ' S w is∧fP γ' w S ys vs is∧aR (fun id _=>id.1<fr∧A id) ys
 |[],ys,[],h,h',γ,m,_,_,hf=>by
  simp only[K7,oi,zqb] at hf
  obtain⟨rfl,rfl⟩:=hf
  exact⟨γ,[],TookF.refl m,by simp[fP],by simp[aR]⟩
 |x::xs,ys,v::vs,h,h',γ,m,hv,hi,hf=>by
  simp only[K7,aA,aC] at hf
  obtain⟨⟨y,h1⟩,h2,⟨zs,h3⟩,h4,h5⟩:=hf
  simp only[zqb] at h5
  obtain⟨rfl,rfl⟩:=h5
  simp only[vrs,aR] at hv hi
  obtain⟨γ1,i1,t1,r1,a1⟩:=zR m hv.1 hi.1 h2
  obtain⟨γ2,i2,t2,r2,a2⟩:=zzV t1.mm (fQ (fun k hk=>⟨hk,rfl⟩) xs vs (fM t1.same xs) hv.2) hi.2 h4
  obtain⟨t3,hk⟩:=t1.trans t2
  exact⟨γ2,i1++i2,t3,by simp only[fP];exact⟨i1,i2,rfl,oR t2.to (zzt y) r1 hk,r2⟩,by simp only[aR];exact⟨a1,a2⟩⟩
 |[],_,_::_,_,_,_,_,h,_,_=>by simp[vrs] at h
 |_::_,_,[],_,_,_,_,h,_,_=>by simp[vrs] at h
theorem zWA{h h':Heap}{γ:Gm}(m:Mm h γ S w){x y:X}{v:Value}(hx:x.vr γ w S v)(hi:x.allp (fun id _=>(id.1<fr∧A id)∨id.1=fr))(hf:nQ fr h x=some (y,h')) :
  ∃γ' is,TookF h h' γ γ' S w is∧dM γ' w S y v is∧y.allp (fun id _=>id.1<fr∧A id):=by
 cases x with
 |agg cs =>
  simp only[nQ,aC] at hf
  obtain⟨⟨ys,h1⟩,h2,h3⟩:=hf
  simp only[zqb] at h3
  obtain⟨rfl,rfl⟩:=h3
  simp only[X.vr,X.allp] at hx hi
  obtain⟨vs,rfl,h4,h5⟩:=hx
  obtain⟨γ',is,t,r,a⟩:=zzV m h4 hi h2
  exact⟨γ',is,t,by simp only[dM];exact⟨vs,rfl,r,h5⟩,by simp only[X.allp];exact a⟩
 |d x =>
  obtain⟨γ',is,t,r,a⟩:=zR m hx hi (by simpa[nQ] using hf)
  refine⟨γ',is,t,?_,a⟩
  cases y<;>first|exact r|(rcases r with⟨_,_,r⟩|⟨_,_,_,_,e,_⟩<;>first|(cases e;done)|skip)
  ·simp only[nQ,kO] at hf
   split at hf<;>simp_all
 |tup cs=>simp[nQ,kO] at hf
 |ref id p =>
  obtain⟨γ',is,t,r,a⟩:=zR m hx hi (by simpa[nQ] using hf)
  refine⟨γ',is,t,?_,a⟩
  cases y<;>first|exact r|(simp only[nQ,kO] at hf;split at hf<;>simp_all[aC])
 |ptr id q j i =>
  obtain⟨γ',is,t,r,a⟩:=zR m hx hi (by simpa[nQ] using hf)
  refine⟨γ',is,t,?_,a⟩
  cases y<;>first|exact r|(simp only[nQ,kO] at hf;split at hf<;>simp_all)
 |rop cs =>
  obtain⟨γ',is,t,r,a⟩:=zR m hx hi (by simpa[nQ] using hf)
  refine⟨γ',is,t,?_,a⟩
  cases y<;>first|exact r|(simp[nQ,kO] at hf)
 |vp cs=>simp[nQ,kO] at hf
 |clo f cs=>simp[nQ,kO] at hf
theorem Hi:∀{xs ys:List X} {vs:List Value} {h h':Heap} {γ:Gm},Mm h γ S w→vrs γ w S xs vs→aR (fun id _=>(id.1<fr∧A id)∨id.1=fr) xs→oD fr h xs=some (ys,h') →
  ∃γ' is,TookF h h' γ γ' S w is∧eN γ' w S ys vs is∧aR (fun id _=>id.1<fr∧A id) ys
 |[],ys,[],h,h',γ,m,_,_,hf=>by
  simp only[oD,oi,zqb] at hf
  obtain⟨rfl,rfl⟩:=hf
  exact⟨γ,[],TookF.refl m,by simp[eN],by simp[aR]⟩
 |x::xs,ys,v::vs,h,h',γ,m,hv,hi,hf=>by
  simp only[oD,aA,aC] at hf
  obtain⟨⟨y,h1⟩,h2,⟨zs,h3⟩,h4,h5⟩:=hf
  simp only[zqb] at h5
  obtain⟨rfl,rfl⟩:=h5
  simp only[vrs,aR] at hv hi
  obtain⟨γ1,i1,t1,r1,a1⟩:=zWA m hv.1 hi.1 h2
  obtain⟨γ2,i2,t2,r2,a2⟩:=Hi t1.mm (fQ (fun k hk=>⟨hk,rfl⟩) xs vs (fM t1.same xs) hv.2) hi.2 h4
  obtain⟨t3,hk⟩:=t1.trans t2
  exact⟨γ2,i1++i2,t3,by simp only[eN];exact⟨i1,i2,rfl,fG t2.to (zzt y) r1 hk,r2⟩,by simp only[aR];exact⟨a1,a2⟩⟩
 |[],_,_::_,_,_,_,_,h,_,_=>by simp[vrs] at h
 |_::_,_,[],_,_,_,_,h,_,_=>by simp[vrs] at h
end
section
variable{γ:Gm}{S S':Nat→Prop}{w:World}{h:Heap}
theorem zwo:∀(ds:List D) (a:Addr) (off:Nat),rds w S a off ds→rds w S a off (ds.map D.du)
 |[],a,off,_=>by simp[rds]
 |d::ds,a,off,h=>by
  simp only[rds,mc] at h ⊢
  obtain⟨⟨u,h1,h2,h3⟩,h4⟩:=h
  refine⟨⟨u,h1,h2,?_⟩,zwo ds a _ h4⟩
  cases d with
  |v x=>exact h3
  |_=>simp only[D.du,D.rd];exact Ee h3
theorem zzH:∀(els:List (List D)) (A:Option Addr) (off:Nat),dN w S A off els→dN w S A off (els.map fun el=>el.map D.du)
 |[],A,off,_=>by simp[dN]
 |el::els,A,off,h=>by
  simp only[dN,mc] at h ⊢
  obtain⟨⟨a,h1,h2⟩,h3⟩:=h
  exact⟨⟨a,h1,zwo el a off h2⟩,by rw[lm];exact zzH els A _ h3⟩
theorem z9D{x:X}{v:Value}(h:x.vr γ w S v):x.du.vr γ w S v:=by
 unfold X.du
 split
 ·simp only[X.vr,D.rd] at h ⊢
  obtain⟨A,c,h1,h2,h3,⟨sz,h4⟩,h5⟩:=h
  refine⟨A,c,by rw[lm];exact h1,by rw[lm];exact h2,h3,⟨sz,fun el hel=> ?_⟩,zzH _ A _ h5⟩
  obtain⟨e,he,rfl⟩:=List.mem_map.1 hel
  rw[lm];exact h4 e he
 ·exact h
theorem zKX{x:X}{φ:Id→Path→Prop}(h:x.allp φ):x.du.allp φ:=by
 unfold X.du
 split
 ·simp only[X.allp]
 ·exact h
theorem zZR:∀{xs:List X} {vs:List Value},vrs γ w S xs vs→vrs γ w S (xs.map X.du) vs
 |[],[],h=>h
 |x::xs,v::vs,h=>by
  simp only[vrs,mc] at h ⊢
  exact⟨z9D h.1,zZR h.2⟩
 |[],_::_,h=>by simp[vrs] at h
 |_::_,[],h=>by simp[vrs] at h
theorem T4{φ:Id→Path→Prop}:∀{xs:List X},aR φ xs→aR φ (xs.map X.du)
 |[],h=>h
 |x::xs,h=>by
  simp only[aR,mc] at h ⊢
  exact⟨zKX h.1,T4 h.2⟩
end
open Go.RowKit
structure CallPost (A:Id→Prop) (γ:Gm) (S:Nat→Prop) (w:World) (h:Heap) (fr:Nat) (r:X) (h':Heap) (v:Value) (w':World) (γ':Gm) (S':Nat→Prop) (is:List GId):Prop where
 mm:Mm h' γ' S' w'
 res:cQ γ' w' S' r v is
 nd:is.Nodup
 ids:r.allp (fun id _=>id.1<fr∧A id)
 os:w'.os=w.os
 tape:w'.tape=w.tape
 output:w'.output=w.output
 size:w.heap.size≤w'.heap.size
 keep:∀k,k<w.heap.size→¬Bl γ k→w'.heap[k]? = w.heap[k]?
 own:∀k,Bl γ' k→Bl γ k∨w.heap.size≤k
 hd:∀id:Id,id.1<fr→Same γ γ' id []
 s0:∀k,S k→S' k
 sg:∀k,S' k→S k∨w.heap.size≤k
 dom:∀id:Id,id.1<fr→h id=none→h' id=none
 low:∀id d,h' id=some d→id.1<fr
def gN(P:Program)(f:Nat):Prop:=∃fn,P.funcs[f]? = some fn∧¬fn.name= "runtime.NumGoroutine" ∧ ¬fn.body=none
def CallOk(P:Program)(C:Cl):Prop:=∀f args h fr r h',C f args h fr=some (r,h')→gN P f∧∀A γ S w vs,Mm h γ S w→vrs γ w S args vs→aR (fun id _=>id.1<fr∧A id) args→(∀id d,h id=some d→id.1<fr∧A id) →
 Calls P f vs.toArray w fun e w'=>∃v γ' S' is,e= .returned v∧CallPost A γ S w h fr r h' v w' γ' S' is
section
variable{c:Ctx}{st st':St}{U:Nat→Prop}{γ:Gm}{S:Nat→Prop}{a:Act}{w:World}{C:Cl}{o:Oper}{id:Nat}
theorem Mm.place{h:Heap}(m:Mm h γ S w){i:GId}{g:G}(hi:γ i=some g)(hr:∃n,i= .inr n)(id:Id):Mm (upd h id (some g.er)) (upd (rem γ [i]) (.inl id) (some g)) S w :=
 m.regroup (S':=S) (w':=w) [i] (by simpa using zzL hr) (m.ok _ _ hi) (m.nd _ _ hi) (fun k hk=> .inl ⟨i,by simp,g,hi,hk⟩) (fun _ _ _ _ _ _=>rfl) (fun k hk=>⟨hk,rfl⟩) (fun k hk=>⟨(m.sd k hk).1,(m.sd k hk).2 _ _ hi,fun i g hi _=>(m.sd k hk).2 i g hi⟩) id
structure Imp (c:Ctx) (st:St) (γ γ':Gm) (S:Nat→Prop) (a:Act) (w:World) (U':Nat→Prop) (h':Heap) (is:List GId) (n m:Nat):Prop where
 rep:Rep c (st.with h') U' γ' S a w
 keep:∀j,(∃q,j= .inr q)→j∉is→γ' j=γ j
 same:∀(id:Id) p,(id.1=st.fr→¬(n≤id.2∧id.2<n+m))→Same γ γ' id p
abbrev UB(U:Nat→Prop)(n m:Nat):Nat→Prop:=fun k=>U k∨(n≤k∧k<n+m)
theorem Imp.refl(R:Rep c st U γ S a w){n m:Nat}:Imp c st γ γ S a w (UB U n m) st.heap [] n m :=
 ⟨R.mono (fun k h=> .inl h),fun _ _ _=>rfl,fun id p _=>Same.refl γ id p⟩
theorem oN(R:Rep c st U γ S a w){x:X}{v:Value}{is:List GId}(hr:Gj γ w S x v is)(hi:x.allp (fun id _=>eS c.A st.fr U id)){n:Nat}(hn:¬U n) :
  ∃γ',Imp c st γ γ' S a w (UB U n 1) (iS st.heap (st.fr,n) x).2 is n 1∧(iS st.heap (st.fr,n) x).1.vr γ' w S v∧(iS st.heap (st.fr,n) x).1.allp (fun id _=>eS c.A st.fr (UB U n 1) id):=by
 rcases hr with⟨h1,rfl,h2⟩|⟨sz,els,i,g,rfl,rfl,h3,h4,h5,h6⟩
 ·have hx:iS st.heap (st.fr,n) x=(x,st.heap):=by
   unfold iS
   split
   ·simp[X.own] at h1
   ·rfl
  rw[hx]
  exact⟨γ,⟨R.mono (fun k h=> .inl h),fun _ _ _=>rfl,fun id p _=>Same.refl γ id p⟩,h2,bK (fun id _ h=>h.imp (fun h=>h) (fun h=>⟨h.1,.inl h.2⟩)) x hi⟩
 ·simp only[iS]
  have hM:=R.mm.place h3 h4 (st.fr,n)
  rw[h5] at hM
  have hR:=R.change (U':=UB U n 1) hM rfl rfl rfl (Nat.le_refl _) (fun _ _ _=>rfl) (fun k ⟨j,g',g1,g2⟩=> ?_) (fun t x hx=>bK (fun id p h=>Same.regroup id p h) x (Ef R hn t x hx)) (fun id hid=> ?_) (fun k h=>h) (fun k h=> .inl h) (fun id d hd=> ?_) (fun k h=> .inl h) (fun id hid h0=> ?_)
  ·refine⟨_,⟨hR,fun j hj hji=> ?_,fun id p hid=> ?_⟩,?_,?_⟩
   ·obtain⟨q,rfl⟩:=hj
    have:rem γ [i] (.inr q)=γ (.inr q):=by
     unfold rem
     rw[if_neg hji]
    simp[upd,this]
   ·refine Same.regroup id p fun e=> ?_
    subst e
    exact hid rfl ⟨Nat.le_refl _,by omega⟩
   ·simp only[X.vr]
    refine⟨by rw[←h6];exact lQ (R.mm.ok _ _ h3),fun g' hg'=> ?_⟩
    simp only[Gm.nav,upd,if_true,obs,G.nav,oi] at hg'
    subst hg'
    refine⟨h6,?_⟩
    cases g with
    |s sz b els=>rfl
    |l d v =>
     have:=R.mm.ok _ _ h3
     simp only[G.ok] at this
     simp only[G.er] at h5
     subst h5
     simp[D.leaf] at this
   ·simp only[X.allp]
    exact .inr ⟨rfl,.inr ⟨Nat.le_refl _,by omega⟩⟩
  ·unfold upd at g1
   split at g1
   ·simp only[oi] at g1
    subst g1
    exact .inl ⟨i,g,h3,g2⟩
   ·rw[bY] at g1
    exact .inl ⟨j,g',g1.2,g2⟩
  ·have:id≠(st.fr,n):=fun e=>by rw[e] at hid;simp at hid
   exact Same.regroup id [] this
  ·unfold upd at hd
   split at hd
   ·rename_i e
    subst e
    exact .inr ⟨rfl,.inr ⟨Nat.le_refl _,by omega⟩⟩
   ·exact(R.hid id d hd).imp (fun h=>h) (fun h=>⟨h.1,.inl h.2⟩)
  ·have hne:id≠(st.fr,n):=fun e=>by rw[e] at hid;simp at hid
   simp only[upd,hne,if_false]
   exact h0
theorem Imp.trans{γ1 γ2:Gm}{U1 U2:Nat→Prop}{h1 h2:Heap}{i1 i2:List GId}{n m m':Nat}(p1:Imp c st γ γ1 S a w U1 h1 i1 n m)(p2:Imp c (st.with h1) γ1 γ2 S a w U2 h2 i2 (n+m) m')(hU:∀k,U2 k→UB U n (m+m') k):Imp c st γ γ2 S a w (UB U n (m+m')) h2 (i1++i2) n (m+m') :=
 ⟨p2.rep.mono hU,fun j hj hji=>(p2.keep j hj (fun h=>hji (by simp[h]))).trans (p1.keep j hj (fun h=>hji (by simp[h]))),fun id p hid=>(p1.same id p (fun e h=>hid e ⟨h.1,by omega⟩)).trans (p2.same id p (fun e h=>hid e ⟨by omega,by omega⟩))⟩
theorem zzz:∀{xs:List X} {st:St} {U:Nat→Prop} {γ:Gm} {vs:List Value} {is:List GId} {n:Nat},Rep c st U γ S a w→fP γ w S xs vs is→is.Nodup→aR (fun id _=>eS c.A st.fr U id) xs→(∀k,n≤k→k<n+xs.length→¬U k) →
  ∃γ',Imp c st γ γ' S a w (UB U n xs.length) (tE st.heap (st.fr,n) xs).2 is n xs.length∧vrs γ' w S (tE st.heap (st.fr,n) xs).1 vs∧aR (fun id _=>eS c.A st.fr (UB U n xs.length) id) (tE st.heap (st.fr,n) xs).1
 |[],st,U,γ,vs,is,n,R,hr,hnd,hi,hn=>by
  cases vs with
  |nil =>
   simp only[fP] at hr
   subst hr
   exact⟨γ,Imp.refl R,by simp[tE,vrs],by simp[tE,aR]⟩
  |cons v vs=>simp[fP] at hr
 |x::xs,st,U,γ,vs,is,n,R,hr,hnd,hi,hn=>by
  cases vs with
  |nil=>simp[fP] at hr
  |cons v vs =>
   simp only[fP] at hr
   obtain⟨i1,i2,rfl,r1,r2⟩:=hr
   simp only[aR] at hi
   obtain⟨hnd1,hnd2,hdis⟩:=List.nodup_append.1 hnd
   obtain⟨γ1,p1,v1,a1⟩:=oN R r1 hi.1 (n:=n) (hn n (Nat.le_refl _) (by simp))
   have hinr:∀j∈i2,∃q,j=(Sum.inr q:GId):=by
    have:∀{xs:List X} {vs:List Value} {is:List GId},fP γ w S xs vs is→∀j∈is,∃q,j= .inr q:=by
     intro xs
     induction xs with
     |nil=>intro vs is h j hj;cases vs<;>simp[fP] at h;subst h;simp at hj
     |cons x xs ih =>
      intro vs is h j hj
      cases vs with
      |nil=>simp[fP] at h
      |cons v vs =>
       simp only[fP] at h
       obtain⟨i1,i2,rfl,r1,r2⟩:=h
       rcases List.mem_append.1 hj with hj|hj
       ·rcases r1 with⟨_,rfl,_⟩|⟨_,_,i,_,_,rfl,_,hq,_⟩
        ·simp at hj
        ·rw[List.mem_singleton] at hj;subst hj;exact hq
       ·exact ih r2 j hj
    exact this r2
   have hfresh:∀k,n+1≤k→k<n+1+xs.length→¬UB U n 1 k:=fun k h1 h2 h3=>by
    rcases h3 with h3|h3
    ·exact hn k (by omega) (by simp;omega) h3
    ·omega
   have r2':fP γ1 w S xs vs i2:=Qv (φ:=fun id _=>eS c.A st.fr U id) ⟨fun id p hid=>p1.same id p (fun e h=>by
     rcases hid with hid|hid
     ·omega
     ·exact hn id.2 (by omega) (by simp;omega) hid.2),fun k hk=>⟨hk,rfl⟩⟩ hi.2 r2 (fun j hj=>p1.keep j (hinr j hj) (fun h=>hdis j h j hj rfl))
   obtain⟨γ2,p2,v2,a2⟩:=zzz (st:=st.with (iS st.heap (st.fr,n) x).2) (n:=n+1) p1.rep r2' hnd2 (fC (fun id _ h=>h.imp (fun h=>h) (fun h=>⟨h.1,.inl h.2⟩)) xs hi.2) hfresh
   have p3:=p1.trans (U:=U) p2 (fun k h=>by
    rcases h with (h|h)|h
    ·exact .inl h
    ·exact .inr (by omega)
    ·exact .inr (by omega))
   simp only[lc]
   rw[Nat.add_comm xs.length 1]
   refine⟨γ2,p3,?_,?_⟩
   ·simp only[tE,vrs]
    refine⟨fH (fun k hk=>⟨hk,rfl⟩) _ _ (bK (fun id p hid=>p2.same id p (fun e h=> ?_)) _ a1) v1,v2⟩
    rcases hid with hid|hid
    ·have:(st.with (iS st.heap (st.fr,n) x).2).fr=st.fr:=rfl
     omega
    ·exact hfresh id.2 h.1 h.2 hid.2
   ·simp only[tE,aR]
    refine⟨bK (fun id _ h=>h.imp (fun h=>h) (fun h=>⟨h.1,h.2.imp (fun h=>h) (fun h=>by omega)⟩)) _ a1,fC (fun id _ h=>h.imp (fun h=>h) (fun h=>⟨h.1,?_⟩)) _ a2⟩
    rcases h.2 with (h|h)|h
    ·exact .inl h
    ·exact .inr (by omega)
    ·exact .inr (by omega)
theorem qN(R:Rep c st U γ S a w){x:X}{v:Value}{is:List GId}(hr:dM γ w S x v is)(hnd:is.Nodup)(hi:x.allp (fun id _=>eS c.A st.fr U id)){n:Nat}(hn:∀k,n≤k→k<n+x.cells.length→¬U k) :
  ∃γ',Imp c st γ γ' S a w (UB U n x.cells.length) (lJ st.heap (st.fr,n) x).2 is n x.cells.length∧(lJ st.heap (st.fr,n) x).1.vr γ' w S v∧(lJ st.heap (st.fr,n) x).1.allp (fun id _=>eS c.A st.fr (UB U n x.cells.length) id):=by
 cases x with
 |agg cs =>
  simp only[dM,X.allp,X.cells] at hr hi hn ⊢
  obtain⟨vs,rfl,h1,h2⟩:=hr
  obtain⟨γ',p,v1,a1⟩:=zzz R h1 hnd hi hn
  exact⟨γ',p,by simp only[lJ,X.vr];exact⟨vs,rfl,v1,h2⟩,by simp only[lJ,X.allp];exact a1⟩
 |d x=>exact oN R (by simpa only[dM] using hr) hi (hn n (Nat.le_refl _) (by simp[X.cells]))
 |tup cs=>exact oN R (by simpa only[dM] using hr) hi (hn n (Nat.le_refl _) (by simp[X.cells]))
 |ref id p=>exact oN R (by simpa only[dM] using hr) hi (hn n (Nat.le_refl _) (by simp[X.cells]))
 |ptr id q j i=>exact oN R (by simpa only[dM] using hr) hi (hn n (Nat.le_refl _) (by simp[X.cells]))
 |rop cs=>exact oN R (by simpa only[dM] using hr) hi (hn n (Nat.le_refl _) (by simp[X.cells]))
 |vp cs=>exact oN R (by simpa only[dM] using hr) hi (hn n (Nat.le_refl _) (by simp[X.cells]))
 |clo f cs=>exact oN R (by simpa only[dM] using hr) hi (hn n (Nat.le_refl _) (by simp[X.cells]))
theorem T1{γ:Gm}{w:World}{S:Nat→Prop}:∀{xs:List X} {vs:List Value} {is:List GId},fP γ w S xs vs is→∀j∈is,∃q,j= .inr q
 |[],[],is,h,j,hj=>by simp only[fP] at h;subst h;simp at hj
 |x::xs,v::vs,is,h,j,hj=>by
  simp only[fP] at h
  obtain⟨i1,i2,rfl,r1,r2⟩:=h
  rcases List.mem_append.1 hj with hj|hj
  ·rcases r1 with⟨_,rfl,_⟩|⟨_,_,i,_,_,rfl,_,hq,_⟩
   ·simp at hj
   ·rw[List.mem_singleton] at hj;subst hj;exact hq
  ·exact T1 r2 j hj
 |[],_::_,_,h,_,_=>by simp[fP] at h
 |_::_,[],_,h,_,_=>by simp[fP] at h
theorem p5{γ:Gm}{w:World}{S:Nat→Prop}{x:X}{v:Value}{is:List GId}(h:Gj γ w S x v is):∀j∈is,∃q,j= .inr q:=fun j hj=>by
 rcases h with⟨_,rfl,_⟩|⟨_,_,i,_,_,rfl,_,hq,_⟩
 ·simp at hj
 ·rw[List.mem_singleton] at hj;subst hj;exact hq
theorem m8{γ:Gm}{w:World}{S:Nat→Prop}{x:X}{v:Value}{is:List GId}(h:dM γ w S x v is):∀j∈is,∃q,j= .inr q:=by
 cases x with
 |agg cs=>simp only[dM] at h;obtain⟨vs,_,h,_⟩:=h;exact T1 h
 |d x=>exact p5 (by simpa only[dM] using h)
 |tup cs=>exact p5 (by simpa only[dM] using h)
 |ref id p=>exact p5 (by simpa only[dM] using h)
 |ptr id q j i=>exact p5 (by simpa only[dM] using h)
 |rop cs=>exact p5 (by simpa only[dM] using h)
 |vp cs=>exact p5 (by simpa only[dM] using h)
 |clo f cs=>exact p5 (by simpa only[dM] using h)
theorem Je{γ:Gm}{w:World}{S:Nat→Prop}:∀{xs:List X} {vs:List Value} {is:List GId},eN γ w S xs vs is→∀j∈is,∃q,j= .inr q
 |[],[],is,h,j,hj=>by simp only[eN] at h;subst h;simp at hj
 |x::xs,v::vs,is,h,j,hj=>by
  simp only[eN] at h
  obtain⟨i1,i2,rfl,r1,r2⟩:=h
  rcases List.mem_append.1 hj with hj|hj
  ·exact m8 r1 j hj
  ·exact Je r2 j hj
 |[],_::_,_,h,_,_=>by simp[eN] at h
 |_::_,[],_,h,_,_=>by simp[eN] at h
theorem tM{γ:Gm}{w:World}{S:Nat→Prop}{x:X}{v:Value}{is:List GId}(h:cQ γ w S x v is):∀j∈is,∃q,j= .inr q:=by
 cases x with
 |tup cs=>simp only[cQ] at h;obtain⟨vs,_,h⟩:=h;exact Je h
 |agg cs=>exact m8 (by simpa only[cQ] using h)
 |d x=>exact m8 (by simpa only[cQ] using h)
 |ref id p=>exact m8 (by simpa only[cQ] using h)
 |ptr id q j i=>exact m8 (by simpa only[cQ] using h)
 |rop cs=>exact m8 (by simpa only[cQ] using h)
 |vp cs=>exact m8 (by simpa only[cQ] using h)
 |clo f cs=>exact m8 (by simpa only[cQ] using h)
def ncT:List X→Nat
 |[]=>0
 |x::xs=>x.cells.length+ncT xs
theorem z9j(cs:List X):(cs.map fun x=>x.cells.length).sum=ncT cs:=by
 induction cs with
 |nil=>rfl
 |cons x xs ih=>simp[ncT,ih]
theorem zje:∀{xs:List X} {st:St} {U:Nat→Prop} {γ:Gm} {vs:List Value} {is:List GId} {n:Nat},Rep c st U γ S a w→eN γ w S xs vs is→is.Nodup→aR (fun id _=>eS c.A st.fr U id) xs→(∀k,n≤k→k<n+ncT xs→¬U k) →
  ∃γ',Imp c st γ γ' S a w (UB U n (ncT xs)) (tP st.heap (st.fr,n) xs).2 is n (ncT xs)∧vrs γ' w S (tP st.heap (st.fr,n) xs).1 vs∧aR (fun id _=>eS c.A st.fr (UB U n (ncT xs)) id) (tP st.heap (st.fr,n) xs).1
 |[],st,U,γ,vs,is,n,R,hr,hnd,hi,hn=>by
  cases vs with
  |nil =>
   simp only[eN] at hr
   subst hr
   exact⟨γ,Imp.refl R,by simp[tP,vrs],by simp[tP,aR]⟩
  |cons v vs=>simp[eN] at hr
 |x::xs,st,U,γ,vs,is,n,R,hr,hnd,hi,hn=>by
  cases vs with
  |nil=>simp[eN] at hr
  |cons v vs =>
   simp only[eN] at hr
   obtain⟨i1,i2,rfl,r1,r2⟩:=hr
   simp only[aR] at hi
   simp only[ncT] at hn ⊢
   obtain⟨hnd1,hnd2,hdis⟩:=List.nodup_append.1 hnd
   obtain⟨γ1,p1,v1,a1⟩:=qN R r1 hnd1 hi.1 (n:=n) (fun k h1 h2=>hn k h1 (by omega))
   have hinr:∀j∈i2,∃q,j=(Sum.inr q:GId):=Je r2
   have hfresh:∀k,n+x.cells.length≤k→k<n+x.cells.length+ncT xs→¬UB U n x.cells.length k:=fun k h1 h2 h3=>by
    rcases h3 with h3|h3
    ·exact hn k (by omega) (by omega) h3
    ·omega
   have r2':eN γ1 w S xs vs i2:=Hm (φ:=fun id _=>eS c.A st.fr U id) ⟨fun id p hid=>p1.same id p (fun e h=>by
     rcases hid with hid|hid
     ·omega
     ·exact hn id.2 (by omega) (by omega) hid.2),fun k hk=>⟨hk,rfl⟩⟩ hi.2 r2 (fun j hj=>p1.keep j (hinr j hj) (fun h=>hdis j h j hj rfl))
   obtain⟨γ2,p2,v2,a2⟩:=zje (st:=st.with (lJ st.heap (st.fr,n) x).2) (n:=n+x.cells.length) p1.rep r2' hnd2 (fC (fun id _ h=>h.imp (fun h=>h) (fun h=>⟨h.1,.inl h.2⟩)) xs hi.2) hfresh
   have p3:=p1.trans (U:=U) p2 (fun k h=>by
    rcases h with (h|h)|h
    ·exact .inl h
    ·exact .inr (by omega)
    ·exact .inr (by omega))
   refine⟨γ2,p3,?_,?_⟩
   ·simp only[tP,vrs]
    refine⟨fH (fun k hk=>⟨hk,rfl⟩) _ _ (bK (fun id p hid=>p2.same id p (fun e h=> ?_)) _ a1) v1,v2⟩
    rcases hid with hid|hid
    ·have:(st.with (lJ st.heap (st.fr,n) x).2).fr=st.fr:=rfl
     omega
    ·exact hfresh id.2 h.1 h.2 hid.2
   ·simp only[tP,aR]
    refine⟨bK (fun id _ h=>h.imp (fun h=>h) (fun h=>⟨h.1,h.2.imp (fun h=>h) (fun h=>by omega)⟩)) _ a1,fC (fun id _ h=>h.imp (fun h=>h) (fun h=>⟨h.1,?_⟩)) _ a2⟩
    rcases h.2 with (h|h)|h
    ·exact .inl h
    ·exact .inr (by omega)
    ·exact .inr (by omega)
theorem zVt(R:Rep c st U γ S a w){x:X}{v:Value}{is:List GId}(hr:cQ γ w S x v is)(hnd:is.Nodup)(hi:x.allp (fun id _=>eS c.A st.fr U id)){n:Nat}(hn:∀k,n≤k→k<n+x.ncells→¬U k) :
  ∃γ',Imp c st γ γ' S a w (UB U n x.ncells) (tT st.heap (st.fr,n) x).2 is n x.ncells∧(tT st.heap (st.fr,n) x).1.vr γ' w S v∧(tT st.heap (st.fr,n) x).1.allp (fun id _=>eS c.A st.fr (UB U n x.ncells) id):=by
 cases x with
 |tup cs =>
  simp only[cQ,X.allp,X.ncells,z9j] at hr hi hn ⊢
  obtain⟨vs,rfl,h1⟩:=hr
  obtain⟨γ',p,v1,a1⟩:=zje R h1 hnd hi hn
  exact⟨γ',p,by simp only[tT,X.vr];exact⟨vs,rfl,v1⟩,by simp only[tT,X.allp];exact a1⟩
 |agg cs=>exact qN R (by simpa only[cQ] using hr) hnd hi hn
 |d x=>exact qN R (by simpa only[cQ] using hr) hnd hi hn
 |ref id p=>exact qN R (by simpa only[cQ] using hr) hnd hi hn
 |ptr id q j i=>exact qN R (by simpa only[cQ] using hr) hnd hi hn
 |rop cs=>exact qN R (by simpa only[cQ] using hr) hnd hi hn
 |vp cs=>exact qN R (by simpa only[cQ] using hr) hnd hi hn
 |clo f cs=>exact qN R (by simpa only[cQ] using hr) hnd hi hn
theorem Ej(R:Rep c st U γ S a w){d:Option Nat}(hd:∀k,d=some k→k<c.nt){x:X}{v:Value}{is:List GId}(hr:cQ γ w S x v is)(hnd:is.Nodup)(hi:x.allp (fun id _=>eS c.A st.fr U id)){n:Nat}(hn:∀k,n≤k→k<n+32→¬U k){U':Nat→Prop}(hU:∀k,UB U n 32 k→U' k)
  (hl:jP st d n x st.heap=some st'):Ok c st' U' (a.put d v) w:=by
 unfold jP at hl
 split at hl
 ·rename_i hle
  simp only[oi] at hl
  subst hl
  obtain⟨γ',p,v1,a1⟩:=zVt R hr hnd hi (n:=n) (fun k h1 h2=>hn k h1 (by omega))
  have h32:∀k,UB U n x.ncells k→U' k:=fun k h=>hU k (h.imp (fun h=>h) (fun h=>by omega))
  exact⟨γ',S,((p.rep.mono h32).put hd v1 (bK (fun id _ h=>h.imp (fun h=>h) (fun h=>⟨h.1,h32 _ h.2⟩)) _ a1))⟩
 ·simp at hl
end
open Go.RowKit
section
variable{c:Ctx}{st st':St}{U:Nat→Prop}{γ:Gm}{S:Nat→Prop}{a:Act}{w:World}{C:Cl}{o:Oper}{id:Nat}
theorem xS{P:Program}{o:Oper}{a:Act}{w:World}{y:Operand}{ys:Array Operand}{ts:Array TypeId}{f:Nat}{caps:Array Value}(ho:o.op= .call {callee:= .value y,args:=ys,argTypes:=ts})(hy:a.eval y= .func (.func f) #[] caps)(hc:gN P f) :
  (execOp a.eval o).run P w= .ok (.enter f ((ys.toList.map a.eval).toArray++caps)) w:=by
 obtain⟨fn,h1,h2,h3⟩:=hc
 have hm:ys.map a.eval=(ys.toList.map a.eval).toArray:=by rw[←Array.toList_map,Array.toArray_toList]
 simp[execOp,ho,resolve,hy,Deferred.ofValue,invoke,callFunc,h1,h2,h3,hm]
def yS(γ γ':Gm):Gm:=fun i=>match i with
 |.inl id=>γ (.inl id)
 |.inr n=>γ' (.inr n)
theorem N5{h h':Heap}{γ γ':Gm}{S S0 S1 S2:Nat→Prop}{w w':World}(m:Mm h γ S w)(m':Mm h' γ' S1 w')(hsz:w.heap.size≤w'.heap.size)(hold:∀k,k<w.heap.size→w'.heap[k]? = w.heap[k]?)(hown:∀k,Bl γ' k→w.heap.size≤k)
  (hS:∀k,S k→S2 k) (hok:∀i g,γ' i=some g→g.ok w' S2) (hS2:∀k,S2 k→S k∨(w.heap.size≤k∧S1 k)):Mm h (yS γ γ') S2 w':=by
 have hlt:∀i g,γ i=some g→∀k∈g.bl,k<w.heap.size:=fun i g hg=>G.ok_lt g (m.ok i g hg)
 have hge:∀i g,γ' i=some g→∀k∈g.bl,w.heap.size≤k:=fun i g hg k hk=>hown k ⟨i,g,hg,hk⟩
 have key:∀i g,yS γ γ' i=some g→((∃id,i= .inl id)∧γ i=some g)∨((∃n,i= .inr n)∧γ' i=some g):=fun i g hg=>by
  cases i with
  |inl id=>exact .inl ⟨⟨id,rfl⟩,hg⟩
  |inr n=>exact .inr ⟨⟨n,rfl⟩,hg⟩
 refine⟨fun id d hd=>m.er id d hd,fun i g hg=> ?_,fun i g hg=> ?_,fun i i' g g' hg hg' hne k hk=> ?_,fun k hk=> ?_,?_⟩
 ·rcases key i g hg with⟨_,h1⟩|⟨_,h1⟩
  ·exact G.ok_congr (fun k hk=>⟨hS k hk,hold k (m.sd k hk).1⟩) g (fun k hk=>hold k (hlt i g h1 k hk)) (m.ok i g h1)
  ·exact hok i g h1
 ·rcases key i g hg with⟨_,h1⟩|⟨_,h1⟩
  ·exact m.nd i g h1
  ·exact m'.nd i g h1
 ·rcases key i g hg with⟨_,h1⟩|⟨_,h1⟩
  ·rcases key i' g' hg' with⟨_,h2⟩|⟨_,h2⟩
   ·exact m.dj i i' g g' h1 h2 hne k hk
   ·exact fun hk'=>by have:=hlt i g h1 k hk;have:=hge i' g' h2 k hk';omega
  ·rcases key i' g' hg' with⟨_,h2⟩|⟨_,h2⟩
   ·exact fun hk'=>by have:=hge i g h1 k hk;have:=hlt i' g' h2 k hk';omega
   ·exact m'.dj i i' g g' h1 h2 hne k hk
 ·rcases hS2 k hk with h1|⟨h1,h2⟩
  ·refine⟨by have:=(m.sd k h1).1;omega,fun i g hg hk'=> ?_⟩
   rcases key i g hg with⟨_,h3⟩|⟨_,h3⟩
   ·exact(m.sd k h1).2 i g h3 hk'
   ·have:=(m.sd k h1).1
    have:=hge i g h3 k hk'
    omega
  ·refine⟨(m'.sd k h2).1,fun i g hg hk'=> ?_⟩
   rcases key i g hg with⟨_,h3⟩|⟨_,h3⟩
   ·have:=hlt i g h3 k hk'
    omega
   ·exact(m'.sd k h2).2 i g h3 hk'
 ·obtain⟨N,hN⟩:=m'.fin
  exact⟨N,fun n hn=>hN n hn⟩
mutual
theorem Q9{w:World}{S S':Nat→Prop}:∀(g:G),g.er.noR=true→g.ok w S→g.ok w S'
 |.l d v,hn,h=>by
  simp only[G.ok,G.er] at h hn ⊢
  refine⟨h.1,?_⟩
  cases d with
  |v x=>simpa only[D.rd] using h.2
  |s sz els=>simp[D.leaf] at h
  |r els=>simp[D.noR] at hn
  |u=>simpa only[D.rd] using h.2
 |.s sz b els,hn,h=>by
  simp only[G.ok,G.er,D.noR] at h hn ⊢
  exact⟨h.1,h.2.1,U4 els hn h.2.2⟩
theorem U4{w:World}{S S':Nat→Prop}:∀(els:List (List G)),D.noR.noRss (b9 els)=true→fV w S els→fV w S' els
 |[],_,_=>by simp[fV]
 |el::els,hn,h=>by
  simp only[b9,D.noR.noRss,bE,fV] at hn h ⊢
  exact⟨zzB el hn.1 h.1,U4 els hn.2 h.2⟩
theorem zzB{w:World}{S S':Nat→Prop}:∀(gs:List G),D.noR.noRs (ers gs)=true→oks w S gs→oks w S' gs
 |[],_,_=>by simp[oks]
 |g::gs,hn,h=>by
  simp only[ers,D.noR.noRs,bE,oks] at hn h ⊢
  exact⟨Q9 g hn.1 h.1,zzB gs hn.2 h.2⟩
end
theorem Sa{γ γ':Gm}{w:World}{S S':Nat→Prop}{x:X}{v:Value}{is:List GId}(hn:x.noRC=true)(h:Gj γ w S x v is)(hγ:∀i∈is,γ' i=γ i):Gj γ' w S' x v is∧∀i∈is,∀g,γ i=some g→g.er.noR=true:=by
 rcases h with⟨h1,rfl,h2⟩|⟨sz,els,i,g,rfl,rfl,h3,h4,h5,h6⟩
 ·refine⟨.inl ⟨h1,rfl,?_⟩,by simp⟩
  cases x with
  |d x =>
   cases x with
   |v x=>simpa only[X.vr] using h2
   |s sz els=>simp[X.own] at h1
   |r els=>simp[X.noRC,D.noR] at hn
   |u=>simpa only[X.vr] using h2
  |_=>simp[X.noRC] at hn
 ·refine⟨.inr ⟨sz,els,i,g,rfl,rfl,(hγ i (by simp)).trans h3,h4,h5,h6⟩,fun j hj g' hg'=> ?_⟩
  rw[List.mem_singleton] at hj
  subst hj
  rw[h3] at hg'
  simp only[oi] at hg'
  subst hg'
  rw[h5]
  simpa only[X.noRC] using hn
theorem Um{γ γ':Gm}{w:World}{S S':Nat→Prop}:∀{xs:List X} {vs:List Value} {is:List GId},Hv xs=true→fP γ w S xs vs is→(∀i∈is,γ' i=γ i)→fP γ' w S' xs vs is∧∀i∈is,∀g,γ i=some g→g.er.noR=true
 |[],[],is,_,h,_=>by simp only[fP] at h;subst h;exact⟨by simp[fP],by simp⟩
 |x::xs,v::vs,is,hn,h,hγ=>by
  simp only[fP,Hv,bE] at h hn ⊢
  obtain⟨i1,i2,rfl,h1,h2⟩:=h
  obtain⟨a1,a2⟩:=Sa (γ':=γ') (S':=S') hn.1 h1 (fun i hi=>hγ i (by simp[hi]))
  obtain⟨b1,b2⟩:=Um (γ':=γ') (S':=S') hn.2 h2 (fun i hi=>hγ i (by simp[hi]))
  exact⟨⟨i1,i2,rfl,a1,b1⟩,fun i hi=>(List.mem_append.1 hi).elim (a2 i) (b2 i)⟩
 |[],_::_,_,_,h,_=>by simp[fP] at h
 |_::_,[],_,_,h,_=>by simp[fP] at h
theorem I6{γ γ':Gm}{w:World}{S S':Nat→Prop}{x:X}{v:Value}{is:List GId}(hn:x.noRV=true)(h:dM γ w S x v is)(hγ:∀i∈is,γ' i=γ i):dM γ' w S' x v is∧∀i∈is,∀g,γ i=some g→g.er.noR=true:=by
 cases x with
 |agg cs =>
  simp only[dM] at h ⊢
  obtain⟨vs,h1,h2,h3⟩:=h
  obtain⟨a1,a2⟩:=Um (γ':=γ') (S':=S') (by simpa only[X.noRV] using hn) h2 hγ
  exact⟨⟨vs,h1,a1,h3⟩,a2⟩
 |d x=>simp only[dM,X.noRV] at h hn ⊢;exact Sa hn h hγ
 |tup cs=>simp[X.noRV,X.noRC] at hn
 |ref id p=>simp[X.noRV,X.noRC] at hn
 |ptr id q j i=>simp[X.noRV,X.noRC] at hn
 |rop cs=>simp[X.noRV,X.noRC] at hn
 |vp cs=>simp[X.noRV,X.noRC] at hn
 |clo f cs=>simp[X.noRV,X.noRC] at hn
theorem Vd{γ γ':Gm}{w:World}{S S':Nat→Prop}:∀{xs:List X} {vs:List Value} {is:List GId},zvE xs=true→eN γ w S xs vs is→(∀i∈is,γ' i=γ i)→eN γ' w S' xs vs is∧∀i∈is,∀g,γ i=some g→g.er.noR=true
 |[],[],is,_,h,_=>by simp only[eN] at h;subst h;exact⟨by simp[eN],by simp⟩
 |x::xs,v::vs,is,hn,h,hγ=>by
  simp only[eN,zvE,bE] at h hn ⊢
  obtain⟨i1,i2,rfl,h1,h2⟩:=h
  obtain⟨a1,a2⟩:=I6 (γ':=γ') (S':=S') hn.1 h1 (fun i hi=>hγ i (by simp[hi]))
  obtain⟨b1,b2⟩:=Vd (γ':=γ') (S':=S') hn.2 h2 (fun i hi=>hγ i (by simp[hi]))
  exact⟨⟨i1,i2,rfl,a1,b1⟩,fun i hi=>(List.mem_append.1 hi).elim (a2 i) (b2 i)⟩
 |[],_::_,_,_,h,_=>by simp[eN] at h
 |_::_,[],_,_,h,_=>by simp[eN] at h
theorem Do{γ γ':Gm}{w:World}{S S':Nat→Prop}{x:X}{v:Value}{is:List GId}(hn:x.noR=true)(h:cQ γ w S x v is)(hγ:∀i∈is,γ' i=γ i):cQ γ' w S' x v is∧∀i∈is,∀g,γ i=some g→g.er.noR=true:=by
 cases x with
 |tup cs =>
  simp only[cQ,X.noR] at h hn ⊢
  obtain⟨vs,h1,h2⟩:=h
  obtain⟨a1,a2⟩:=Vd (γ':=γ') (S':=S') hn h2 hγ
  exact⟨⟨vs,h1,a1⟩,a2⟩
 |agg cs=>simp only[cQ,X.noR] at h hn ⊢;exact I6 hn h hγ
 |d x=>simp only[cQ,X.noR] at h hn ⊢;exact I6 hn h hγ
 |ref id p=>simp[X.noR,X.noRV,X.noRC] at hn
 |ptr id q j i=>simp[X.noR,X.noRV,X.noRC] at hn
 |rop cs=>simp[X.noR,X.noRV,X.noRC] at hn
 |vp cs=>simp[X.noR,X.noRV,X.noRC] at hn
 |clo f cs=>simp[X.noR,X.noRV,X.noRC] at hn
theorem Oc{γ:Gm}{w:World}{S:Nat→Prop}{ys ys0:List X}{vs:List Value}(h:ys=ys0∨ys=ys0.map X.du)(h1:vrs γ w S ys0 vs)(h2:∀φ:Id→Path→Prop,aR φ ys0):vrs γ w S ys vs∧∀φ:Id→Path→Prop,aR φ ys:=by
 rcases h with rfl|rfl
 ·exact⟨h1,h2⟩
 ·exact⟨zZR h1,fun φ=>T4 (h2 φ)⟩
theorem Ie(R:Rep c st U γ S a w){xs ys:List X}{vs:List Value}(hv:vrs γ w S xs vs){ys0:List X}(hs:jV st.heap xs=some ys0)(hdu:ys=ys0∨ys=ys0.map X.du)(hC:CallOk c.P C){f:Nat}{r:X}{h':Heap}(hf:C f ys emp 0=some (r,h'))(hro:(gY xs||r.noR)=true) :
  gN c.P f∧Calls c.P f vs.toArray w fun e w'=>∃v γ1 S1 is,e= .returned v∧Rep c st U γ1 S1 a w'∧cQ γ1 w' S1 r v is∧is.Nodup∧(∀φ:Id→Path→Prop,r.allp φ)∧∀i∈is,∀g,γ1 i=some g→∀k∈g.bl,w.heap.size≤k:=by
 classical
 obtain⟨hcal,hcl⟩:=hC f ys emp 0 r h' hf
 refine⟨hcal,?_⟩
 have hem:∀S':Nat→Prop,(∀k,S' k→k<w.heap.size)→Mm emp (fun _=>none) S' w:=fun S' hlt =>
  ⟨fun id d h=>by simp[emp] at h,fun i g h=>by simp at h,fun i g h=>by simp at h,fun i i' g g' h=>by simp at h,fun k hk=>⟨hlt k hk,fun i g h=>by simp at h⟩,⟨0,fun _ _=>rfl⟩⟩
 have hnoBl:∀k,¬Bl (fun _=>none) k:=fun k ⟨i,g,h,_⟩=>by simp at h
 have hlow:∀(r:X),r.allp (fun id _=>id.1<0∧True)→∀φ:Id→Path→Prop,r.allp φ:=fun r hr φ=>bK (fun id _ h=>absurd h.1 (Nat.not_lt_zero _)) r hr
 by_cases hr:gY xs=true
 ·obtain⟨h1,h2⟩:=Jx R.mm (S':=S) (fun k h=>h) hv hs (.inl hr)
  obtain⟨h1,h2⟩:=Oc hdu h1 h2
  refine(hcl (fun _=>True) (fun _=>none) S w vs (hem S (fun k hk=>(R.mm.sd k hk).1)) h1 (h2 _) (fun id d h=>by simp[emp] at h)).mono ?_
  rintro e w' ⟨v,γ',S',is,rfl,p⟩
  have hold:∀k,k<w.heap.size→w'.heap[k]? = w.heap[k]? := fun k hk=>p.keep k hk (hnoBl k)
  have hown:∀k,Bl γ' k→w.heap.size≤k:=fun k hk=>(p.own k hk).resolve_left (hnoBl k)
  have hM:=N5 (S2:=S') (S0:=S) R.mm p.mm p.size hold hown p.s0 (fun i g hg=>p.mm.ok i g hg) (fun k hk=>(p.sg k hk).imp (fun h=>h) (fun h=>⟨h,hk⟩))
  refine⟨v,yS γ γ',S',is,rfl,?_,?_,p.nd,hlow r p.ids,fun i hi g hg k hk=>by
   obtain⟨n,rfl⟩:=tM p.res i hi
   exact hown k ⟨.inr n,g,hg,hk⟩⟩
  ·have hR:=R.change (U':=U) (h':=st.heap) hM p.os p.tape p.output p.size (fun k hk _=>hold k hk) (fun k ⟨i,g,h3,h4⟩=> ?_) (fun t x _=>cM (fun id q=>Same.of_eq rfl q) x) (fun id _=>Same.of_eq rfl []) p.s0 p.sg R.hid (fun _ h=>h) (fun _ _ h=>h)
   ·exact hR
   ·cases i with
    |inl id=>exact .inl ⟨.inl id,g,h3,h4⟩
    |inr n=>exact .inr (hown k ⟨.inr n,g,h3,h4⟩)
  ·have hinr:=tM p.res
   have:∀{φ:Id→Path→Prop},ResTo γ' (yS γ γ') w' w' S' S' φ→cQ (yS γ γ') w' S' r v is:=fun t=>by
    have hk:∀i∈is,yS γ γ' i=γ' i:=fun i hi=>by obtain⟨n,rfl⟩:=hinr i hi;rfl
    cases r with
    |tup cs =>
     have:=p.res
     simp only[cQ] at this ⊢
     obtain⟨us,e1,e2⟩:=this
     exact⟨us,e1,Hm t (by simpa only[X.allp] using hlow _ p.ids _) e2 hk⟩
    |agg cs=>exact fG t (hlow _ p.ids _) (by simpa only[cQ] using p.res) hk
    |d x=>exact fG t (hlow _ p.ids _) (by simpa only[cQ] using p.res) hk
    |ref id q=>exact fG t (hlow _ p.ids _) (by simpa only[cQ] using p.res) hk
    |ptr id q j i=>exact fG t (hlow _ p.ids _) (by simpa only[cQ] using p.res) hk
    |rop cs=>exact fG t (hlow _ p.ids _) (by simpa only[cQ] using p.res) hk
    |vp cs=>exact fG t (hlow _ p.ids _) (by simpa only[cQ] using p.res) hk
    |clo f cs=>exact fG t (hlow _ p.ids _) (by simpa only[cQ] using p.res) hk
   exact this (φ:=fun _ _=>False) ⟨fun id q h=>h.elim,fun k hk=>⟨hk,rfl⟩⟩
 ·have hnr:r.noR=true:=by simpa[hr] using hro
  obtain⟨h1,h2⟩:=Jx R.mm (S':=fun k=>k<w.heap.size) (fun k h=>(R.mm.sd k h).1) hv hs (.inr fun id g hg k hk=>G.ok_lt g (R.mm.ok _ _ hg) k hk)
  obtain⟨h1,h2⟩:=Oc hdu h1 h2
  refine(hcl (fun _=>True) (fun _=>none) _ w vs (hem _ (fun k hk=>hk)) h1 (h2 _) (fun id d h=>by simp[emp] at h)).mono ?_
  rintro e w' ⟨v,γ',S',is,rfl,p⟩
  have hold:∀k,k<w.heap.size→w'.heap[k]? = w.heap[k]? := fun k hk=>p.keep k hk (hnoBl k)
  have hown:∀k,Bl γ' k→w.heap.size≤k:=fun k hk=>(p.own k hk).resolve_left (hnoBl k)
  have hinr:=tM p.res
  let γr:Gm:=fun i=>if i∈is then γ' i else none
  have hγr:∀i g,γr i=some g→i∈is∧γ' i=some g:=fun i g h=>by
   simp only[γr] at h
   split at h
   ·exact⟨‹_›,h⟩
   ·simp at h
  obtain⟨hres,hpure⟩:=Do (γ':=γr) (S':=S) hnr p.res (fun i hi=>by simp[γr,hi])
  have hm':Mm emp γr (fun _=>False) w':=⟨fun id d h=>by simp[emp] at h,fun i g hg=>Q9 g (hpure i (hγr i g hg).1 g (hγr i g hg).2) (p.mm.ok i g (hγr i g hg).2),fun i g hg=>p.mm.nd i g (hγr i g hg).2,fun i i' g g' hg hg'=>p.mm.dj i i' g g' (hγr i g hg).2 (hγr i' g' hg').2,fun k hk=>hk.elim,by
   obtain⟨N,hN⟩:=p.mm.fin
   refine⟨N,fun n hn=> ?_⟩
   simp only[γr]
   split
   ·exact hN n hn
   ·rfl⟩
  have hownr:∀k,Bl γr k→w.heap.size≤k:=fun k ⟨i,g,h3,h4⟩=>hown k ⟨i,g,(hγr i g h3).2,h4⟩
  have hM:=N5 (S2:=S) (S0:=S) R.mm hm' p.size hold hownr (fun k h=>h) (fun i g hg=>Q9 g (hpure i (hγr i g hg).1 g (hγr i g hg).2) (p.mm.ok i g (hγr i g hg).2)) (fun k hk=> .inl hk)
  refine⟨v,yS γ γr,S,is,rfl,?_,?_,p.nd,hlow r p.ids,fun i hi g hg k hk=>by
   obtain⟨n,rfl⟩:=hinr i hi
   exact hownr k ⟨.inr n,g,hg,hk⟩⟩
  ·have hR:=R.change (U':=U) (h':=st.heap) hM p.os p.tape p.output p.size (fun k hk _=>hold k hk) (fun k ⟨i,g,h3,h4⟩=> ?_) (fun t x _=>cM (fun id q=>Same.of_eq rfl q) x) (fun id _=>Same.of_eq rfl []) (fun k h=>h) (fun k h=> .inl h) R.hid (fun _ h=>h) (fun _ _ h=>h)
   ·exact hR
   ·cases i with
    |inl id=>exact .inl ⟨.inl id,g,h3,h4⟩
    |inr n=>exact .inr (hownr k ⟨.inr n,g,h3,h4⟩)
  ·exact(Do (γ':=yS γ γr) (S':=S) hnr hres (fun i hi=>by obtain⟨n,rfl⟩:=hinr i hi;rfl)).1
theorem zWF(R:Rep c st U γ S a w)(hd:∀k,o.dst=some k→k<c.nt){y:Operand}{ys:Array Operand}{ts:Array TypeId}{f:Nat}{xs:List O}(ho:o.op= .call {callee:= .value y,args:=ys,argTypes:=ts})(hf:eqO y (.f f)=true)(hx:pA ys.toList xs=true)(hC:CallOk c.P C)
  {n:Nat} (hn:∀k,n≤k→k<n+32→¬U k) {U':Nat→Prop} (hU:∀k,UB U n 32 k→U' k) (hs:opS C st o.dst n (.call f xs)=some st'):Runs c o a w st' U':=by
 simp only[opS,aA] at hs
 obtain⟨as,h1,bs,h2,r,h3,h4⟩:=hs
 obtain⟨h',h3⟩:=iW.1 h3
 split at h4
 ·rename_i hro
  obtain⟨h5,h6⟩:=uM R hx h1
  obtain⟨hcal,hcl⟩:=Ie R h5 h2 (.inl rfl) hC h3 hro
  have hy:=(bQ R hf (y:= .d (.v (.func (.func f) #[] #[]))) rfl).1
  simp only[X.vr] at hy
  refine .enter f _ w (by
   have:=xS (w:=w) ho hy.1 hcal
   simpa using this) (hcl.mono ?_)
  rintro e w' ⟨v,γ1,S1,is,rfl,hR,hres,hnd,hids,_⟩
  exact⟨v,rfl,Ej hR hd hres hnd (hids _) hn hU h4⟩
 ·simp at h4
end
open Go.RowKit
section
variable{c:Ctx}{st st':St}{U:Nat→Prop}{γ:Gm}{S:Nat→Prop}{a:Act}{w:World}{C:Cl}{o:Oper}{id:Nat}
theorem Mm.drop{h:Heap}(m:Mm h γ S w){is:List GId}(hr:∀j∈is,∃q,j=(Sum.inr q:GId)) :
  Mm h (rem γ is) (fun k=>S k∨∃i∈is,∃g,γ i=some g∧k∈g.bl) w:=by
 refine⟨fun id d hd=> ?_,fun i g hg=> ?_,fun i g hg=> ?_,fun i i' g g' hg hg' hne=> ?_,fun k hk=> ?_,?_⟩
 ·obtain⟨g,h1,h2⟩:=m.er id d hd
  refine⟨g,bY.2 ⟨fun hin=> ?_,h1⟩,h2⟩
  obtain⟨q,hq⟩:=hr _ hin
  simp at hq
 ·exact G.ok_congr (fun k hk=>⟨.inl hk,rfl⟩) g (fun _ _=>rfl) (m.ok i g (bY.1 hg).2)
 ·exact m.nd i g (bY.1 hg).2
 ·exact m.dj i i' g g' (bY.1 hg).2 (bY.1 hg').2 hne
 ·rcases hk with hk|⟨i,hi,g,hg,hkg⟩
  ·exact⟨(m.sd k hk).1,fun i g hg=>(m.sd k hk).2 i g (bY.1 hg).2⟩
  ·refine⟨G.ok_lt g (m.ok i g hg) k hkg,fun i' g' hg' hk'=> ?_⟩
   obtain⟨h1,h2⟩:=bY.1 hg'
   exact m.dj i i' g g' hg h2 (fun e=>h1 (e ▸ hi)) k hkg hk'
 ·obtain⟨N,hN⟩:=m.fin
  refine⟨N,fun n hn=> ?_⟩
  unfold rem
  split
  ·rfl
  ·exact hN n hn
theorem Same.rem{is:List GId}(hr:∀j∈is,∃q,j=(Sum.inr q:GId))(id:Id)(p:Path):Same γ (rem γ is) id p:=Same.of_eq (by
 unfold Ev.rem
 rw[if_neg]
 intro hin
 obtain⟨q,hq⟩:=hr _ hin
 simp at hq) p
theorem qP{S2:Nat→Prop}{is js:List GId}(m:Mm st.heap γ S w)(hr:∀j∈js,∃q,j=(Sum.inr q:GId))(hS:∀k,S k→S2 k)(hb:∀i∈js,∀g,γ i=some g→∀k∈g.bl,S2 k)(hij:∀i∈is,i∈js){x:X}{v:Value}(h:Gj γ w S x v is):x.frzC.vr (rem γ js) w S2 v:=by
 rcases h with⟨h1,_,h2⟩|⟨sz,els,i,g,rfl,rfl,h3,h4,h5,h6⟩
 ·have hx:x.frzC=x:=by
   unfold X.frzC
   split
   ·simp[X.own] at h1
   ·rfl
  rw[hx]
  exact fH (fun k hk=>⟨hS k hk,rfl⟩) x v (cM (Same.rem hr) x) h2
 ·have:=D9 hS g (m.ok _ _ h3) (hb i (hij i (by simp)) g h3)
  rw[h5,h6,zXC] at this
  simp only[X.frzC,X.vr]
  exact Rf (.r els) v this
theorem zzQ{S2:Nat→Prop}{js:List GId}(m:Mm st.heap γ S w)(hr:∀j∈js,∃q,j=(Sum.inr q:GId))(hS:∀k,S k→S2 k)(hb:∀i∈js,∀g,γ i=some g→∀k∈g.bl,S2 k):∀{xs:List X} {vs:List Value} {is:List GId},(∀i∈is,i∈js)→fP γ w S xs vs is→vrs (rem γ js) w S2 (xT xs) vs
 |[],[],_,_,_=>by simp[xT,vrs]
 |x::xs,v::vs,is,hij,h=>by
  simp only[fP] at h
  obtain⟨i1,i2,rfl,h1,h2⟩:=h
  simp only[xT,vrs]
  exact⟨qP m hr hS hb (fun i hi=>hij i (by simp[hi])) h1,zzQ m hr hS hb (fun i hi=>hij i (by simp[hi])) h2⟩
 |[],_::_,_,_,h=>by simp[fP] at h
 |_::_,[],_,_,h=>by simp[fP] at h
theorem qK{S2:Nat→Prop}{is js:List GId}(m:Mm st.heap γ S w)(hr:∀j∈js,∃q,j=(Sum.inr q:GId))(hS:∀k,S k→S2 k)(hb:∀i∈js,∀g,γ i=some g→∀k∈g.bl,S2 k)(hij:∀i∈is,i∈js){x:X}{v:Value}(h:dM γ w S x v is):x.frzV.vr (rem γ js) w S2 v:=by
 cases x with
 |agg cs =>
  simp only[dM] at h
  obtain⟨vs,rfl,h1,h2⟩:=h
  simp only[X.frzV,X.vr]
  exact⟨vs,rfl,zzQ m hr hS hb hij h1,h2⟩
 |d x=>exact qP m hr hS hb hij (by simpa only[dM] using h)
 |tup cs=>exact qP m hr hS hb hij (by simpa only[dM] using h)
 |ref id p=>exact qP m hr hS hb hij (by simpa only[dM] using h)
 |ptr id q j i=>exact qP m hr hS hb hij (by simpa only[dM] using h)
 |rop cs=>exact qP m hr hS hb hij (by simpa only[dM] using h)
 |vp cs=>exact qP m hr hS hb hij (by simpa only[dM] using h)
 |clo f cs=>exact qP m hr hS hb hij (by simpa only[dM] using h)
theorem zjA{S2:Nat→Prop}{js:List GId}(m:Mm st.heap γ S w)(hr:∀j∈js,∃q,j=(Sum.inr q:GId))(hS:∀k,S k→S2 k)(hb:∀i∈js,∀g,γ i=some g→∀k∈g.bl,S2 k):∀{xs:List X} {vs:List Value} {is:List GId},(∀i∈is,i∈js)→eN γ w S xs vs is→vrs (rem γ js) w S2 (Mn xs) vs
 |[],[],_,_,_=>by simp[Mn,vrs]
 |x::xs,v::vs,is,hij,h=>by
  simp only[eN] at h
  obtain⟨i1,i2,rfl,h1,h2⟩:=h
  simp only[Mn,vrs]
  exact⟨qK m hr hS hb (fun i hi=>hij i (by simp[hi])) h1,zjA m hr hS hb (fun i hi=>hij i (by simp[hi])) h2⟩
 |[],_::_,_,_,h=>by simp[eN] at h
 |_::_,[],_,_,h=>by simp[eN] at h
theorem zyt{S2:Nat→Prop}{is:List GId}(m:Mm st.heap γ S w)(hr:∀j∈is,∃q,j=(Sum.inr q:GId))(hS:∀k,S k→S2 k)(hb:∀i∈is,∀g,γ i=some g→∀k∈g.bl,S2 k){x:X}{v:Value}(h:cQ γ w S x v is):x.frz.vr (rem γ is) w S2 v:=by
 cases x with
 |tup cs =>
  simp only[cQ] at h
  obtain⟨vs,rfl,h1⟩:=h
  simp only[X.frz,X.vr]
  exact⟨vs,rfl,zjA m hr hS hb (fun _ h=>h) h1⟩
 |agg cs=>exact qK m hr hS hb (fun _ h=>h) (by simpa only[cQ] using h)
 |d x=>exact qK m hr hS hb (fun _ h=>h) (by simpa only[cQ] using h)
 |ref id p=>exact qK m hr hS hb (fun _ h=>h) (by simpa only[cQ] using h)
 |ptr id q j i=>exact qK m hr hS hb (fun _ h=>h) (by simpa only[cQ] using h)
 |rop cs=>exact qK m hr hS hb (fun _ h=>h) (by simpa only[cQ] using h)
 |vp cs=>exact qK m hr hS hb (fun _ h=>h) (by simpa only[cQ] using h)
 |clo f cs=>exact qK m hr hS hb (fun _ h=>h) (by simpa only[cQ] using h)
theorem lH{φ:Id→Path→Prop}{x:X}(h:x.allp φ):x.frzC.allp φ:=by
 unfold X.frzC
 split
 ·simp only[X.allp]
 ·exact h
theorem Oh{φ:Id→Path→Prop}:∀{xs:List X},aR φ xs→aR φ (xT xs)
 |[],_=>by simp[xT,aR]
 |x::xs,h=>by simp only[xT,aR] at h ⊢;exact⟨lH h.1,Oh h.2⟩
theorem lB{φ:Id→Path→Prop}{x:X}(h:x.allp φ):x.frzV.allp φ:=by
 cases x with
 |agg cs=>simp only[X.frzV,X.allp] at h ⊢;exact Oh h
 |d x=>exact lH h
 |tup cs=>exact lH h
 |ref id p=>exact lH h
 |ptr id q j i=>exact lH h
 |rop cs=>exact lH h
 |vp cs=>exact lH h
 |clo f cs=>exact lH h
theorem N2{φ:Id→Path→Prop}:∀{xs:List X},aR φ xs→aR φ (Mn xs)
 |[],_=>by simp[Mn,aR]
 |x::xs,h=>by simp only[Mn,aR] at h ⊢;exact⟨lB h.1,N2 h.2⟩
theorem Se{φ:Id→Path→Prop}{x:X}(h:x.allp φ):x.frz.allp φ:=by
 cases x with
 |tup cs=>simp only[X.frz,X.allp] at h ⊢;exact N2 h
 |agg cs=>exact lB h
 |d x=>exact lB h
 |ref id p=>exact lB h
 |ptr id q j i=>exact lB h
 |rop cs=>exact lB h
 |vp cs=>exact lB h
 |clo f cs=>exact lB h
theorem zyg(R:Rep c st U γ S a w)(hd:∀k,o.dst=some k→k<c.nt){y:Operand}{ys:Array Operand}{ts:Array TypeId}{f:Nat}{xs:List O}(ho:o.op= .call {callee:= .value y,args:=ys,argTypes:=ts})(hf:eqO y (.f f)=true)(hx:pA ys.toList xs=true)(hC:CallOk c.P C)
  (hs:opS C st o.dst id (.callr f xs)=some st'):Runs c o a w st' U:=by
 simp only[opS,aA] at hs
 obtain⟨as,h1,bs,h2,r,h3,h4⟩:=hs
 obtain⟨h',h3⟩:=iW.1 h3
 split at h4
 ·rename_i hro
  simp only[oi] at h4
  subst h4
  obtain⟨h5,h6⟩:=uM R hx h1
  obtain⟨hcal,hcl⟩:=Ie R h5 h2 (.inl rfl) hC h3 hro
  have hy:=(bQ R hf (y:= .d (.v (.func (.func f) #[] #[]))) rfl).1
  simp only[X.vr] at hy
  refine .enter f _ w (by
   have:=xS (w:=w) ho hy.1 hcal
   simpa using this) (hcl.mono ?_)
  rintro e w' ⟨v,γ1,S1,is,rfl,hR,hres,hnd,hids,hnew⟩
  have hinr:=tM hres
  have hM:=hR.mm.drop hinr
  have hv:=zyt (S2:=fun k=>S1 k∨∃i∈is,∃g,γ1 i=some g∧k∈g.bl) hR.mm hinr (fun k hk=> .inl hk) (fun i hi g hg k hk=> .inr ⟨i,hi,g,hg,hk⟩) hres
  have hR2:Rep c st U (rem γ1 is) (fun k=>S1 k∨∃i∈is,∃g,γ1 i=some g∧k∈g.bl) a w':=by
   refine⟨hM,hR.os,hR.tape,hR.output,hR.size,hR.keep,fun k ⟨i,g,g1,g2⟩=>hR.own k ⟨i,g,(bY.1 g1).2,g2⟩,fun id hid=>(hR.hd id hid).trans (Same.rem hinr id []),fun k hk=> ?_,fun k hk=> .inl (hR.s0 k hk),hR.s00,fun t x hx=> ?_,hR.ids,hR.hid,hR.dom,hR.df,hR.sz,hR.iso⟩
   ·rcases hk with hk|⟨i,hi,g,hg,hkg⟩
    ·exact hR.sg k hk
    ·have:=hnew i hi g hg k hkg
     have:=R.size
     exact .inr (by omega)
   ·exact fH (fun k hk=>⟨.inl hk,rfl⟩) x _ (cM (Same.rem hinr) x) (hR.env t x hx)
  exact⟨v,rfl,dH hR2 hd hv (Se (hids _))⟩
 ·simp at h4
theorem zwZ(R:Rep c st U γ S a w)(hd:∀k,o.dst=some k→k<c.nt){y:Operand}{ys:Array Operand}{ts:Array TypeId}{f:Nat}{xs:List O}(ho:o.op= .call {callee:= .value y,args:=ys,argTypes:=ts})(hf:eqO y (.f f)=true)(hx:pA ys.toList xs=true)(hC:CallOk c.P C)
  (hs:opS C st o.dst id (.callu f xs)=some st'):Runs c o a w st' U:=by
 simp only[opS,aA] at hs
 obtain⟨as,h1,bs,h2,r,h3,h4⟩:=hs
 obtain⟨h',h3⟩:=iW.1 h3
 split at h4
 ·rename_i hro
  simp only[oi] at h4
  subst h4
  obtain⟨h5,h6⟩:=uM R hx h1
  obtain⟨hcal,hcl⟩:=Ie R h5 h2 (.inr rfl) hC h3 hro
  have hy:=(bQ R hf (y:= .d (.v (.func (.func f) #[] #[]))) rfl).1
  simp only[X.vr] at hy
  refine .enter f _ w (by
   have:=xS (w:=w) ho hy.1 hcal
   simpa using this) (hcl.mono ?_)
  rintro e w' ⟨v,γ1,S1,is,rfl,hR,hres,hnd,hids,hnew⟩
  have hinr:=tM hres
  have hM:=hR.mm.drop hinr
  have hv:=zyt (S2:=fun k=>S1 k∨∃i∈is,∃g,γ1 i=some g∧k∈g.bl) hR.mm hinr (fun k hk=> .inl hk) (fun i hi g hg k hk=> .inr ⟨i,hi,g,hg,hk⟩) hres
  have hR2:Rep c st U (rem γ1 is) (fun k=>S1 k∨∃i∈is,∃g,γ1 i=some g∧k∈g.bl) a w':=by
   refine⟨hM,hR.os,hR.tape,hR.output,hR.size,hR.keep,fun k ⟨i,g,g1,g2⟩=>hR.own k ⟨i,g,(bY.1 g1).2,g2⟩,fun id hid=>(hR.hd id hid).trans (Same.rem hinr id []),fun k hk=> ?_,fun k hk=> .inl (hR.s0 k hk),hR.s00,fun t x hx=> ?_,hR.ids,hR.hid,hR.dom,hR.df,hR.sz,hR.iso⟩
   ·rcases hk with hk|⟨i,hi,g,hg,hkg⟩
    ·exact hR.sg k hk
    ·have:=hnew i hi g hg k hkg
     have:=R.size
     exact .inr (by omega)
   ·exact fH (fun k hk=>⟨.inl hk,rfl⟩) x _ (cM (Same.rem hinr) x) (hR.env t x hx)
  exact⟨v,rfl,dH hR2 hd hv (Se (hids _))⟩
 ·simp at h4
theorem z9u{xs cs:List X}{vs us:List Value}(h1:vrs γ w S xs vs)(h2:vrs γ w S cs us):vrs γ w S (xs++cs) (vs++us):=B9 h1 h2
theorem zkj{φ:Id→Path→Prop}{ψ:Id→Prop}(h:∀id,ψ id→φ id []){x:X}(hr:x.root=true)(hx:x.allp (fun id _=>ψ id)):x.allp φ:=by
 have hc:∀y:X,y.rootC=true→y.allp (fun id _=>ψ id)→y.allp φ:=fun y hy hy2=>by
  cases y with
  |ref id p =>
   simp only[X.rootC,List.isEmpty_iff] at hy
   subst hy
   simp only[X.allp] at hy2 ⊢
   exact h id hy2
  |ptr id q j i =>
   simp only[X.rootC,List.isEmpty_iff] at hy
   subst hy
   simp only[X.allp] at hy2 ⊢
   exact h id hy2
  |d x=>simp only[X.allp]
  |rop cs=>simp only[X.allp]
  |vp cs=>simp[X.rootC] at hy
  |agg cs=>simp[X.rootC] at hy
  |tup cs=>simp[X.rootC] at hy
  |clo f cs=>simp[X.rootC] at hy
 have hl:∀ys:List X,Ar ys=true→aR (fun id _=>ψ id) ys→aR φ ys:=fun ys=>by
  induction ys with
  |nil=>intro _ _;simp[aR]
  |cons y ys ih =>
   intro h1 h2
   simp only[Ar,bE,aR] at h1 h2 ⊢
   exact⟨hc y h1.1 h2.1,ih h1.2 h2.2⟩
 cases x with
 |agg cs=>simp only[X.root,X.allp] at hr hx ⊢;exact hl cs hr hx
 |clo f cs=>simp only[X.root,X.allp] at hr hx ⊢;exact hl cs hr hx
 |d x=>simp only[X.allp]
 |rop cs=>simp only[X.allp]
 |vp cs=>simp only[X.root,X.allp] at hr hx ⊢;exact hl cs hr hx
 |ref id p=>exact hc _ (by simpa only[X.root] using hr) hx
 |ptr id q j i=>exact hc _ (by simpa only[X.root] using hr) hx
 |tup cs=>simp[X.root,X.rootC] at hr
theorem zJw(R:Rep c st U γ S a w)(hd:∀k,o.dst=some k→k<c.nt){y:Operand}{ys:Array Operand}{ts:Array TypeId}{f:O}{xs:List O}(ho:o.op= .call {callee:= .value y,args:=ys,argTypes:=ts})(hf:eqO y f=true)(hx:pA ys.toList xs=true)(hC:CallOk c.P C)
  {n:Nat} (hn:∀k,n≤k→k<n+32→¬U k) {U':Nat→Prop} (hU:∀k,UB U n 32 k→U' k) (hs:opS C st o.dst n (.calli f xs)=some st'):Runs c o a w st' U':=by
 simp only[opS,aA] at hs
 obtain⟨z,h1,⟨g,caps⟩,h2,as,h3,⟨r,h'⟩,h4,h5⟩:=hs
 obtain⟨h6,h7⟩:=bQ R hf h1
 obtain⟨h8,h9⟩:=uM R hx h3
 obtain⟨cvs,hcv,hcvs,hci⟩:∃cvs:List Value,a.eval y= .func (.func g) #[] cvs.toArray∧vrs γ w S caps cvs∧aR (fun id _=>eS c.A st.fr U id) caps:=by
  unfold Dz at h2
  split at h2
  ·rename_i x
   rw[aC] at h2
   obtain⟨f',h10,h11⟩:=h2
   simp only[zqb] at h11
   obtain⟨rfl,rfl⟩:=h11
   simp only[X.vr] at h6
   unfold fnOf at h10
   split at h10
   ·rename_i fn first captured
    split at h10
    ·rename_i he
     simp only[oi] at h10
     subst h10
     refine⟨[],?_,by simp[vrs],by simp[aR]⟩
     rw[h6.1,Array.eq_empty_of_size_eq_zero he.1,Array.eq_empty_of_size_eq_zero he.2]
    ·simp at h10
   ·simp at h10
  ·rename_i f' cs
   simp only[oi,zqb] at h2
   obtain⟨rfl,rfl⟩:=h2
   simp only[X.vr,X.allp] at h6 h7
   obtain⟨vs,e1,e2⟩:=h6
   exact⟨vs,e1,e2,h7⟩
  ·simp at h2
 obtain⟨hcal,hcl⟩:=hC g (as++caps) st.heap (st.fr+1) r h' h4
 have hall:aR (fun id _=>id.1<st.fr+1∧eS c.A st.fr U id) (as++caps):=bD.2 fun x hx=>by
  have:x.allp (fun id _=>eS c.A st.fr U id):=by
   rcases List.mem_append.1 hx with hx|hx
   ·exact bD.1 h9 x hx
   ·exact bD.1 hci x hx
  exact bK (fun id _ h=>⟨by rcases h with h|h<;>omega,h⟩) x this
 refine .enter g _ w (xS (w:=w) ho hcv hcal) ?_
 have hcl':=hcl (fun id=>eS c.A st.fr U id) γ S w _ R.mm (B9 h8 hcvs) hall (fun id d h=>⟨by have:=R.hid id d h;rcases this with h|h<;>omega,R.hid id d h⟩)
 rw[show((ys.toList.map a.eval).toArray++cvs.toArray)=(ys.toList.map a.eval++cvs).toArray by simp]
 refine hcl'.mono ?_
 rintro e w' ⟨v,γ',S',is,rfl,p⟩
 refine⟨v,rfl,?_⟩
 have hpe:∀t x,o8 st.env t=some x→st.env t=some x∧x.root=true:=fun t x hx=>by
  unfold o8 at hx
  rw[aA] at hx
  obtain⟨x',h10,h11⟩:=hx
  split at h11
  ·simp only[oi] at h11
   subst h11
   exact⟨h10,‹_›⟩
  ·simp at h11
 have hR:=(R.less (fun t x hx=>(hpe t x hx).1)).change (U':=U) p.mm p.os p.tape p.output p.size p.keep p.own (fun t x hx=>zkj (ψ:=fun id=>eS c.A st.fr U id) (fun id hid=>p.hd id (by rcases hid with h|h<;>omega)) (hpe t x hx).2 (R.ids t x (hpe t x hx).1)) (fun id hid=>p.hd id (by have:id.1<st.fr:=hid;omega)) p.s0 p.sg (fun id d hd=> ?_) (fun _ h=>h) (fun id hid h0=>p.dom id (by have:id.1<st.fr:=hid;omega) h0)
 ·exact Ej (st:={st with env:=o8 st.env,heap:=h'}) hR hd p.res p.nd (bK (fun id _ h=>h.2) _ p.ids) hn hU h5
 ·have hlow:=p.low id d hd
  have hne:st.heap id≠none:=fun h0=>by
   have:=p.dom id hlow h0
   rw[this] at hd
   simp at hd
  obtain⟨d0,hd0⟩:=Option.ne_none_iff_exists'.1 hne
  exact R.hid id d0 hd0
end
end Go.Ev
