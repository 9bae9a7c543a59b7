import Derived.Test.YtenclibcnjkamaaGreatEvCut
set_option linter.all false
namespace Go.Ev
open Go.RowKit
section
variable{c:Ctx}{st st':St}{U:Nat→Prop}{γ:Gm}{S:Nat→Prop}{a:Act}{w:World}{C:Cl}{o:Oper}{id:Nat}
abbrev gF:List G:=[.l (.v (.bool false)) (.bool false)]
theorem Ga:∀(p:Path) (d x:D),d.nav p=some x→d.put p x=some d
 |[],d,x,h=>by simp only[D.nav,oi] at h;subst h;rfl
 |(j,i)::p,d,x,h=>by
  cases d with
  |s sz els =>
   simp only[D.nav,aA] at h
   obtain⟨el,h1,cl,h2,h3⟩:=h
   have ih:=Ga p cl x h3
   simp only[D.put,h1,obs,h2,ih,oms,oi,D.s.injEq,true_and]
   obtain⟨hj,ej⟩:=List.getElem?_eq_some_iff.1 h1
   obtain⟨hi,ei⟩:=List.getElem?_eq_some_iff.1 h2
   subst ei
   rw[List.set_getElem_self]
   subst ej
   rw[List.set_getElem_self]
  |_=>simp[D.nav] at h
theorem Qs{h:Heap}{id:Id}{p:Path}{x:D}(hn:h.nav id p=some x):h.put id p x=some h:=by
 simp only[Heap.nav,aA] at hn
 obtain⟨d,h1,h2⟩:=hn
 simp only[Heap.put,h1,obs,Ga p d x h2,oms,oi]
 funext j
 simp only[upd]
 split
 ·rename_i e;rw[e,h1]
 ·rfl
structure Clrd (h h':Heap) (γ γ':Gm) (S:Nat→Prop) (w:World) (id:Id) (p:Path) (b o j k:Nat) (els:List (List G)):Prop where
 put:h.put id p (.s 1 (cD (els.take j++List.replicate k gF)))=some h'
 mm:Mm h' γ' S (w.setCells b (o+j) (List.replicate k (.bool false)))
 mono:∀id,h id=none↔h' id=none
 same:∀id' p',Same γ γ' id' p'
 sub:Sub γ' γ
 inb:k≠0→∃i0 g0,γ i0=some g0∧b∈g0.bl
theorem zkm{pid:Id}{p:Path}{b cap o:Nat}:∀(k j:Nat) {h:Heap} {γ:Gm} {w:World} {els:List (List G)},Mm h γ S w→γ.nav pid p=some (.s 1 (some ⟨b,cap,o⟩) els)→h.nav pid p=some (.s 1 (cD els))→(∀el∈els,∃x v,el=[.l (.v x) v])→j+k=els.length →
  ∃h' γ',Clrd h h' γ γ' S w pid p b o j k els
 |0,j,h,γ,w,els,m,hn,hd,he,hl=>by
  refine⟨h,γ,⟨?_,by simpa[World.setCells] using m,fun _=>Iff.rfl,fun _ _=>Same.refl _ _ _,Sub.refl _,fun h=>absurd rfl h⟩⟩
  rw[List.take_of_length_le (by omega),List.replicate_zero,zqe]
  exact Qs hd
 |k+1,j,h,γ,w,els,m,hn,hd,he,hl=>by
  have hj:j<els.length:=by omega
  obtain⟨x,v,hx⟩:=he els[j] (List.getElem_mem hj)
  obtain⟨d0,hd0,_⟩:∃d0,h pid=some d0∧d0.nav p=some (.s 1 (cD els)):=by simpa[Heap.nav,aA] using hd
  obtain⟨n,hfr⟩:=m.fresh
  have m1:=m.addLeaf hfr (g:= .l (.v (.bool false)) (.bool false)) (by simp[G.ok,D.rd,D.leaf];rfl) (Cf _ _)
  have hn1:Gm.nav (upd γ (.inr n) (some (.l (.v (.bool false)) (.bool false)))) pid p=some (.s 1 (some ⟨b,cap,o⟩) els):=by
   rw[←hn];simp[Gm.nav,upd]
  have hsub:Sub (upd γ (.inr n) (some (.l (.v (.bool false)) (.bool false)))) γ:=fun i g' hi k hk=>by
   unfold upd at hi
   split at hi
   ·simp only[oi] at hi;subst hi;simp[G.bl] at hk
   ·exact⟨i,g',hi,hk⟩
  obtain⟨h1,γ2,s1⟩:=zZN m1 hd0 hn1 (List.getElem?_eq_getElem hj) (i:=0) (c:= .l (.v x) v) (gid:= .inr n) (c':= .l (.v (.bool false)) (.bool false)) (by rw[hx];rfl) (by simp[upd]) (fun id e=>by simp at e)
  have hset:els[j].set 0 (.l (.v (.bool false)) (.bool false))=gF:=by rw[hx];rfl
  have hn2:=s1.at_
  rw[hset] at hn2
  have hp1:=s1.put
  rw[hset] at hp1
  have hd1:h1.nav pid p=some (.s 1 (cD (els.set j gF))):=by
   simp only[Heap.put,hd0,obs,aC] at hp1
   obtain⟨d',h3,rfl⟩:=hp1
   simp only[Heap.nav,upd,if_true,obs]
   exact F7 p d0 _ d' h3
  obtain⟨h2,γ3,s2⟩:=zkm k (j+1) s1.mm hn2 hd1 (fun el hel=>by
   rcases List.mem_or_eq_of_mem_set hel with h|h
   ·exact he el h
   ·exact⟨_,_,h⟩) (by rw[List.length_set];omega)
  have hs1:∀id' p',Same γ γ2 id' p':=fun id' p'=>(Same.addInr id' p').trans (s1.plain ⟨x,v,_,_,by rw[hx];rfl,rfl⟩ id' p')
  refine⟨h2,γ3,⟨?_,?_,fun id=>(s1.mono id).trans (s2.mono id),fun id' p'=>(hs1 id' p').trans (s2.same id' p'),s2.sub.trans (s1.sub.trans hsub),fun _=> ?_⟩⟩
  ·have:=s2.put
   rw[Xs hp1] at this
   rw[←this]
   congr 3
   have e1:(els.set j gF).take (j+1)=els.take j++[gF]:=by
    rw[List.take_succ,List.getElem?_set_self hj,List.take_set_of_le (Nat.le_refl _)]
    rfl
   rw[e1,List.replicate_succ,zqc]
   rfl
  ·have:=s2.mm
   rw[List.replicate_succ]
   simp only[World.setCells]
   rw[show o+j+1=o+(j+1) by omega]
   simpa only[Nat.mul_one,Nat.add_zero,G.val] using this
  ·obtain⟨i0,g0,h1,h2⟩:=s1.inb
   exact hsub i0 g0 h1 b h2
theorem zJr{el:List G}(h:wV (ers el)=true):∃x v,el=[.l (.v x) v]:=by
 match el with
 |[]=>simp[ers,wV] at h
 |[.l d v] =>
  simp only[ers,G.er] at h
  cases d with
  |v x=>exact⟨x,v,rfl⟩
  |_=>simp[wV] at h
 |[.s _ _ _]=>simp[ers,G.er,wV] at h
 |_::_::_=>simp[ers,wV] at h
theorem Pg(v:Value)(n:Nat):(Builtin.zeroCells #[v] n).toList=List.replicate n v:=by
 apply List.ext_getElem?
 intro i
 simp only[Builtin.zeroCells,List.size_toArray,lc,ln,Nat.zero_add,Nat.mul_one,Array.toList_map,Array.toList_range,List.getElem?_map,List.getElem?_range,List.getElem?_replicate]
 by_cases h:i<n
 ·simp[h,Nat.mod_one]
 ·simp[h]
theorem z9x(R:Rep c st U γ S a w){t e:TypeId}{y:Operand}{x:O}(ho:o.op= .call {callee:= .builtin .clear,args:= #[y],argTypes:= #[t]})(h1:eqO y x=true)(ht:cP c.P t=some e)(hz:sG c.P e=some [.bool false])(hs:opS C st o.dst id (.clr x)=some st'):Runs c o a w st' U:=by
 simp only[opS] at hs
 split at hs
 ·simp at hs
 rename_i hdn
 have hd:o.dst=none:=by cases h:o.dst<;>simp_all
 simp only[aA] at hs
 obtain⟨xv,h3,⟨pid,p⟩,h4,r,h5,h6⟩:=hs
 split at h6
 ·rename_i hb
  obtain⟨hb1,hb2⟩:=hb
  rw[aC] at h6
  obtain⟨h',h7,rfl⟩:=h6
  cases xv with
  |ref id' p' =>
   simp only[X.refOf,oi,zqb] at h4
   obtain⟨rfl,rfl⟩:=h4
   obtain⟨h8,h9⟩:=bV R h1 h3
   obtain⟨b,els,h10,h11⟩:=R.mm.row h5
   rw[hb1] at h10
   simp only[X.vr] at h8
   have hval:=(h8.2 _ h10).1
   have hok:=R.mm.nav_ok h10
   have hpl:∀el∈els,∃x v,el=[.l (.v x) v]:=fun el hel=>by
    refine zJr ?_
    rw[List.all_eq_true] at hb2
    exact hb2 _ (by rw[←h11,cG,List.mem_map];exact⟨el,hel,(gV el).symm⟩)
   have hlen:r.2.length=els.length:=by rw[←h11,cY]
   have hnav:st.heap.nav id' p'=some (.s 1 (cD els)):=by
    simp only[Heap.row,aA] at h5
    obtain⟨d,h12,h13⟩:=h5
    cases d with
    |s sz es =>
     simp only[D.rowOf,oi] at h13
     subst h13
     simp only at hb1 h11
     rw[h12,hb1,h11]
    |_=>simp[D.rowOf] at h13
   have hu:∃e',c.P.underlying t=some (.slice e')∧e'=e:=by
    unfold cP at ht
    split at ht
    ·simp only[oi] at ht
     exact⟨_,‹_›,ht⟩
    ·simp at ht
   obtain⟨e',hu,rfl⟩:=hu
   by_cases he:els=[]
   ·subst he
    have hh:h'=st.heap:=by
     rw[hlen,ln,List.replicate_zero] at h7
     have:=Qs hnav
     simp only[cD] at this
     rw[this] at h7
     simpa using h7.symm
    subst hh
    have hrun:(execOp a.eval o).run c.P w= .ok (.value (.tuple #[])) w:=by
     cases b with
     |none=>simp only[G.val] at hval;simp[execOp,ho,resolve,invoke,builtin,←hval,Builtin.clear_,run_underlying hu]
     |some b=>simp only[G.val,ln] at hval;simp[execOp,ho,resolve,invoke,builtin,←hval,Builtin.clear_,run_underlying hu]
    refine .value _ w hrun ?_
    rw[hd]
    exact⟨γ,S,R⟩
   ·cases b with
    |none =>
     simp only[G.ok] at hok
     exact absurd hok.1 he
    |some b =>
     obtain⟨b,cap,o0⟩:=b
     obtain⟨h2,γ2,s2⟩:=zkm els.length 0 R.mm h10 hnav hpl (by omega)
     have hput:=s2.put
     rw[List.take_zero,zqf,show cD (List.replicate els.length gF)=List.replicate r.2.length [D.v (.bool false)] by rw[hlen,cG,List.map_replicate];simp[ers,G.er],h7] at hput
     simp only[oi] at hput
     subst hput
     have hcells:∀k,k<els.length→(w.cell? ⟨b,o0+k,none⟩).isSome=true∧w.frozen? ⟨b,o0+k,none⟩=false:=fun k hk=>by
      obtain⟨x,v,hx⟩:=hpl els[k] (List.getElem_mem hk)
      have:=sJ hok (List.getElem?_eq_getElem hk) (i:=0) (c:= .l (.v x) v) (by rw[hx];rfl)
      obtain⟨cur,e,hcur⟩:=kD hok
      rw[Nat.mul_one,Nat.add_zero] at this
      exact⟨by rw[this];rfl,frozen_of_row w b _ cur e hcur⟩
     have hst:=run_storeCells_cells (P:=c.P) b o0 (List.replicate els.length (.bool false)) 0 w (fun k hk=>by rw[List.length_replicate] at hk;simpa using (hcells k hk).1) (fun k hk=>by rw[List.length_replicate] at hk;simpa using (hcells k hk).2) (fun v hv=>by rw[(List.mem_replicate.1 hv).2];rfl)
     have hne:els.length≠0:=fun h=>he (List.length_eq_zero_iff.1 h)
     have hrun:(execOp a.eval o).run c.P w= .ok (.value (.tuple #[])) (w.setCells b o0 (List.replicate els.length (.bool false))):=by
      simp only[G.val] at hval
      obtain⟨z,hz1,hz2,_⟩:=lF hz w
      have hzc:z.cells= #[.bool false]:=by rw[←Array.toList_inj,hz2]
      obtain⟨m,hm⟩:∃m,els.length=m+1:=⟨els.length-1,by omega⟩
      rw[hm] at hval hst ⊢
      simp[execOp,ho,resolve,invoke,builtin,←hval,Builtin.clear_,run_underlying hu,hz1,hzc,Pg,hst]
     refine .value _ _ hrun ?_
     rw[hd]
     obtain⟨so,stp,sou,ssz⟩:=n9 b (List.replicate els.length (.bool false)) o0 w
     have hbl:Bl γ b:=by
      obtain⟨i0,g0,hb1,hb2⟩:=s2.inb hne
      exact⟨i0,g0,hb1,hb2⟩
     have hm2:=s2.mm
     rw[Nat.add_zero] at hm2
     have R2:=R.change (U':=U) hm2 so stp sou (by rw[ssz];exact Nat.le_refl _) (fun k _ hk=>iQ b _ _ w k (fun e=>hk (e ▸ hbl))) (Sub.own R s2.sub) (fun t x hx=>cS (fun id p=>s2.same id p) x)
      (fun id hid=>s2.same id []) (fun k h=>h) (fun k h=> .inl h) (fun id d hd=> ?_) (fun _ h=>h) (fun id _ h0=>(s2.mono id).1 h0)
     ·exact⟨γ2,S,R2⟩
     ·have hne:st.heap id≠none:=fun h0=>by
       have:=(s2.mono id).1 h0
       rw[this] at hd
       simp at hd
      obtain⟨d1,hd1⟩:=Option.ne_none_iff_exists'.1 hne
      exact R.hid id d1 hd1
  |_=>simp[X.refOf] at h4
 ·simp at h6
end
end Go.Ev
