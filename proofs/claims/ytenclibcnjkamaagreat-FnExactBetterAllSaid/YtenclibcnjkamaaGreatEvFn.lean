import Derived.Test.YtenclibcnjkamaaGreatEvDraw
import Derived.Test.YtenclibcnjkamaaGreatEvLate
import Derived.Test.YtenclibcnjkamaaGreatEvLib
import Derived.Deep.LoopGhost
set_option linter.all false
namespace Go.Ev
open Go.RowKit
def pZ(P:Program)(nt:Nat)(ops:Array Oper)(draw:Bool)(l:List SItem):Bool :=
 if draw then zjI P nt ops l else dR P nt ops ops.toList l
def zjS(P:Program)(nt:Nat)(ops:Array Oper):Bool:=match ops.toList with
 |[oa,ob]=>(⟨some 3,none,.mov (.t 0)⟩:SItem).chk P nt ops oa&&decide (ob.dst=some 4)&&decide (4<nt)&&decide (ob.guard=none)&&(match ob.op with
  |.binOp .eql t (.tmp 3) (.const (.slice none 0 0)) _=>(cP P t).isSome
  |_=>false)
 |_=>false
def j9(P:Program)(nt:Nat):SCode→Code→Bool
 |.stuck,_=>true
 |.alt _ s s2,c=>j9 P nt s c&&j9 P nt s2 c
 |.seq (.keep _) s,c=>j9 P nt s c
 |.seq s (.keep _),c=>j9 P nt s c
 |.seq a b,.seq x y=>j9 P nt a x&&j9 P nt b y
 |.skip,.skip=>true
 |.skip,.label _=>true
 |.ops l,.region _ ops draw=>pZ P nt ops draw l
 |.opsd l,.region _ ops draw=>draw&&(z7e P nt ops l||Td P nt ops l)
 |.clone sz l,.seq (.region _ o0 false) (.seq (.seq (.region _ o1 false) (.cond y (.seq (.region _ o2 false) .ret) .skip)) (.seq (.region _ o3 false) .ret)) =>
   dR P nt o0 o0.toList [⟨some 2,none,.mov (.n sz)⟩]&&zjS P nt o1&&eqO y (.t 4)&&dR P nt o2 o2.toList [⟨some 2,none,.mov (.n sz)⟩]&&dR P nt o3 o3.toList l
 |.cond o a b,.cond y x1 x2=>eqO y o&&j9 P nt a x1&&j9 P nt b x2
 |.block id a,.block id' x=>decide (id'=id)&&j9 P nt a x
 |.loop _ a,.loop x=>j9 P nt a x
 |.exit id,.exit id'=>decide (id'=id)
 |.ret,.ret=>true
 |_,_=>false
def Ex.to:Ex→Exit
 |.nor=> .normal
 |.ext id=> .exit id
 |.ret=> .ret
section
variable{c:Ctx}{st st':St}{a:Act}{w:World}
theorem Cc{C:Cl}(hC:CallOk c.P C){ops:Array Oper}{draw:Bool}{l:List SItem}(hc:pZ c.P c.nt ops draw l=true)(hs:mI C st 0 l=some st')(hok:Okn c st a w){Q:Exit→Act→World→Prop}(hQ:∀a' w',Okn c st' a' w'→Q .normal a' w'){rid:Nat} :
  (Code.region rid ops draw).wp c.P Q a w:=by
 unfold pZ at hc
 cases draw with
 |true=>exact zzN hC (by simpa using hc) hs hok hQ
 |false =>
  refine wp_region ?_
  rw[List.range_eq_range',←Array.length_toList]
  exact zkf hC ops.toList l 0 0 st a w (fun k=>by simp) (by simpa using hc) hs (by simpa using hok) hQ
theorem zvK{P:Program}{t e:TypeId}{A:Option Addr}{n cap:Nat}{w:World}(hu:P.underlying t=some (.slice e)):(Op.equal t (.slice A n cap) (.slice none 0 0)).run P w= .ok A.isNone w:=by
 unfold Op.equal
 rw[show Op.maxDepth=9999+1 from rfl,Op.equalIn]
 simp only[run_underlying hu]
 cases A<;>simp[run_underlying hu]
theorem Yv{C:Cl}:∀{l:List SItem} {m:Nat} {s s':St},mI C s m l=some s'→s'.fr=s.fr
 |[],m,s,s',h=>by
  simp only[mI,oi] at h
  subst h;rfl
 |it::l,m,s,s',h=>by
  simp only[mI,aA] at h
  obtain⟨s1,h1,h2⟩:=h
  exact(Yv h2).trans (Bu h1).2
theorem zvr{U:Nat→Prop}{γ:Gm}{S:Nat→Prop}(R:Rep c st U γ S a w){sz n d:Nat}(hn:¬U n)(hv:a.tmps.getD d undef= .slice none 0 0) :
  Ok c {env:=upd emp d (some (.ref (st.fr,n) [])),heap:=upd emp (st.fr,n) (some (.s sz [])),fr:=st.fr,next:=st'.next} (UB U n 1) a w:=by
 obtain⟨γ1,i,t⟩:=nG R.mm (g:= .s sz none []) (by simp[G.ok,gK]) (by simp[G.bl,bX])
 have R1:Rep c {st with heap:=st.heap} U γ1 S a w:=R.change t.mm rfl rfl rfl (Nat.le_refl _) (fun _ _ _=>rfl) (fun k ⟨j,g,h1,h2⟩=> .inl (by
  obtain⟨i0,g0,h3,h4⟩:=t.sub j g h1 k h2
  exact⟨i0,g0,h3,h4⟩)) (fun t' x hx=>cS (fun id p=>t.same id p) x) (fun id _=>t.same id []) (fun _ h=>h) (fun _ h=> .inl h) R.hid (fun _ h=>h) (fun _ _ h=>h)
 obtain⟨γ2,p1,p2,p3⟩:=pP (x:= .d (.s sz [])) (v:= .slice none 0 0) (is:=[i]) R1 (.inr ⟨sz,[],i,_,rfl,rfl,t.at_,t.isr,by simp[G.er,cD],by simp[G.val]⟩) (by simp only[X.allp]) hn
 have R2:=p1.rep
 simp only[jT] at R2 p2 p3
 have hless:∀id d',(upd emp (st.fr,n) (some (D.s sz [])):Heap) id=some d'→(st.with (upd st.heap (st.fr,n) (some (D.s sz [])))).heap id=some d':=fun id d' h=>by
  simp only[upd,emp] at h
  split at h
  ·rename_i e;simp only[St.with,upd,e,if_true];exact h
  ·simp at h
 exact⟨γ2,S,⟨R2.mm.less hless,R2.os,R2.tape,R2.output,R2.size,R2.keep,R2.own,R2.hd,R2.sg,R2.s0,R2.s00,fun t x hx=>by
  simp only[upd,emp] at hx
  split at hx
  ·rename_i e;subst e
   simp only[oi] at hx
   subst hx
   rw[hv];exact p2
  ·simp at hx,fun t x hx=>by
  simp only[upd,emp] at hx
  split at hx
  ·simp only[oi] at hx
   subst hx
   exact p3
  ·simp at hx,fun id d' h=>R2.hid id d' (hless id d' h),fun id hid h0=>by
  simp only[upd,emp]
  split
  ·rename_i e;subst e;simp at hid
  ·rfl,R2.df,R2.sz,R2.iso⟩⟩
theorem zKd{C:Cl}(hC:CallOk c.P C){o0 o1 o2 o3:Array Oper}{r0 r1 r2 r3:Nat}{y:Operand}{sz:Nat}{l:List SItem}{x:X}{els:List (List D)}{s:St}{e:Ex}
  (h0:dR c.P c.nt o0 o0.toList [⟨some 2,none,.mov (.n sz)⟩]=true) (h1:zjS c.P c.nt o1=true) (hy:eqO y (.t 4)=true) (h2:dR c.P c.nt o2 o2.toList [⟨some 2,none,.mov (.n sz)⟩]=true) (h3:dR c.P c.nt o3 o3.toList l=true)
  (hx:st.env 0=some x) (hels:x.elsOf st.heap=some els) (hs:mI C (jM st x) 0 l=some s) (hf:Gk st sz els s=some (e,st')) (hok:Okn c st a w) {Q:Exit→Act→World→Prop} (hQ:∀a' w',Okn c st' a' w'→Q e.to a' w') :
  (Code.seq (.region r0 o0 false) (.seq (.seq (.region r1 o1 false) (.cond y (.seq (.region r2 o2 false) .ret) .skip)) (.seq (.region r3 o3 false) .ret))).wp c.P Q a w:=by
 unfold Gk at hf
 simp only[aA] at hf
 obtain⟨id,⟨rx,hf1,hf2⟩,r,⟨d,hf3,hf4⟩,hf5⟩:=hf
 split at hf5
 ·rename_i hcond
  obtain⟨g1,g2,g3,g4,g5⟩:=hcond
  simp only[oi,zqb] at hf5
  obtain⟨rfl,rfl⟩:=hf5
  have hid:rx= .ref id []:=by
   unfold X.rowId at hf2
   split at hf2
   ·simp only[oi] at hf2;subst hf2;rfl
   ·simp at hf2
  subst hid
  have hd:d= .s r.1 r.2:=by
   unfold D.rowOf at hf4
   split at hf4
   ·simp only[oi] at hf4;subst hf4;rfl
   ·simp at hf4
  subst hd
  refine wp_seq (Cc hC (draw:=false) (l:=[⟨some 2,none,.mov (.n sz)⟩]) (by unfold pZ;simpa using h0) rfl hok fun a1 w1 ok1=> ?_)
  have ok2:Okn c (jM st x) a1 w1:=by
   obtain⟨γ,S,R⟩:=ok1
   refine⟨γ,S,?_⟩
   have:=R.less (e:=upd emp 0 (some x)) (fun t z hz=>by
    simp only[upd,emp] at hz
    split at hz
    ·rename_i e;subst e
     simp only[oi] at hz
     subst hz
     simp only[St.put,upd]
     rw[if_neg (by omega)]
     exact hx
    ·simp at hz)
   simpa[jM,St.put] using this
  refine wp_seq (wp_seq (wp_region ?_))
  unfold zjS at h1
  split at h1
  ·rename_i oa ob hl
   have e1:o1= #[oa,ob]:=by
    apply Array.ext'
    rw[hl]
   subst e1
   simp only[bE,zqd] at h1
   obtain⟨⟨⟨⟨k1,k2⟩,k3⟩,k4⟩,k5⟩:=h1
   have hr:List.range (#[oa,ob]:Array Oper).size=[0,1]:=rfl
   rw[hr,wpOps_cons]
   obtain⟨γ,S,R⟩:=ok2
   have hs1:itS C (jM st x) 0 ⟨some 3,none,.mov (.t 0)⟩=some ((jM st x).put (some 3) x):=by
    simp only[itS,opS,rdO,jM,upd,if_true,oms]
   refine pM R k1 hC (n:=0) (U':=fun k=>k<(jM st x).next) (fun h=>by simp[SOp.quiet] at h) (fun k h=>h) (fun h=>by simp[SOp.quiet] at h) hs1 (i:=0) rfl ?_
   rintro a2 w2 ⟨γ,S,R⟩
   rw[wpOps_cons]
   have hv:x.vr γ w2 S (a2.tmps.getD 3 undef):=R.env 3 x (by simp[St.put,upd])
   obtain⟨A,cap,v1,v5⟩:∃A cap,a2.tmps.getD 3 undef= .slice A els.length cap∧(A=none→els=[]):=by
    cases x with
    |d y =>
     cases y with
     |r els' =>
      simp only[X.elsOf,oi] at hels
      subst hels
      simp only[X.vr,D.rd] at hv
      obtain⟨A,cap,v1,v2,v3,v4,v5⟩:=hv
      refine⟨A,cap,v1,fun hA=> ?_⟩
      subst hA
      cases els' with
      |nil=>rfl
      |cons el els=>simp[dZ] at v5
     |_=>simp[X.elsOf] at hels
    |ref id0 p0 =>
     simp only[X.elsOf,aC] at hels
     obtain⟨r0,k6,rfl⟩:=hels
     obtain⟨b,ges,k7,k8⟩:=R.mm.row (id:=id0) (p:=p0) (r:=r0) k6
     simp only[X.vr] at hv
     have hval:=(hv.2 _ k7).1
     have hok:=R.mm.nav_ok k7
     have hlen:r0.2.length=ges.length:=by rw[←k8,cY]
     cases b with
     |none =>
      simp only[G.ok] at hok
      refine⟨none,0,?_,fun _=> ?_⟩
      ·rw[hok.1] at hlen
       rw[←hval,hlen];rfl
      ·rw[hok.1] at k8
       rw[←k8];rfl
     |some b=>exact⟨_,_,by rw[←hval,hlen];rfl,fun h=>by simp at h⟩
    |_=>simp[X.elsOf] at hels
   split at k5
   ·rename_i t tt hop
    have hrun:(execOp a2.eval ob).run c.P w2= .ok (.value (.bool A.isNone)) w2:=by
     have e3:a2.eval (.tmp 3)= .slice A els.length cap:=v1
     obtain⟨el,hel⟩:=Option.isSome_iff_exists.1 k5
     unfold cP at hel
     split at hel
     ·rename_i e' hu
      have e4:a2.eval (.const (.slice none 0 0))= .slice none 0 0:=rfl
      simp[execOp,hop,e3,e4,binOp,eqGuard,zvK hu]
     ·simp at hel
    unfold wpOp
    rw[show(#[oa,ob]:Array Oper)[1]? = some ob from rfl]
    simp only
    have hw:Region.wanted ob (yielded #[oa,ob] a2.tmps)=true:=by unfold Region.wanted;rw[k4]
    rw[if_pos hw]
    refine .inl ((Runs.value (.bool A.isNone) w2 hrun (gR R (d:=ob.dst) (fun k hk=>by rw[k2] at hk;cases hk;exact k3) rfl)).wp ?_)
    rintro a3 w3 ⟨γ3,S3,R3⟩
    simp only[wpOps]
    rw[k2] at R3
    have hev:a3.eval y= .bool A.isNone:=Gn R3 hy (by simp[rdB,rdO,St.put,upd,X.bool])
    have ok4:Okn c (jM st x) a3 w3:=⟨γ3,S3,by
     have:=R3.less (e:=upd emp 0 (some x)) (fun t z hz=>by
      simp only[upd,emp] at hz
      split at hz
      ·rename_i e;subst e
       simp only[oi] at hz
       subst hz
       simp[St.put,upd,jM]
      ·simp at hz)
     simpa[jM,St.put] using this⟩
    refine wp_cond hev ?_
    cases hA:A.isNone with
    |false =>
     simp only[Bool.false_eq_true,if_false]
     refine wp_skip ?_
     refine wp_seq (Cc hC (draw:=false) (l:=l) (by unfold pZ;simpa using h3) hs ok4 fun a4 w4 ok5=> ?_)
     refine wp_ret (hQ a4 w4 ?_)
     obtain⟨γ5,S5,R5⟩:=ok5
     have hfr:s.fr=st.fr:=by have:=Yv hs;simpa[jM] using this
     have hless:∀i d',(upd emp id (some (D.s r.1 r.2)):Heap) i=some d'→s.heap i=some d':=fun i d' h=>by
      simp only[upd,emp] at h
      split at h
      ·rename_i e;rw[e,hf3];exact h
      ·simp at h
     rw[←hfr]
     exact⟨γ5,S5,⟨R5.mm.less hless,R5.os,R5.tape,R5.output,R5.size,R5.keep,R5.own,R5.hd,R5.sg,R5.s0,R5.s00,fun t x hx=>by
      simp only[upd,emp] at hx
      split at hx
      ·rename_i e;subst e
       simp only[oi] at hx
       subst hx
       exact R5.env 2 _ hf1
      ·simp at hx,fun t x hx=>by
      simp only[upd,emp] at hx
      split at hx
      ·rename_i e;subst e
       simp only[oi] at hx
       subst hx
       exact R5.ids 2 _ hf1
      ·simp at hx,fun i d' h=>R5.hid i d' (hless i d' h),fun i hi h0=>by
      simp only[upd,emp]
      split
      ·rename_i e;subst e;rw[hfr] at hi;omega
      ·rfl,R5.df,R5.sz,R5.iso⟩⟩
    |true =>
     simp only[if_true]
     have hAn:A=none:=by cases A<;>simp_all
     subst hAn
     have hnil:els=[]:=v5 rfl
     subst hnil
     have hr2:r.2=[]:=by simpa using g2 rfl
     refine wp_seq (Cc hC (draw:=false) (l:=[⟨some 2,none,.mov (.n sz)⟩]) (by unfold pZ;simpa using h2) rfl ok4 fun a4 w4 ok5=> ?_)
     refine wp_ret (hQ a4 w4 ?_)
     obtain⟨γ5,S5,R5⟩:=ok5
     have hv2:a4.tmps.getD 2 undef= .slice none 0 0:=by
      have:=R5.env 2 (.d (.s sz [])) (by simp[St.put,upd])
      simp only[X.vr] at this
      exact this.2
     obtain⟨γ6,S6,R6⟩:=zvr (st':=s) R5 (sz:=sz) (n:=id.2) (d:=2) (by simp[jM,St.put];omega) hv2
     have hid:id=(st.fr,id.2):=by rw[←g3]
     rw[hr2,g1]
     rw[hid]
     refine⟨γ6,S6,?_⟩
     have:=R6.mono (U':=fun k=>k<s.next) (fun k hk=>by
      rcases hk with hk|hk
      ·simp[jM,St.put] at hk;omega
      ·omega)
     simpa[jM,St.put] using this
   ·simp at k5
  ·simp at h1
 ·simp at hf5
def z9c(c:Ctx)(Φ:Nat→Option SFn)(k:Nat):Prop:=∀(s:SCode) (x:Code) (st st':St) (e:Ex) (a:Act) (w:World) (Q:Exit→Act→World→Prop),j9 c.P c.nt s x=true→ev Φ k s st=some (e,st')→Okn c st a w→(∀a' w',Okn c st' a' w'→Q e.to a' w')→x.wp c.P Q a w
theorem Mt{L:List Nat}(h:Okn c st a w):Okn c (uN L st) a w:=by
 obtain⟨γ,S,R⟩:=h
 exact zK9 L R
theorem zWs{Φ:Nat→Option SFn}:∀k,(∀j,j<k→CallOk c.P (evC Φ j))→z9c c Φ k:=by
 intro k
 induction k using Nat.strongRecOn with
 |_ k ih =>
  intro hC s x st st' e a w Q hc hs hok hQ
  cases k with
  |zero=>simp[ev] at hs
  |succ k =>
   have ihk:z9c c Φ k:=ih k (by omega) (fun j hj=>hC j (by omega))
   rw[ev.eq_def] at hs
   simp only at hs
   unfold j9 at hc
   split at hc
   ·simp at hs
   ·
    simp only[bE] at hc
    simp only at hs
    split at hs
    ·exact ihk _ _ st st' e a w Q hc.1 hs hok hQ
    ·exact ihk _ _ st st' e a w Q hc.2 hs hok hQ
   ·
    rename_i L b
    simp only[aA] at hs
    obtain⟨⟨e1,s1⟩,h1,h2⟩:=hs
    cases k with
    |zero=>simp[ev] at h1
    |succ k =>
     simp only[ev,oi,zqb] at h1
     obtain⟨rfl,rfl⟩:=h1
     exact ihk b x _ st' e a w Q hc h2 (Mt hok) hQ
   ·
    rename_i b L hne
    simp only[aA] at hs
    obtain⟨⟨e1,s1⟩,h1,h2⟩:=hs
    refine ihk b x st s1 e1 a w Q hc h1 hok fun a' w' hok'=> ?_
    cases e1 with
    |nor =>
     cases k with
     |zero=>simp[ev] at h2
     |succ k =>
      simp only[ev,oi,zqb] at h2
      obtain⟨rfl,rfl⟩:=h2
      exact hQ _ _ (Mt hok')
    |ext id =>
     simp only[oi,zqb] at h2
     obtain⟨rfl,rfl⟩:=h2
     exact hQ _ _ hok'
    |ret =>
     simp only[oi,zqb] at h2
     obtain⟨rfl,rfl⟩:=h2
     exact hQ _ _ hok'
   ·
    rename_i sa sb x y _ _
    simp only[bE] at hc
    simp only[aA] at hs
    obtain⟨⟨e1,s1⟩,h1,h2⟩:=hs
    refine wp_seq (ihk sa x st s1 e1 a w _ hc.1 h1 hok fun a' w' hok'=> ?_)
    cases e1 with
    |nor=>exact ihk sb y s1 st' e a' w' Q hc.2 h2 hok' hQ
    |ext id =>
     simp only[oi,zqb] at h2
     obtain⟨rfl,rfl⟩:=h2
     exact hQ _ _ hok'
    |ret =>
     simp only[oi,zqb] at h2
     obtain⟨rfl,rfl⟩:=h2
     exact hQ _ _ hok'
   ·simp only[oi,zqb] at hs
    obtain⟨rfl,rfl⟩:=hs
    exact wp_skip (hQ _ _ hok)
   ·simp only[oi,zqb] at hs
    obtain⟨rfl,rfl⟩:=hs
    exact wp_label (hQ _ _ hok)
   ·
    simp only[aC,zqb] at hs
    obtain⟨s1,h1,rfl,rfl⟩:=hs
    exact Cc (hC k (by omega)) hc h1 hok hQ
   ·
    simp only[aC,zqb] at hs
    obtain⟨s1,h1,rfl,rfl⟩:=hs
    simp only[bE] at hc
    obtain⟨rfl,hc⟩:=hc
    rcases (Bool.or_eq_true _ _).mp hc with hc|hc
    ·exact Yj (hC k (by omega)) hc h1 hok hQ
    ·exact Wb (hC k (by omega)) hc h1 hok hQ
   ·
    simp only[aA] at hs
    obtain⟨x,h1,els,h2,s,h3,h4⟩:=hs
    simp only[bE] at hc
    exact zKd (hC k (by omega)) hc.1.1.1.1 hc.1.1.1.2 hc.1.1.2 hc.1.2 hc.2 h1 h2 h3 h4 hok hQ
   ·
    rename_i o sa sb y x1 x2
    simp only[bE] at hc
    simp only[aA] at hs
    obtain⟨t,h1,h2⟩:=hs
    have hev:a.eval y= .bool t:=by
     obtain⟨γ,S,R⟩:=hok
     exact Gn R hc.1.1 h1
    refine wp_cond hev ?_
    split at h2
    ·rw[if_pos ‹_›];exact ihk sa x1 st st' e a w Q hc.1.2 h2 hok hQ
    ·rw[if_neg ‹_›];exact ihk sb x2 st st' e a w Q hc.2 h2 hok hQ
   ·
    rename_i id sa id' x
    simp only[bE,zqd] at hc
    obtain⟨rfl,hc⟩:=hc
    simp only[aC,zqb] at hs
    obtain⟨⟨e1,s1⟩,h1,h2,h3⟩:=hs
    simp only at h2 h3
    subst h3
    refine wp_block (ihk sa x st s1 e1 a w _ hc h1 hok fun a' w' hok'=> ?_)
    have:=hQ a' w' hok'
    cases e1 with
    |nor=>simp only[reduceCtorEq,if_false] at h2;subst h2;exact this
    |ret=>simp only[reduceCtorEq,if_false] at h2;subst h2;exact this
    |ext id2 =>
     simp only[Ex.ext.injEq] at h2
     simp only[Ex.to,Exit.inBlock]
     split at h2
     ·rw[if_pos ‹_›];subst h2;exact this
     ·rw[if_neg ‹_›];subst h2;exact this
   ·
    rename_i L sa x
    refine wp_loop_ghost (fun n a w=>n≤k+1∧∃s,Okn c s a w∧ev Φ n (.loop L sa) s=some (e,st')) (k+1) ⟨Nat.le_refl _,st,hok,by rw[ev.eq_def];simpa only using hs⟩ ?_
    rintro n a w ⟨hn,s,hok,hev⟩
    cases n with
    |zero=>simp[ev] at hev
    |succ n =>
     rw[ev.eq_def] at hev
     simp only[aA] at hev
     obtain⟨⟨e1,s1⟩,h1,h2⟩:=hev
     refine ih n (by omega) (fun j hj=>hC j (by omega)) sa x _ s1 e1 a w _ hc h1 (Mt hok) fun a' w' hok'=> ?_
     cases e1 with
     |nor=>exact⟨n,by omega,by omega,s1,hok',h2⟩
     |ext id =>
      simp only[oi,zqb] at h2
      obtain⟨rfl,rfl⟩:=h2
      exact hQ _ _ hok'
     |ret =>
      simp only[oi,zqb] at h2
      obtain⟨rfl,rfl⟩:=h2
      exact hQ _ _ hok'
   ·simp only[zqd] at hc
    subst hc
    simp only[oi,zqb] at hs
    obtain⟨rfl,rfl⟩:=hs
    exact wp_exit (hQ _ _ hok)
   ·simp only[oi,zqb] at hs
    obtain⟨rfl,rfl⟩:=hs
    exact wp_ret (hQ _ _ hok)
   ·simp at hc
end
open Go.RowKit
def qV(P:Program):List ResultVar→List SRes→Bool
 |[],[]=>true
 |.tmp t::rs,.t n::ss=>t==n&&qV P rs ss
 |.cell a t::rs,.c n k::ss=>a==n&&decide (aggOf P t=some k)&&qV P rs ss
 |_,_=>false
def aU(P:Program)(f:Nat)(s:SFn):Bool:=match P.funcs[f]? with
 |some fn=>decide (s.nt=fn.ntmps)&&decide (s.np≤s.nt)&& !(fn.name== "runtime.NumGoroutine")&&(match fn.body with|some x=>j9 P s.nt s.code x|none=>false)&&qV P fn.results.toList s.res
 |none=>false
def Tab(P:Program)(Φ:Nat→Option SFn):Prop:=∀f s,Φ f=some s→aU P f s=true∨zxc P f s
theorem Ya{P:Program}{w:World}{t:TypeId}{x:Value}{ad:Addr}(hx:x= .pointer (some ad)):((asAddr x >>= fun b=>loadVar t b).run P w)=(Instr.loadAt t x).run P w:=by
 subst hx
 simp[Instr.loadAt,Instr.sureAddr,asAddr]
section
variable{c:Ctx}{st:St}{U:Nat→Prop}{γ:Gm}{S:Nat→Prop}{a:Act}{w:World}
theorem zxV(R:Rep c st U γ S a w){t:Nat}{n:Option Nat}{z:X}{xs:List X}{x:X}(h1:st.env t=some z)(h2:oN st.heap (n.getD 1) z=some xs)(h3:uK n xs=some x){ty:TypeId}(ht:aggOf c.P ty=some n) :
  ∃v,(asAddr (a.tmps.getD t undef) >>= fun b=>loadVar ty b).run c.P w= .ok v w∧x.vr γ w S v∧x.allp (fun id _=>fO c.A st.fr U id):=by
 obtain⟨ad,us,h6,h7,h8,h9,h10,h11⟩:=W3 R h2 (R.env t z h1) (R.ids t z h1)
 rw[Ya h6,h6]
 cases n with
 |none =>
  simp only[uK] at h3
  unfold one at h3
  split at h3
  ·rename_i x1
   simp only[oi] at h3
   subst h3
   have hul:=fR h9
   obtain⟨u,rfl⟩:∃u,us=[u]:=by
    match us,hul with
    |[u],_=>exact⟨u,rfl⟩
   simp only[vrs,aR] at h9 h10
   have hc:=h8 0 u rfl
   rw[Addr.add_zero'] at hc
   exact⟨u,yP ht hc,h9.1,h10.1⟩
  ·simp at h3
 |some n =>
  simp only[uK,oi] at h3
  subst h3
  simp only[Option.getD_some] at h7
  exact⟨.agg us.toArray,yM ht h7 h8,by simp only[X.vr];exact⟨us,rfl,h9,h11⟩,by simp only[X.allp];exact h10⟩
def V5(tmps:Array Value):ResultVar→Sem Value
 |.tmp t=>pure (tmps.getD t undef)
 |.cell a t=>do loadVar t (←asAddr (tmps.getD a undef))
theorem zqk(R:Rep c st U γ S a w):∀{rs:List ResultVar} {ss:List SRes} {xs:List X},qV c.P rs ss=true→fT st ss=some xs →
  ∃vs,(rs.mapM (V5 a.tmps)).run c.P w= .ok vs w∧vrs γ w S xs vs∧aR (fun id _=>fO c.A st.fr U id) xs
 |[],[],xs,_,h=>by
  simp only[fT,oi] at h
  subst h
  exact⟨[],by simp,by simp[vrs],by simp[aR]⟩
 |.tmp t::rs,.t n::ss,xs,hc,h=>by
  simp only[qV,bE,beq_iff_eq] at hc
  obtain⟨rfl,hc⟩:=hc
  simp only[fT,aA,aC] at h
  obtain⟨x,h1,ys,h2,rfl⟩:=h
  obtain⟨vs,h3,h4,h5⟩:=zqk R hc h2
  refine⟨_::vs,?_,by simp only[vrs];exact⟨R.env _ _ h1,h4⟩,by simp only[aR];exact⟨R.ids _ _ h1,h5⟩⟩
  simp[List.mapM_cons,V5,h3]
 |.cell ad t::rs,.c n k::ss,xs,hc,h=>by
  simp only[qV,bE,beq_iff_eq,zqd] at hc
  obtain⟨⟨rfl,h0⟩,hc⟩:=hc
  simp only[fT,aA,aC] at h
  obtain⟨x,⟨z,h1,ys,h2,h3⟩,zs,h4,rfl⟩:=h
  obtain⟨vs,h5,h6,h7⟩:=zqk R hc h4
  obtain⟨v,h8,h9,h10⟩:=zxV R h1 h2 h3 h0
  refine⟨v::vs,?_,by simp only[vrs];exact⟨h9,h6⟩,by simp only[aR];exact⟨h10,h7⟩⟩
  rw[List.mapM_cons,Sem.run_bind]
  simp only[V5]
  rw[h8]
  simp[h5]
 |[],_::_,xs,hc,h=>by simp[qV] at hc
 |.tmp _::_,[],xs,hc,h=>by simp[qV] at hc
 |.cell _ _::_,[],xs,hc,h=>by simp[qV] at hc
 |.tmp _::_,.c _ _::_,xs,hc,h=>by simp[qV] at hc
 |.cell _ _::_,.t _::_,xs,hc,h=>by simp[qV] at hc
def pkV:List Value→Value
 |[v]=>v
 |vs=> .tuple vs.toArray
theorem Vo{P:Program}{fn:Func}{tmps:Array Value}{vs:List Value}{w:World}(h:(fn.results.toList.mapM (V5 tmps)).run P w= .ok vs w) :
  (results fn tmps).run P w= .ok (pkV vs) w:=by
 unfold results
 rw[Sem.run_bind,Array.mapM_eq_mapM_toList]
 show(Sem.run P (List.toArray <$> fn.results.toList.mapM (V5 tmps)) w).andThen _=_
 rw[Sem.run_map,h]
 simp only[Result.andThen_ok,Sem.run_pure]
 match vs with
 |[]=>rfl
 |[v]=>rfl
 |v::u::vs=>simp[pkV]
theorem Ee{γ:Gm}{xs:List X}{vs:List Value}{is:List GId}(h:eZ γ w S xs vs is)(hd:∀x∈xs,∀cs,x≠ .tup cs):cV γ w S (nI xs) (pkV vs) is:=by
 cases xs with
 |nil =>
  cases vs with
  |nil=>exact⟨[],rfl,h⟩
  |cons=>simp[eZ] at h
 |cons x xs =>
  cases vs with
  |nil=>simp[eZ] at h
  |cons v vs =>
   cases xs with
   |nil =>
    cases vs with
    |nil =>
     obtain⟨i1,i2,rfl,h1,h2⟩:=h
     simp only[eZ] at h2
     subst h2
     rw[zqe]
     simp only[nI,pkV]
     have:=hd x (by simp)
     cases x<;>first|exact h1|exact absurd rfl (this _)
    |cons =>
     obtain⟨i1,i2,_,_,h2⟩:=h
     simp[eZ] at h2
   |cons y xs =>
    cases vs with
    |nil =>
     obtain⟨i1,i2,_,_,h2⟩:=h
     simp[eZ] at h2
    |cons u vs=>exact⟨v::u::vs,rfl,h⟩
theorem y4{φ:Id→Path→Prop}{xs:List X}(h:aR φ xs):(nI xs).allp φ:=by
 match xs,h with
 |[],h=>simpa only[nI,X.allp] using h
 |[x],h=>simp only[aR] at h;exact h.1
 |x::y::xs,h=>simpa only[nI,X.allp] using h
theorem E6{fr:Nat}:∀{xs ys:List X} {h h':Heap},oY fr h xs=some (ys,h')→∀y∈ys,∀cs,y≠ .tup cs
 |[],ys,h,h',hf,y,hy,cs=>by
  simp only[oY,oi,zqb] at hf
  rw[←hf.1] at hy
  simp at hy
 |x::xs,ys,h,h',hf,y,hy,cs=>by
  simp only[oY,aA,aC] at hf
  obtain⟨⟨z,h1⟩,h2,⟨zs,h3⟩,h4,h5⟩:=hf
  simp only[zqb] at h5
  obtain⟨rfl,rfl⟩:=h5
  rcases List.mem_cons.1 hy with rfl|hy
  ·rintro rfl
   have hC:∀{x:X} {h:Heap},lV fr h x≠some (.tup cs,h1):=fun {x h} e=>by
    unfold lV at e
    split at e
    ·split at e<;>simp at e
    ·split at e
     ·rw[aC] at e
      obtain⟨_,_,e⟩:=e
      simp at e
     ·simp at e
    all_goals simp at e
   unfold oQ at h2
   split at h2
   ·rw[aC] at h2
    obtain⟨_,_,e⟩:=h2
    simp at e
   ·exact hC h2
  ·exact E6 h4 y hy cs
end
theorem Ed:∀{args:List X} {i t:Nat} {x:X},jQ i args t=some x→i≤t∧args[t-i]? = some x
 |[],i,t,x,h=>by simp[jQ,emp] at h
 |y::ys,i,t,x,h=>by
  simp only[jQ,upd] at h
  split at h
  ·rename_i e
   subst e
   simp only[oi] at h
   subst h
   simp
  ·obtain⟨h1,h2⟩:=Ed h
   refine⟨by omega,?_⟩
   rw[show t-i=(t-(i+1))+1 by omega]
   simpa using h2
theorem zqv{C:Cl}:∀{l:List SItem} {m:Nat} {s s':St},mI C s m l=some s'→s'.fr=s.fr
 |[],m,s,s',h=>by
  simp only[mI,oi] at h
  subst h;rfl
 |it::l,m,s,s',h=>by
  simp only[mI,aA] at h
  obtain⟨s1,h1,h2⟩:=h
  exact(zqv h2).trans (Bu h1).2
theorem zqD{C:Cl}{b:Nat}:∀{l:List DItem} {s s':St},opsD C b l s=some s'→s'.fr=s.fr
 |[],s,s',h=>by
  simp only[opsD,oi] at h
  subst h;rfl
 |y::l,s,s',h=>by
  simp only[opsD,aA] at h
  obtain⟨s1,h1,u,_,h2⟩:=h
  exact(zqD h2).trans (Bu h1).2
theorem z9n{Φ:Nat→Option SFn}:∀{k:Nat} {s:SCode} {st st':St} {e:Ex},ev Φ k s st=some (e,st')→st'.fr=st.fr:=by
 intro k
 induction k with
 |zero=>intro s st st' e h;simp[ev] at h
 |succ k ih =>
  intro s st st' e h
  cases s with
  |skip=>simp only[ev,oi,zqb] at h;rw[←h.2]
  |exit id=>simp only[ev,oi,zqb] at h;rw[←h.2]
  |ret=>simp only[ev,oi,zqb] at h;rw[←h.2]
  |keep L=>simp only[ev,oi,zqb] at h;rw[←h.2];exact Vr L st
  |alt q a b =>
   rw[ev] at h
   split at h
   ·exact ih h
   ·exact ih h
  |lib n =>
   simp only[ev,libS] at h
   split at h
   ·unfold zxP at h
    split at h
    ·simp only[oi,zqb] at h
     rw[←h.2]
    ·simp at h
   ·simp only[aA,aC,zqb] at h
    obtain⟨id,_,zs,_,_,h2⟩:=h
    rw[←h2]
  |stuck=>simp[ev] at h
  |ops l =>
   simp only[ev,aC,zqb] at h
   obtain⟨s1,h1,_,rfl⟩:=h
   exact zqv h1
  |opsd l =>
   simp only[ev,aC,zqb] at h
   obtain⟨s1,h1,_,rfl⟩:=h
   exact zqD (s':=s1) h1
  |clone sz l =>
   simp only[ev,aA] at h
   obtain⟨x,h1,els,h2,s1,h3,h4⟩:=h
   unfold Gk at h4
   simp only[aA] at h4
   obtain⟨id,_,r,_,h5⟩:=h4
   split at h5
   ·simp only[oi,zqb] at h5
    rw[←h5.2]
   ·simp at h5
  |seq a b =>
   rw[ev,aA] at h
   obtain⟨⟨e1,s1⟩,h1,h2⟩:=h
   have:=ih h1
   cases e1 with
   |nor=>exact(ih h2).trans this
   |ext id=>simp only[oi,zqb] at h2;rw[←h2.2];exact this
   |ret=>simp only[oi,zqb] at h2;rw[←h2.2];exact this
  |cond o a b =>
   rw[ev,aA] at h
   obtain⟨t,h1,h2⟩:=h
   split at h2
   ·exact ih h2
   ·exact ih h2
  |block id a =>
   rw[ev,aC] at h
   obtain⟨⟨e1,s1⟩,h1,h2⟩:=h
   simp only[zqb] at h2
   rw[←h2.2]
   exact ih h1
  |loop L a =>
   rw[ev,aA] at h
   obtain⟨⟨e1,s1⟩,h1,h2⟩:=h
   have:s1.fr=st.fr:=(ih (st:=uN L st) h1).trans (Vr L st)
   cases e1 with
   |nor=>exact(ih h2).trans this
   |ext id=>simp only[oi,zqb] at h2;rw[←h2.2];exact this
   |ret=>simp only[oi,zqb] at h2;rw[←h2.2];exact this
def Gm.low(fr:Nat)(γ:Gm):Gm:=fun i=>match i with
 |.inl id=>if id.1<fr then γ (.inl id) else none
 |.inr _=>none
theorem qO{fr:Nat}{γ:Gm}{i:GId}{g:G}(h:γ.low fr i=some g):γ i=some g∧∃id:Id,i= .inl id∧id.1<fr:=by
 unfold Gm.low at h
 split at h
 ·rename_i id
  split at h
  ·exact⟨h,id,rfl,‹_›⟩
  ·simp at h
 ·simp at h
theorem zzs{fr:Nat}{γ:Gm}{id:Id}(h:id.1<fr):γ.low fr (.inl id)=γ (.inl id):=by simp only[Gm.low,if_pos h]
theorem zQL{fr:Nat}{γ:Gm}{k:Nat}(h:Bl (γ.low fr) k):Bl γ k:=by
 obtain⟨i,g,h1,h2⟩:=h
 exact⟨i,g,(qO h1).1,h2⟩
theorem z9B{fr:Nat}{h:Heap}{γ:Gm}{S:Nat→Prop}{w:World}(m:Mm h γ S w)(hh:∀id d,h id=some d→id.1<fr):Mm h (γ.low fr) S w :=
 ⟨fun id d hd=>by
  obtain⟨g,h1,h2⟩:=m.er id d hd
  exact⟨g,by rw[zzs (hh id d hd)];exact h1,h2⟩,fun i g hi=>m.ok i g (qO hi).1,fun i g hi=>m.nd i g (qO hi).1,fun i i' g g' hi hi' hne=>m.dj i i' g g' (qO hi).1 (qO hi').1 hne,fun k hk=>⟨(m.sd k hk).1,fun i g hi=>(m.sd k hk).2 i g (qO hi).1⟩,⟨0,fun n _=>rfl⟩⟩
theorem zWO{P:Program}{f:Nat}{s:SFn}{n:Nat}(hcode:s.code= .lib n)(np1:s.np=1)(hres:s.res=(if n=1 then [] else [.t 0]))(hn3:n≠3)(L:LibOk P f n){args:List X}{h:Heap}{fr:Nat}{r:X}{h':Heap}{e:Ex}{s1:St}
  (h3:∀{n:Nat},s.code= .lib n→libS n {env:=jQ 0 args,heap:=h,fr:=fr,next:=0}=some (e,s1)) (hnp:args.length=s.np)
  (h4:La s fr (e,s1)=some (r,h')) :
  iD P f∧∀A γ S w vs,Mm h γ S w→vrs γ w S args vs→aR (fun id _=>id.1<fr∧A id) args→(∀id d,h id=some d→id.1<fr∧A id) →
   Calls P f vs.toArray w fun e w'=>∃v γ' S' is,e= .returned v∧CallPost A γ S w h fr r h' v w' γ' S' is:=by
 have h3:=h3 hcode
 unfold libS at h3
 rw[if_neg hn3] at h3
 refine⟨L.call,fun A γ S w vs m hv hi hh=> ?_⟩
 rw[np1] at hnp
 obtain⟨x,rfl⟩:=List.length_eq_one_iff.1 hnp
 simp only[jQ,upd,if_true,obs,aA,aC,zqb] at h3
 obtain⟨id,hx,zs,⟨row,⟨d,hd,hrow⟩,hzs⟩,rfl,rfl⟩:=h3
 simp only[La] at h4
 unfold X.rowId at hx
 split at hx
 case h_2=>simp at hx
 rename_i id0
 simp only[oi] at hx
 subst hx
 unfold D.rowOf at hrow
 split at hrow
 case h_2=>simp at hrow
 rename_i sz els
 simp only[oi] at hrow
 subst hrow
 unfold zWB at hzs
 split at hzs
 case isFalse=>simp at hzs
 rename_i hsz
 simp only at hsz hzs
 obtain⟨hsz,hbig⟩:=hsz
 subst hsz
 match vs,hv with
 |[],hv=>simp[vrs] at hv
 |_::_::_,hv=>simp[vrs] at hv
 |[v0],hv =>
 simp only[vrs,X.vr,and_true] at hv
 simp only[aR,X.allp,and_true] at hi
 obtain⟨g,hg,he⟩:=m.er id0 _ hd
 obtain⟨b,ges,rfl⟩:∃b ges,g= .s 1 b ges:=by
  cases g with
  |s sz' b ges =>
   simp only[G.er,D.s.injEq] at he
   exact⟨b,ges,by rw[he.1]⟩
  |l d v =>
   have h1:=m.ok _ _ hg
   simp only[G.ok] at h1
   simp only[G.er] at he
   rw[he] at h1
   simp[D.leaf] at h1
 simp only[G.er,D.s.injEq,true_and] at he
 have hok:=m.ok _ _ hg
 have hok2:=hok
 simp only[G.ok] at hok2
 obtain⟨k1,k2,k3⟩:=hok2
 rw[←he] at hzs
 obtain⟨e1,e2,e3⟩:=Lt k3 hzs
 have hbz:zs.length≤1000000000:=by
  rw[←he,cG,lm] at hbig
  omega
 have hnav:γ.nav id0 []=some (.s 1 b ges):=by unfold Gm.nav;rw[hg];simp[G.nav]
 have hv0:=(hv.2 _ hnav).1
 have htake:h.take id0 []=some (.s 1 els,upd h id0 none):=by
  simp[Heap.take,Heap.row,Heap.nav,hd,D.nav,D.rowOf]
 obtain⟨γ1,i,g1,t,t1,t2,t3,t4,_⟩:=G4 m htake (v:=v0) (fun g hg=>(hv.2 g hg).1)
 rw[hnav] at t4
 simp only[oi] at t4
 subst t4
 have fin:∀(w':World),(w'.os=w.os)→w'.tape=w.tape→w'.output=w.output→w.heap.size≤w'.heap.size→(∀k,k<w.heap.size→k∉(G.s 1 b ges).bl→w'.heap[k]? = w.heap[k]?) →
   (G.s 1 b (kN (jY n zs))).ok w' S→∃v γ' S' is,(if n=1 then Value.tuple #[] else(G.s 1 b (kN (jY n zs))).val)=v∧CallPost A γ S w h fr r h' v w' γ' S' is:=by
  intro w' o1 o2 o3 o4 o5 o6
  have hbl:(G.s 1 b (kN (jY n zs))).bl=(G.s 1 b ges).bl:=by simp only[G.bl,zxC,e2]
  have hi2:∀i' g',γ1 i'=some g'→i'∉[i]→∀k∈g'.bl,k∉(G.s 1 b ges).bl:=fun i' g' h1 h2 k hk hk2=>t.mm.dj i' i g' _ h1 t.at_ (fun e=>h2 (by simp[e])) k hk hk2
  have hlt1:∀i' g',γ1 i'=some g'→∀k∈g'.bl,k<w.heap.size:=fun i' g' h1=>G.ok_lt g' (t.mm.ok i' g' h1)
  have hS:∀k,S k→k<w.heap.size∧k∉(G.s 1 b ges).bl:=fun k hk=>⟨(t.mm.sd k hk).1,(t.mm.sd k hk).2 i _ t.at_⟩
  have mm2:=t.mm.regroup (w':=w') (S':=S) [i] (by simpa using t.flo) o6 (by rw[hbl];exact m.nd _ _ hg) (fun k hk=> .inl ⟨i,by simp,_,t.at_,by rw[hbl] at hk;exact hk⟩)
   (fun i' g' h1 h2 k hk=>o5 k (hlt1 i' g' h1 k hk) (hi2 i' g' h1 h2 k hk)) (fun k hk=>⟨hk,o5 k (hS k hk).1 (hS k hk).2⟩)
   (fun k hk=>⟨by have:=(hS k hk).1;omega,by rw[hbl];exact(hS k hk).2,fun i' g' h1 _=>(t.mm.sd k hk).2 i' g' h1⟩) (if n=1 then id0 else(fr,0))
  have her:(G.s 1 b (kN (jY n zs))).er= .s 1 (E5 (jY n zs)):=by simp only[G.er,zZO]
  rw[her] at mm2
  have hfr:id0.1<fr:=hi.1
  have hkeep:∀k,k<w.heap.size→¬Bl γ k→w'.heap[k]? = w.heap[k]? := fun k hk hb=>o5 k hk (fun h=>hb ⟨_,_,hg,h⟩)
  have hown0:∀k,Bl (upd (rem γ1 [i]) (.inl (if n=1 then id0 else(fr,0))) (some (G.s 1 b (kN (jY n zs))))) k→Bl γ k:=by
   rintro k ⟨j,g',h1,h2⟩
   unfold upd at h1
   by_cases e:j= .inl (if n=1 then id0 else(fr,0))
   ·rw[if_pos e,oi] at h1
    subst h1
    rw[hbl] at h2
    exact⟨_,_,hg,h2⟩
   ·rw[if_neg e] at h1
    exact t.sub j g' (cA.1 h1).2 k h2
  have hsame0:∀id:Id,id.1<fr→Same γ (upd (rem γ1 [i]) (.inl (if n=1 then id0 else(fr,0))) (some (G.s 1 b (kN (jY n zs))))) id []:=by
   intro id hid
   by_cases hn:n=1
   ·simp only[if_pos hn]
    by_cases e:id=id0
    ·subst e
     intro g' hg'
     simp only[Gm.nav,upd,if_true,obs,G.nav,oi] at hg'
     subst hg'
     refine⟨_,hnav,.inr ⟨?_,.inr rfl,fun _=>rfl⟩⟩
     cases b with
     |none=>rfl
     |some b =>
      simp only[G.val,Cp,L.len zs hn,e3]
    ·refine(t.same id []).trans (Same.of_eq ?_ [])
     obtain⟨q,hq⟩:=t.isr
     simp[upd,e,rem,hq]
   ·simp only[if_neg hn]
    refine(t.same id []).trans (Same.of_eq ?_ [])
    obtain⟨q,hq⟩:=t.isr
    have:¬id=(fr,0):=fun e=>by rw[e] at hid;simp at hid
    simp[upd,this,rem,hq]
  by_cases hn:n=1
  ·simp only[hn,if_true] at hres h4 mm2 hown0 hsame0 ⊢
   rw[hres] at h4
   simp only[fT,oY,obs,oms,nI,oi,zqb] at h4
   obtain⟨rfl,rfl⟩:=h4
   refine⟨_,_,S,[],rfl,⟨mm2.less (fun id d hd=> ?_),?_,by simp,by simp[X.allp,aR],o1,o2,o3,o4,hkeep,fun k hk=> .inl (hown0 k hk),hsame0,fun k h=>h,fun k h=> .inl h,fun id hid h0=> ?_,fun id d hd=> ?_⟩⟩
   ·unfold a8 at hd
    split at hd
    ·simp at hd
    ·exact hd
   ·simp only[cV]
    exact⟨[],rfl,by simp[eZ]⟩
   ·unfold a8
    split
    ·rfl
    ·simp only[upd]
     rw[if_neg (fun e=>by rw[e,hd] at h0;simp at h0)]
     split
     ·rfl
     ·exact h0
   ·unfold a8 at hd
    split at hd
    ·simp at hd
    ·simp only[upd] at hd
     split at hd
     ·rename_i e;rw[e];exact hfr
     ·first|exact(hh id d hd).1|(split at hd<;>first|(simp at hd;done)|exact(hh id d hd).1)
  ·simp only[if_neg hn] at hres h4 mm2 hown0 hsame0 ⊢
   rw[hres] at h4
   simp only[fT,upd,if_true,obs,oms] at h4
   rw[aC] at h4
   obtain⟨⟨ys,h2⟩,h5,h6⟩:=h4
   simp only[zqb] at h6
   obtain⟨rfl,rfl⟩:=h6
   have hvr:vrs (upd (rem γ1 [i]) (.inl (fr,0)) (some (G.s 1 b (kN (jY n zs))))) w' S [X.ref (fr,0) []] [(G.s 1 b (kN (jY n zs))).val]:=by
    simp only[vrs,X.vr,and_true]
    refine⟨mZ o6,fun g hg=> ?_⟩
    simp only[Gm.nav,upd,if_true,obs,G.nav,oi] at hg
    subst hg
    exact⟨rfl,rfl⟩
   obtain⟨γ3,is,tk,k8,k9⟩:=J1 (A:=A) (fr:=fr) mm2 hvr (by simp[aR,X.allp]) h5
   refine⟨_,γ3,S,is,rfl,⟨tk.mm.less (fun id d hd=> ?_),Ee k8 (E6 h5),tk.nd,y4 k9,o1,o2,o3,o4,hkeep,fun k ⟨j,g,g1,g2⟩=> ?_,fun id hid=>(hsame0 id hid).trans (tk.same id []),fun k h=>h,fun k h=> .inl h,fun id hid h0=> ?_,fun id d hd=> ?_⟩⟩
   ·unfold a8 at hd
    split at hd
    ·simp at hd
    ·exact hd
   ·obtain⟨j0,g0,g3,g4⟩:=tk.sub j g g1 k g2
    exact .inl (hown0 k ⟨j0,g0,g3,g4⟩)
   ·unfold a8
    split
    ·rfl
    ·refine tk.mono id ?_
     simp only[upd]
     rw[if_neg (fun e=>by rw[e] at hid;simp at hid)]
     split
     ·rfl
     ·exact h0
   ·unfold a8 at hd
    split at hd
    ·simp at hd
    ·rename_i hne
     have h7:upd (upd h id0 none) (fr,0) (some (D.s 1 (E5 (jY n zs)))) id≠none:=fun e=>by
      rw[tk.mono id e] at hd;simp at hd
     simp only[upd] at h7
     split at h7
     ·rename_i e;rw[e] at hne;simp at hne
     ·split at h7
      ·simp at h7
      ·obtain⟨d0,hd0⟩:=Option.ne_none_iff_exists'.1 h7
       exact(hh id d0 hd0).1
 cases b with
 |none =>
  simp only at k1
  subst k1
  simp only[ln] at e3
  have hz:zs=[]:=List.length_eq_zero_iff.1 e3.symm
  subst hz
  have hz2:jY n []=[]:=List.length_eq_zero_iff.1 (by have:=L.le [];simpa using this)
  simp only[G.val] at hv0
  subst hv0
  refine(L.nil w).mono ?_
  rintro e w' ⟨rfl,rfl⟩
  obtain⟨v,γ',S',is,q1,q2⟩:=fin w' rfl rfl rfl (Nat.le_refl _) (fun _ _ _=>rfl) (by rw[hz2];simp[kN,G.ok,gK])
  simp only[G.val] at q1
  exact⟨v,γ',S',is,by rw[q1],q2⟩
 |some b =>
  simp only[G.val] at hv0
  subst hv0
  simp only at k1
  obtain⟨q1,q2,cur,ce,q3,q4,q5⟩:=k1
  rw[e3]
  refine(L.full b.1 b.3 b.2 zs w (fun j z hj=> ?_) ?_ (by rw[←e3];exact q1) q2 hbz).mono ?_
  ·have hj':(a7 ges)[j]? = some (.int .i64 z):=by rw[e1,List.getElem?_map,hj];rfl
   rw[←q5,List.getElem?_take] at hj'
   split at hj'
   ·rw[List.getElem?_drop] at hj'
    exact⟨by rw[cell_of_row w b.1 _ cur ce (0,0) q3];simpa using hj',frozen_of_row w b.1 _ cur ce q3⟩
   ·simp at hj'
  ·exact(List.getElem?_eq_some_iff.1 (by simpa using q3:w.heap.toList[b.1]? = _)).1
  ·rintro e w' ⟨rfl,R⟩
   obtain⟨cur',p1,p2,p3⟩:=R.row cur ce q3
   have hle:=L.le zs
   obtain⟨v,γ',S',is,r1,r2⟩:=fin w' R.os R.tape R.output R.size (fun k hk hb=>R.keep k hk (fun e=>hb (by rw[e];simp[G.bl]))) (by
    simp only[G.ok]
    refine⟨⟨by rw[Cp];omega,q2,cur',ce,p1,by rw[p2];exact q4,?_⟩,fun el hel=> ?_,zZj _⟩
    ·rw[zjk,Cp,Nat.mul_one]
     apply List.ext_getElem?
     intro j
     rw[List.getElem?_take,List.getElem?_map]
     split
     ·rename_i hj
      rw[List.getElem?_drop]
      have:=p3 j _ (List.getElem?_eq_getElem hj)
      rw[List.getElem?_eq_getElem hj]
      simpa using this
     ·rename_i hj
      rw[List.getElem?_eq_none (by omega)]
      rfl
    ·simp only[kN,List.mem_map] at hel
     obtain⟨z,_,rfl⟩:=hel
     rfl)
   simp only[G.val,Cp] at r1
   exact⟨v,γ',S',is,by rw[r1],r2⟩
theorem zWk{P:Program}{f:Nat}{s:SFn}(hcode:s.code= .lib 3)(np2:s.np=2)(hres:s.res=[.t 0])(L:LibGrow P f){args:List X}{h:Heap}{fr:Nat}{r:X}{h':Heap}{e:Ex}{s1:St}
  (h3:∀{n:Nat},s.code= .lib n→libS n {env:=jQ 0 args,heap:=h,fr:=fr,next:=0}=some (e,s1)) (hnp:args.length=s.np)
  (h4:La s fr (e,s1)=some (r,h')) :
  iD P f∧∀A γ S w vs,Mm h γ S w→vrs γ w S args vs→aR (fun id _=>id.1<fr∧A id) args→(∀id d,h id=some d→id.1<fr∧A id) →
   Calls P f vs.toArray w fun e w'=>∃v γ' S' is,e= .returned v∧CallPost A γ S w h fr r h' v w' γ' S' is:=by
 have h3:=h3 hcode
 refine⟨L.call,fun A γ S w vs m hv hi hh=> ?_⟩
 rw[np2] at hnp
 match args,hnp,h3,hv with
 |[x0,x1],_,h3,hv =>
 match vs,hv with
 |[],hv=>simp[vrs] at hv
 |[_],hv=>simp[vrs] at hv
 |_::_::_::_,hv=>simp[vrs] at hv
 |[v0,v1],hv =>
 have i0:jQ 0 [x0,x1] 0=some x0:=rfl
 have i1:jQ 0 [x0,x1] 1=some x1:=rfl
 simp only[libS,if_true,zxP,i0,i1] at h3
 split at h3
 case isFalse=>simp at h3
 rename_i hg
 simp only[oi,zqb] at h3
 obtain⟨rfl,rfl⟩:=h3
 simp only[La] at h4
 unfold zXJ at hg
 split at hg
 case h_2=>simp at hg
 rename_i sz n e0 e1
 simp only[oi] at e0 e1
 subst e0 e1
 simp only[bE,zqd] at hg
 simp only[vrs,X.vr,and_true,true_and] at hv
 obtain⟨rfl,rfl,_⟩:=hv
 rw[hres] at h4
 simp only[fT,upd,if_true,obs,oms] at h4
 rw[aC] at h4
 obtain⟨⟨ys,h2⟩,h5,h6⟩:=h4
 simp only[zqb] at h6
 obtain⟨rfl,rfl⟩:=h6
 refine(L.grow n hg.1 hg.2 w).mono ?_
 rintro e w' ⟨b,rfl,o1,o2,o3,o4,o5,o6⟩
 have hbl:∀k∈(G.s 1 b []).bl,w.heap.size≤k:=fun k hk=>by
  cases b with
  |none=>simp[G.bl,bX] at hk
  |some b =>
   simp only[G.bl,bX,zqe,List.mem_singleton] at hk
   have:=o6 b rfl
   omega
 have hlt:∀i g,γ i=some g→∀k∈g.bl,k<w.heap.size:=fun i g hi=>G.ok_lt g (m.ok i g hi)
 have hokG:(G.s 1 b []).ok w' S:=by
  cases b with
  |none=>simp[G.ok,gK]
  |some b =>
   obtain⟨q1,q2,cur,ce,q3,q4⟩:=o6 b rfl
   simp only[G.ok,gK,and_true,ln,Nat.zero_mul,List.take_zero,a7]
   exact⟨⟨Nat.zero_le _,q2,cur,ce,q3,by simpa using q4⟩,by simp⟩
 have mm2:=m.regroup (w':=w') (S':=S) [] (by simp) hokG (by cases b<;>simp[G.bl,bX]) (fun k hk=> .inr (hbl k hk))
  (fun i g hi _ k hk=>o5 k (hlt i g hi k hk)) (fun k hk=>⟨hk,o5 k (m.sd k hk).1⟩)
  (fun k hk=>⟨by have:=(m.sd k hk).1;omega,fun hb=>by have:=hbl k hb;have:=(m.sd k hk).1;omega,fun i g hi _=>(m.sd k hk).2 i g hi⟩) (fr,0)
 rw[show(G.s 1 b []).er= .s 1 [] by simp[G.er,cD]] at mm2
 have hown0:∀k,Bl (upd (rem γ []) (.inl (fr,0)) (some (G.s 1 b []))) k→Bl γ k∨w.heap.size≤k:=by
  rintro k ⟨j,g',h1,h2⟩
  unfold upd at h1
  split at h1
  ·simp only[oi] at h1
   subst h1
   exact .inr (hbl k h2)
  ·exact .inl ⟨j,g',(cA.1 h1).2,h2⟩
 have hsame0:∀id:Id,id.1<fr→Same γ (upd (rem γ []) (.inl (fr,0)) (some (G.s 1 b []))) id []:=by
  intro id hid
  have:¬id=(fr,0):=fun e=>by rw[e] at hid;simp at hid
  exact Same.of_eq (by simp[upd,this,rem]) []
 have hvr:vrs (upd (rem γ []) (.inl (fr,0)) (some (G.s 1 b []))) w' S [X.ref (fr,0) []] [(G.s 1 b []).val]:=by
  simp only[vrs,X.vr,and_true]
  refine⟨mZ hokG,fun g hg=> ?_⟩
  simp only[Gm.nav,upd,if_true,obs,G.nav,oi] at hg
  subst hg
  exact⟨rfl,rfl⟩
 obtain⟨γ3,is,tk,k8,k9⟩:=J1 (A:=A) (fr:=fr) mm2 hvr (by simp[aR,X.allp]) h5
 refine⟨_,γ3,S,is,rfl,⟨tk.mm.less (fun id d hd=> ?_),Ee k8 (E6 h5),tk.nd,y4 k9,o1,o2,o3,o4,fun k hk _=>o5 k hk,fun k ⟨j,g,g1,g2⟩=> ?_,fun id hid=>(hsame0 id hid).trans (tk.same id []),fun k h=>h,fun k h=> .inl h,fun id hid h0=> ?_,fun id d hd=> ?_⟩⟩
 ·unfold a8 at hd
  split at hd
  ·simp at hd
  ·exact hd
 ·obtain⟨j0,g0,g3,g4⟩:=tk.sub j g g1 k g2
  exact hown0 k ⟨j0,g0,g3,g4⟩
 ·unfold a8
  split
  ·rfl
  ·refine tk.mono id ?_
   simp only[upd]
   rw[if_neg (fun e=>by rw[e] at hid;simp at hid)]
   exact h0
 ·unfold a8 at hd
  split at hd
  ·simp at hd
  ·rename_i hne
   have h7:upd h (fr,0) (some (D.s 1 [])) id≠none:=fun e=>by
    rw[tk.mono id e] at hd;simp at hd
   simp only[upd] at h7
   split at h7
   ·rename_i e;rw[e] at hne;simp at hne
   ·obtain⟨d0,hd0⟩:=Option.ne_none_iff_exists'.1 h7
    exact(hh id d0 hd0).1
theorem z96{P:Program}{f:Nat}{s:SFn}(hl:zxc P f s){args:List X}{h:Heap}{fr:Nat}{r:X}{h':Heap}{e:Ex}{s1:St}
  (h3:∀{n:Nat},s.code= .lib n→libS n {env:=jQ 0 args,heap:=h,fr:=fr,next:=0}=some (e,s1)) (hnp:args.length=s.np)
  (h4:La s fr (e,s1)=some (r,h')) :
  iD P f∧∀A γ S w vs,Mm h γ S w→vrs γ w S args vs→aR (fun id _=>id.1<fr∧A id) args→(∀id d,h id=some d→id.1<fr∧A id) →
   Calls P f vs.toArray w fun e w'=>∃v γ' S' is,e= .returned v∧CallPost A γ S w h fr r h' v w' γ' S' is:=by
 rcases hl with⟨n,hcode,np1,hres,hn3,L⟩|⟨hcode,np2,hres,L⟩
 ·exact zWO hcode np1 hres hn3 L h3 hnp h4
 ·exact zWk hcode np2 hres L h3 hnp h4
theorem z9U{P:Program}{Φ:Nat→Option SFn}(hT:Tab P Φ):∀k,CallOk P (evC Φ k):=by
 intro k
 induction k using Nat.strongRecOn with
 |_ k ih =>
  intro f args h fr r h' hr
  cases k with
  |zero=>simp[evC] at hr
  |succ k =>
   rw[evC,aA] at hr
   obtain⟨s,h1,h2⟩:=hr
   split at h2
   ·rename_i hnp
    rw[aA] at h2
    obtain⟨⟨e,s1⟩,h3,h4⟩:=h2
    rcases hT f s h1 with hchk|hlib
    case inr =>
     exact z96 hlib (fun h=>by
      cases k with
      |zero=>simp[ev] at h3
      |succ k=>simpa[ev,h] using h3) hnp (by cases e<;>exact h4)
    unfold aU at hchk
    cases hfn:P.funcs[f]? with
    |none=>rw[hfn] at hchk;simp at hchk
    |some fn =>
     rw[hfn] at hchk
     simp only[bE,zqd,Bool.not_eq_true',beq_eq_false_iff_ne] at hchk
     obtain⟨⟨⟨⟨c1,c2⟩,c3⟩,c4⟩,c5⟩:=hchk
     cases hb:fn.body with
     |none=>rw[hb] at c4;simp at c4
     |some x =>
      rw[hb] at c4
      simp only at c4
      refine⟨⟨fn,hfn,c3,by rw[hb];simp⟩,fun A γ S w vs hm0 hv0 hi hh=> ?_⟩
      have hm:=z9B hm0 (fun id d hd=>(hh id d hd).1)
      have hv:vrs (γ.low fr) w S args vs:=gJ (fun k hk=>⟨hk,rfl⟩) args vs (fM (fun id p h=>Same.of_eq (zzs h.1) p) args hi) hv0
      have hlen:=fR hv
      let cx:Ctx:={w0:=w,γ0:=γ.low fr,S0:=S,nt:=s.nt,P:=P,h0:=h,A:=A}
      let a0:Act:={tmps:=vs.toArray++Array.replicate (fn.ntmps-vs.toArray.size) undef,defers:=[]}
      have hok:Okn cx {env:=jQ 0 args,heap:=h,fr:=fr,next:=0} a0 w:=by
       refine⟨γ.low fr,S,hm,rfl,rfl,rfl,Nat.le_refl _,fun _ _ _=>rfl,fun k hk=> .inl hk,fun id _=>Same.refl _ id [],fun k hk=> .inl hk,fun k hk=>hk,fun k hk=>⟨(hm.sd k hk).1,fun⟨i,g,g1,g2⟩=>(hm.sd k hk).2 i g g1 g2⟩,fun t x hx=> ?_,fun t x hx=> ?_,fun id d hd=> .inl (hh id d hd),fun _ _ h=>h,rfl,?_,fun h0 k ⟨i,g,g1,_⟩=> ?_⟩
       ·obtain⟨_,g2⟩:=Ed hx
        rw[Nat.sub_zero] at g2
        obtain⟨v,g3,g4⟩:=J6 hv g2
        have:a0.tmps.getD t undef=v:=by
         have hlt:=(List.getElem?_eq_some_iff.1 g3).1
         simp only[a0,Array.getD_eq_getD_getElem?]
         rw[Array.getElem?_append_left (by simpa using hlt)]
         simp[g3]
        rw[this]
        exact g4
       ·obtain⟨_,g2⟩:=Ed hx
        rw[Nat.sub_zero] at g2
        exact bS (fun id _ h=> .inl h) x (bG.1 hi x (List.mem_of_getElem? g2))
       ·simp only[a0,cx,Array.size_append,List.size_toArray,Array.size_replicate]
        omega
       ·obtain⟨_,id,_,hid⟩:=qO g1
        have h00:fr=0:=h0
        omega
      refine calls_of_wp hfn hb ?_
      refine zWs (c:=cx) k (fun j hj=>ih j (by omega)) s.code x _ s1 e a0 w _ c4 h3 hok fun a' w' hok'=> ?_
      have key:∀{xs ys:List X} {h2:Heap},fT s1 s.res=some xs→oY fr s1.heap xs=some (ys,h2)→s1.fr=fr→r=nI ys→h'=a8 fr h2→bodyPost P fn (fun e w'=>∃v γ' S' is,e= .returned v∧CallPost A γ S w h fr r h' v w' γ' S' is) .ret a' w':=by
       intro xs ys h2 k1 k2 hfr k3 k4
       obtain⟨γ1,S1,R⟩:=hok'
       obtain⟨us,k5,k6,k7⟩:=zqk R c5 k1
       rw[hfr] at k7
       obtain⟨γ2,is,tk,k8,k9⟩:=J1 (A:=A) R.mm k6 (bG.2 fun x hx=>bS (fun id _ h=>h.imp (fun h=>h) (fun h=>h.1)) x (bG.1 k7 x hx)) k2
       refine⟨R.df,_,Vo k5,_,γ2,S1,is,rfl,?_⟩
       subst k3 k4
       have hdr:∀id d,a8 fr h2 id=some d→id.1≠fr∧h2 id=some d:=fun id d hd=>by
        unfold a8 at hd
        split at hd
        ·simp at hd
        ·exact⟨‹_›,hd⟩
       refine⟨tk.mm.less (fun id d hd=>(hdr id d hd).2),Ee k8 (E6 k2),tk.nd,y4 k9,R.os,R.tape,R.output,R.size,fun k hk hb=>R.keep k hk (fun h=>hb (zQL h)),fun k ⟨i,g,g1,g2⟩=> ?_,fun id hid=>((Same.of_eq (zzs hid) []).trans (R.hd id (by rw[hfr];exact hid))).trans (tk.same id []),R.s0,R.sg,fun id hid h0=> ?_,fun id d hd=> ?_⟩
       ·obtain⟨i0,g0,g3,g4⟩:=tk.sub i g g1 k g2
        exact(R.own k ⟨i0,g0,g3,g4⟩).imp zQL (fun h=>h)
       ·have h5:h2 id=none:=tk.mono id (R.dom id (by rw[hfr];exact hid) h0)
        unfold a8
        rw[h5]
        split<;>rfl
       ·obtain⟨h5,h6⟩:=hdr id d hd
        have hne:s1.heap id≠none:=fun h0=>by rw[tk.mono id h0] at h6;simp at h6
        obtain⟨d0,hd0⟩:=Option.ne_none_iff_exists'.1 hne
        rcases R.hid id d0 hd0 with h7|h7
        ·rw[hfr] at h7;exact h7.1
        ·rw[hfr] at h7;exact absurd h7.1 h5
      cases e with
      |ext id=>simp at h4
      |nor =>
       simp only[aA,aC,zqb] at h4
       obtain⟨xs,k1,⟨ys,h2⟩,k2,k3,k4⟩:=h4
       exact key k1 k2 (z9n h3) k3.symm k4.symm
      |ret =>
       simp only[aA,aC,zqb] at h4
       obtain⟨xs,k1,⟨ys,h2⟩,k2,k3,k4⟩:=h4
       exact key k1 k2 (z9n h3) k3.symm k4.symm
   ·simp at h2
end Go.Ev
