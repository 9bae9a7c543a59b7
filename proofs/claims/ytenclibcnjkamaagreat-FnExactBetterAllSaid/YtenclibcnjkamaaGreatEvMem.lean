import Derived.Test.YtenclibcnjkamaaGreatEvDef
import Derived.Laws.AppendOwn
import Derived.Laws.NewBlocks
import Derived.Laws.Rows
import Derived.Below
set_option linter.all false
namespace Go.Ev
def Cl.le(C C':Cl):Prop:=∀f a h fr r,C f a h fr=some r→C' f a h fr=some r
theorem aA{α β:Type}{x:Option α}{f:α→Option β}{b:β}:x.bind f=some b↔∃a,x=some a∧f a=some b:=by cases x<;>simp
theorem aC{α β:Type}{x:Option α}{f:α→β}{b:β}:x.map f=some b↔∃a,x=some a∧f a=b:=by cases x<;>simp
theorem jI{C:Cl}{f:Nat}{a:List X}{r:X}:C.iso f a=some r↔∃h,C f a emp 0=some (r,h):=by
 unfold Cl.iso
 rw[aC]
 constructor
 ·rintro ⟨⟨x,h⟩,h1,h2⟩
  simp only at h2
  subst h2
  exact⟨h,h1⟩
 ·rintro ⟨h,h1⟩
  exact⟨(r,h),h1,rfl⟩
theorem K1{C C':Cl}(h:C.le C'){f:Nat}{a:List X}{r:X}(hr:C.iso f a=some r):C'.iso f a=some r:=by
 obtain⟨m,h1⟩:=jI.1 hr
 exact jI.2 ⟨m,h _ _ _ _ _ h1⟩
theorem Yr{C C':Cl}(h:C.le C'){st:St}{d:Option Nat}{id:Nat}{o:SOp}{s:St}(hs:opS C st d id o=some s):opS C' st d id o=some s:=by
 cases o with
 |call f xs =>
  simp only[opS,aA] at hs ⊢
  obtain⟨as,h1,bs,h2,r,h3,h4⟩:=hs
  exact⟨as,h1,bs,h2,r,K1 h h3,h4⟩
 |callr f xs =>
  simp only[opS,aA] at hs ⊢
  obtain⟨as,h1,bs,h2,r,h3,h4⟩:=hs
  exact⟨as,h1,bs,h2,r,K1 h h3,h4⟩
 |callu f xs =>
  simp only[opS,aA] at hs ⊢
  obtain⟨as,h1,bs,h2,r,h3,h4⟩:=hs
  exact⟨as,h1,bs,h2,r,K1 h h3,h4⟩
 |calli f xs =>
  simp only[opS,aA] at hs ⊢
  obtain⟨c,h0,g,h1,as,h2,r,h3,h4⟩:=hs
  exact⟨c,h0,g,h1,as,h2,r,h _ _ _ _ _ h3,h4⟩
 |callb f xs bs =>
  simp only[opS,aA] at hs ⊢
  obtain⟨as,h1,m,h2,ys,h3,r,h4,h5⟩:=hs
  obtain⟨r0,h6,h7⟩:=uM.1 h4
  exact⟨as,h1,m,h2,ys,h3,r,uM.2 ⟨r0,h _ _ _ _ _ h6,h7⟩,h5⟩
 |_=>exact hs
theorem uX{C C':Cl}(h:C.le C'){st:St}{id:Nat}{it:SItem}{s:St}(hs:itS C st id it=some s):itS C' st id it=some s:=by
 unfold itS at hs ⊢
 split at hs
 ·exact Yr h hs
 ·rename_i s' b _
  simp only[aA] at hs ⊢
  obtain⟨c,h1,h2⟩:=hs
  refine⟨c,h1,?_⟩
  split at h2
  ·rw[if_pos ‹_›];exact Yr h h2
  ·rw[if_neg ‹_›];exact h2
theorem pW{C C':Cl}(h:C.le C'):∀{l:List SItem} {i:Nat} {st s:St},mI C st i l=some s→mI C' st i l=some s
 |[],_,_,_,hs=>hs
 |it::l,i,st,s,hs=>by
  simp only[mI,aA] at hs ⊢
  obtain⟨s',h1,h2⟩:=hs
  exact⟨s',uX h h1,pW h h2⟩
theorem Er{C C':Cl}(h:C.le C'){st:St}:∀{l:List SItem},reS C st l=some ()→reS C' st l=some ()
 |[],hs=>hs
 |x::l,hs=>by
  simp only[reS,aA] at hs ⊢
  obtain⟨u,⟨s2,h1,h2⟩,h3⟩:=hs
  exact⟨u,⟨s2,uX h h1,h2⟩,Er h h3⟩
theorem Cg{C C':Cl}(h:C.le C'){b:Nat}:∀{l:List DItem} {st s:St},opsD C b l st=some s→opsD C' b l st=some s
 |[],_,_,hs=>hs
 |y::l,st,s,hs=>by
  simp only[opsD,aA] at hs ⊢
  obtain⟨s',h1,u,h2,h3⟩:=hs
  exact⟨s',uX h h1,u,Er h h2,Cg h h3⟩
theorem Hu(Φ:Nat→Option SFn):∀k,(∀c st r,ev Φ k c st=some r→ev Φ (k+1) c st=some r)∧(evC Φ k).le (evC Φ (k+1)):=by
 intro k
 induction k with
 |zero=>exact⟨fun c st r h=>by simp[ev] at h,fun f a h fr r hr=>by simp[evC] at hr⟩
 |succ k ih =>
  obtain⟨ih1,ih2⟩:=ih
  refine⟨fun c st r h=> ?_,fun f a h fr r hr=> ?_⟩
  ·cases c with
   |skip=>simpa[ev] using h
   |ops l =>
    simp only[ev,aC] at h ⊢
    obtain⟨s,h1,h2⟩:=h
    exact⟨s,pW ih2 h1,h2⟩
   |opsd l =>
    simp only[ev,aC] at h ⊢
    obtain⟨s,h1,h2⟩:=h
    exact⟨s,Cg ih2 h1,h2⟩
   |clone sz l =>
    simp only[ev,aA] at h ⊢
    obtain⟨x,h1,els,h2,s,h3,h4⟩:=h
    exact⟨x,h1,els,h2,s,pW ih2 h3,h4⟩
   |seq a b =>
    rw[ev] at h ⊢
    simp only[aA] at h ⊢
    obtain⟨s,h1,h2⟩:=h
    refine⟨s,ih1 _ _ _ h1,?_⟩
    revert h2
    cases s.1<;>intro h2
    ·exact ih1 _ _ _ h2
    ·exact h2
    ·exact h2
   |cond o a b =>
    rw[ev] at h ⊢
    simp only[aA] at h ⊢
    obtain⟨t,h1,h2⟩:=h
    refine⟨t,h1,?_⟩
    split at h2
    ·rw[if_pos ‹_›];exact ih1 _ _ _ h2
    ·rw[if_neg ‹_›];exact ih1 _ _ _ h2
   |block id a =>
    rw[ev] at h ⊢
    simp only[aC] at h ⊢
    obtain⟨s,h1,h2⟩:=h
    exact⟨s,ih1 _ _ _ h1,h2⟩
   |loop L a =>
    rw[ev] at h ⊢
    simp only[aA] at h ⊢
    obtain⟨s,h1,h2⟩:=h
    refine⟨s,ih1 _ _ _ h1,?_⟩
    revert h2
    cases s.1<;>intro h2
    ·exact ih1 _ _ _ h2
    ·exact h2
    ·exact h2
   |exit id=>simpa[ev] using h
   |ret=>simpa[ev] using h
   |keep L=>simpa[ev] using h
   |alt q a b =>
    rw[ev] at h ⊢
    split at h
    ·rw[if_pos ‹_›];exact ih1 _ _ _ h
    ·rw[if_neg ‹_›];exact ih1 _ _ _ h
   |lib n=>simpa[ev] using h
   |stuck=>simp[ev] at h
  ·rw[evC] at hr ⊢
   simp only[aA] at hr ⊢
   obtain⟨fn,h1,h2⟩:=hr
   refine⟨fn,h1,?_⟩
   split at h2
   ·rw[if_pos ‹_›]
    simp only[aA] at h2 ⊢
    obtain⟨s,h3,h4⟩:=h2
    exact⟨s,ih1 _ _ _ h3,h4⟩
   ·simp at h2
theorem Ye(Φ:Nat→Option SFn){k k':Nat}(h:k≤k'){c:SCode}{st:St}{r:Ex×St}(hr:ev Φ k c st=some r):ev Φ k' c st=some r:=by
 induction h with
 |refl=>exact hr
 |step _ ih=>exact(Hu Φ _).1 _ _ _ ih
theorem Bp(Φ:Nat→Option SFn){k k':Nat}(h:k≤k'):(evC Φ k).le (evC Φ k'):=by
 induction h with
 |refl=>exact fun _ _ _ _ _ hr=>hr
 |step _ ih=>exact fun f a h fr r hr=>(Hu Φ _).2 _ _ _ _ _ (ih f a h fr r hr)
open Classical in
noncomputable def lim {α:Type} (F:Nat→Option α):Option α:=if h:∃k r,F k=some r then some (Classical.choose (Classical.choose_spec h)) else none
theorem zqM{α:Type}{F:Nat→Option α}(hm:∀k k' r,k≤k'→F k=some r→F k'=some r){r:α}:lim F=some r↔∃k,F k=some r:=by
 unfold lim
 constructor
 ·intro h
  split at h
  ·rename_i hx
   simp only[oi] at h
   exact⟨_,h ▸ Classical.choose_spec (Classical.choose_spec hx)⟩
  ·simp at h
 ·rintro ⟨k,hk⟩
  have hx:∃k r,F k=some r:=⟨k,r,hk⟩
  rw[dif_pos hx]
  have h1:=Classical.choose_spec (Classical.choose_spec hx)
  have h2:=hm _ _ _ (Nat.le_max_left _ k) h1
  have h3:=hm _ _ _ (Nat.le_max_right (Classical.choose hx) _) hk
  rw[←h2,h3]
section
variable(Φ:Nat→Option SFn)
noncomputable def evW (c:SCode) (st:St):Option (Ex×St):=lim fun k=>ev Φ k c st
noncomputable def evCW:Cl:=fun f a h fr=>lim fun k=>evC Φ k f a h fr
variable{Φ}
theorem bH{c:SCode}{st:St}{r:Ex×St}:evW Φ c st=some r↔∃k,ev Φ k c st=some r:=zqM fun _ _ _ h hr=>Ye Φ h hr
theorem oL{f:Nat}{a:List X}{h:Heap}{fr:Nat}{r:X×Heap}:evCW Φ f a h fr=some r↔∃k,evC Φ k f a h fr=some r:=zqM fun _ _ _ h hr=>Bp Φ h _ _ _ _ _ hr
theorem Sz(k:Nat):(evC Φ k).le (evCW Φ):=fun _ _ _ _ _ hr=>oL.2 ⟨k,hr⟩
theorem zqu{st:St}{d:Option Nat}{id:Nat}{o:SOp}{s:St}(hs:opS (evCW Φ) st d id o=some s):∃k,opS (evC Φ k) st d id o=some s:=by
 cases o with
 |call f xs =>
  simp only[opS,aA] at hs ⊢
  obtain⟨as,h1,bs,h2,r,h3,h4⟩:=hs
  obtain⟨m,h3⟩:=jI.1 h3
  obtain⟨k,hk⟩:=oL.1 h3
  exact⟨k,as,h1,bs,h2,r,jI.2 ⟨m,hk⟩,h4⟩
 |callr f xs =>
  simp only[opS,aA] at hs ⊢
  obtain⟨as,h1,bs,h2,r,h3,h4⟩:=hs
  obtain⟨m,h3⟩:=jI.1 h3
  obtain⟨k,hk⟩:=oL.1 h3
  exact⟨k,as,h1,bs,h2,r,jI.2 ⟨m,hk⟩,h4⟩
 |callu f xs =>
  simp only[opS,aA] at hs ⊢
  obtain⟨as,h1,bs,h2,r,h3,h4⟩:=hs
  obtain⟨m,h3⟩:=jI.1 h3
  obtain⟨k,hk⟩:=oL.1 h3
  exact⟨k,as,h1,bs,h2,r,jI.2 ⟨m,hk⟩,h4⟩
 |calli f xs =>
  simp only[opS,aA] at hs ⊢
  obtain⟨c,h0,g,h1,as,h2,r,h3,h4⟩:=hs
  obtain⟨k,hk⟩:=oL.1 h3
  exact⟨k,c,h0,g,h1,as,h2,r,hk,h4⟩
 |callb f xs bs =>
  simp only[opS,aA] at hs ⊢
  obtain⟨as,h1,m,h2,ys,h3,r,h4,h5⟩:=hs
  obtain⟨r0,h6,h7⟩:=uM.1 h4
  obtain⟨k,hk⟩:=oL.1 h6
  exact⟨k,as,h1,m,h2,ys,h3,r,uM.2 ⟨r0,hk,h7⟩,h5⟩
 |_=>exact⟨0,hs⟩
theorem Tw{st:St}{id:Nat}{it:SItem}{s:St}(hs:itS (evCW Φ) st id it=some s):∃k,itS (evC Φ k) st id it=some s:=by
 unfold itS at hs ⊢
 split at hs
 ·exact zqu hs
 ·simp only[aA] at hs ⊢
  obtain⟨c,h1,h2⟩:=hs
  split at h2
  ·obtain⟨k,hk⟩:=zqu h2
   exact⟨k,c,h1,by rw[if_pos ‹_›];exact hk⟩
  ·exact⟨0,c,h1,by rw[if_neg ‹_›];exact h2⟩
theorem Lv:∀{l:List SItem} {i:Nat} {st s:St},mI (evCW Φ) st i l=some s→∃k,mI (evC Φ k) st i l=some s
 |[],_,_,_,hs=>⟨0,hs⟩
 |it::l,i,st,s,hs=>by
  simp only[mI,aA] at hs ⊢
  obtain⟨s',h1,h2⟩:=hs
  obtain⟨k1,hk1⟩:=Tw h1
  obtain⟨k2,hk2⟩:=Lv h2
  exact⟨max k1 k2,s',uX (Bp Φ (Nat.le_max_left ..)) hk1,pW (Bp Φ (Nat.le_max_right ..)) hk2⟩
theorem zkv{st:St}:∀{l:List SItem},reS (evCW Φ) st l=some ()→∃k,reS (evC Φ k) st l=some ()
 |[],hs=>⟨0,hs⟩
 |x::l,hs=>by
  simp only[reS,aA] at hs ⊢
  obtain⟨u,⟨s2,h1,h2⟩,h3⟩:=hs
  obtain⟨k1,hk1⟩:=Tw h1
  obtain⟨k2,hk2⟩:=zkv h3
  exact⟨max k1 k2,u,⟨s2,uX (Bp Φ (Nat.le_max_left ..)) hk1,h2⟩,Er (Bp Φ (Nat.le_max_right ..)) hk2⟩
theorem Vd{b:Nat}:∀{l:List DItem} {st s:St},opsD (evCW Φ) b l st=some s→∃k,opsD (evC Φ k) b l st=some s
 |[],_,_,hs=>⟨0,hs⟩
 |y::l,st,s,hs=>by
  simp only[opsD,aA] at hs ⊢
  obtain⟨s',h1,u,h2,h3⟩:=hs
  obtain⟨k1,hk1⟩:=Tw h1
  obtain⟨k2,hk2⟩:=zkv h2
  obtain⟨k3,hk3⟩:=Vd h3
  have h13:k1≤max k1 (max k2 k3):=Nat.le_max_left ..
  have h23:k2≤max k1 (max k2 k3):=Nat.le_trans (Nat.le_max_left ..) (Nat.le_max_right ..)
  have h33:k3≤max k1 (max k2 k3):=Nat.le_trans (Nat.le_max_right ..) (Nat.le_max_right ..)
  exact⟨max k1 (max k2 k3),s',uX (Bp Φ h13) hk1,u,Er (Bp Φ h23) hk2,Cg (Bp Φ h33) hk3⟩
theorem nY{α:Type}{x y:Option α}(h:∀a,x=some a↔y=some a):x=y:=by
 cases x with
 |none=>cases y with
  |none=>rfl
  |some b=>exact absurd ((h b).2 rfl) (by simp)
 |some a=>exact((h a).1 rfl).symm
theorem zZL(st:St):evW Φ .skip st=some (.nor,st):=bH.2 ⟨1,rfl⟩
theorem zZb(id:Nat)(st:St):evW Φ (.exit id) st=some (.ext id,st):=bH.2 ⟨1,rfl⟩
theorem zYr(st:St):evW Φ .ret st=some (.ret,st):=bH.2 ⟨1,rfl⟩
theorem zVk(L:List Nat)(st:St):evW Φ (.keep L) st=some (.nor,uN L st):=bH.2 ⟨1,rfl⟩
theorem zY5(q:St→Bool)(a b:SCode)(st:St):evW Φ (.alt q a b) st=if q st=true then evW Φ a st else evW Φ b st:=by
 apply nY
 intro r
 rw[bH]
 constructor
 ·rintro ⟨k,hk⟩
  cases k with
  |zero=>simp[ev] at hk
  |succ k =>
   rw[ev] at hk
   split at hk
   ·rw[if_pos ‹_›];exact bH.2 ⟨k,hk⟩
   ·rw[if_neg ‹_›];exact bH.2 ⟨k,hk⟩
 ·intro h
  split at h
  ·obtain⟨k,hk⟩:=bH.1 h
   exact⟨k+1,by rw[ev,if_pos ‹_›];exact hk⟩
  ·obtain⟨k,hk⟩:=bH.1 h
   exact⟨k+1,by rw[ev,if_neg ‹_›];exact hk⟩
theorem zke(n:Nat)(st:St):evW Φ (.lib n) st=libS n st:=by
 apply nY
 intro r
 rw[bH]
 constructor
 ·rintro ⟨k,hk⟩
  cases k with
  |zero=>simp[ev] at hk
  |succ k=>simpa[ev] using hk
 ·intro h
  exact⟨1,by simpa[ev] using h⟩
theorem zyf(st:St):evW Φ .stuck st=none:=by
 cases h:evW Φ .stuck st with
 |none=>rfl
 |some r =>
  obtain⟨k,hk⟩:=bH.1 h
  cases k<;>simp[ev] at hk
theorem zYL(l:List SItem)(st:St):evW Φ (.ops l) st=(mI (evCW Φ) st 0 l).map fun s=>(.nor,s):=by
 apply nY
 intro a
 rw[bH,aC]
 constructor
 ·rintro ⟨k,hk⟩
  cases k with
  |zero=>simp[ev] at hk
  |succ k =>
   simp only[ev,aC] at hk
   obtain⟨s,h1,h2⟩:=hk
   exact⟨s,pW (Sz k) h1,h2⟩
 ·rintro ⟨s,h1,h2⟩
  obtain⟨k,hk⟩:=Lv h1
  exact⟨k+1,by simp only[ev,aC];exact⟨s,hk,h2⟩⟩
theorem zy9(l:List DItem)(st:St):evW Φ (.opsd l) st=(opsD (evCW Φ) st.next l st).map fun s=>(.nor,{s with next:=st.next+32*l.length}):=by
 apply nY
 intro a
 rw[bH,aC]
 constructor
 ·rintro ⟨k,hk⟩
  cases k with
  |zero=>simp[ev] at hk
  |succ k =>
   simp only[ev,aC] at hk
   obtain⟨s,h1,h2⟩:=hk
   exact⟨s,Cg (Sz k) h1,h2⟩
 ·rintro ⟨s,h1,h2⟩
  obtain⟨k,hk⟩:=Vd h1
  exact⟨k+1,by simp only[ev,aC];exact⟨s,hk,h2⟩⟩
theorem zyL(sz:Nat)(l:List SItem)(st:St):evW Φ (.clone sz l) st=(st.env 0).bind fun x=>(x.elsOf st.heap).bind fun els=>(mI (evCW Φ) (jM st x) 0 l).bind (Gk st sz els):=by
 apply nY
 intro a
 rw[bH]
 simp only[aA]
 constructor
 ·rintro ⟨k,hk⟩
  cases k with
  |zero=>simp[ev] at hk
  |succ k =>
   simp only[ev,aA] at hk
   obtain⟨x,h1,els,h2,s,h3,h4⟩:=hk
   exact⟨x,h1,els,h2,s,pW (Sz k) h3,h4⟩
 ·rintro ⟨x,h1,els,h2,s,h3,h4⟩
  obtain⟨k,hk⟩:=Lv h3
  exact⟨k+1,by simp only[ev,aA];exact⟨x,h1,els,h2,s,hk,h4⟩⟩
noncomputable def next (Φ:Nat→Option SFn) (b:SCode):Ex×St→Option (Ex×St)
 |(.nor,s)=>evW Φ b s
 |(.ext id,s)=>some (.ext id,s)
 |(.ret,s)=>some (.ret,s)
theorem zV2(a b:SCode)(st:St):evW Φ (.seq a b) st=(evW Φ a st).bind (next Φ b):=by
 apply nY
 intro r
 rw[bH,aA]
 constructor
 ·rintro ⟨k,hk⟩
  cases k with
  |zero=>simp[ev] at hk
  |succ k =>
   rw[ev,aA] at hk
   obtain⟨⟨x,s⟩,h1,h2⟩:=hk
   refine⟨(x,s),bH.2 ⟨k,h1⟩,?_⟩
   cases x
   ·exact bH.2 ⟨k,h2⟩
   ·exact h2
   ·exact h2
 ·rintro ⟨⟨x,s⟩,h1,h2⟩
  obtain⟨k1,hk1⟩:=bH.1 h1
  cases x
  ·obtain⟨k2,hk2⟩:=bH.1 h2
   refine⟨max k1 k2+1,?_⟩
   rw[ev,aA]
   exact⟨_,Ye Φ (Nat.le_max_left ..) hk1,Ye Φ (Nat.le_max_right ..) hk2⟩
  ·exact⟨k1+1,by rw[ev,aA];exact⟨_,hk1,h2⟩⟩
  ·exact⟨k1+1,by rw[ev,aA];exact⟨_,hk1,h2⟩⟩
theorem zQD(o:O)(a b:SCode)(st:St):evW Φ (.cond o a b) st=(rdB st o).bind fun t=>if t=true then evW Φ a st else evW Φ b st:=by
 apply nY
 intro r
 rw[bH,aA]
 constructor
 ·rintro ⟨k,hk⟩
  cases k with
  |zero=>simp[ev] at hk
  |succ k =>
   rw[ev,aA] at hk
   obtain⟨t,h1,h2⟩:=hk
   refine⟨t,h1,?_⟩
   split at h2
   ·rw[if_pos ‹_›];exact bH.2 ⟨k,h2⟩
   ·rw[if_neg ‹_›];exact bH.2 ⟨k,h2⟩
 ·rintro ⟨t,h1,h2⟩
  split at h2
  ·obtain⟨k,hk⟩:=bH.1 h2
   exact⟨k+1,by rw[ev,aA];exact⟨t,h1,by rw[if_pos ‹_›];exact hk⟩⟩
  ·obtain⟨k,hk⟩:=bH.1 h2
   exact⟨k+1,by rw[ev,aA];exact⟨t,h1,by rw[if_neg ‹_›];exact hk⟩⟩
def zXV(id:Nat)(r:Ex×St):Ex×St:=(if r.1= .ext id then .nor else r.1,r.2)
theorem zwX(id:Nat)(a:SCode)(st:St):evW Φ (.block id a) st=(evW Φ a st).map (zXV id):=by
 apply nY
 intro r
 rw[bH,aC]
 constructor
 ·rintro ⟨k,hk⟩
  cases k with
  |zero=>simp[ev] at hk
  |succ k =>
   rw[ev,aC] at hk
   obtain⟨s,h1,h2⟩:=hk
   exact⟨s,bH.2 ⟨k,h1⟩,h2⟩
 ·rintro ⟨s,h1,h2⟩
  obtain⟨k,hk⟩:=bH.1 h1
  exact⟨k+1,by rw[ev,aC];exact⟨s,hk,h2⟩⟩
noncomputable def loopW (Φ:Nat→Option SFn) (L:List Nat) (a:SCode) (st:St):Option (Ex×St):=(evW Φ a st).bind (next Φ (.loop L a))
theorem zZw(L:List Nat)(a:SCode)(st:St):evW Φ (.loop L a) st=loopW Φ L a (uN L st):=by
 unfold loopW
 apply nY
 intro r
 rw[bH,aA]
 constructor
 ·rintro ⟨k,hk⟩
  cases k with
  |zero=>simp[ev] at hk
  |succ k =>
   rw[ev,aA] at hk
   obtain⟨⟨x,s⟩,h1,h2⟩:=hk
   refine⟨(x,s),bH.2 ⟨k,h1⟩,?_⟩
   cases x
   ·exact bH.2 ⟨k,h2⟩
   ·exact h2
   ·exact h2
 ·rintro ⟨⟨x,s⟩,h1,h2⟩
  obtain⟨k1,hk1⟩:=bH.1 h1
  cases x
  ·obtain⟨k2,hk2⟩:=bH.1 h2
   refine⟨max k1 k2+1,?_⟩
   rw[ev,aA]
   exact⟨_,Ye Φ (Nat.le_max_left ..) hk1,Ye Φ (Nat.le_max_right ..) hk2⟩
  ·exact⟨k1+1,by rw[ev,aA];exact⟨_,hk1,h2⟩⟩
  ·exact⟨k1+1,by rw[ev,aA];exact⟨_,hk1,h2⟩⟩
def La(fn:SFn)(fr:Nat):Ex×St→Option (X×Heap)
 |(.ext _,_)=>none
 |(.nor,s)=>(fT s fn.res).bind fun xs=>(oY fr s.heap xs).map fun b=>(nI b.1,a8 fr b.2)
 |(.ret,s)=>(fT s fn.res).bind fun xs=>(oY fr s.heap xs).map fun b=>(nI b.1,a8 fr b.2)
theorem zqI(f:Nat)(args:List X)(h:Heap)(fr:Nat):evCW Φ f args h fr=(Φ f).bind fun fn=>if args.length=fn.np then
  (evW Φ fn.code {env:=jQ 0 args,heap:=h,fr:=fr,next:=0}).bind (La fn fr) else none:=by
 apply nY
 intro r
 rw[oL,aA]
 constructor
 ·rintro ⟨k,hk⟩
  cases k with
  |zero=>simp[evC] at hk
  |succ k =>
   rw[evC,aA] at hk
   obtain⟨fn,h1,h2⟩:=hk
   refine⟨fn,h1,?_⟩
   split at h2
   ·rw[if_pos ‹_›]
    rw[aA] at h2 ⊢
    obtain⟨⟨x,s⟩,h3,h4⟩:=h2
    refine⟨_,bH.2 ⟨k,h3⟩,?_⟩
    cases x<;>exact h4
   ·simp at h2
 ·rintro ⟨fn,h1,h2⟩
  split at h2
  ·rw[aA] at h2
   obtain⟨⟨x,s⟩,h3,h4⟩:=h2
   obtain⟨k,hk⟩:=bH.1 h3
   refine⟨k+1,?_⟩
   rw[evC,aA]
   refine⟨fn,h1,?_⟩
   rw[if_pos ‹_›,aA]
   refine⟨_,hk,?_⟩
   cases x<;>exact h4
  ·simp at h2
noncomputable def call (Φ:Nat→Option SFn) (f:Nat) (args:List X):Option X:=(evCW Φ f args emp 0).map fun r=>r.1
theorem zZn{Φ:Nat→Option SFn}{f:Nat}{args:List X}:(evCW Φ).iso f args=call Φ f args:=rfl
end
structure Bk where
 b:Nat
 c:Nat
 o:Nat
inductive G where
 |l (d:D) (v:Value)
 |s (sz:Nat) (b:Option Bk) (els:List (List G))
mutual
def G.er:G→D
 |.l d _=>d
 |.s sz _ els=> .s sz (cD els)
def cD:List (List G)→List (List D)
 |[]=>[]
 |el::els=>ers el::cD els
def ers:List G→List D
 |[]=>[]
 |g::gs=>g.er::ers gs
end
mutual
def G.bl:G→List Nat
 |.l _ _=>[]
 |.s _ b els=>(match b with|some b=>[b.1]|none=>[])++bX els
def bX:List (List G)→List Nat
 |[]=>[]
 |el::els=>bls el++bX els
def bls:List G→List Nat
 |[]=>[]
 |g::gs=>g.bl++bls gs
end
def G.val:G→Value
 |.l _ v=>v
 |.s _ none _=> .slice none 0 0
 |.s _ (some b) els=> .slice (some ⟨b.1,b.3,none⟩) els.length b.2
def cL(gs:List G):List Value:=gs.map G.val
def a7:List (List G)→List Value
 |[]=>[]
 |el::els=>cL el++a7 els
mutual
def D.rd(w:World)(S:Nat→Prop):D→Value→Prop
 |.v x,v=>v=x∧x.oneCell'=true
 |.s _ els,v=>∃A c,v= .slice A els.length c∧els.length≤c∧c≤maxLen∧(∃sz,∀el∈els,el.length=sz)∧dZ w S A 0 els
 |.r els,v=>∃A c,v= .slice A els.length c∧els.length≤c∧c≤maxLen∧(∃sz,∀el∈els,el.length=sz)∧dZ w S A 0 els
 |.u,v=>v.oneCell'=true
def dZ(w:World)(S:Nat→Prop):Option Addr→Nat→List (List D)→Prop
 |_,_,[]=>True
 |A,off,el::els=>(∃a,A=some a∧rds w S a off el)∧dZ w S A (off+el.length) els
def rds(w:World)(S:Nat→Prop):Addr→Nat→List D→Prop
 |_,_,[]=>True
 |a,off,c::cs=>(∃u,w.cell? (a.add off)=some u∧S a.block∧c.rd w S u)∧rds w S a (off+1) cs
end
def D.leaf:D→Bool
 |.s _ _=>false
 |_=>true
mutual
def G.ok(w:World)(S:Nat→Prop):G→Prop
 |.l d v=>d.leaf=true∧d.rd w S v
 |.s sz b els=>(match b with
   |none=>els=[]
   |some b=>els.length≤b.2∧b.2≤maxLen∧∃cur e,w.heap[b.1]? = some (.cells cur e (0,0))∧cur.size=b.3+b.2*sz∧(cur.toList.drop b.3).take (els.length*sz)=a7 els) ∧
   (∀el∈els,el.length=sz)∧gK w S els
def gK(w:World)(S:Nat→Prop):List (List G)→Prop
 |[]=>True
 |el::els=>oks w S el∧gK w S els
def oks(w:World)(S:Nat→Prop):List G→Prop
 |[]=>True
 |g::gs=>g.ok w S∧oks w S gs
end
theorem gV:∀gs:List G,ers gs=gs.map G.er
 |[]=>by simp[ers]
 |g::gs=>by simp[ers,gV gs]
theorem cG:∀els:List (List G),cD els=els.map fun el=>el.map G.er
 |[]=>by simp[cD]
 |el::els=>by simp[cD,cG els,gV]
theorem cY(els:List (List G)):(cD els).length=els.length:=by simp[cG]
theorem d4(gs:List G):(ers gs).length=gs.length:=by simp[gV]
theorem Kb{w:World}{S:Nat→Prop}:∀{gs:List G},oks w S gs↔∀g∈gs,g.ok w S
 |[]=>by simp[oks]
 |g::gs=>by simp[oks,Kb (gs:=gs)]
theorem dV{w:World}{S:Nat→Prop}:∀{els:List (List G)},gK w S els↔∀el∈els,∀g∈el,g.ok w S
 |[]=>by simp[gK]
 |el::els=>by simp[gK,dV (els:=els),Kb]
theorem xR{k:Nat}:∀{gs:List G},k∈bls gs↔∃g∈gs,k∈g.bl
 |[]=>by simp[bls]
 |g::gs=>by simp[bls,xR (gs:=gs)]
theorem oF{k:Nat}:∀{els:List (List G)},k∈bX els↔∃el∈els,∃g∈el,k∈g.bl
 |[]=>by simp[bX]
 |el::els=>by simp[bX,oF (els:=els),xR]
theorem jW{sz:Nat}:∀{els:List (List G)},(∀el∈els,el.length=sz)→(a7 els).length=els.length*sz
 |[],_=>by simp[a7]
 |el::els,h=>by
  have h1:=h el (by simp)
  have h2:=jW (els:=els) (fun e he=>h e (by simp[he]))
  simp only[a7,la,cL,lm,h1,h2,lc,Nat.add_mul,Nat.one_mul]
  omega
theorem Ck{sz:Nat}:∀{els:List (List G)},(∀el∈els,el.length=sz)→∀{j i:Nat} {el:List G} {g:G},els[j]? = some el→el[i]? = some g→(a7 els)[j*sz+i]? = some g.val
 |[],_,j,i,el,g,h1,_=>by simp at h1
 |e::els,h,j,i,el,g,h1,h2=>by
  have he:=h e (by simp)
  have hi:i<sz:=by
   have:=h el (by
    have:=List.mem_of_getElem? h1
    exact this)
   have h3:=(List.getElem?_eq_some_iff.1 h2).1
   omega
  cases j with
  |zero =>
   simp only[List.getElem?_cons_zero,oi] at h1
   subst h1
   simp only[a7,Nat.zero_mul,Nat.zero_add]
   rw[List.getElem?_append_left (by simp[cL];omega)]
   simp[cL,h2]
  |succ j =>
   simp only[List.getElem?_cons_succ] at h1
   have:=Ck (els:=els) (fun e he=>h e (by simp[he])) h1 h2
   simp only[a7]
   rw[List.getElem?_append_right (by simp[cL,he,Nat.add_mul];omega)]
   rw[←this]
   congr 1
   simp only[cL,lm,he,Nat.add_mul,Nat.one_mul]
   omega
theorem zZx(el:List G)(i:Nat)(c:G):cL (el.set i c)=(cL el).set i c.val:=by simp[cL,List.map_set]
theorem Ht{sz:Nat}:∀{els:List (List G)},(∀el∈els,el.length=sz)→∀{j i:Nat} {el:List G} {c:G},els[j]? = some el→i<sz→a7 (els.set j (el.set i c))=(a7 els).set (j*sz+i) c.val
 |[],_,j,i,el,c,h1,_=>by simp at h1
 |e::els,h,j,i,el,c,h1,hi=>by
  have he:=h e (by simp)
  cases j with
  |zero =>
   simp only[List.getElem?_cons_zero,oi] at h1
   subst h1
   simp only[List.set_cons_zero,a7,Nat.zero_mul,Nat.zero_add,zZx]
   rw[List.set_append_left _ _ (by simp[cL];omega)]
  |succ j =>
   simp only[List.getElem?_cons_succ] at h1
   have:=Ht (els:=els) (fun e he=>h e (by simp[he])) (c:=c) h1 hi
   simp only[List.set_cons_succ,a7,this]
   rw[List.set_append_right _ _ (by simp[cL,he,Nat.add_mul];omega)]
   congr 2
   simp only[cL,lm,he,Nat.add_mul,Nat.one_mul]
   omega
theorem Ey:∀a b:List (List G),a7 (a++b)=a7 a++a7 b
 |[],b=>by simp[a7]
 |e::a,b=>by simp[a7,Ey a b]
theorem World.cell_congr{w w':World}{a:Addr}(h:w'.heap[a.block]? = w.heap[a.block]?):w'.cell? a=w.cell? a:=World.cell?_of_block h
theorem Addr.add_block(a:Addr)(n:Nat):(a.add n).block=a.block:=by unfold Addr.add;split<;>rfl
theorem Addr.add_add(a:Addr)(m n:Nat):(a.add m).add n=a.add (m+n):=by
 unfold Addr.add
 by_cases h1:m=0
 ·subst h1;simp
 ·by_cases h2:n=0
  ·subst h2;simp
  ·simp[h1,h2,Nat.add_assoc]
mutual
theorem D.rd_congr{w w':World}{S S':Nat→Prop}(hS:∀k,S k→S' k∧w'.heap[k]? = w.heap[k]?):∀(d:D) (v:Value),d.rd w S v→d.rd w' S' v
 |.v x,v,h=>by simpa only[D.rd] using h
 |.s sz els,v,h=>by
  simp only[D.rd] at h ⊢
  obtain⟨A,c,h1,h2,h3,h4,h5⟩:=h
  exact⟨A,c,h1,h2,h3,h4,Ek hS els A 0 h5⟩
 |.r els,v,h=>by
  simp only[D.rd] at h ⊢
  obtain⟨A,c,h1,h2,h3,h4,h5⟩:=h
  exact⟨A,c,h1,h2,h3,h4,Ek hS els A 0 h5⟩
 |.u,v,h=>by simpa only[D.rd] using h
theorem Ek{w w':World}{S S':Nat→Prop}(hS:∀k,S k→S' k∧w'.heap[k]? = w.heap[k]?):∀(els:List (List D)) (A:Option Addr) (off:Nat),dZ w S A off els→dZ w' S' A off els
 |[],A,off,h=>by simp only[dZ]
 |el::els,A,off,h=>by
  simp only[dZ] at h ⊢
  obtain⟨⟨a,ha,h1⟩,h2⟩:=h
  exact⟨⟨a,ha,Hm hS el a off h1⟩,Ek hS els A _ h2⟩
theorem Hm{w w':World}{S S':Nat→Prop}(hS:∀k,S k→S' k∧w'.heap[k]? = w.heap[k]?):∀(cs:List D) (a:Addr) (off:Nat),rds w S a off cs→rds w' S' a off cs
 |[],a,off,h=>by simp only[rds]
 |c::cs,a,off,h=>by
  simp only[rds] at h ⊢
  obtain⟨⟨u,h1,h2,h3⟩,h4⟩:=h
  refine⟨⟨u,?_,(hS _ h2).1,D.rd_congr hS c u h3⟩,Hm hS cs a _ h4⟩
  rw[World.cell_congr (w:=w) (by rw[Addr.add_block];exact(hS _ h2).2)]
  exact h1
end
mutual
theorem G.ok_congr{w w':World}{S S':Nat→Prop}(hS:∀k,S k→S' k∧w'.heap[k]? = w.heap[k]?):∀(g:G),(∀k∈g.bl,w'.heap[k]? = w.heap[k]?)→g.ok w S→g.ok w' S'
 |.l d v,_,h=>by
  simp only[G.ok] at h ⊢
  exact⟨h.1,D.rd_congr hS d v h.2⟩
 |.s sz b els,hb,h=>by
  simp only[G.ok] at h ⊢
  simp only[G.bl] at hb
  obtain⟨h1,h2,h3⟩:=h
  refine⟨?_,h2,D2 hS els (fun k hk=>hb k (List.mem_append_right _ hk)) h3⟩
  cases b with
  |none=>exact h1
  |some b =>
   obtain⟨h4,h5,cur,e,h6,h7⟩:=h1
   exact⟨h4,h5,cur,e,(hb b.1 (by simp)).trans h6,h7⟩
theorem D2{w w':World}{S S':Nat→Prop}(hS:∀k,S k→S' k∧w'.heap[k]? = w.heap[k]?):∀(els:List (List G)),(∀k∈bX els,w'.heap[k]? = w.heap[k]?)→gK w S els→gK w' S' els
 |[],_,h=>by simp only[gK]
 |el::els,hb,h=>by
  simp only[gK,bX] at h hb ⊢
  exact⟨Q3 hS el (fun k hk=>hb k (List.mem_append_left _ hk)) h.1,D2 hS els (fun k hk=>hb k (List.mem_append_right _ hk)) h.2⟩
theorem Q3{w w':World}{S S':Nat→Prop}(hS:∀k,S k→S' k∧w'.heap[k]? = w.heap[k]?):∀(gs:List G),(∀k∈bls gs,w'.heap[k]? = w.heap[k]?)→oks w S gs→oks w' S' gs
 |[],_,h=>by simp only[oks]
 |g::gs,hb,h=>by
  simp only[oks,bls] at h hb ⊢
  exact⟨G.ok_congr hS g (fun k hk=>hb k (List.mem_append_left _ hk)) h.1,Q3 hS gs (fun k hk=>hb k (List.mem_append_right _ hk)) h.2⟩
end
theorem G.ok_lt{w:World}{S:Nat→Prop}:∀(g:G),g.ok w S→∀k∈g.bl,k<w.heap.size:=by
 intro g
 refine G.rec (motive_1:=fun g=>g.ok w S→∀k∈g.bl,k<w.heap.size) (motive_2:=fun els=>gK w S els→∀k∈bX els,k<w.heap.size) (motive_3:=fun gs=>oks w S gs→∀k∈bls gs,k<w.heap.size) ?_ ?_ ?_ ?_ ?_ ?_ g
 ·intro d v _ k hk
  simp[G.bl] at hk
 ·intro sz b els ih h k hk
  simp only[G.ok] at h
  simp only[G.bl,List.mem_append] at hk
  rcases hk with hk|hk
  ·cases b with
   |none=>simp at hk
   |some b =>
    obtain⟨h1,h2,cur,e,h3,h4⟩:=h.1
    simp only[List.mem_singleton] at hk
    subst hk
    exact(Array.getElem?_eq_some_iff.1 h3).1
  ·exact ih h.2.2 k hk
 ·intro _ k hk
  simp[bX] at hk
 ·intro el els h1 h2 h k hk
  simp only[gK] at h
  simp only[bX,List.mem_append] at hk
  exact hk.elim (h1 h.1 k) (h2 h.2 k)
 ·intro _ k hk
  simp[bls] at hk
 ·intro g gs h1 h2 h k hk
  simp only[oks] at h
  simp only[bls,List.mem_append] at hk
  exact hk.elim (h1 h.1 k) (h2 h.2 k)
def G.nav:G→Path→Option G
 |g,[]=>some g
 |g,(j,i)::p=>match g with
  |.s _ _ els=>(els[j]?).bind fun el=>(el[i]?).bind fun c=>c.nav p
  |_=>none
def G.put:G→Path→G→Option G
 |_,[],x=>some x
 |g,(j,i)::p,x=>match g with
  |.s sz b els=>(els[j]?).bind fun el=>(el[i]?).bind fun c=>(c.put p x).map fun c'=> .s sz b (els.set j (el.set i c'))
  |_=>none
theorem G.nav_er:∀(p:Path) (g:G),(∀d v,g= .l d v→d.leaf=true)→True:=fun _ _ _=>trivial
theorem nav_er{w:World}{S:Nat→Prop}:∀(p:Path) (g:G),g.ok w S→g.er.nav p=(g.nav p).map G.er
 |[],g,_=>by simp[D.nav,G.nav]
 |(j,i)::p,.l d v,h=>by
  simp only[G.ok] at h
  cases d<;>simp_all[D.leaf,D.nav,G.nav,G.er]
 |(j,i)::p,.s sz b els,h=>by
  simp only[G.ok] at h
  simp only[G.er,D.nav,G.nav,cG,List.getElem?_map]
  cases h1:els[j]? with
  |none=>simp
  |some el =>
   simp only[oms,obs,List.getElem?_map]
   cases h2:el[i]? with
   |none=>simp
   |some c =>
    simp only[oms,obs]
    exact nav_er p c (dV.1 h.2.2 el (List.mem_of_getElem? h1) c (List.mem_of_getElem? h2))
theorem R8{w:World}{S:Nat→Prop}:∀(p:Path) (g x:G),g.ok w S→g.er.put p x.er=(g.put p x).map G.er
 |[],g,x,_=>by simp[D.put,G.put]
 |(j,i)::p,.l d v,x,h=>by
  simp only[G.ok] at h
  cases d<;>simp_all[D.leaf,D.put,G.put,G.er]
 |(j,i)::p,.s sz b els,x,h=>by
  simp only[G.ok] at h
  simp only[G.er,D.put,G.put,cG,List.getElem?_map]
  cases h1:els[j]? with
  |none=>simp
  |some el =>
   simp only[oms,obs,List.getElem?_map]
   cases h2:el[i]? with
   |none=>simp
   |some c =>
    simp only[oms,obs]
    rw[R8 p c x (dV.1 h.2.2 el (List.mem_of_getElem? h1) c (List.mem_of_getElem? h2))]
    cases c.put p x with
    |none=>simp
    |some c'=>simp[G.er,cG,List.map_set]
theorem nav_ok{w:World}{S:Nat→Prop}:∀(p:Path) (g g':G),g.ok w S→g.nav p=some g'→g'.ok w S
 |[],g,g',h,hn=>by
  simp only[G.nav,oi] at hn
  subst hn
  exact h
 |(j,i)::p,.l d v,g',h,hn=>by simp[G.nav] at hn
 |(j,i)::p,.s sz b els,g',h,hn=>by
  simp only[G.nav,aA] at hn
  obtain⟨el,h1,c,h2,h3⟩:=hn
  simp only[G.ok] at h
  exact nav_ok p c g' (dV.1 h.2.2 el (List.mem_of_getElem? h1) c (List.mem_of_getElem? h2)) h3
theorem Nc:∀(p:Path) (g g':G),g.nav p=some g'→∀k∈g'.bl,k∈g.bl
 |[],g,g',hn,k,hk=>by
  simp only[G.nav,oi] at hn
  subst hn
  exact hk
 |(j,i)::p,.l d v,g',hn,k,hk=>by simp[G.nav] at hn
 |(j,i)::p,.s sz b els,g',hn,k,hk=>by
  simp only[G.nav,aA] at hn
  obtain⟨el,h1,c,h2,h3⟩:=hn
  simp only[G.bl,List.mem_append]
  exact .inr (oF.2 ⟨el,List.mem_of_getElem? h1,c,List.mem_of_getElem? h2,Nc p c g' h3 k hk⟩)
theorem lW:∀(p q:Path) (g:G),g.nav (p++q)=(g.nav p).bind fun g'=>g'.nav q
 |[],q,g=>by simp[G.nav]
 |(j,i)::p,q,.l d v=>by simp[G.nav]
 |(j,i)::p,q,.s sz b els=>by
  simp only[List.cons_append,G.nav]
  cases els[j]? with
  |none=>simp
  |some el =>
   simp only[obs]
   cases el[i]? with
   |none=>simp
   |some c=>simp[lW p q c]
theorem zyZ:∀(el:List G) (i:Nat) (c:G),el[i]? = some c→∃R,(bls el).Perm (c.bl++R)∧∀c',(bls (el.set i c')).Perm (c'.bl++R)
 |[],i,c,h=>by simp at h
 |g::gs,0,c,h=>by
  simp only[List.getElem?_cons_zero,oi] at h
  subst h
  exact⟨bls gs,by simp[bls],fun c'=>by simp[bls]⟩
 |g::gs,i+1,c,h=>by
  simp only[List.getElem?_cons_succ] at h
  obtain⟨R,h1,h2⟩:=zyZ gs i c h
  refine⟨g.bl++R,?_,fun c'=> ?_⟩
  ·simp only[bls]
   refine(h1.append_left g.bl).trans ?_
   rw[←List.append_assoc,←List.append_assoc]
   exact List.perm_append_comm.append_right R
  ·simp only[bls,List.set_cons_succ]
   refine((h2 c').append_left g.bl).trans ?_
   rw[←List.append_assoc,←List.append_assoc]
   exact List.perm_append_comm.append_right R
theorem J9:∀(els:List (List G)) (j:Nat) (el:List G),els[j]? = some el→∀(i:Nat) (c:G),el[i]? = some c →
  ∃R,(bX els).Perm (c.bl++R)∧∀c',(bX (els.set j (el.set i c'))).Perm (c'.bl++R)
 |[],j,el,h,_,_,_=>by simp at h
 |e::els,0,el,h,i,c,hc=>by
  simp only[List.getElem?_cons_zero,oi] at h
  subst h
  obtain⟨R,h1,h2⟩:=zyZ e i c hc
  refine⟨R++bX els,?_,fun c'=> ?_⟩
  ·simp only[bX]
   rw[←List.append_assoc]
   exact h1.append_right _
  ·simp only[bX,List.set_cons_zero]
   rw[←List.append_assoc]
   exact(h2 c').append_right _
 |e::els,j+1,el,h,i,c,hc=>by
  simp only[List.getElem?_cons_succ] at h
  obtain⟨R,h1,h2⟩:=J9 els j el h i c hc
  refine⟨bls e++R,?_,fun c'=> ?_⟩
  ·simp only[bX]
   refine(h1.append_left _).trans ?_
   rw[←List.append_assoc,←List.append_assoc]
   exact List.perm_append_comm.append_right R
  ·simp only[bX,List.set_cons_succ]
   refine((h2 c').append_left _).trans ?_
   rw[←List.append_assoc,←List.append_assoc]
   exact List.perm_append_comm.append_right R
def G.top:G→List Nat
 |.s _ (some b) _=>[b.1]
 |_=>[]
theorem G.bl_s(sz:Nat)(b:Option Bk)(els:List (List G)):(G.s sz b els).bl=(G.s sz b els).top++bX els:=by
 cases b<;>simp[G.bl,G.top]
theorem Ff:∀(p:Path) (g c:G),g.nav p=some c→∃R,g.bl.Perm (c.bl++R)∧∀c' g',g.put p c'=some g'→g'.bl.Perm (c'.bl++R)
 |[],g,c,h=>by
  simp only[G.nav,oi] at h
  subst h
  exact⟨[],by simp,fun c' g' h=>by simp only[G.put,oi] at h;subst h;simp⟩
 |(j,i)::p,.l d v,c,h=>by simp[G.nav] at h
 |(j,i)::p,.s sz b els,c,h=>by
  simp only[G.nav,aA] at h
  obtain⟨el,h1,c0,h2,h3⟩:=h
  obtain⟨R0,h4,h5⟩:=Ff p c0 c h3
  obtain⟨R1,h6,h7⟩:=J9 els j el h1 i c0 h2
  refine⟨(G.s sz b els).top++(R0++R1),?_,fun c' g' hp=> ?_⟩
  ·rw[G.bl_s]
   refine(h6.append_left _).trans ?_
   refine((h4.append_right R1).append_left _).trans ?_
   simp only[←List.append_assoc]
   exact(List.perm_append_comm.append_right R0).append_right R1
  ·simp only[G.put,h1,h2,obs,aC] at hp
   obtain⟨c0',h8,rfl⟩:=hp
   rw[G.bl_s]
   have ht:(G.s sz b (els.set j (el.set i c0'))).top=(G.s sz b els).top:=by cases b<;>rfl
   rw[ht]
   refine((h7 c0').append_left _).trans ?_
   refine(((h5 c' c0' h8).append_right R1).append_left _).trans ?_
   simp only[←List.append_assoc]
   exact(List.perm_append_comm.append_right R0).append_right R1
theorem zYV:∀(p:Path) (g c' g':G),p≠[]→g.put p c'=some g'→g'.val=g.val
 |[],_,_,_,h,_=>absurd rfl h
 |(j,i)::p,.l d v,c',g',_,h=>by simp[G.put] at h
 |(j,i)::p,.s sz b els,c',g',_,h=>by
  simp only[G.put,aA,aC] at h
  obtain⟨el,h1,c0,h2,c0',h3,rfl⟩:=h
  cases b<;>simp[G.val]
theorem sJ{w:World}{S:Nat→Prop}{sz b cap o:Nat}{els:List (List G)}(h:(G.s sz (some ⟨b,cap,o⟩) els).ok w S){j i:Nat}{el:List G}{c:G}(h1:els[j]? = some el)(h2:el[i]? = some c) :
  w.cell? ⟨b,o+(j*sz+i),none⟩=some c.val:=by
 simp only[G.ok] at h
 obtain⟨⟨_,_,cur,e,h3,h4,h5⟩,h6,_⟩:=h
 have hv:=Ck h6 h1 h2
 rw[←h5,List.getElem?_take] at hv
 split at hv
 ·rw[cell_of_row w b _ cur e (0,0) h3]
  rw[List.getElem?_drop] at hv
  simpa using hv
 ·simp at hv
theorem zJ9{sz:Nat}{els:List (List G)}(h:∀el∈els,el.length=sz){j i:Nat}{el:List G}{c:G}(h1:els[j]? = some el)(h2:el[i]? = some c):i<sz∧j*sz+i<els.length*sz:=by
 have h3:=h el (List.mem_of_getElem? h1)
 have h4:=(List.getElem?_eq_some_iff.1 h2).1
 have h5:=(List.getElem?_eq_some_iff.1 h1).1
 refine⟨by omega,?_⟩
 have:(j+1)*sz≤els.length*sz:=Nat.mul_le_mul_right _ h5
 rw[Nat.add_mul] at this
 omega
theorem E0{w w':World}{S S':Nat→Prop}(hS:∀k,S k→S' k∧w'.heap[k]? = w.heap[k]?){c':G}(hc':c'.ok w' S'){sz b cap o:Nat}{els:List (List G)}{j i:Nat}{el:List G}{c:G}
  (h1:els[j]? = some el) (h2:el[i]? = some c)
  (hb:∀cur e,w.heap[b]? = some (.cells cur e (0,0))→cur[o+(j*sz+i)]? = some c.val→w'.heap[b]? = some (.cells (cur.setIfInBounds (o+(j*sz+i)) c'.val) e (0,0))) :
  ∀(q:Path) (g:G),g.ok w S→g.bl.Nodup→g.nav q=some (.s sz (some ⟨b,cap,o⟩) els)→(∀k∈g.bl,k≠b→w'.heap[k]? = w.heap[k]?) →
  ∃g',g.put (q++[(j,i)]) c'=some g'∧g'.ok w' S'
 |[],g,hg,hn,hq,hk=>by
  simp only[G.nav,oi] at hq
  subst hq
  refine⟨.s sz (some ⟨b,cap,o⟩) (els.set j (el.set i c')),by simp[G.put,h1,h2],?_⟩
  have hg0:=hg
  simp only[G.ok] at hg ⊢
  obtain⟨⟨h3,h4,cur,e,h5,h6,h7⟩,h8,h9⟩:=hg
  obtain⟨hi,hlt⟩:=zJ9 h8 h1 h2
  simp only[G.bl,List.singleton_append,List.nodup_cons] at hn
  refine⟨⟨by simpa using h3,h4,cur.setIfInBounds (o+(j*sz+i)) c'.val,e,hb cur e h5 ?_,by simpa using h6,?_⟩,?_,?_⟩
  ·have hc:=sJ hg0 h1 h2
   rw[cell_of_row w b _ cur e (0,0) h5] at hc
   exact hc
  ·rw[Array.toList_setIfInBounds,List.length_set,List.drop_set,if_neg (by omega),show o+(j*sz+i)-o=j*sz+i by omega,List.take_set,h7,Ht h8 h1 hi]
  ·intro e' he'
   rcases List.mem_or_eq_of_mem_set he' with he'|he'
   ·exact h8 e' he'
   ·subst he'
    rw[List.length_set]
    exact h8 el (List.mem_of_getElem? h1)
  ·rw[dV] at h9 ⊢
   intro e' he' g' hg'
   have hold:∀e0∈els,∀g0∈e0,g0.ok w' S':=fun e0 he0 g0 hg0'=>by
    refine G.ok_congr hS g0 (fun k hk0=>hk k ?_ ?_) (h9 e0 he0 g0 hg0')
    ·simp only[G.bl,List.singleton_append,List.mem_cons]
     exact .inr (oF.2 ⟨e0,he0,g0,hg0',hk0⟩)
    ·rintro rfl
     exact hn.1 (oF.2 ⟨e0,he0,g0,hg0',hk0⟩)
   rcases List.mem_or_eq_of_mem_set he' with he'|he'
   ·exact hold e' he' g' hg'
   ·subst he'
    rcases List.mem_or_eq_of_mem_set hg' with hg'|hg'
    ·exact hold el (List.mem_of_getElem? h1) g' hg'
    ·subst hg'
     exact hc'
 |(j0,i0)::q,.l d v,hg,hn,hq,hk=>by simp[G.nav] at hq
 |(j0,i0)::q,.s sz0 b0 els0,hg,hn,hq,hk=>by
  simp only[G.nav,aA] at hq
  obtain⟨el0,h3,c0,h4,h5⟩:=hq
  have hg0:=hg
  simp only[G.ok] at hg
  obtain⟨h6,h7,h8⟩:=hg
  obtain⟨R,hR,_⟩:=J9 els0 j0 el0 h3 i0 c0 h4
  have hbc:b∈c0.bl:=Nc q c0 _ h5 b (by simp[G.bl])
  have hn2:((G.s sz0 b0 els0).top++(c0.bl++R)).Nodup:=by
   rw[G.bl_s] at hn
   exact(hR.append_left _).nodup_iff.1 hn
  have hcn:c0.bl.Nodup:=(List.nodup_append.1 (List.nodup_append.1 hn2).2.1).1
  have hin:∀k∈c0.bl,k∈(G.s sz0 b0 els0).bl:=fun k hk0=>by
   rw[G.bl_s]
   exact List.mem_append_right _ (oF.2 ⟨el0,List.mem_of_getElem? h3,c0,List.mem_of_getElem? h4,hk0⟩)
  obtain⟨c0',h9,h10⟩:=E0 hS hc' h1 h2 hb q c0 (dV.1 h8 el0 (List.mem_of_getElem? h3) c0 (List.mem_of_getElem? h4)) hcn h5 (fun k hk0 hne=>hk k (hin k hk0) hne)
  have hval:c0'.val=c0.val:=zYV _ _ _ _ (by simp) h9
  refine⟨.s sz0 b0 (els0.set j0 (el0.set i0 c0')),by simp[G.put,h3,h4,h9],?_⟩
  simp only[G.ok]
  obtain⟨hi,hlt⟩:=zJ9 h7 h3 h4
  have hvs:a7 (els0.set j0 (el0.set i0 c0'))=a7 els0:=by
   rw[Ht h7 h3 hi,hval]
   have:=Ck h7 h3 h4
   obtain⟨hl,hv⟩:=List.getElem?_eq_some_iff.1 this
   rw[←hv,List.set_getElem_self]
  refine⟨?_,?_,?_⟩
  ·cases b0 with
   |none =>
    simp only at h6 ⊢
    subst h6
    simp at h3
   |some b0 =>
    simp only at h6 ⊢
    obtain⟨h11,h12,cur,e,h13,h14,h15⟩:=h6
    refine⟨by simpa using h11,h12,cur,e,?_,h14,?_⟩
    ·rw[hk b0.1 (by simp[G.bl]) ?_]
     ·exact h13
     ·rintro rfl
      have:=(List.nodup_append.1 hn2).2.2 b0.1 (by simp[G.top]) b0.1 (List.mem_append_left _ hbc)
      exact this rfl
    ·rw[List.length_set,hvs]
     exact h15
  ·intro e' he'
   rcases List.mem_or_eq_of_mem_set he' with he'|he'
   ·exact h7 e' he'
   ·subst he'
    rw[List.length_set]
    exact h7 el0 (List.mem_of_getElem? h3)
  ·rw[dV]
   have hold:∀(j1 i1:Nat) e0 g0,els0[j1]? = some e0→e0[i1]? = some g0→(j1≠j0∨i1≠i0)→g0.ok w' S':=fun j1 i1 e0 g0 he0 hg0' hne=>by
    refine G.ok_congr hS g0 (fun k hk0=>hk k ?_ ?_) (dV.1 h8 e0 (List.mem_of_getElem? he0) g0 (List.mem_of_getElem? hg0'))
    ·rw[G.bl_s]
     exact List.mem_append_right _ (oF.2 ⟨e0,List.mem_of_getElem? he0,g0,List.mem_of_getElem? hg0',hk0⟩)
    ·rintro rfl
     obtain⟨R',hR1,hR2⟩:=J9 els0 j0 el0 h3 i0 c0 h4
     have hz:=hR2 (.l .u .nilFunc)
     have hmem:k∈bX (els0.set j0 (el0.set i0 (.l .u .nilFunc))):=by
      rw[oF]
      by_cases hj:j1=j0
      ·subst hj
       have hi1:i1≠i0:=hne.resolve_left (fun h=>h rfl)
       rw[h3] at he0
       simp only[oi] at he0
       subst he0
       refine⟨el0.set i0 (.l .u .nilFunc),?_,g0,?_,hk0⟩
       ·exact List.mem_of_getElem? (i:=j1) (by rw[List.getElem?_set_self (List.getElem?_eq_some_iff.1 h3).1])
       ·exact List.mem_of_getElem? (i:=i1) (by rw[List.getElem?_set_ne (Ne.symm hi1)];exact hg0')
      ·exact⟨e0,List.mem_of_getElem? (i:=j1) (by rw[List.getElem?_set_ne (Ne.symm hj)];exact he0),g0,List.mem_of_getElem? hg0',hk0⟩
     have hkR:k∈R':=by
      have:=hz.mem_iff.1 hmem
      simpa[G.bl] using this
     have hnn:=hR1.nodup_iff.1 (List.nodup_append.1 (by rw[←G.bl_s];exact hn)).2.1
     exact(List.nodup_append.1 hnn).2.2 k hbc k hkR rfl
   intro e' he' g' hg'
   obtain⟨j1,hj1⟩:=List.getElem?_of_mem he'
   obtain⟨i1,hi1⟩:=List.getElem?_of_mem hg'
   by_cases hj:j1=j0
   ·subst hj
    rw[List.getElem?_set_self (List.getElem?_eq_some_iff.1 h3).1] at hj1
    simp only[oi] at hj1
    subst hj1
    by_cases hi':i1=i0
    ·subst hi'
     rw[List.getElem?_set_self (List.getElem?_eq_some_iff.1 h4).1] at hi1
     simp only[oi] at hi1
     subst hi1
     exact h10
    ·rw[List.getElem?_set_ne (Ne.symm hi')] at hi1
     exact hold j1 i1 el0 g' h3 hi1 (.inr hi')
   ·rw[List.getElem?_set_ne (Ne.symm hj)] at hj1
    exact hold j1 i1 e' g' hj1 hi1 (.inl hj)
end Go.Ev
