import Derived.Test.YtenclibcnjkamaaGreatEvFn
import Derived.WalkKit
import Derived.ProofKit
import Derived.OpenShut
import Derived.ShutString
import Derived.ChangeOld
import Derived.Below
import Derived.SizedLaws
import Derived.Carry
set_option linter.all false
namespace Go.Ev
open Go.RowKit Go.WideShapes
inductive Ty where
 |i (k:IntKind)
 |b
 |s
 |l (bytes:Nat) (el:List Ty)
 |nd (bytes:Nat)
inductive Nd (bytes:Nat):List D→Prop where
 |mk {op n:Int} {s:ByteArray} {els:List (List D)}:(Lit.int .i64 op).wf=true→s.size≤140737488351232→(Lit.int .i64 n).wf=true→els.length*bytes≤140737488351232→(∀c∈els,Nd bytes c)→Nd bytes [.v (.int .i64 op),.v (.string s),.v (.int .i64 n),.r els]
theorem Nd.len{bytes:Nat}{c:List D}(h:Nd bytes c):c.length=4:=by cases h;rfl
def z9k(P:Program)(e:TypeId):List Field→Bool
 |[f0,f1,f2,f3]=>f0.offset==0&&f1.offset==1&&f2.offset==2&&f3.offset==3&&P.cellsOf f0.type==1&&P.cellsOf f1.type==1&&P.cellsOf f2.type==1&&P.cellsOf f3.type==1 &&
  (match P.underlying f0.type,P.underlying f1.type,P.underlying f2.type,P.underlying f3.type with
   |some (.int .i64),some .string,some (.int .i64),some (.slice e')=>e'==e
   |_,_,_,_=>false)
 |_=>false
def z8p(P:Program)(e:TypeId):Bool:=P.cellsOf e==4&&(match P.underlying e with
 |some (.struct fs)=>z9k P e fs.toList
 |_=>false)
def tyCells(P:Program):Nat→TypeId→Option (List Ty)
 |0,_=>none
 |m+1,t=>match P.underlying t with
  |some .bool=>some [.b]
  |some (.int k)=>some [.i k]
  |some .string=>some [.s]
  |some (.slice e)=>if z8p P e then some [.nd (P.bytesOf e)] else(tyCells P m e).bind fun el=>if el.length=P.cellsOf e then some [.l (P.bytesOf e) el] else none
  |some (.struct fs)=>(flds (tyCells P m) P 0 fs.toList).bind fun ts=>if ts.length=P.cellsOf t then some ts else none
  |_=>none
where flds (r:TypeId→Option (List Ty)) (P:Program):Nat→List Field→Option (List Ty)
 |_,[]=>some []
 |off,f::fs=>(r f.type).bind fun ts=>if f.offset=off∧ts.length=P.cellsOf f.type then(flds r P (off+ts.length) fs).map fun us=>ts++us else none
mutual
def fit:Ty→D→Prop
 |.i k,d=>∃n,d= .v (.int k n)∧(Lit.int k n).wf=true
 |.b,d=>∃x,d= .v (.bool x)
 |.s,d=>∃x:ByteArray,d= .v (.string x)∧x.size≤140737488351232
 |.l bytes el,d=>∃els:List (List D),d= .r els∧els.length*bytes≤140737488351232∧∀c∈els,jL el c
 |.nd bytes,d=>∃els:List (List D),d= .r els∧els.length*bytes≤140737488351232∧∀c∈els,Nd bytes c
def jL:List Ty→List D→Prop
 |[],ds=>ds=[]
 |t::ts,ds=>∃d r,ds=d::r∧fit t d∧jL ts r
end
theorem Ii:∀{a b:List Ty} {x y:List D},jL a x→jL b y→jL (a++b) (x++y)
 |[],b,x,y,h,h2=>by simp only[jL] at h;subst h;simpa using h2
 |t::a,b,x,y,h,h2=>by
  simp only[jL] at h
  obtain⟨d,r,rfl,h3,h4⟩:=h
  simp only[List.cons_append,jL]
  exact⟨d,r++y,rfl,h3,Ii h4 h2⟩
theorem W0:∀{ts:List Ty} {ds:List D},jL ts ds→ds.length=ts.length
 |[],ds,h=>by simp only[jL] at h;subst h;rfl
 |t::ts,ds,h=>by
  simp only[jL] at h
  obtain⟨d,r,rfl,_,h4⟩:=h
  simp[W0 h4]
def rdV(w:World)(S:Nat→Prop):List D→List Value→Prop
 |[],[]=>True
 |d::ds,v::vs=>d.rd w S v∧rdV w S ds vs
 |_,_=>False
theorem Ms{w:World}{S:Nat→Prop}:∀{a b:List D} {x y:List Value},rdV w S a x→rdV w S b y→rdV w S (a++b) (x++y)
 |[],b,[],y,_,h=>h
 |d::a,b,v::x,y,h,h2=>⟨h.1,Ms h.2 h2⟩
 |[],_,_::_,_,h,_=>by simp[rdV] at h
 |_::_,_,[],_,h,_=>by simp[rdV] at h
theorem Un{w:World}{S:Nat→Prop}:∀{a:List D} {x:List Value},rdV w S a x→a.length=x.length
 |[],[],_=>rfl
 |d::a,v::x,h=>by simp[Un h.2]
 |[],_::_,h=>by simp[rdV] at h
 |_::_,[],h=>by simp[rdV] at h
theorem Tl{w:World}{S:Nat→Prop}:∀{a:List D} {x:List Value},rdV w S a x→∀{i:Nat} {d:D},a[i]? = some d→∃v,x[i]? = some v∧d.rd w S v
 |[],[],_,i,d,h=>by simp at h
 |d'::a,v::x,h,i,d,hd=>by
  cases i with
  |zero =>
   simp only[List.getElem?_cons_zero,oi] at hd
   subst hd
   exact⟨v,rfl,h.1⟩
  |succ i =>
   obtain⟨u,h1,h2⟩:=Tl h.2 (i:=i) (by simpa using hd)
   exact⟨u,by simpa using h1,h2⟩
 |[],_::_,h,_,_,_=>by simp[rdV] at h
 |_::_,[],h,_,_,_=>by simp[rdV] at h
theorem V9(a:Addr)(x y:Nat):(a.add x).add y=a.add (x+y):=by
 unfold Addr.add
 by_cases hx:x=0
 ·subst hx
  simp only[if_true,Nat.zero_add]
 ·by_cases hy:y=0
  ·subst hy
   simp only[if_true,Nat.add_zero]
  ·rw[if_neg hx,if_neg hy,if_neg (by omega)]
   simp only[Nat.add_assoc]
theorem zqq{w:World}{a:Addr}{v:Value}(h:w.cell? a=some v):a.block<w.heap.size:=by
 unfold World.cell? at h
 split at h
 ·rename_i c e f hc
  exact(Array.getElem?_eq_some_iff.1 hc).1
 ·simp at h
theorem zzd{w:World}{S:Nat→Prop}{a:Addr}:∀{ds:List D} {off:Nat},(∀j d,ds[j]? = some d→∃u,w.cell? (a.add (off+j))=some u∧S a.block∧d.rd w S u)→rds w S a off ds
 |[],off,_=>by simp only[rds]
 |d::ds,off,h=>by
  simp only[rds]
  refine⟨by simpa using h 0 d rfl,zzd fun j d' hd=> ?_⟩
  obtain⟨u,h1,h2⟩:=h (j+1) d' (by simpa using hd)
  exact⟨u,by rw[show off+1+j=off+(j+1) by omega];exact h1,h2⟩
theorem Sp{w:World}{S:Nat→Prop}{a:Addr}{n:Nat}:∀{els:List (List D)} {off:Nat},(∀i c,els[i]? = some c→c.length=n∧rds w S a (off+i*n) c)→dZ w S (some a) off els
 |[],off,_=>by simp only[dZ]
 |c::els,off,h=>by
  simp only[dZ]
  obtain⟨h1,h2⟩:=h 0 c rfl
  refine⟨⟨a,rfl,by simpa using h2⟩,Sp (n:=n) fun i c' hc=> ?_⟩
  obtain⟨h3,h4⟩:=h (i+1) c' (by simpa using hc)
  refine⟨h3,?_⟩
  rw[h1,show off+n+i*n=off+(i+1)*n by rw[Nat.add_mul,Nat.one_mul];omega]
  exact h4
section
variable{H:Type}{enc:TypeId×Value→H}{P:Program}{w:World}{spare:Nat→Bool}{held:Bool}
abbrev All(w:World):Nat→Prop:=fun k=>k<w.heap.size
theorem p9{e:TypeId}:∀{ds:List (DataW H)} {d:DataW H},d∈ds→∀n∈d.weights P e,n∈DataW.weightsAll P e ds
 |d'::ds,d,h,n,hn=>by
  simp only[DataW.weightsAll,List.mem_append]
  rcases List.mem_cons.1 h with rfl|h
  ·exact .inl hn
  ·exact .inr (p9 h n hn)
theorem Yu{t e:TypeId}(hu:P.underlying t=some (.slice e)){Φ:List D→Prop}{L:Nat}(hL:∀c,Φ c→c.length=L){n:Nat}{cs:List Value}{x:DataW H×List MemPlace}(hx:DataW.trod enc P w 0 spare held n t cs=some x)(hw:∀k∈x.1.weights P t,k≤reachBytes)
  (ih:∀(n':Nat) (cs':List Value) (y:DataW H×List MemPlace),n'<n→DataW.trod enc P w 0 spare held n' e cs'=some y→(∀k∈y.1.weights P e,k≤reachBytes)→∃c,Φ c∧rdV w (All w) c cs') :
  ∃els:List (List D),els.length*P.bytesOf e≤140737488351232∧(∀c∈els,Φ c)∧rdV w (All w) [.r els] cs:=by
 rcases DataW.trod_slice hu hx with⟨rfl,rfl⟩|⟨a,len,cap,elems,rest,n',rfl,rfl,rfl,_,hl,hm,hel,heach,_,_⟩
 ·refine⟨[],by simp,by simp,?_⟩
  simp only[rdV,D.rd,and_true]
  exact⟨none,0,rfl,Nat.le_refl _,Nat.zero_le _,⟨0,by simp⟩,by simp only[dZ]⟩
 ·have hels:∀k,k≤len→∃els:List (List D),els.length=k∧∀i c,els[i]? = some c→Φ c∧∃cs',w.cells? 0 (a.add (i*P.cellsOf e)) (P.cellsOf e)=some cs'∧rdV w (All w) c cs':=by
   intro k
   induction k with
   |zero=>intro _;exact⟨[],rfl,fun i c hc=>by simp at hc⟩
   |succ k ihk =>
    intro hk
    obtain⟨els,h3,h4⟩:=ihk (by omega)
    have h5:=heach k (by omega)
    have hkl:k<elems.length:=by omega
    rw[List.getElem?_eq_getElem hkl,aA] at h5
    obtain⟨cs',h6,h7⟩:=h5
    obtain⟨c,h8,h9⟩:=ih n' cs' _ (by omega) h7 (fun q hq=>hw q (by
     simp only[DataW.weights,hu,List.mem_cons,List.mem_append]
     exact .inr (.inl (p9 (List.mem_map.2 ⟨_,List.getElem_mem hkl,rfl⟩) q hq))))
    refine⟨els++[c],by simp[h3],fun i c' hc=> ?_⟩
    rw[List.getElem?_append] at hc
    split at hc
    ·exact h4 i c' hc
    ·have:i=k:=by
      have:=(List.getElem?_eq_some_iff.1 hc).1
      simp at this
      omega
     subst this
     rw[h3,Nat.sub_self,List.getElem?_cons_zero,oi] at hc
     subst hc
     exact⟨h8,cs',h6,h9⟩
  obtain⟨els,h3,h4⟩:=hels len (Nat.le_refl _)
  have hfit:∀c∈els,Φ c:=fun c hc=>by
   obtain⟨i,hi⟩:=List.getElem?_of_mem hc
   exact(h4 i c hi).1
  have hby:els.length*P.bytesOf e≤140737488351232:=by
   have:=hw ((elems.length+rest.length)*P.bytesOf e) (by simp[DataW.weights,hu])
   have h5:els.length*P.bytesOf e≤(elems.length+rest.length)*P.bytesOf e:=Nat.mul_le_mul_right _ (by omega)
   simp only[reachBytes] at this
   omega
  refine⟨els,hby,hfit,?_⟩
  simp only[rdV,D.rd,and_true]
  refine⟨some a,cap,by rw[h3],by omega,hm,⟨L,fun c hc=>hL c (hfit c hc)⟩,Sp (n:=P.cellsOf e) fun i c hc=> ?_⟩
  obtain⟨h5,cs',h6,h7⟩:=h4 i c hc
  obtain⟨_,h8,h9⟩:=World.cells?_some h6
  refine⟨by rw[Un h7,h8],zzd fun j d hd=> ?_⟩
  obtain⟨u,h10,h11⟩:=Tl h7 hd
  have hj:j<P.cellsOf e:=by have:=(List.getElem?_eq_some_iff.1 h10).1;omega
  have h12:=h9 j hj
  rw[V9,h10] at h12
  refine⟨u,by rw[Nat.zero_add];exact h12,?_,h11⟩
  have:=zqq h12
  rwa [Go.ChangeShapes.block_add] at this
theorem zYJ{e:TypeId}(hN:z8p P e=true):∀(n:Nat) (cs:List Value) (x:DataW H×List MemPlace),DataW.trod enc P w 0 spare held n e cs=some x→(∀k∈x.1.weights P e,k≤reachBytes)→∃c,Nd (P.bytesOf e) c∧rdV w (All w) c cs:=by
 intro n
 induction n using Nat.strongRecOn with
 |_ n ih =>
  intro cs x hx hw
  unfold z8p at hN
  simp only[bE,beq_iff_eq] at hN
  obtain⟨hc4,hN⟩:=hN
  split at hN
  ·rename_i fs hu
   obtain⟨xs,n',hn,rfl,hl,hxl,hf⟩:=DataW.trod_struct hu hx
   rcases fs with⟨fl⟩
   simp only at hN hxl hf
   unfold z9k at hN
   split at hN
   ·rename_i f0 f1 f2 f3
    simp only[bE,beq_iff_eq] at hN
    obtain⟨⟨⟨⟨⟨⟨⟨⟨o0,o1⟩,o2⟩,o3⟩,s0⟩,s1⟩,s2⟩,s3⟩,hN⟩:=hN
    split at hN
    ·rename_i e' u0 u1 u2 u3
     simp only[beq_iff_eq] at hN
     subst hN
     rw[hc4] at hl
     match cs,hl with
     |[c0,c1,c2,c3],_ =>
      match xs,hxl with
      |[x0,x1,x2,x3],_ =>
       have g0:=hf 0 f0 rfl
       have g1:=hf 1 f1 rfl
       have g2:=hf 2 f2 rfl
       have g3:=hf 3 f3 rfl
       rw[o0,s0] at g0
       rw[o1,s1] at g1
       rw[o2,s2] at g2
       rw[o3,s3] at g3
       simp only[List.drop_zero,List.drop_succ_cons,List.take_succ_cons,List.take_zero,List.getElem?_cons_zero,List.getElem?_cons_succ] at g0 g1 g2 g3
       have hwj:∀(j:Nat) (f:Field) (d:DataW H×List MemPlace),[f0,f1,f2,f3][j]? = some f→[x0,x1,x2,x3][j]? = some d→∀k∈d.1.weights P f.type,k≤reachBytes:=fun j f d h1 h2 k hk=>hw k (by
        simp only[DataW.weights,hu]
        exact DataW.weights_mem_each (j:=j) (t:=f.type) (d:=d.1) (by have h3:=congrArg (Option.map Field.type) h1;rw[←List.getElem?_map] at h3;simpa using h3) (by simp only[List.getElem?_map,h2,oms]) k hk)
       obtain⟨z0,k0,_,hz0⟩:=DataW.trod_int u0 g0
       obtain⟨t1,k1,k1',_⟩:=DataW.trod_string u1 g1
       obtain⟨z2,k2,_,hz2⟩:=DataW.trod_int u2 g2
       simp only[List.cons.injEq,and_true] at k0 k1 k2
       subst k0 k1 k2
       obtain⟨els,h1,h2,h3⟩:=Yu u3 (Φ:=Nd (P.bytesOf e')) (L:=4) (fun c hc=>hc.len) g3 (hwj 3 f3 x3 rfl rfl) (fun m cs' y hm hy hwy=>ih m (by omega) cs' y hy hwy)
       have hts:t1.size≤140737488351232:=by
        have:=hwj 1 f1 x1 rfl rfl t1.data.toList.length (by rw[k1'];simp[DataW.weights])
        rw[Array.length_toList] at this
        exact this
       refine⟨[.v (.int .i64 z0),.v (.string t1),.v (.int .i64 z2),.r els],.mk hz0 hts hz2 h1 h2,?_⟩
       simp only[rdV,and_true] at h3 ⊢
       exact⟨by simp[D.rd,Value.oneCell'],by simp[D.rd,Value.oneCell'],by simp[D.rd,Value.oneCell'],h3⟩
    ·simp at hN
   ·simp at hN
  ·simp at hN
theorem zzM:∀(m:Nat) (t:TypeId) (tys:List Ty),tyCells P m t=some tys→∀(n:Nat) (cs:List Value) (x:DataW H×List MemPlace),DataW.trod enc P w 0 spare held n t cs=some x→(∀k∈x.1.weights P t,k≤reachBytes) →
  ∃ds,jL tys ds∧rdV w (All w) ds cs:=by
 intro m
 induction m with
 |zero=>intro t tys h;simp[tyCells] at h
 |succ m ih =>
  intro t tys h n cs x hx hw
  simp only[tyCells] at h
  split at h
  ·rename_i hu
   simp only[oi] at h
   subst h
   obtain⟨b,rfl,rfl⟩:=DataW.trod_bool hu hx
   exact⟨[.v (.bool b)],by simp[jL,fit],by simp[rdV,D.rd,Value.oneCell']⟩
  ·rename_i k hu
   simp only[oi] at h
   subst h
   obtain⟨z,rfl,rfl,hz⟩:=DataW.trod_int hu hx
   exact⟨[.v (.int k z)],by simp[jL,fit,hz],by simp[rdV,D.rd,Value.oneCell']⟩
  ·rename_i hu
   simp only[oi] at h
   subst h
   obtain⟨s,rfl,rfl,hs⟩:=DataW.trod_string hu hx
   have:s.data.toList.length≤reachBytes:=hw _ (by simp[DataW.weights])
   have h2:s.size≤140737488351232:=by
    rw[Array.length_toList] at this
    exact this
   exact⟨[.v (.string s)],by simp[jL,fit,h2],by simp[rdV,D.rd,Value.oneCell']⟩
  ·rename_i e hu
   split at h
   ·rename_i hN
    simp only[oi] at h
    subst h
    obtain⟨els,h1,h2,h3⟩:=Yu hu (Φ:=Nd (P.bytesOf e)) (L:=4) (fun c hc=>hc.len) hx hw (fun m cs' y _ hy hwy=>zYJ hN m cs' y hy hwy)
    exact⟨[.r els],by simp only[jL,fit];exact⟨_,_,rfl,⟨els,rfl,h1,h2⟩,rfl⟩,h3⟩
   rw[aA] at h
   obtain⟨el,h1,h2⟩:=h
   split at h2
   ·rename_i hlen
    simp only[oi] at h2
    subst h2
    rcases DataW.trod_slice hu hx with⟨rfl,rfl⟩|⟨a,len,cap,elems,rest,n',rfl,rfl,rfl,_,hl,hm,hel,heach,_,_⟩
    ·refine⟨[.r []],?_,?_⟩
     ·simp only[jL,fit]
      exact⟨_,_,rfl,⟨[],rfl,by simp,by simp⟩,rfl⟩
     ·simp only[rdV,D.rd,and_true]
      exact⟨none,0,rfl,Nat.le_refl _,Nat.zero_le _,⟨0,by simp⟩,by simp only[dZ]⟩
    ·have hels:∀k,k≤len→∃els:List (List D),els.length=k∧∀i c,els[i]? = some c→jL el c∧∃cs',w.cells? 0 (a.add (i*P.cellsOf e)) (P.cellsOf e)=some cs'∧rdV w (All w) c cs':=by
      intro k
      induction k with
      |zero=>intro _;exact⟨[],rfl,fun i c hc=>by simp at hc⟩
      |succ k ihk =>
       intro hk
       obtain⟨els,h3,h4⟩:=ihk (by omega)
       have h5:=heach k (by omega)
       have hkl:k<elems.length:=by omega
       rw[List.getElem?_eq_getElem hkl,aA] at h5
       obtain⟨cs',h6,h7⟩:=h5
       obtain⟨c,h8,h9⟩:=ih e el h1 n' cs' _ h7 (fun q hq=>hw q (by
        simp only[DataW.weights,hu,List.mem_cons,List.mem_append]
        exact .inr (.inl (p9 (List.mem_map.2 ⟨_,List.getElem_mem hkl,rfl⟩) q hq))))
       refine⟨els++[c],by simp[h3],fun i c' hc=> ?_⟩
       rw[List.getElem?_append] at hc
       split at hc
       ·exact h4 i c' hc
       ·have:i=k:=by
         have:=(List.getElem?_eq_some_iff.1 hc).1
         simp at this
         omega
        subst this
        rw[h3,Nat.sub_self,List.getElem?_cons_zero,oi] at hc
        subst hc
        exact⟨h8,cs',h6,h9⟩
     obtain⟨els,h3,h4⟩:=hels len (Nat.le_refl _)
     have hfit:∀c∈els,jL el c:=fun c hc=>by
      obtain⟨i,hi⟩:=List.getElem?_of_mem hc
      exact(h4 i c hi).1
     have hby:els.length*P.bytesOf e≤140737488351232:=by
      have:=hw ((elems.length+rest.length)*P.bytesOf e) (by simp[DataW.weights,hu])
      have h5:els.length*P.bytesOf e≤(elems.length+rest.length)*P.bytesOf e:=Nat.mul_le_mul_right _ (by omega)
      simp only[reachBytes] at this
      omega
     refine⟨[.r els],?_,?_⟩
     ·simp only[jL,fit]
      exact⟨_,_,rfl,⟨els,rfl,hby,hfit⟩,rfl⟩
     ·simp only[rdV,D.rd,and_true]
      refine⟨some a,cap,by rw[h3],by omega,hm,⟨el.length,fun c hc=>W0 (hfit c hc)⟩,Sp (n:=P.cellsOf e) fun i c hc=> ?_⟩
      obtain⟨h5,cs',h6,h7⟩:=h4 i c hc
      obtain⟨_,h8,h9⟩:=World.cells?_some h6
      refine⟨by rw[Un h7,h8],zzd fun j d hd=> ?_⟩
      obtain⟨u,h10,h11⟩:=Tl h7 hd
      have hj:j<P.cellsOf e:=by have:=(List.getElem?_eq_some_iff.1 h10).1;omega
      have h12:=h9 j hj
      rw[V9,h10] at h12
      refine⟨u,by rw[Nat.zero_add];exact h12,?_,h11⟩
      have:=zqq h12
      rwa [Go.ChangeShapes.block_add] at this
   ·simp at h2
  ·rename_i fs hu
   rw[aA] at h
   obtain⟨ts,h1,h2⟩:=h
   split at h2
   ·rename_i hlen
    simp only[oi] at h2
    subst h2
    obtain⟨xs,n',rfl,rfl,hl,hxl,hf⟩:=DataW.trod_struct hu hx
    have key:∀(q:Nat) (off:Nat) (us:List Ty),tyCells.flds (tyCells P m) P off (fs.toList.drop q)=some us→off+us.length≤cs.length→∃ds,jL us ds∧rdV w (All w) ds ((cs.drop off).take us.length):=by
     intro q
     generalize hr:fs.toList.drop q=r
     revert q
     induction r with
     |nil =>
      intro q hr off us h3 _
      simp only[tyCells.flds,oi] at h3
      subst h3
      exact⟨[],by simp[jL],by simp[rdV]⟩
     |cons f r ihr =>
      intro q hr off us h3 hle
      simp only[tyCells.flds,aA] at h3
      obtain⟨ts',h4,h5⟩:=h3
      split at h5
      ·rename_i hoff
       rw[aC] at h5
       obtain⟨us',h6,rfl⟩:=h5
       have hq:fs[q]? = some f:=by
        have:=congrArg List.head? hr
        simpa using this
       have h7:=hf q f hq
       have hqs:q<xs.length:=by
        have:=(Array.getElem?_eq_some_iff.1 hq).1
        omega
       rw[List.getElem?_eq_getElem hqs] at h7
       simp only[la] at hle
       obtain⟨ds1,h8,h9⟩:=ih f.type ts' h4 n' _ _ h7 (fun k hk=>hw k (by
        simp only[DataW.weights,hu]
        refine DataW.weights_mem_each (j:=q) (t:=f.type) (d:=xs[q].1) (by simp[hq]) (by simp[List.getElem?_eq_getElem hqs]) k hk))
       obtain⟨ds2,h10,h11⟩:=ihr (q+1) (by rw[←List.tail_drop,hr];rfl) (off+ts'.length) us' h6 (by omega)
       refine⟨ds1++ds2,Ii h8 h10,?_⟩
       have hsplit:(cs.drop off).take (ts'++us').length=(cs.drop off).take ts'.length++(cs.drop (off+ts'.length)).take us'.length:=by
        rw[la,List.take_add,List.drop_drop]
       rw[hsplit]
       rw[hoff.1,←hoff.2] at h9
       exact Ms h9 h11
      ·simp at h5
    obtain⟨ds,h3,h4⟩:=key 0 0 ts (by simpa using h1) (by omega)
    refine⟨ds,h3,?_⟩
    rw[List.drop_zero,List.take_of_length_le (by omega)] at h4
    exact h4
   ·simp at h2
  ·simp at h
def zJt(P:Program)(t:TypeId):Option (Bool×List Ty):=(tyCells P 20 t).bind fun ts=>match P.underlying t with
 |some (.struct _)=>some (true,ts)
 |_=>some (false,ts)
def Nv(P:Program):List TypeId→Option (List (Bool×List Ty))
 |[]=>some []
 |t::ts=>(zJt P t).bind fun a=>(Nv P ts).map fun as=>a::as
def z8B:Bool×List Ty→X→Prop
 |(true,ts),x=>∃ds:List D,x= .agg (ds.map .d)∧jL ts ds
 |(false,[t]),x=>∃d,x= .d d∧fit t d
 |_,_=>False
def zqZ:List (Bool×List Ty)→List X→Prop
 |[],xs=>xs=[]
 |t::ts,xs=>∃x r,xs=x::r∧z8B t x∧zqZ ts r
theorem zx2{S:Nat→Prop}:∀{t:Ty} {d:D} {v:Value},fit t d→d.rd w S v→(X.d d).vr emp w S v∧(∀φ:Id→Path→Prop,(X.d d).allp φ)
 |.i k,d,v,h,hr=>by
  simp only[fit] at h
  obtain⟨n,rfl,_⟩:=h
  exact⟨by simpa only[X.vr,D.rd] using hr,fun φ=>by simp only[X.allp]⟩
 |.b,d,v,h,hr=>by
  simp only[fit] at h
  obtain⟨n,rfl⟩:=h
  exact⟨by simpa only[X.vr,D.rd] using hr,fun φ=>by simp only[X.allp]⟩
 |.s,d,v,h,hr=>by
  simp only[fit] at h
  obtain⟨n,rfl,_⟩:=h
  exact⟨by simpa only[X.vr,D.rd] using hr,fun φ=>by simp only[X.allp]⟩
 |.l bytes el,d,v,h,hr=>by
  simp only[fit] at h
  obtain⟨n,rfl,_⟩:=h
  exact⟨by simpa only[X.vr] using hr,fun φ=>by simp only[X.allp]⟩
 |.nd bytes,d,v,h,hr=>by
  simp only[fit] at h
  obtain⟨n,rfl,_⟩:=h
  exact⟨by simpa only[X.vr] using hr,fun φ=>by simp only[X.allp]⟩
theorem Ww{S:Nat→Prop}:∀{ts:List Ty} {ds:List D} {vs:List Value},jL ts ds→rdV w S ds vs→vrs emp w S (ds.map .d) vs∧(∀φ:Id→Path→Prop,aR φ (ds.map .d))∧∀u∈vs,u.oneCell'=true
 |[],ds,vs,h,hr=>by
  simp only[jL] at h
  subst h
  cases vs with
  |nil=>exact⟨by simp[vrs],fun φ=>by simp[aR],by simp⟩
  |cons v vs=>simp[rdV] at hr
 |t::ts,ds,vs,h,hr=>by
  simp only[jL] at h
  obtain⟨d,r,rfl,h1,h2⟩:=h
  cases vs with
  |nil=>simp[rdV] at hr
  |cons v vs =>
   obtain⟨h3,h4⟩:=zx2 h1 hr.1
   obtain⟨h5,h6,h7⟩:=Ww h2 hr.2
   refine⟨by simp only[mc,vrs];exact⟨h3,h5⟩,fun φ=>by simp only[mc,aR];exact⟨h4 φ,h6 φ⟩,fun u hu=> ?_⟩
   rcases List.mem_cons.1 hu with rfl|hu
   ·exact Gu hr.1
   ·exact h7 u hu
theorem zy4{t:TypeId}{a:Bool×List Ty}(ht:zJt P t=some a){r:Reach}{b0:Nat}{v:Value}(hv:Value.okWide P w r b0 t v){d:DataW H}{ps:List MemPlace}(h:DataW.Trod enc P w 0 spare held t v d ps)(hw:∀k∈d.weights P t,k≤reachBytes) :
  ∃x,z8B a x∧x.vr emp w (All w) v∧∀φ:Id→Path→Prop,x.allp φ:=by
 unfold zJt at ht
 rw[aA] at ht
 obtain⟨ts,h1,h2⟩:=ht
 obtain⟨fuel,hf⟩:=h
 obtain⟨ds,h3,h4⟩:=zzM 20 t ts h1 fuel _ _ hf hw
 split at h2
 ·rename_i fs hu
  simp only[oi] at h2
  subst h2
  obtain⟨cs,rfl,_⟩:=okWide_struct hu hv
  simp only[Value.cells] at h4
  obtain⟨h5,h6,h7⟩:=Ww h3 h4
  refine⟨.agg (ds.map .d),⟨ds,rfl,h3⟩,?_,fun φ=>by simp only[X.allp];exact h6 φ⟩
  simp only[X.vr]
  exact⟨cs.toList,by simp,h5,h7⟩
 ·rename_i hns
  simp only[oi] at h2
  subst h2
  have hcell:∃ty,ts=[ty]∧v.cells.toList=[v]:=by
   obtain⟨m,hm⟩:∃m,20=m+1:=⟨19,rfl⟩
   rw[hm] at h1
   simp only[tyCells] at h1
   split at h1
   ·rename_i hu
    obtain⟨b,rfl⟩:=okWide_bool hu hv
    simp only[oi] at h1
    exact⟨_,h1.symm,rfl⟩
   ·rename_i hu
    obtain⟨b,rfl⟩:=okWide_int hu hv
    simp only[oi] at h1
    exact⟨_,h1.symm,rfl⟩
   ·rename_i hu
    obtain⟨b,rfl⟩:=okWide_string hu hv
    simp only[oi] at h1
    exact⟨_,h1.symm,rfl⟩
   ·rename_i e hu
    obtain⟨a,len,cap,rfl⟩:=okWide_slice hu hv
    split at h1
    ·simp only[oi] at h1
     exact⟨_,h1.symm,rfl⟩
    rw[aA] at h1
    obtain⟨el,_,h5⟩:=h1
    split at h5
    ·simp only[oi] at h5
     exact⟨_,h5.symm,rfl⟩
    ·simp at h5
   ·rename_i fs hu
    exact absurd hu (hns fs)
   ·simp at h1
  obtain⟨ty,rfl,hc⟩:=hcell
  rw[hc] at h4
  simp only[jL] at h3
  obtain⟨d',r',rfl,h5,rfl⟩:=h3
  obtain⟨h6,h7⟩:=zx2 h5 h4.1
  exact⟨.d d',⟨d',rfl,h5⟩,h6,h7⟩
theorem Qy{r:Reach}{b0:Nat}(hl:laidOutB P=true):∀{ts:List TypeId} {as:List (Bool×List Ty)} {vs:List Value} {ds:List (DataW H)} {ps:List MemPlace},Nv P ts=some as→(ts.all fun t=>P.readableRec t&&decide (t<P.types.size))=true→(∀(j:Nat) t v,ts[j]? = some t→vs[j]? = some v→Value.okWide P w r b0 t v) →
  DataW.TrodAll enc P w 0 (fun _=>true) true ts vs ds ps→(∀k∈DataW.weightsEach P ts ds,k≤reachBytes) →
  ∃xs,zqZ as xs∧vrs emp w (All w) xs vs∧(∀φ:Id→Path→Prop,aR φ xs)∧∀w',Below w.heap.size w w'→DataW.TrodAll enc P w' 0 (fun b=>decide (b<w.heap.size)) true ts vs ds ps
 |[],as,vs,ds,ps,ht,_,_,h,_=>by
  simp only[Nv,oi] at ht
  subst ht
  cases vs<;>cases ds<;>simp only[DataW.TrodAll] at h
  exact⟨[],rfl,by simp[vrs],fun φ=>by simp[aR],fun w' _=>by simp only[DataW.TrodAll];exact h⟩
 |t::ts,as,vs,ds,ps,ht,hr,hok,h,hw=>by
  simp only[Nv,aA,aC] at ht
  obtain⟨a,h1,as',h2,rfl⟩:=ht
  cases vs with
  |nil=>simp[DataW.TrodAll] at h
  |cons v vs =>
   cases ds with
   |nil=>simp[DataW.TrodAll] at h
   |cons d ds =>
    obtain⟨p,q,h3,h4,rfl⟩:=h
    simp only[List.all_cons,bE,zqd] at hr
    simp only[DataW.weightsEach,List.mem_append] at hw
    obtain⟨x,h5,h6,h7⟩:=zy4 h1 (hok 0 t v rfl rfl) h3 (fun k hk=>hw k (.inl hk))
    obtain⟨xs,h8,h9,h10,h11⟩:=Qy hl h2 (by simpa using hr.2) (fun j t' v' ht hv=>hok (j+1) t' v' (by simpa using ht) (by simpa using hv)) h4 (fun k hk=>hw k (.inr hk))
    refine⟨x::xs,⟨x,xs,rfl,h5,h8⟩,by simp only[vrs];exact⟨h6,h9⟩,fun φ=>by simp only[aR];exact⟨h7 φ,h10 φ⟩,fun w' hb=> ?_⟩
    refine⟨p,q,Below.trod hl hr.1.1 hr.1.2 h3 hb (fun y hy=> ?_),h11 w' hb,rfl⟩
    obtain⟨m,hm⟩:=h3
    exact DataW.trod_lt m _ _ _ hm y hy
end
theorem z8i(w:World):Mm emp emp (All w) w:=⟨fun id d h=>by simp[emp] at h,fun i g h=>by simp[emp] at h,fun i g h=>by simp[emp] at h,fun i i' g g' h=>by simp[emp] at h,fun k hk=>⟨hk,fun i g h=>by simp[emp] at h⟩,⟨0,fun n _=>rfl⟩⟩
theorem zwr{P:Program}{Φ:Nat→Option SFn}(hT:Tab P Φ){f:Nat}{xs:List X}{b:Bool}(h:call Φ f xs=some (.d (.v (.bool b)))){w:World}{vs:List Value}(hv:vrs emp w (All w) xs vs)(hp:∀φ:Id→Path→Prop,aR φ xs) :
  Calls P f vs.toArray w fun e w'=>e= .returned (.bool b)∧Below w.heap.size w w':=by
 unfold call at h
 rw[aC] at h
 obtain⟨⟨r,h'⟩,h1,h2⟩:=h
 simp only at h2
 subst h2
 obtain⟨k,hk⟩:=oL.1 h1
 obtain⟨_,hc⟩:=z9U hT k f xs emp 0 _ _ hk
 refine(hc (fun _=>True) emp (All w) w vs (z8i w) hv (hp _) (fun id d h=>by simp[emp] at h)).mono ?_
 rintro e w' ⟨v,γ',S',is,rfl,p⟩
 have hres:=p.res
 simp only[cV,d6,Jm,X.own,X.vr,D.rd] at hres
 have hv:v= .bool b:=by
  rcases hres with⟨_,_,h3,_⟩|⟨_,_,_,_,h3,_⟩
  ·exact h3
  ·simp at h3
 subst hv
 exact⟨rfl,p.os,p.tape,p.output,p.size,fun k hk=>p.keep k hk (fun⟨i,g,h3,_⟩=>by simp[emp] at h3)⟩
end Go.Ev
