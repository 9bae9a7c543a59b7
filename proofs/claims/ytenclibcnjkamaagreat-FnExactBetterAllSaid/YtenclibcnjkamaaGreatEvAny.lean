import Derived.Test.YtenclibcnjkamaaGreatEvBor3
import Derived.Test.YtenclibcnjkamaaGreatEvCut
import Derived.Test.YtenclibcnjkamaaGreatEvClr
set_option linter.all false
namespace Go.Ev
open Go.RowKit
def stN(n:Nat):Nat:=if 10000≤n then stM n else n
def cH(P:Program)(o:Oper):SOp→Bool
 |.mov x=>match o.op with
  |.move y=>eqO y x
  |.assign y=>eqO y x
  |_=>false
 |.pick x1 x2 x3=>match o.op with
  |.pick y1 y2 y3=>eqO y1 x1&&eqO y2 x2&&eqO y3 x3
  |_=>false
 |.ari b x1 x2=>match o.op with
  |.binOp b' _ y1 y2 _=>decide (b'=b)&&eqO y1 x1&&eqO y2 x2
  |_=>false
 |.cmp b x1 x2=>match o.op with
  |.binOp b' _ y1 y2 _=>decide (b'=b)&&eqO y1 x1&&eqO y2 x2
  |_=>false
 |.cmpb b x1 x2=>match o.op with
  |.binOp b' t y1 y2 _=>decide (b'=b)&&eqO y1 x1&&eqO y2 x2&&zjt P t
  |_=>false
 |.cat x1 x2=>match o.op with
  |.binOp b' _ y1 y2 _=>decide (b'= .add)&&eqO y1 x1&&eqO y2 x2
  |_=>false
 |.neg x=>match o.op with
  |.unOp b _ y=>decide (b= .neg)&&eqO y x
  |_=>false
 |.not x=>match o.op with
  |.unOp b _ y=>decide (b= .not)&&eqO y x
  |_=>false
 |.conv k x=>match o.op with
  |.convert t1 t2 y=>eqO y x&&(P.underlying t1).isSome&&decide (R9 P t2=some k)
  |_=>false
 |.rune x=>match o.op with
  |.convert t1 t2 y=>eqO y x&&(P.underlying t1).isSome&&m5 P t2
  |_=>false
 |.idxb f x1 x2=>match o.op with
  |.call {callee:= .value y,args:=ys,argTypes:=_}=>match ys.toList with
   |[y1,y2]=>eqO y (.f f)&&eqO y1 x1&&eqO y2 x2&&(match P.funcs[f]? with|some fn=>fn.body.isNone&&decide (fn.name= "internal/bytealg.IndexByteString")&&decide (fn.origin= "")|none=>false)
   |_=>false
  |_=>false
 |.bos x=>match o.op with
  |.convert t1 t2 y=>eqO y x&&m5 P t1&&(match cP P t2 with|some e=>decide (R9 P e=some .u8)|none=>false)
  |_=>false
 |.sob x=>match o.op with
  |.convert t1 t2 y=>eqO y x&&m5 P t2&&(match cP P t1 with|some e=>decide (R9 P e=some .u8)|none=>false)
  |_=>false
 |.fld off n x=>match o.op with
  |.field t y f=>eqO y x&&match Hc P t f with
   |some (off',ft)=>decide (off'=off)&&decide (aggOf P ft=some n)
   |none=>false
  |_=>false
 |.faddr off x=>match o.op with
  |.fieldAddr t y f=>eqO y x&&match Hc P t f with
   |some (off',ft)=>decide (off'=off)&&match mC P ft with
    |some m=>decide (m≠0)
    |none=>false
   |none=>false
  |_=>false
 |.ixa sz x1 x2=>match o.op with
  |.indexAddr t y1 y2=>eqO y1 x1&&eqO y2 x2&&match cP P t with
   |some e=>decide (mC P e=some sz)
   |none=>false
  |_=>false
 |.ixs x1 x2=>match o.op with
  |.index t y1 y2=>eqO y1 x1&&eqO y2 x2&&m5 P t
  |_=>false
 |.load n x=>match o.op with
  |.load t y=>eqO y x&&decide (aggOf P t=some n)
  |_=>false
 |.store n x1 x2=>match o.op with
  |.store t y1 y2=>eqO y1 x1&&eqO y2 x2&&decide (mC P t=some (stN n))&&decide (0<stN n)
  |_=>false
 |.box _ x=>match o.op with
  |.box _ y=>eqO y x
  |_=>false
 |.mm mx x1 x2=>match o.op with
  |.call r=>match r.callee,r.args.toList with
   |.builtin b,[y1,y2]=>decide (b=(if mx then .max else .min))&&eqO y1 x1&&eqO y2 x2
   |_,_=>false
  |_=>false
 |.eqa ng n x1 x2=>match o.op with
  |.binOp b' t y1 y2 _=>decide (b'=(if ng then .neq else .eql))&&eqO y1 x1&&eqO y2 x2&&zZD P n t
  |_=>false
 |.vbox _ x=>match o.op with
  |.box _ y=>eqO y x
  |_=>false
 |.alloc zs=>match o.op with
  |.alloc t=>match sG P t with
   |some vs=>zEq vs zs
   |none=>false
  |_=>false
 |.build zs ps=>match o.op with
  |.build t parts=>match Mk P t,sG P t with
   |some places,some vz=>Lq places parts.toList ps&&zEq vz zs
   |_,_=>false
  |_=>false
 |.lit sz os=>match o.op with
  |.buildSlice t len parts=>decide (parts.toList.map (fun x=>x.1)=List.range len)&&qB (parts.toList.map fun x=>x.2) os&&match cP P t with
   |some e=>match P.info? e with
    |some i=>decide (i.size=sz)&&decide (0<sz)&&i.zero.isSome&&decide (len*sz≤16777216)
    |none=>false
   |none=>false
  |_=>false
 |.mk sz bytes zs n=>match o.op with
  |.makeSlice t y1 y2=>eqO y1 n&&eqO y2 n&&match cP P t with
   |some e=>match P.info? e,sG P e with
    |some i,some vs=>decide (i.size=sz)&&decide (i.bytes=bytes)&&decide (0<sz)&&decide (0<bytes)&&zEq vs zs
    |_,_=>false
   |none=>false
  |_=>false
 |.cutr sz x lo hi=>match o.op with
  |.slice t y l h m=>eqO y x&&gG l lo&&gG h hi&&m.isNone&&match cP P t with
   |some e=>decide (mC P e=some sz)
   |none=>false
  |_=>false
 |.cutm sz x lo hi=>match o.op with
  |.slice t y l h m=>eqO y x&&gG l lo&&gG h hi&&m.isNone&&match cP P t with
   |some e=>decide (mC P e=some sz)
   |none=>false
  |_=>false
 |.cutS x lo hi=>match o.op with
  |.slice t y l h m=>eqO y x&&gG l lo&&gG h hi&&m.isNone&&m5 P t
  |_=>false
 |.len x=>match o.op with
  |.call r=>match r.callee,r.args.toList,r.argTypes.toList with
   |.builtin b,[y],[t]=>decide (b= .len)&&eqO y x&&(cP P t).isSome
   |_,_,_=>false
  |_=>false
 |.clr x=>match o.op with
  |.call r=>match r.callee,r.args.toList,r.argTypes.toList with
   |.builtin b,[y],[t]=>decide (b= .clear)&&eqO y x&&match cP P t with
    |some e=>match sG P e with
     |some [.bool false]=>true
     |_=>false
    |none=>false
   |_,_,_=>false
  |_=>false
 |.slen x=>match o.op with
  |.call r=>match r.callee,r.args.toList,r.argTypes.toList with
   |.builtin b,[y],[t]=>decide (b= .len)&&eqO y x&&m5 P t
   |_,_,_=>false
  |_=>false
 |.app sz bytes x1 x2=>match o.op with
  |.call r=>match r.callee,r.args.toList,r.argTypes.toList with
   |.builtin b,[y1,y2],[t,t2]=>decide (b= .append)&&decide (t2=t)&&eqO y1 x1&&eqO y2 x2&&match cP P t with
    |some e=>match P.info? e,sG P e with
     |some i,some vs=>decide (i.size=sz)&&decide (i.bytes=bytes)&&decide (0<sz)&&decide (vs.length=sz)
     |_,_=>false
    |none=>false
   |_,_,_=>false
  |_=>false
 |.fn f caps=>match o.op with
  |.makeFunc (.func f') first ys=>decide (f'=f)&&decide (first.size=0)&&qB ys.toList caps
  |_=>false
 |.call f xs=>match o.op with
  |.call r=>match r.callee with
   |.value y=>eqO y (.f f)&&qB r.args.toList xs
   |_=>false
  |_=>false
 |.callr f xs=>match o.op with
  |.call r=>match r.callee with
   |.value y=>eqO y (.f f)&&qB r.args.toList xs
   |_=>false
  |_=>false
 |.callu f xs=>match o.op with
  |.call r=>match r.callee with
   |.value y=>eqO y (.f f)&&qB r.args.toList xs
   |_=>false
  |_=>false
 |.calli f xs=>match o.op with
  |.call r=>match r.callee with
   |.value y=>eqO y f&&qB r.args.toList xs
   |_=>false
  |_=>false
 |.callb f xs _=>match o.op with
  |.call r=>match r.callee with
   |.value y=>eqO y (.f f)&&qB r.args.toList xs
   |_=>false
  |_=>false
 |.ext x i=>match o.op with
  |.extract y i'=>eqO y x&&decide (i'=i)
  |_=>false
 |.nck x=>match o.op with
  |.nilCheck y=>eqO y x
  |_=>false
section
variable{c:Ctx}{st st':St}{U:Nat→Prop}{γ:Gm}{S:Nat→Prop}{a:Act}{w:World}{C:Cl}{o:Oper}{id:Nat}
theorem Ok.mono{U':Nat→Prop}(h:Ok c st U a w)(hU:∀k,U k→U' k):Ok c st U' a w:=by
 obtain⟨γ,S,R⟩:=h
 exact⟨γ,S,R.mono hU⟩
theorem Runs.mono{U':Nat→Prop}(h:Runs c o a w st' U)(hU:∀k,U k→U' k):Runs c o a w st' U':=by
 cases h with
 |value v w' h k=>exact .value v w' h (k.mono hU)
 |skip w' h k=>exact .skip w' h (k.mono hU)
 |enter f args w1 h k=>exact .enter f args w1 h (k.mono fun e w' ⟨v,h1,h2⟩=>⟨v,h1,h2.mono hU⟩)
theorem yL{α:Type}{xs:Array α}{l:List α}(h:xs.toList=l):xs=l.toArray:=by
 cases xs;simp_all
theorem n8{r:Call}{k:Callee}{ys:List Operand}{ts:List TypeId}(h1:r.callee=k)(h2:r.args.toList=ys)(h3:r.argTypes.toList=ts):r={callee:=k,args:=ys.toArray,argTypes:=ts.toArray}:=by
 cases r
 simp only at h1 h2 h3
 subst h1
 rw[yL h2,yL h3]
def SOp.quiet:SOp→Bool
 |.box .. => false
 |.alloc .. => false
 |.lit .. => false
 |.mk .. => false
 |.app .. => false
 |.cutm .. => false
 |.clr .. => false
 |.store .. => false
 |.call .. => false
 |.calli .. => false
 |.callb .. => false
 |_=>true
theorem U9(R:Rep c st U γ S a w)(hd:∀k,o.dst=some k→k<c.nt){s:SOp}(hc:cH c.P o s=true)(hC:CallOk c.P C){n:Nat}(hn':s.quiet=false→∀k,n≤k→k<n+32→¬U k){U':Nat→Prop}(hU0:∀k,U k→U' k)(hU':s.quiet=false→∀k,n≤k→k<n+32→U' k)
  (hs:opS C st o.dst n s=some st'):Runs c o a w st' U':=by
 cases s with
 |mov x =>
  simp only[cH] at hc
  split at hc
  ·exact(zQ6 R hd (.inl ‹_›) hc hs).mono hU0
  ·exact(zQ6 R hd (.inr ‹_›) hc hs).mono hU0
  ·simp at hc
 |pick x1 x2 x3 =>
  simp only[cH] at hc
  split at hc
  ·simp only[bE] at hc
   exact(zW6 R hd ‹_› hc.1.1 hc.1.2 hc.2 hs).mono hU0
  ·simp at hc
 |ari b x1 x2 =>
  simp only[cH] at hc
  split at hc
  ·simp only[bE,zqd] at hc
   obtain⟨⟨rfl,h1⟩,h2⟩:=hc
   exact(z9Q R hd ‹_› h1 h2 hs).mono hU0
  ·simp at hc
 |cmp b x1 x2 =>
  simp only[cH] at hc
  split at hc
  ·simp only[bE,zqd] at hc
   obtain⟨⟨rfl,h1⟩,h2⟩:=hc
   exact(z8b R hd ‹_› h1 h2 hs).mono hU0
  ·simp at hc
 |cmpb b x1 x2 =>
  simp only[cH] at hc
  split at hc
  ·simp only[bE,zqd] at hc
   obtain⟨⟨⟨rfl,h1⟩,h2⟩,h3⟩:=hc
   exact(zYE R hd ‹_› h1 h2 h3 hs).mono hU0
  ·simp at hc
 |cat x1 x2 =>
  simp only[cH] at hc
  split at hc
  ·simp only[bE,zqd] at hc
   obtain⟨⟨rfl,h1⟩,h2⟩:=hc
   exact(z8Z R hd ‹_› h1 h2 hs).mono hU0
  ·simp at hc
 |neg x =>
  simp only[cH] at hc
  split at hc
  ·simp only[bE,zqd] at hc
   obtain⟨rfl,h1⟩:=hc
   exact(z8x R hd ‹_› h1 hs).mono hU0
  ·simp at hc
 |not x =>
  simp only[cH] at hc
  split at hc
  ·simp only[bE,zqd] at hc
   obtain⟨rfl,h1⟩:=hc
   exact(z94 R hd ‹_› h1 hs).mono hU0
  ·simp at hc
 |conv k x =>
  simp only[cH] at hc
  split at hc
  ·simp only[bE,zqd] at hc
   exact(zWx R hd ‹_› hc.1.1 hc.1.2 hc.2 hs).mono hU0
  ·simp at hc
 |rune x =>
  simp only[cH] at hc
  split at hc
  ·simp only[bE] at hc
   exact(zWm R hd ‹_› hc.1.1 hc.1.2 hc.2 hs).mono hU0
  ·simp at hc
 |idxb f x1 x2 =>
  simp only[cH] at hc
  split at hc
  ·rename_i y ys ts hop
   split at hc
   ·rename_i y1 y2 hl
    have e1:ys= #[y1,y2]:=by
     apply Array.ext'
     rw[hl]
    subst e1
    simp only[bE] at hc
    obtain⟨⟨⟨h1,h2⟩,h3⟩,h4⟩:=hc
    split at h4
    ·rename_i fn hfn
     simp only[bE,zqd] at h4
     exact(zV8 R hd hop h1 h2 h3 hfn h4.1.1 h4.1.2 h4.2 hs).mono hU0
    ·simp at h4
   ·simp at hc
  ·simp at hc
 |bos x =>
  simp only[cH] at hc
  split at hc
  ·simp only[bE] at hc
   obtain⟨⟨h1,h2⟩,h3⟩:=hc
   split at h3
   ·simp only[zqd] at h3
    exact(z8F R hd ‹_› h1 h2 ‹_› h3 hs).mono hU0
   ·simp at h3
  ·simp at hc
 |sob x =>
  simp only[cH] at hc
  split at hc
  ·simp only[bE] at hc
   obtain⟨⟨h1,h2⟩,h3⟩:=hc
   split at h3
   ·simp only[zqd] at h3
    exact(z9R R hd ‹_› h1 ‹_› h3 h2 hs).mono hU0
   ·simp at h3
  ·simp at hc
 |fld off k x =>
  simp only[cH] at hc
  split at hc
  ·simp only[bE] at hc
   obtain⟨h1,h2⟩:=hc
   split at h2
   ·rename_i h3
    simp only[bE,zqd] at h2
    obtain⟨rfl,h4⟩:=h2
    exact(z7a R hd ‹_› h1 h3 h4 hs).mono hU0
   ·simp at h2
  ·simp at hc
 |faddr off x =>
  simp only[cH] at hc
  split at hc
  ·simp only[bE] at hc
   obtain⟨h1,h2⟩:=hc
   split at h2
   ·rename_i h3
    simp only[bE,zqd] at h2
    obtain⟨rfl,h4⟩:=h2
    split at h4
    ·rename_i h5
     simp only[zqd] at h4
     exact(zKq R hd ‹_› h1 h3 h5 h4 hs).mono hU0
    ·simp at h4
   ·simp at h2
  ·simp at hc
 |ixa sz x1 x2 =>
  simp only[cH] at hc
  split at hc
  ·simp only[bE] at hc
   obtain⟨⟨h1,h2⟩,h3⟩:=hc
   split at h3
   ·rename_i h4
    simp only[zqd] at h3
    exact(z90 R hd ‹_› h1 h2 h4 h3 hs).mono hU0
   ·simp at h3
  ·simp at hc
 |ixs x1 x2 =>
  simp only[cH] at hc
  split at hc
  ·simp only[bE] at hc
   exact(z9A R hd ‹_› hc.1.1 hc.1.2 hc.2 hs).mono hU0
  ·simp at hc
 |load k x =>
  simp only[cH] at hc
  split at hc
  ·simp only[bE,zqd] at hc
   exact(zYD R hd ‹_› hc.1 hc.2 hs).mono hU0
  ·simp at hc
 |store k x1 x2 =>
  simp only[cH] at hc
  split at hc
  ·simp only[bE,zqd] at hc
   by_cases hk:10000≤k
   ·rw[stN,if_pos hk] at hc
    simp only[opS,aA,aC,if_pos hk] at hs
    obtain⟨p,h3,y,h4,s,h5,rfl⟩:=hs
    obtain⟨⟨⟨c1,c2⟩,c3⟩,c4⟩:=hc
    exact(zys R ‹_› c1 c2 c3 c4 h3 h4 h5).mono hU0
   ·rw[stN,if_neg hk] at hc
    exact(zQe R ‹_› hc.1.1.1 hc.1.1.2 hc.1.2 hc.2 hk hs).mono hU0
  ·simp at hc
 |box k x =>
  have hn:=hn' rfl
  have hn0:¬U n:=hn n (Nat.le_refl _) (by omega)
  have hU1:U' n:=hU' rfl n (Nat.le_refl _) (by omega)
  simp only[cH] at hc
  split at hc
  ·exact z81 R hd ‹_› hc hn0 hU0 hU1 hs
  ·simp at hc
 |mm mx x1 x2 =>
  simp only[cH] at hc
  split at hc
  ·rename_i r ho
   split at hc
   ·rename_i b y1 y2 h1 h2
    simp only[bE,zqd] at hc
    obtain⟨⟨rfl,h3⟩,h4⟩:=hc
    rw[n8 h1 h2 rfl] at ho
    exact(z6l R hd ho h3 h4 hs).mono hU0
   ·simp at hc
  ·simp at hc
 |eqa ng n x1 x2 =>
  simp only[cH] at hc
  split at hc
  ·simp only[bE,zqd] at hc
   obtain⟨⟨⟨rfl,h1⟩,h2⟩,h3⟩:=hc
   exact(z7d R hd ‹_› h1 h2 h3 hs).mono hU0
  ·simp at hc
 |vbox k x =>
  simp only[cH] at hc
  split at hc
  ·exact(zWr R hd ‹_› hc hs).mono hU0
  ·simp at hc
 |alloc zs =>
  have hn:=hn' rfl
  have hn0:¬U n:=hn n (Nat.le_refl _) (by omega)
  have hU1:U' n:=hU' rfl n (Nat.le_refl _) (by omega)
  simp only[cH] at hc
  split at hc
  ·split at hc
   ·exact zVa R hd ‹_› ‹_› hc hn0 hU0 hU1 hs
   ·simp at hc
  ·simp at hc
 |build zs ps =>
  simp only[cH] at hc
  split at hc
  ·split at hc
   ·simp only[bE] at hc
    exact(zVm R hd ‹_› ‹_› hc.1 ‹_› hc.2 hs).mono hU0
   ·simp at hc
  ·simp at hc
 |lit sz os =>
  have hn:=hn' rfl
  have hn0:¬U n:=hn n (Nat.le_refl _) (by omega)
  have hU1:U' n:=hU' rfl n (Nat.le_refl _) (by omega)
  simp only[cH] at hc
  split at hc
  ·rename_i t len parts ho
   simp only[bE,zqd] at hc
   obtain⟨⟨h1,h2⟩,h3⟩:=hc
   split at h3
   ·rename_i e h4
    split at h3
    ·rename_i i h5
     simp only[bE,zqd] at h3
     obtain⟨⟨⟨h6,h7⟩,h8⟩,h9⟩:=h3
     have hlen:parts.toList.length=len:=by
      have:=congrArg List.length h1
      simpa using this
     have hp:parts.toList=((parts.toList.map fun x=>x.2).zipIdx 0).map fun x=>(x.2,x.1):=by
      apply List.ext_getElem?
      intro q
      simp only[List.getElem?_map,List.getElem?_zipIdx,Nat.zero_add,Option.map_map]
      have hq:=congrArg (fun l=>l[q]?) h1
      simp only[List.getElem?_map] at hq
      cases hx:parts.toList[q]? with
      |none=>simp
      |some x =>
       rw[hx] at hq
       have hlt:q<len:=by
        have:=(List.getElem?_eq_some_iff.1 hx).1
        omega
       rw[List.getElem?_range hlt] at hq
       simp only[oms,oi] at hq
       simp only[oms,oi,Function.comp]
       rw[←hq]
     exact z9K R hd ho hp (by simpa using hlen) h2 h4 h5 h6 h7 h8 h9 hn0 hU0 hU1 hs
    ·simp at h3
   ·simp at h3
  ·simp at hc
 |mk sz bytes zs m =>
  have hn:=hn' rfl
  have hn0:¬U n:=hn n (Nat.le_refl _) (by omega)
  have hU1:U' n:=hU' rfl n (Nat.le_refl _) (by omega)
  simp only[cH] at hc
  split at hc
  ·simp only[bE] at hc
   obtain⟨⟨h1,h2⟩,h3⟩:=hc
   split at h3
   ·rename_i e h4
    split at h3
    ·rename_i i vs h5 h6
     simp only[bE,zqd] at h3
     obtain⟨⟨⟨⟨h7,h8⟩,h9⟩,h10⟩,h11⟩:=h3
     exact z6d R hd ‹_› h1 h2 h4 h6 h11 (fun i' hi'=>by rw[h5] at hi';simp only[oi] at hi';subst hi';exact⟨h7,h8⟩) h9 h10 hn0 hU0 hU1 hs
    ·simp at h3
   ·simp at h3
  ·simp at hc
 |cutr sz x lo hi =>
  simp only[cH] at hc
  split at hc
  ·rename_i t y l h m ho
   simp only[bE,Option.isNone_iff_eq_none] at hc
   obtain⟨⟨⟨⟨h1,h2⟩,h3⟩,rfl⟩,h4⟩:=hc
   split at h4
   ·simp only[zqd] at h4
    exact(zY8 R hd ho h1 h2 h3 ‹_› h4 hs).mono hU0
   ·simp at h4
  ·simp at hc
 |cutm sz x lo hi =>
  have hn:=hn' rfl
  have hn0:¬U n:=hn n (Nat.le_refl _) (by omega)
  have hU1:U' n:=hU' rfl n (Nat.le_refl _) (by omega)
  simp only[cH] at hc
  split at hc
  ·rename_i t y l h m ho
   simp only[bE,Option.isNone_iff_eq_none] at hc
   obtain⟨⟨⟨⟨h1,h2⟩,h3⟩,rfl⟩,h4⟩:=hc
   split at h4
   ·simp only[zqd] at h4
    exact zYa R hd ho h1 h2 h3 ‹_› h4 hn0 hU0 hU1 hs
   ·simp at h4
  ·simp at hc
 |cutS x lo hi =>
  simp only[cH] at hc
  split at hc
  ·rename_i t y l h m ho
   simp only[bE,Option.isNone_iff_eq_none] at hc
   obtain⟨⟨⟨⟨h1,h2⟩,h3⟩,rfl⟩,h4⟩:=hc
   exact(zXr R hd ho h1 h2 h3 h4 hs).mono hU0
  ·simp at hc
 |len x =>
  simp only[cH] at hc
  split at hc
  ·rename_i r ho
   split at hc
   ·rename_i b y t h1 h2 h3
    simp only[bE,zqd] at hc
    obtain⟨⟨rfl,h4⟩,h5⟩:=hc
    obtain⟨e,he⟩:=Option.isSome_iff_exists.1 h5
    rw[n8 h1 h2 h3] at ho
    exact(z9O R hd ho h4 he hs).mono hU0
   ·simp at hc
  ·simp at hc
 |clr x =>
  simp only[cH] at hc
  split at hc
  ·rename_i r ho
   split at hc
   ·rename_i b y t h1 h2 h3
    simp only[bE,zqd] at hc
    obtain⟨⟨rfl,h4⟩,h5⟩:=hc
    rw[n8 h1 h2 h3] at ho
    split at h5
    ·rename_i e he
     split at h5
     ·rename_i hz
      exact(z9x R ho h4 he hz hs).mono hU0
     ·simp at h5
    ·simp at h5
   ·simp at hc
  ·simp at hc
 |slen x =>
  simp only[cH] at hc
  split at hc
  ·rename_i r ho
   split at hc
   ·rename_i b y t h1 h2 h3
    simp only[bE,zqd] at hc
    obtain⟨⟨rfl,h4⟩,h5⟩:=hc
    rw[n8 h1 h2 h3] at ho
    exact(zYB R hd ho h4 h5 hs).mono hU0
   ·simp at hc
  ·simp at hc
 |app sz bytes x1 x2 =>
  have hn:=hn' rfl
  have hn0:¬U n:=hn n (Nat.le_refl _) (by omega)
  have hU1:U' n:=hU' rfl n (Nat.le_refl _) (by omega)
  simp only[cH] at hc
  split at hc
  ·rename_i r ho
   split at hc
   ·rename_i b y1 y2 t t2 h1 h2 h3
    simp only[bE,zqd] at hc
    obtain⟨⟨⟨⟨rfl,rfl⟩,h4⟩,h5⟩,h6⟩:=hc
    split at h6
    ·rename_i e h7
     split at h6
     ·rename_i i vs h8 h9
      simp only[bE,zqd] at h6
      obtain⟨⟨⟨h10,h11⟩,h12⟩,h13⟩:=h6
      rw[n8 h1 h2 h3] at ho
      exact z89 R hd ho h4 h5 h7 h8 h10 h11 h12 h9 h13 hn0 hU0 hU1 hs
     ·simp at h6
    ·simp at h6
   ·simp at hc
  ·simp at hc
 |fn f caps =>
  simp only[cH] at hc
  split at hc
  ·rename_i f' first ys ho
   simp only[bE,zqd] at hc
   obtain⟨⟨rfl,h1⟩,h2⟩:=hc
   rw[Array.eq_empty_of_size_eq_zero h1] at ho
   exact(z7t R hd ho h2 hs).mono hU0
  ·simp at hc
 |call f xs =>
  have hn:=hn' rfl
  have hU:∀k,UB U n 32 k→U' k:=fun k h=>h.elim (hU0 k) fun h=>hU' rfl k h.1 h.2
  simp only[cH] at hc
  split at hc
  ·rename_i r ho
   split at hc
   ·rename_i y h1
    simp only[bE] at hc
    rw[n8 h1 rfl rfl] at ho
    exact zXA R hd ho hc.1 (by simpa using hc.2) hC hn hU hs
   ·simp at hc
  ·simp at hc
 |callr f xs =>
  simp only[cH] at hc
  split at hc
  ·rename_i r ho
   split at hc
   ·rename_i y h1
    simp only[bE] at hc
    rw[n8 h1 rfl rfl] at ho
    exact(zJX R hd ho hc.1 (by simpa using hc.2) hC hs).mono hU0
   ·simp at hc
  ·simp at hc
 |callu f xs =>
  simp only[cH] at hc
  split at hc
  ·rename_i r ho
   split at hc
   ·rename_i y h1
    simp only[bE] at hc
    rw[n8 h1 rfl rfl] at ho
    exact(zxh R hd ho hc.1 (by simpa using hc.2) hC hs).mono hU0
   ·simp at hc
  ·simp at hc
 |calli f xs =>
  have hn:=hn' rfl
  have hU:∀k,UB U n 32 k→U' k:=fun k h=>h.elim (hU0 k) fun h=>hU' rfl k h.1 h.2
  simp only[cH] at hc
  split at hc
  ·rename_i r ho
   split at hc
   ·rename_i y h1
    simp only[bE] at hc
    rw[n8 h1 rfl rfl] at ho
    exact zxf R hd ho hc.1 (by simpa using hc.2) hC hn hU hs
   ·simp at hc
  ·simp at hc
 |callb f xs bs =>
  have hn:=hn' rfl
  have hU:∀k,UB U n 32 k→U' k:=fun k h=>h.elim (hU0 k) fun h=>hU' rfl k h.1 h.2
  simp only[cH] at hc
  split at hc
  ·rename_i r ho
   split at hc
   ·rename_i y h1
    simp only[bE] at hc
    rw[n8 h1 rfl rfl] at ho
    exact zQp R hd ho hc.1 (by simpa using hc.2) hC hn hU hs
   ·simp at hc
  ·simp at hc
 |ext x i =>
  simp only[cH] at hc
  split at hc
  ·simp only[bE,zqd] at hc
   obtain⟨h1,rfl⟩:=hc
   exact(z84 R hd ‹_› h1 hs).mono hU0
  ·simp at hc
 |nck x =>
  simp only[cH] at hc
  split at hc
  ·exact(z99 R hd ‹_› hc hs).mono hU0
  ·simp at hc
end
def has(m:List (Nat×Nat))(o:Nat):Prop:=∃k,m[k]? = some (o,k)∧(m.find? fun a=>a.1==o)=some (o,k)
structure Numb (m:List (Nat×Nat)):Prop where
 ix:∀(k:Nat) (a:Nat×Nat),m[k]? = some a→a.2=k
 nd:(m.map fun a=>a.1).Nodup
theorem Wi{m:List (Nat×Nat)}(hm:Numb m){o:Nat}(h:(m.find? fun a=>a.1==o).isSome=true):has m o:=by
 obtain⟨a,ha⟩:=Option.isSome_iff_exists.1 h
 have h1:=List.find?_some ha
 have h2:=List.mem_of_find?_eq_some ha
 obtain⟨k,hk⟩:=List.mem_iff_getElem?.1 h2
 have h3:=hm.ix k a hk
 simp only[beq_iff_eq] at h1
 obtain⟨a1,a2⟩:=a
 simp only at h1 h3
 subst h1;subst h3
 exact⟨a2,hk,ha⟩
theorem Sa:∀(os:List Nat) {m:List (Nat×Nat)},Numb m→Numb (Im m os)∧(∀o,has m o→has (Im m os) o)∧(∀o∈os,has (Im m os) o)
 |[],m,hm=>⟨by simpa only[Im] using hm,fun o h=>by simpa only[Im] using h,fun o h=>by simp at h⟩
 |o::os,m,hm=>by
  simp only[Im]
  split
  ·rename_i hf
   obtain⟨h1,h2,h3⟩:=Sa os hm
   refine⟨h1,h2,fun o' ho'=> ?_⟩
   rcases List.mem_cons.1 ho' with rfl|h
   ·exact h2 _ (Wi hm hf)
   ·exact h3 _ h
  ·rename_i hf
   have hnone:(m.find? fun a=>a.1==o)=none:=Option.not_isSome_iff_eq_none.1 hf
   have hm':Numb (m++[(o,m.length)]):=by
    refine⟨fun k a hk=> ?_,?_⟩
    ·rw[List.getElem?_append] at hk
     split at hk
     ·exact hm.ix k a hk
     ·rename_i hlt
      have:k-m.length=0:=by
       have:=(List.getElem?_eq_some_iff.1 hk).1
       simpa using this
      rw[this] at hk
      simp only[List.getElem?_cons_zero,oi] at hk
      subst hk
      simp only
      omega
    ·rw[List.map_append,List.nodup_append]
     refine⟨hm.nd,by simp,fun x hx y hy=> ?_⟩
     simp only[mc,mn,List.mem_singleton] at hy
     subst hy
     rintro rfl
     obtain⟨a,ha,rfl⟩:=List.mem_map.1 hx
     have:=List.find?_eq_none.1 hnone a ha
     simp at this
   obtain⟨h1,h2,h3⟩:=Sa os hm'
   have hold:∀o',has m o'→has (m++[(o,m.length)]) o':=fun o' ⟨k,h4,h5⟩=>by
    refine⟨k,?_,?_⟩
    ·rw[List.getElem?_append_left (List.getElem?_eq_some_iff.1 h4).1];exact h4
    ·rw[List.find?_append,h5];rfl
   refine⟨h1,fun o' h=>h2 _ (hold o' h),fun o' ho'=> ?_⟩
   rcases List.mem_cons.1 ho' with rfl|h
   ·refine h2 _ (Wi hm' ?_)
    rw[List.find?_append,hnone]
    simp
   ·exact h3 _ h
theorem Fp(st:St):∀(L:List Nat) {m:List (Nat×Nat)},Numb m→Numb (fX st m L)∧(∀o,has m o→has (fX st m L) o)∧(∀t∈L,∀x,st.env t=some x→x.keeps=true→∀o∈x.offs st.fr,has (fX st m L) o)
 |[],m,hm=>⟨by simpa only[fX] using hm,fun o h=>by simpa only[fX] using h,fun o h=>by simp at h⟩
 |t::ts,m,hm=>by
  simp only[fX]
  split
  ·rename_i x hx
   split
   ·rename_i hk
    obtain⟨a1,a2,a3⟩:=Sa (x.offs st.fr) hm
    obtain⟨h1,h2,h3⟩:=Fp st ts a1
    refine⟨h1,fun o h=>h2 _ (a2 _ h),fun t' ht' y hy hyk o ho=> ?_⟩
    rcases List.mem_cons.1 ht' with rfl|h
    ·rw[hx] at hy
     simp only[oi] at hy
     subst hy
     exact h2 _ (a3 _ ho)
    ·exact h3 t' h y hy hyk o ho
   ·rename_i hk
    obtain⟨h1,h2,h3⟩:=Fp st ts hm
    refine⟨h1,h2,fun t' ht' y hy hyk o ho=> ?_⟩
    rcases List.mem_cons.1 ht' with rfl|h
    ·rw[hx] at hy
     simp only[oi] at hy
     subst hy
     exact absurd hyk hk
    ·exact h3 t' h y hy hyk o ho
  ·rename_i hx
   obtain⟨h1,h2,h3⟩:=Fp st ts hm
   refine⟨h1,h2,fun t' ht' y hy hyk o ho=> ?_⟩
   rcases List.mem_cons.1 ht' with rfl|h
   ·rw[hx] at hy;simp at hy
   ·exact h3 t' h y hy hyk o ho
def was(fr:Nat)(m:List (Nat×Nat))(id:Id):Option Id:=if id.1=fr then(m[id.2]?).map fun a=>(fr,a.1) else some id
def Gm.was(fr:Nat)(m:List (Nat×Nat))(γ:Gm):Gm:=fun i=>match i with
 |.inl id=>(Ev.was fr m id).bind fun o=>γ (.inl o)
 |.inr n=>γ (.inr n)
theorem zqs{fr:Nat}{m:List (Nat×Nat)}{id:Id}(h:id.1=fr→has m id.2):was fr m (kid fr m id)=some id:=by
 unfold kid
 split
 ·rename_i e
  obtain⟨k,h1,h2⟩:=h e
  simp only[was,if_true,h2,oms,Option.getD_some,h1]
  rw[←e]
 ·rename_i e
  simp only[was,if_neg e]
theorem zW8{fr:Nat}{m:List (Nat×Nat)}(hm:Numb m){i j o:Id}(hi:was fr m i=some o)(hj:was fr m j=some o):i=j:=by
 unfold was at hi hj
 split at hi
 ·rename_i ei
  rw[aC] at hi
  obtain⟨a,h1,rfl⟩:=hi
  split at hj
  ·rename_i ej
   rw[aC] at hj
   obtain⟨b,h2,h3⟩:=hj
   simp only[zqb,true_and] at h3
   have h4:(m.map fun a=>a.1)[i.2]? = some a.1:=by rw[List.getElem?_map,h1];rfl
   have h5:(m.map fun a=>a.1)[j.2]? = some a.1:=by rw[List.getElem?_map,h2];simp[h3]
   have:=(List.getElem?_inj (List.getElem?_eq_some_iff.1 h4).1 hm.nd).1 (h4.trans h5.symm)
   exact Prod.ext (ei.trans ej.symm) this
  ·rename_i ej
   simp only[oi] at hj
   subst hj
   exact absurd rfl ej
 ·rename_i ei
  simp only[oi] at hi
  subst hi
  split at hj
  ·rename_i ej
   rw[aC] at hj
   obtain⟨b,h2,h3⟩:=hj
   exact absurd (by rw[←h3]) ei
  ·simp only[oi] at hj
   exact hj.symm
theorem Gm.was_some{fr:Nat}{m:List (Nat×Nat)}{γ:Gm}{i:GId}{g:G}(h:γ.was fr m i=some g):∃j,γ j=some g∧(∀n,i= .inr n→j= .inr n)∧(∀id,i= .inl id→∃o,j= .inl o∧Ev.was fr m id=some o):=by
 cases i with
 |inl id =>
  simp only[Gm.was,aA] at h
  obtain⟨o,h1,h2⟩:=h
  exact⟨.inl o,h2,by simp,fun id' e=>by simp only[Sum.inl.injEq] at e;subst e;exact⟨o,rfl,h1⟩⟩
 |inr n=>exact⟨.inr n,h,fun _ e=>e,by simp⟩
theorem z8K{fr:Nat}{m:List (Nat×Nat)}(hm:Numb m){h h':Heap}{γ:Gm}{S:Nat→Prop}{w:World}(M:Mm h γ S w)(hh:∀id d,h' id=some d→∃o,was fr m id=some o∧h o=some d):Mm h' (γ.was fr m) S w:=by
 refine⟨fun id d hd=> ?_,fun i g hi=> ?_,fun i g hi=> ?_,fun i i' g g' hi hi' hne=> ?_,fun k hk=>⟨(M.sd k hk).1,fun i g hi=> ?_⟩,?_⟩
 ·obtain⟨o,h1,h2⟩:=hh id d hd
  obtain⟨g,h3,h4⟩:=M.er o d h2
  exact⟨g,by simp only[Gm.was,h1,obs];exact h3,h4⟩
 ·obtain⟨j,hj,_⟩:=Gm.was_some hi
  exact M.ok j g hj
 ·obtain⟨j,hj,_⟩:=Gm.was_some hi
  exact M.nd j g hj
 ·obtain⟨j,hj,a1,a2⟩:=Gm.was_some hi
  obtain⟨j',hj',b1,b2⟩:=Gm.was_some hi'
  refine M.dj j j' g g' hj hj' ?_
  rintro rfl
  cases i with
  |inl id =>
   obtain⟨o,rfl,h1⟩:=a2 id rfl
   cases i' with
   |inl id' =>
    obtain⟨o',h2,h3⟩:=b2 id' rfl
    simp only[Sum.inl.injEq] at h2
    subst h2
    exact hne (by rw[zW8 hm h1 h3])
   |inr n=>have:=b1 n rfl;simp at this
  |inr n =>
   have h1:=a1 n rfl
   subst h1
   cases i' with
   |inl id' =>
    obtain⟨o',h2,h3⟩:=b2 id' rfl
    simp at h2
   |inr n'=>exact hne (b1 n' rfl)
 ·obtain⟨j,hj,_⟩:=Gm.was_some hi
  exact(M.sd k hk).2 j g hj
 ·obtain⟨N,hN⟩:=M.fin
  exact⟨N,fun n hn=>hN n hn⟩
section
variable{c:Ctx}{st:St}{U:Nat→Prop}{γ:Gm}{S:Nat→Prop}{a:Act}{w:World}{m:List (Nat×Nat)}
theorem F8{fr:Nat}{x:X}{v:Value}(hx:x.vr γ w S v)(ho:∀o∈x.offC fr,has m o)(hf:x.flat=true):(x.renC (kid fr m)).vr (γ.was fr m) w S v:=by
 cases x with
 |d d=>cases d<;>simpa only[X.renC,X.vr] using hx
 |ref id p =>
  simp only[X.renC,X.vr] at hx ⊢
  refine⟨hx.1,fun g hg=>hx.2 g ?_⟩
  unfold Gm.nav at hg ⊢
  rw[aA] at hg ⊢
  obtain⟨g0,h1,h2⟩:=hg
  refine⟨g0,?_,h2⟩
  have hk:was fr m (kid fr m id)=some id:=zqs fun e=>ho _ (by simp[X.offC,e])
  simpa only[Gm.was,hk,obs] using h1
 |ptr id q j i =>
  simp only[X.renC,X.vr] at hx ⊢
  obtain⟨ad,rfl,h2⟩:=hx
  refine⟨ad,rfl,fun sz b els hg=>h2 sz b els ?_⟩
  unfold Gm.nav at hg ⊢
  rw[aA] at hg ⊢
  obtain⟨g0,h1,h3⟩:=hg
  refine⟨g0,?_,h3⟩
  have hk:was fr m (kid fr m id)=some id:=zqs fun e=>ho _ (by simp[X.offC,e])
  simpa only[Gm.was,hk,obs] using h1
 |rop cs=>simpa only[X.renC,X.vr] using hx
 |vp cs=>simp[X.flat] at hf
 |agg cs=>simp[X.flat] at hf
 |tup cs=>simp[X.flat] at hf
 |clo f cs=>simp[X.flat] at hf
theorem Vl{fr:Nat}:∀{xs:List X} {x:X},x∈xs→∀o∈x.offC fr,o∈Fh fr xs
 |y::xs,x,h,o,ho=>by
  simp only[Fh,List.mem_append]
  rcases List.mem_cons.1 h with rfl|h
  ·exact .inl ho
  ·exact .inr (Vl h o ho)
theorem J7{fr:Nat}:∀{xs:List X} {vs:List Value},vrs γ w S xs vs→(∀o∈Fh fr xs,has m o)→xs.all X.flat=true→vrs (γ.was fr m) w S (xs.map (X.renC (kid fr m))) vs
 |[],[],_,_,_=>by simp only[mn,vrs]
 |x::xs,v::vs,h,ho,hf=>by
  simp only[vrs,mc,List.all_cons,bE] at h hf ⊢
  exact⟨F8 h.1 (fun o h1=>ho o (by simp[Fh,h1])) hf.1,J7 h.2 (fun o h1=>ho o (by simp[Fh,h1])) hf.2⟩
 |[],_::_,h,_,_=>by simp[vrs] at h
 |_::_,[],h,_,_=>by simp[vrs] at h
theorem z83{fr:Nat}{x:X}{v:Value}(hx:x.vr γ w S v)(ho:∀o∈x.offs fr,has m o)(hf:x.keeps=true):(x.ren (kid fr m)).vr (γ.was fr m) w S v:=by
 cases x with
 |agg cs =>
  simp only[X.ren,X.vr,X.offs,X.keeps] at hx ho hf ⊢
  obtain⟨vs,h1,h2,h3⟩:=hx
  exact⟨vs,h1,J7 h2 ho hf,h3⟩
 |tup cs=>simp[X.keeps] at hf
 |clo f cs =>
  simp only[X.ren,X.vr,X.offs,X.keeps] at hx ho hf ⊢
  obtain⟨vs,h1,h2⟩:=hx
  exact⟨vs,h1,J7 h2 ho hf⟩
 |d d=>exact F8 hx ho rfl
 |ref id p=>exact F8 hx ho rfl
 |ptr id q j i=>exact F8 hx ho rfl
 |rop cs=>exact F8 hx ho rfl
 |vp cs =>
  simp only[X.ren,X.vr,X.offs,X.keeps] at hx ho hf ⊢
  obtain⟨ad,h1,us,h2,h3,h4⟩:=hx
  exact⟨ad,h1,us,J7 h2 ho hf,h3,h4⟩
theorem zxe{A:Id→Prop}{fr:Nat}{id:Id}(h:fO A fr U id)(ho:id.1=fr→has m id.2):fO A fr (fun k=>k<m.length) (kid fr m id):=by
 rcases h with⟨h1,h2⟩|⟨h1,h2⟩
 ·have:kid fr m id=id:=by unfold kid;rw[if_neg (by omega)]
  rw[this]
  exact .inl ⟨h1,h2⟩
 ·obtain⟨k,h3,h4⟩:=ho h1
  have:kid fr m id=(fr,k):=by unfold kid;rw[if_pos h1,h4];rfl
  rw[this]
  exact .inr ⟨rfl,(List.getElem?_eq_some_iff.1 h3).1⟩
theorem uG{A:Id→Prop}{fr:Nat}{x:X}(hx:x.allp (fun id _=>fO A fr U id))(ho:∀o∈x.offC fr,has m o)(hf:x.flat=true):(x.renC (kid fr m)).allp (fun id _=>fO A fr (fun k=>k<m.length) id):=by
 cases x with
 |ref id p =>
  simp only[X.renC,X.allp] at hx ⊢
  exact zxe hx (fun e=>ho _ (by simp[X.offC,e]))
 |ptr id q j i =>
  simp only[X.renC,X.allp] at hx ⊢
  exact zxe hx (fun e=>ho _ (by simp[X.offC,e]))
 |d d=>simp only[X.renC,X.allp]
 |rop cs=>simp only[X.renC,X.allp]
 |vp cs=>simp[X.flat] at hf
 |agg cs=>simp[X.flat] at hf
 |tup cs=>simp[X.flat] at hf
 |clo f cs=>simp[X.flat] at hf
theorem Gh{A:Id→Prop}{fr:Nat}{xs:List X}(hx:aR (fun id _=>fO A fr U id) xs)(ho:∀o∈Fh fr xs,has m o)(hf:xs.all X.flat=true):aR (fun id _=>fO A fr (fun k=>k<m.length) id) (xs.map (X.renC (kid fr m))):=by
 rw[bG] at hx ⊢
 intro y hy
 obtain⟨x,h1,rfl⟩:=List.mem_map.1 hy
 exact uG (hx x h1) (fun o h2=>ho o (Vl h1 o h2)) (List.all_eq_true.1 hf x h1)
theorem zVt{A:Id→Prop}{fr:Nat}{x:X}(hx:x.allp (fun id _=>fO A fr U id))(ho:∀o∈x.offs fr,has m o)(hf:x.keeps=true):(x.ren (kid fr m)).allp (fun id _=>fO A fr (fun k=>k<m.length) id):=by
 cases x with
 |agg cs =>
  simp only[X.ren,X.allp,X.offs,X.keeps] at hx ho hf ⊢
  exact Gh hx ho hf
 |tup cs=>simp[X.keeps] at hf
 |clo f cs =>
  simp only[X.ren,X.allp,X.offs,X.keeps] at hx ho hf ⊢
  exact Gh hx ho hf
 |d d=>exact uG hx ho rfl
 |ref id p=>exact uG hx ho rfl
 |ptr id q j i=>exact uG hx ho rfl
 |rop cs=>exact uG hx ho rfl
 |vp cs =>
  simp only[X.ren,X.allp,X.offs,X.keeps] at hx ho hf ⊢
  exact Gh hx ho hf
theorem qF(st:St)(m:List (Nat×Nat)):∀{L:List Nat} {t:Nat} {y:X},m3 st m L t=some y→∃x,t∈L∧st.env t=some x∧x.keeps=true∧y=x.ren (kid st.fr m)
 |[],t,y,h=>by simp[m3,emp] at h
 |s::L,t,y,h=>by
  simp only[m3] at h
  cases hx:st.env s with
  |none =>
   rw[hx] at h
   obtain⟨x',h1,h2⟩:=qF st m h
   exact⟨x',List.mem_cons_of_mem _ h1,h2⟩
  |some x =>
   rw[hx] at h
   simp only at h
   by_cases hk:x.keeps=true
   ·rw[if_pos hk] at h
    simp only[upd] at h
    split at h
    ·rename_i e
     subst e
     simp only[oi] at h
     exact⟨x,by simp,hx,hk,h.symm⟩
    ·obtain⟨x',h1,h2⟩:=qF st m h
     exact⟨x',List.mem_cons_of_mem _ h1,h2⟩
   ·rw[if_neg hk] at h
    obtain⟨x',h1,h2⟩:=qF st m h
    exact⟨x',List.mem_cons_of_mem _ h1,h2⟩
theorem wN{fr:Nat}{h:Heap}:∀{m:List (Nat×Nat)} {id:Id} {d:D},Hx fr h m id=some d→(id.1≠fr∧h id=some d)∨(id.1=fr∧∃a∈m,a.2=id.2∧h (fr,a.1)=some d)
 |[],id,d,hd=>by
  simp only[Hx,a8] at hd
  split at hd
  ·simp at hd
  ·exact .inl ⟨‹_›,hd⟩
 |(o,n)::m,id,d,hd=>by
  simp only[Hx,upd] at hd
  split at hd
  ·rename_i e
   subst e
   exact .inr ⟨rfl,(o,n),by simp,rfl,hd⟩
  ·rcases wN hd with h1|⟨h1,b,h2,h3⟩
   ·exact .inl h1
   ·exact .inr ⟨h1,b,List.mem_cons_of_mem _ h2,h3⟩
theorem Ge(L:List Nat)(R:Rep c st U γ S a w):Ok c (mD L st) (fun k=>k<(mD L st).next) a w:=by
 obtain⟨hm,_,h3⟩:=Fp st L (m:=[]) ⟨fun k a h=>by simp at h,by simp⟩
 have hf:(mD L st).fr=st.fr:=rfl
 have hh:∀id d,(mD L st).heap id=some d→∃o,was st.fr (fX st [] L) id=some o∧st.heap o=some d:=fun id d hd=>by
  simp only[mD] at hd
  rcases wN hd with⟨h1,h2⟩|⟨h1,b,h2,h4,h5⟩
  ·exact⟨id,by simp only[was,if_neg h1],h2⟩
  ·obtain⟨k,hk⟩:=List.mem_iff_getElem?.1 h2
   have hb:=hm.ix k b hk
   refine⟨(st.fr,b.1),?_,h5⟩
   have hk2:(fX st [] L)[id.2]? = some b:=by rw[←h4,hb];exact hk
   simp only[was,if_pos h1,hk2,oms]
 have hlow:∀id:Id,id.1<st.fr→(γ.was st.fr (fX st [] L)) (.inl id)=γ (.inl id):=fun id hid=>by
  have:¬id.1=st.fr:=by omega
  simp only[Gm.was,was,if_neg this,obs]
 refine⟨γ.was st.fr (fX st [] L),S,z8K hm R.mm hh,R.os,R.tape,R.output,R.size,R.keep,fun k ⟨i,g,h1,h2⟩=> ?_,fun id hid=>(R.hd id hid).trans (Same.of_eq (hlow id hid) []),R.sg,R.s0,R.s00,fun t x hx=> ?_,fun t x hx=> ?_,fun id d hd=> ?_,fun id hid h0=> ?_,R.df,R.sz,R.iso⟩
 ·obtain⟨j,hj,_⟩:=Gm.was_some h1
  exact R.own k ⟨j,g,hj,h2⟩
 ·obtain⟨y,h1,h2,h4,rfl⟩:=qF st _ hx
  exact z83 (R.env t y h2) (h3 t h1 y h2 h4) h4
 ·obtain⟨y,h1,h2,h4,rfl⟩:=qF st _ hx
  exact zVt (R.ids t y h2) (h3 t h1 y h2 h4) h4
 ·simp only[mD] at hd
  rcases wN hd with⟨h1,h2⟩|⟨h1,b,h2,h4,h5⟩
  ·rcases R.hid id d h2 with h6|h6
   ·exact .inl h6
   ·exact absurd h6.1 h1
  ·obtain⟨k,hk⟩:=List.mem_iff_getElem?.1 h2
   have hb:=hm.ix k b hk
   refine .inr ⟨h1,?_⟩
   have:=(List.getElem?_eq_some_iff.1 hk).1
   simp only[mD]
   omega
 ·have hid':id.1<st.fr:=hid
  cases hd:(mD L st).heap id with
  |none=>rfl
  |some d =>
   simp only[mD] at hd
   rcases wN hd with⟨h1,h2⟩|⟨h1,_⟩
   ·rw[R.dom id hid h0] at h2;simp at h2
   ·omega
def G.ice:G→G
 |.s sz b els=> .l (.r (fzs (cD els))) (G.s sz b els).val
 |.l d v=> .l d v
theorem z7c:∀g:G,(∀d v,g= .l d v→d.leaf=true)→g.ice.er=g.er.ice
 |.s sz b els,_=>by simp only[G.ice,G.er,D.ice]
 |.l d v,h=>by
  have:=h d v rfl
  cases d<;>simp_all[G.ice,G.er,D.ice,D.leaf]
theorem zqp:∀g:G,g.ice.val=g.val
 |.s sz b els=>by simp only[G.ice,G.val]
 |.l d v=>by simp only[G.ice]
theorem z8s:∀g:G,g.ice.bl=[]
 |.s sz b els=>by simp only[G.ice,G.bl]
 |.l d v=>by simp only[G.ice,G.bl]
theorem z7l{w:World}{S S':Nat→Prop}(hS:∀k,S k→S' k):∀g:G,g.ok w S→(∀k∈g.bl,S' k)→g.ice.ok w S'
 |.s sz b els,h,hb=>by
  have h1:=Gw hS (.s sz b els) h hb
  have h2:=Wc _ _ h1
  simp only[G.ice,G.ok]
  exact⟨rfl,by simpa only[G.er,D.fz] using h2⟩
 |.l d v,h,_=>by
  simp only[G.ice,G.ok] at h ⊢
  exact⟨h.1,D.rd_congr (fun k hk=>⟨hS k hk,rfl⟩) d v h.2⟩
theorem zZ8(els:List (List G)):a7 (els.map fun el=>el.map G.ice)=a7 els:=by
 induction els with
 |nil=>rfl
 |cons el els ih =>
  simp only[mc,a7,ih]
  congr 1
  simp only[cL,List.map_map]
  exact List.map_congr_left fun g _=>zqp g
theorem Xo(els:List (List G)):bX (els.map fun el=>el.map G.ice)=[]:=by
 induction els with
 |nil=>simp[bX]
 |cons el els ih =>
  simp only[mc,bX,ih,zqe]
  induction el with
  |nil=>simp[bls]
  |cons g el ih2=>simp only[mc,bls,z8s,zqf,ih2]
theorem zKt{γ:Gm}{id:Id}{sz:Nat}{b:Option Bk}{els:List (List G)}(h:γ (.inl id)=some (.s sz b els))(id':Id)(p:Path):Same γ (upd γ (.inl id) (some (.s sz b (els.map fun el=>el.map G.ice)))) id' p:=by
 by_cases e:id'=id
 ·subst e
  intro g' hg'
  unfold Gm.nav at hg' ⊢
  simp only[upd,if_true,obs] at hg'
  rw[h,obs]
  cases p with
  |nil =>
   simp only[G.nav,oi] at hg' ⊢
   subst hg'
   refine⟨_,rfl,.inr ⟨?_,.inr rfl,fun _=>rfl⟩⟩
   cases b with
   |none=>simp only[G.val]
   |some b=>simp only[G.val,lm]
  |cons ji p =>
   obtain⟨j,i⟩:=ji
   simp only[G.nav,List.getElem?_map,aA,aC] at hg' ⊢
   obtain⟨el',⟨el,h1,rfl⟩,g1,hg1,h3⟩:=hg'
   rw[List.getElem?_map,aC] at hg1
   obtain⟨g0,h2,rfl⟩:=hg1
   cases p with
   |nil =>
    simp only[G.nav,oi] at h3
    subst h3
    refine⟨g0,⟨el,h1,g0,h2,by simp only[G.nav]⟩,.inr ⟨zqp g0,?_,fun hr=> ?_⟩⟩
    ·cases g0<;>exact .inl rfl
    ·cases g0 with
     |s sz' b' els'=>rfl
     |l d v=>exact hr
   |cons ji2 p2 =>
    obtain⟨j2,i2⟩:=ji2
    cases g0<;>simp[G.ice,G.nav] at h3
 ·refine Same.of_eq ?_ p
  simp only[upd,Sum.inl.injEq,if_neg e]
theorem zW4{id:Id}{sz:Nat}{els:List (List D)}(R:Rep c st U γ S a w)(h0:st.fr=0)(hd:st.heap id=some (.s sz els)):Ok c {st with heap:=upd st.heap id (some (.s sz (els.map fun el=>el.map D.ice)))} U a w:=by
 obtain⟨g,hg,he⟩:=R.mm.er id _ hd
 obtain⟨b,ges,rfl⟩:∃b ges,g= .s sz b ges:=by
  cases g with
  |s sz' b ges =>
   simp only[G.er,D.s.injEq] at he
   exact⟨b,ges,by rw[he.1]⟩
  |l d v =>
   have h1:=R.mm.ok _ _ hg
   simp only[G.ok] at h1
   simp only[G.er] at he
   rw[he] at h1
   simp[D.leaf] at h1
 simp only[G.er,D.s.injEq,true_and] at he
 have hok:=R.mm.ok _ _ hg
 have hok2:=hok
 simp only[G.ok] at hok2
 obtain⟨k1,k2,k3⟩:=hok2
 have hnd:=R.mm.nd _ _ hg
 rw[G.bl_s] at hnd
 have hsub:∀k,k∈(G.s sz b (ges.map fun el=>el.map G.ice)).bl→k∈(G.s sz b ges).top:=by
  intro k hk
  rw[G.bl_s,Xo,zqe] at hk
  cases b<;>exact hk
 have htop:∀k,k∈(G.s sz b ges).top→k∈(G.s sz b ges).bl:=fun k hk=>by rw[G.bl_s];exact List.mem_append_left _ hk
 have hin:∀k,k∈bX ges→k∈(G.s sz b ges).bl:=fun k hk=>by rw[G.bl_s];exact List.mem_append_right _ hk
 have hcase:∀i g',(upd γ (.inl id) (some (.s sz b (ges.map fun el=>el.map G.ice)))) i=some g'→(i= .inl id∧g'= .s sz b (ges.map fun el=>el.map G.ice))∨(i≠ .inl id∧γ i=some g'):=by
  intro i g' h
  unfold upd at h
  split at h
  ·rename_i e
   simp only[oi] at h
   exact .inl ⟨e,h.symm⟩
  ·rename_i e
   exact .inr ⟨e,h⟩
 have hbl:∀i g',(upd γ (.inl id) (some (.s sz b (ges.map fun el=>el.map G.ice)))) i=some g'→∃g0,γ i=some g0∧∀k∈g'.bl,k∈g0.bl:=by
  intro i g' h
  rcases hcase i g' h with⟨rfl,rfl⟩|⟨_,h2⟩
  ·exact⟨_,hg,fun k hk=>htop k (hsub k hk)⟩
  ·exact⟨g',h2,fun k hk=>hk⟩
 have hSS:∀k,S k→(S k∨k∈bX ges):=fun k h=> .inl h
 refine⟨upd γ (.inl id) (some (.s sz b (ges.map fun el=>el.map G.ice))),fun k=>S k∨k∈bX ges,?_,R.os,R.tape,R.output,R.size,R.keep,fun k hk=> ?_,fun id' hid=> ?_,fun k hk=> ?_,fun k hk=> .inl (R.s0 k hk),R.s00,fun t x hx=> ?_,R.ids,fun id' d hd'=> ?_,fun id' hid _=> ?_,R.df,R.sz,R.iso⟩
 ·refine⟨fun id' d hd'=> ?_,fun i g' h=> ?_,fun i g' h=> ?_,fun i i' g1 g2 h1 h2 hne k hk=> ?_,fun k hk=> ?_,?_⟩
  ·simp only[upd] at hd'
   split at hd'
   ·rename_i e
    subst e
    simp only[oi] at hd'
    subst hd'
    refine⟨.s sz b (ges.map fun el=>el.map G.ice),by simp only[upd,if_true],?_⟩
    simp only[G.er,D.s.injEq,true_and,←he,cG,List.map_map]
    refine List.map_congr_left fun el hel=> ?_
    simp only[Function.comp_apply,List.map_map]
    refine List.map_congr_left fun g0 hg0=> ?_
    simp only[Function.comp_apply]
    refine z7c g0 fun d v e=> ?_
    have:=dV.1 k3 el hel g0 hg0
    rw[e] at this
    simp only[G.ok] at this
    exact this.1
   ·rename_i e
    obtain⟨g',h1,h2⟩:=R.mm.er id' d hd'
    exact⟨g',by simp only[upd,Sum.inl.injEq,if_neg e];exact h1,h2⟩
  ·rcases hcase i g' h with⟨rfl,rfl⟩|⟨_,h2⟩
   ·simp only[G.ok]
    refine⟨?_,fun el hel=> ?_,dV.2 fun el hel g0 hg0=> ?_⟩
    ·cases b with
     |none =>
      simp only at k1 ⊢
      rw[k1]
      rfl
     |some b =>
      simp only[lm,zZ8] at k1 ⊢
      exact k1
    ·obtain⟨el0,h3,rfl⟩:=List.mem_map.1 hel
     rw[lm]
     exact k2 el0 h3
    ·obtain⟨el0,h3,rfl⟩:=List.mem_map.1 hel
     obtain⟨g1,h4,rfl⟩:=List.mem_map.1 hg0
     exact z7l (S:=S) hSS g1 (dV.1 k3 el0 h3 g1 h4) (fun k hk=> .inr (oF.2 ⟨el0,h3,g1,h4,hk⟩))
   ·exact G.ok_congr (fun k hk=>⟨.inl hk,rfl⟩) g' (fun _ _=>rfl) (R.mm.ok i g' h2)
  ·rcases hcase i g' h with⟨rfl,rfl⟩|⟨_,h2⟩
   ·rw[G.bl_s,Xo,zqe]
    have h5:=(List.nodup_append.1 hnd).1
    cases b<;>exact h5
   ·exact R.mm.nd i g' h2
  ·obtain⟨g3,h3,h4⟩:=hbl i g1 h1
   obtain⟨g5,h5,h6⟩:=hbl i' g2 h2
   exact fun hk2=>R.mm.dj i i' g3 g5 h3 h5 hne k (h4 k hk) (h6 k hk2)
  ·rcases hk with hk|hk
   ·exact⟨(R.mm.sd k hk).1,fun i g' h hk2=>by
     obtain⟨g0,h1,h2⟩:=hbl i g' h
     exact(R.mm.sd k hk).2 i g0 h1 (h2 k hk2)⟩
   ·refine⟨G.ok_lt _ hok k (hin k hk),fun i g' h hk2=> ?_⟩
    rcases hcase i g' h with⟨rfl,rfl⟩|⟨hne,h2⟩
    ·exact(List.nodup_append.1 hnd).2.2 k (hsub k hk2) k hk rfl
    ·exact R.mm.dj (.inl id) i _ g' hg h2 (fun e=>hne e.symm) k (hin k hk) hk2
  ·obtain⟨N,hN⟩:=R.mm.fin
   exact⟨N,fun n hn=>by simp only[upd,reduceCtorEq,if_false];exact hN n hn⟩
 ·obtain⟨i,g',h1,h2⟩:=hk
  obtain⟨g0,h3,h4⟩:=hbl i g' h1
  exact R.own k ⟨i,g0,h3,h4 k h2⟩
 ·exact absurd hid (by simp only[h0];omega)
 ·rcases hk with hk|hk
  ·exact R.sg k hk
  ·rcases R.own k ⟨_,_,hg,hin k hk⟩ with h1|h1
   ·exact absurd h1 (R.iso h0 k)
   ·exact .inr h1
 ·exact fW (fun k hk=>⟨.inl hk,rfl⟩) x _ (cS (fun id' p=>zKt hg id' p) x) (R.env t x hx)
 ·simp only[upd] at hd'
  split at hd'
  ·rename_i e
   subst e
   exact R.hid _ _ hd
  ·exact R.hid _ _ hd'
 ·exact absurd hid (by simp only[h0];omega)
theorem zXn(t:Nat)(R:Rep c st U γ S a w):Ok c (zz5 t st) U a w∧(zz5 t st).fr=st.fr:=by
 unfold zz5
 split
 ·rename_i h0
  unfold zQQ
  split
  ·split
   ·unfold zQ9
    split
    ·rename_i h1
     exact⟨zW4 R h0 h1,rfl⟩
    ·exact⟨⟨γ,S,R⟩,rfl⟩
   ·exact⟨⟨γ,S,R⟩,rfl⟩
  ·exact⟨⟨γ,S,R⟩,rfl⟩
 ·exact⟨⟨γ,S,R⟩,rfl⟩
theorem Yh{t:Nat}{id:Id}{g:G}{x0:X}(R:Rep c st U γ S a w)(h0:st.fr=0)(hg:γ (.inl id)=some g)(hv:∀γ':Gm,x0.vr γ' w (fun k=>S k∨k∈g.bl) (a.tmps.getD t undef))(hp:∀φ:Id→Path→Prop,x0.allp φ) :
  Ok c {st with env:=upd st.env t (some x0),heap:=upd st.heap id none} U a w:=by
 have hok:=R.mm.ok _ _ hg
 have hrem:∀i g',rem γ [.inl id] i=some g'→i≠ .inl id∧γ i=some g':=fun i g' h=>by
  obtain⟨e1,e2⟩:=cA.1 h
  exact⟨by simpa using e1,e2⟩
 have hsame:∀id' p',Same γ (rem γ [.inl id]) id' p':=fun id' p'=>by
  by_cases e:id'=id
  ·exact Same.of_none (by simp[rem,e]) p'
  ·exact Same.of_eq (by simp[rem,e]) p'
 refine⟨rem γ [.inl id],fun k=>S k∨k∈g.bl,⟨?_,R.os,R.tape,R.output,R.size,R.keep,fun k hk=> ?_,fun id' hid=> ?_,fun k hk=> ?_,fun k hk=> .inl (R.s0 k hk),R.s00,fun t' x hx'=> ?_,fun t' x hx'=> ?_,fun id' d hd'=> ?_,fun id' hid _=> ?_,R.df,R.sz,R.iso⟩⟩
 ·refine⟨fun id' d hd'=> ?_,fun i g' h=> ?_,fun i g' h=>R.mm.nd i g' (hrem i g' h).2,fun i i' g1 g2 e1 e2=>R.mm.dj i i' g1 g2 (hrem i g1 e1).2 (hrem i' g2 e2).2,fun k hk=> ?_,?_⟩
  ·simp only[upd] at hd'
   split at hd'
   ·simp at hd'
   ·rename_i e
    obtain⟨g',e1,e2⟩:=R.mm.er id' d hd'
    exact⟨g',by simp[rem,e,e1],e2⟩
  ·exact G.ok_congr (fun k hk=>⟨.inl hk,rfl⟩) g' (fun _ _=>rfl) (R.mm.ok i g' (hrem i g' h).2)
  ·rcases hk with hk|hk
   ·exact⟨(R.mm.sd k hk).1,fun i g' h=>(R.mm.sd k hk).2 i g' (hrem i g' h).2⟩
   ·exact⟨G.ok_lt _ hok k hk,fun i g' h hb=>R.mm.dj (.inl id) i _ g' hg (hrem i g' h).2 (fun e=>(hrem i g' h).1 e.symm) k hk hb⟩
  ·obtain⟨N,hN⟩:=R.mm.fin
   exact⟨N,fun m hm=>by simp[rem,hN m hm]⟩
 ·obtain⟨i,g',e1,e2⟩:=hk
  exact R.own k ⟨i,g',(hrem i g' e1).2,e2⟩
 ·exact absurd hid (by simp only[h0];omega)
 ·rcases hk with hk|hk
  ·exact R.sg k hk
  ·rcases R.own k ⟨_,_,hg,hk⟩ with h1|h1
   ·exact absurd h1 (R.iso h0 k)
   ·exact .inr h1
 ·simp only[upd] at hx'
  split at hx'
  ·rename_i e
   subst e
   simp only[oi] at hx'
   subst hx'
   exact hv _
  ·exact fW (fun k hk=>⟨.inl hk,rfl⟩) x _ (cS hsame x) (R.env t' x hx')
 ·simp only[upd] at hx'
  split at hx'
  ·simp only[oi] at hx'
   subst hx'
   exact hp _
  ·exact R.ids t' x hx'
 ·simp only[upd] at hd'
  split at hd'
  ·simp at hd'
  ·exact R.hid _ _ hd'
 ·exact absurd hid (by simp only[h0];omega)
theorem zV4{t:Nat}{id:Id}{sz:Nat}{els:List (List D)}(R:Rep c st U γ S a w)(h0:st.fr=0)(hd:st.heap id=some (.s sz els))(hx:st.env t=some (.ref id [])) :
  Ok c {st with env:=upd st.env t (some (.d (.r (fzs els)))),heap:=upd st.heap id none} U a w:=by
 obtain⟨g,hg,he⟩:=R.mm.er id _ hd
 have h6:=R.env t _ hx
 simp only[X.vr] at h6
 have hnv:γ.nav id []=some g:=by unfold Gm.nav;rw[hg];simp[G.nav]
 have h7:=Gw (S':=fun k=>S k∨k∈g.bl) (fun k h=> .inl h) g (R.mm.ok _ _ hg) (fun k h=> .inr h)
 rw[he,(h6.2 g hnv).1,z8w] at h7
 exact Yh R h0 hg (fun γ'=>by simp only[X.vr];exact Wc (.r els) _ h7) (fun φ=>by simp only[X.allp])
theorem zYt{t:Nat}{id:Id}{sz:Nat}{el:List D}(R:Rep c st U γ S a w)(h0:st.fr=0)(hd:st.heap id=some (.s sz [el]))(hx:st.env t=some (.ptr id [] 0 0)) :
  Ok c {st with env:=upd st.env t (some (.rop (fzl el))),heap:=upd st.heap id none} U a w:=by
 obtain⟨g,hg,he⟩:=R.mm.er id _ hd
 obtain⟨gel,b,cap,o0,rfl,hger⟩:∃gel b cap o0,g= .s sz (some ⟨b,cap,o0⟩) [gel]∧ers gel=el:=by
  have hok:=R.mm.ok _ _ hg
  cases g with
  |s sz' b ges =>
   simp only[G.er,D.s.injEq] at he
   obtain⟨rfl,he⟩:=he
   cases ges with
   |nil=>simp[cD] at he
   |cons gel ges =>
    simp only[cD,List.cons.injEq] at he
    obtain⟨he1,he2⟩:=he
    have hges:ges=[]:=by
     have:=congrArg List.length he2
     rw[cY] at this
     simpa using this
    subst hges
    cases b with
    |none =>
     simp only[G.ok] at hok
     simp at hok
    |some b=>exact⟨gel,b.1,b.2,b.3,rfl,he1⟩
  |l d v =>
   simp only[G.ok] at hok
   simp only[G.er] at he
   rw[he] at hok
   simp[D.leaf] at hok
 have hok:=R.mm.ok _ _ hg
 have h6:=R.env t _ hx
 simp only[X.vr] at h6
 obtain⟨ad,had,hadeq⟩:=h6
 have hnv:γ.nav id []=some (.s sz (some ⟨b,cap,o0⟩) [gel]):=by unfold Gm.nav;rw[hg];simp[G.nav]
 have hadb:=hadeq _ _ _ hnv
 simp only[Nat.zero_mul,Nat.add_zero] at hadb
 subst hadb
 have hrds:rds w (fun k=>S k∨k∈(G.s sz (some ⟨b,cap,o0⟩) [gel]).bl) ⟨b,o0,none⟩ 0 (ers gel):=by
  refine Uo (fun k h=> .inl h) gel b o0 0 (fun j u hj=> ?_) ?_ (fun k hk=> .inr (by simp[G.bl,bX,hk])) (.inr (by simp[G.bl]))
  ·simp only[cL,List.getElem?_map,aC] at hj
   obtain⟨g1,h1,rfl⟩:=hj
   have h2:=sJ hok (j:=0) (el:=gel) rfl h1
   rwa [Nat.zero_mul] at h2
  ·simp only[G.ok] at hok
   exact(by simpa[gK] using hok.2.2)
 exact Yh R h0 hg (fun γ'=>by simp only[X.vr];exact⟨_,had,by rw[←hger];exact Tz _ _ _ hrds⟩) (fun φ=>by simp only[X.allp])
theorem zWe(t:Nat)(R:Rep c st U γ S a w):Ok c (zz0 t st) U a w∧(zz0 t st).fr=st.fr:=by
 unfold zz0
 split
 ·rename_i h0
  unfold zvM
  split
  ·rename_i id h2
   split
   ·unfold zZ3
    split
    ·rename_i h1
     exact⟨zYt R h0 h1 h2,rfl⟩
    ·exact⟨⟨γ,S,R⟩,rfl⟩
   ·exact⟨⟨γ,S,R⟩,rfl⟩
  ·rename_i id h2
   split
   ·unfold zZc
    split
    ·rename_i h1
     exact⟨zV4 R h0 h1 h2,rfl⟩
    ·exact⟨⟨γ,S,R⟩,rfl⟩
   ·exact⟨⟨γ,S,R⟩,rfl⟩
  ·exact⟨⟨γ,S,R⟩,rfl⟩
 ·exact⟨⟨γ,S,R⟩,rfl⟩
theorem Vr:∀(L:List Nat) (st:St),(uN L st).fr=st.fr
 |[],st=>rfl
 |t::L,st=>by
  simp only[uN]
  split
  ·simp only[mD,zz0,zvM,zZ3,zZc]
   repeat'(first|rfl|split)
  ·split
   ·simp only[mD,zz5,zQQ,zQ9]
    repeat'(first|rfl|split)
   ·rfl
theorem zK9(L:List Nat)(R:Rep c st U γ S a w):Ok c (uN L st) (fun k=>k<(uN L st).next) a w:=by
 cases L with
 |nil=>exact Ge [] R
 |cons t L =>
  simp only[uN]
  split
  ·obtain⟨⟨γ',S',R'⟩,_⟩:=zWe (t-20000) R
   exact Ge L R'
  ·split
   ·obtain⟨⟨γ',S',R'⟩,_⟩:=zXn (t-10000) R
    exact Ge L R'
   ·exact Ge (t::L) R
end
section
variable{c:Ctx}{st st':St}{U:Nat→Prop}{γ:Gm}{S:Nat→Prop}{a:Act}{w:World}{C:Cl}{o:Oper}{n:Nat}
def SItem.chk(P:Program)(nt:Nat)(ops:Array Oper)(o:Oper)(it:SItem):Bool :=
 decide (o.dst=it.d)&&(match o.dst with|some k=>decide (k<nt)|none=>true)&&cH P o it.o&&(match o.guard,it.g with
  |none,none=>true
  |some (j,b),some (s,b')=>decide (b=b')&&(match ops[j]? with|some oj=>decide (oj.dst=some s)|none=>false)
  |_,_=>false)
theorem z6h{x:X}{t:Option Bool}(h:gX x=some t):(∃b,x= .d (.v (.bool b))∧t=some b)∨(x= .tup []∧t=none):=by
 unfold gX at h
 split at h
 ·simp only[oi] at h;exact .inl ⟨_,rfl,h.symm⟩
 ·simp only[oi] at h;exact .inr ⟨rfl,h.symm⟩
 ·simp at h
theorem Runs.wpP{st':St}{U':Nat→Prop}(h:Runs c o a w st' U'){K:Act→World→Prop}{Q:Exit→Act→World→Prop}(hK:∀v w',Ok c st' U' (a.put o.dst v) w'→K (a.put o.dst v) w'):o.wp c.P a w K Q:=by
 unfold Oper.wp
 cases h with
 |value v w' h k=>rw[h,Oper.upon_value];exact hK _ _ k
 |skip w' h k=>rw[h,Oper.upon_skip];exact hK _ _ k
 |enter f args w1 h k =>
  rw[h,Oper.upon_enter]
  refine k.mono fun e w'' ⟨v,he,hok⟩=> ?_
  subst he
  exact hK _ _ hok
theorem No(R:Rep c st U γ S a w){ops:Array Oper}{it:SItem}(hc:it.chk c.P c.nt ops o=true)(hC:CallOk c.P C)(hn:it.o.quiet=false→∀k,n≤k→k<n+32→¬U k){U':Nat→Prop}(hU0:∀k,U k→U' k)(hU:it.o.quiet=false→∀k,n≤k→k<n+32→U' k)
  (hs:itS C st n it=some st') {i:Nat} (hi:ops[i]? = some o) {K:Act→World→Prop} {Q:Exit→Act→World→Prop} (hK:∀v w',Ok c st' U' (a.put o.dst v) w'→K (a.put o.dst v) w'):wpOp c.P ops Q i K a w:=by
 unfold SItem.chk at hc
 simp only[bE,zqd] at hc
 obtain⟨⟨⟨h1,h2⟩,h3⟩,h4⟩:=hc
 have hd:∀k,o.dst=some k→k<c.nt:=fun k hk=>by rw[hk] at h2;simpa using h2
 unfold wpOp
 rw[hi]
 simp only
 have hrun:opS C st it.d n it.o=some st'→o.wp c.P a w K Q:=fun h=>(U9 R hd h3 hC hn hU0 hU (by rw[h1];exact h)).wpP hK
 unfold itS at hs
 split at hs
 ·rename_i hg
  have hw:Region.wanted o (yielded ops a.tmps)=true:=by
   unfold Region.wanted
   rw[hg] at h4
   cases hog:o.guard with
   |none=>rfl
   |some x=>rw[hog] at h4;simp at h4
  rw[if_pos hw]
  exact .inl (hrun hs)
 ·rename_i s b hg
  rw[aA] at hs
  obtain⟨t,h5,h6⟩:=hs
  rw[aA] at h5
  obtain⟨x,h7,h8⟩:=h5
  have hv:=R.env s x h7
  rw[hg] at h4
  cases hog:o.guard with
  |none=>rw[hog] at h4;simp at h4
  |some y =>
   obtain⟨j,b2⟩:=y
   rw[hog] at h4
   simp only[bE,zqd] at h4
   obtain⟨rfl,h9⟩:=h4
   have hyld:yielded ops a.tmps j=t:=by
    unfold yielded
    cases hoj:ops[j]? with
    |none=>rw[hoj] at h9;simp at h9
    |some oj =>
     rw[hoj] at h9
     simp only[zqd] at h9
     simp only[obs,h9]
     rcases z6h h8 with⟨b3,rfl,rfl⟩|⟨rfl,rfl⟩
     ·simp only[X.vr] at hv
      have h10:=hv.1
      cases hsz:a.tmps[s]? with
      |none =>
       simp only[Array.getD_eq_getD_getElem?,hsz,Option.getD_none] at h10
       simp[undef] at h10
      |some u =>
       simp only[Array.getD_eq_getD_getElem?,hsz,Option.getD_some] at h10
       subst h10
       rfl
     ·simp only[X.vr] at hv
      obtain⟨vs,h10,_⟩:=hv
      cases hsz:a.tmps[s]? with
      |none=>rfl
      |some u =>
       simp only[Array.getD_eq_getD_getElem?,hsz,Option.getD_some] at h10
       subst h10
       rfl
   have hw:Region.wanted o (yielded ops a.tmps)=decide (t=some b2):=by
    unfold Region.wanted
    rw[hog]
    simp only[hyld]
    cases t with
    |none=>rfl
    |some t=>cases t<;>cases b2<;>rfl
   rw[hw]
   split at h6
   ·rename_i e
    rw[if_pos (by simpa using e)]
    exact .inl (hrun h6)
   ·rename_i e
    rw[if_neg (by simpa using e)]
    simp only[oi] at h6
    subst h6
    refine hK _ _ ?_
    rw[←h1]
    exact⟨γ,S,(R.put hd (x:= .tup []) (v:=undef) (by simp only[X.vr];exact⟨[],rfl,by simp only[vrs]⟩) (by simp only[X.allp,aR])).mono hU0⟩
theorem pM(R:Rep c st U γ S a w){ops:Array Oper}{it:SItem}(hc:it.chk c.P c.nt ops o=true)(hC:CallOk c.P C)(hn:it.o.quiet=false→∀k,n≤k→k<n+32→¬U k){U':Nat→Prop}(hU0:∀k,U k→U' k)(hU:it.o.quiet=false→∀k,n≤k→k<n+32→U' k)
  (hs:itS C st n it=some st') {i:Nat} (hi:ops[i]? = some o) {K:Act→World→Prop} {Q:Exit→Act→World→Prop} (hK:∀a' w',Ok c st' U' a' w'→K a' w'):wpOp c.P ops Q i K a w :=
 No R hc hC hn hU0 hU hs hi fun _ _ h=>hK _ _ h
theorem Yb{st st':St}{n:Nat}{o:O}{x y:X}(h:uA st n o x y=some st'):st'.next=st.next∧st'.fr=st.fr:=by
 unfold uA at h
 split at h
 ·split at h
  ·unfold Ch at h
   split at h
   ·split at h
    ·simp only[oi] at h
     subst h
     exact⟨rfl,rfl⟩
    ·simp at h
   ·simp at h
  ·simp at h
 ·simp at h
theorem Ia{st st':St}{n:Nat}{x:X}{cs:List X}(h:sT st n x cs=some st'):st'.next=st.next∧st'.fr=st.fr:=by
 unfold sT at h
 split at h
 ·rw[aA] at h
  obtain⟨b,_,h⟩:=h
  split at h
  ·simp only[aA] at h
   obtain⟨r,_,el,_,h⟩:=h
   split at h
   ·rw[aC] at h
    obtain⟨h',_,rfl⟩:=h
    exact⟨rfl,rfl⟩
   ·simp at h
  ·simp at h
 ·simp at h
theorem Vp{st st':St}{n:Nat}{o:O}{x y:X}(h:qY st n o x y=some st'):st'.next=st.next∧st'.fr=st.fr:=by
 unfold qY at h
 split at h
 ·exact Ia h
 ·exact Yb h
theorem B2{st st':St}{d:Option Nat}{id:Nat}{x:X}{h:Heap}(hl:kP st d id x h=some st'):st'.next=st.next∧st'.fr=st.fr:=by
 unfold kP at hl
 split at hl
 ·simp only[oi] at hl
  subst hl
  rw[eH,dN]
  exact⟨rfl,rfl⟩
 ·simp at hl
def O.rd:O→List Nat
 |.t n=>[n]
 |_=>[]
def Tt:Option O→List Nat
 |some o=>o.rd
 |none=>[]
def rG:List O→List Nat
 |[]=>[]
 |x::xs=>x.rd++rG xs
def SOp.rds:SOp→List Nat
 |.mov x=>x.rd
 |.pick c a b=>c.rd++a.rd++b.rd
 |.ari _ x y=>x.rd++y.rd
 |.cmp _ x y=>x.rd++y.rd
 |.cmpb _ x y=>x.rd++y.rd
 |.cat x y=>x.rd++y.rd
 |.neg x=>x.rd
 |.not x=>x.rd
 |.conv _ x=>x.rd
 |.rune x=>x.rd
 |.sob x=>x.rd
 |.bos x=>x.rd
 |.idxb _ x y=>x.rd++y.rd
 |.fld _ _ x=>x.rd
 |.faddr _ x=>x.rd
 |.ixa _ x i=>x.rd++i.rd
 |.ixs x i=>x.rd++i.rd
 |.load _ x=>x.rd
 |.store _ x y=>x.rd++y.rd
 |.box _ x=>x.rd
 |.mm _ x y=>x.rd++y.rd
 |.eqa _ _ x y=>x.rd++y.rd
 |.vbox _ x=>x.rd
 |.alloc _=>[]
 |.build _ ps=>rG (ps.map fun p=>p.2.2)
 |.lit _ ps=>rG ps
 |.mk _ _ _ n=>n.rd
 |.cutr _ x lo hi=>x.rd++Tt lo++Tt hi
 |.cutm _ x lo hi=>x.rd++Tt lo++Tt hi
 |.cutS x lo hi=>x.rd++Tt lo++Tt hi
 |.clr x=>x.rd
 |.len x=>x.rd
 |.slen x=>x.rd
 |.app _ _ x y=>x.rd++y.rd
 |.fn _ caps=>rG caps
 |.callr _ xs=>rG xs
 |.callu _ xs=>rG xs
 |.call _ xs=>rG xs
 |.calli f xs=>f.rd++rG xs
 |.callb _ xs _=>rG xs
 |.ext x _=>x.rd
 |.nck x=>x.rd
def pJ(l:List Nat)(s s2:St):Prop:=s2.heap=s.heap∧∀t∈l,s2.env t=s.env t
section
variable{s s2:St}
theorem cO{x:O}{l:List Nat}(h:pJ l s s2)(hl:∀t∈x.rd,t∈l):rdO s2 x=rdO s x:=by
 cases x with
 |t n=>simp only[rdO];exact h.2 n (hl n (by simp[O.rd]))
 |_=>rfl
theorem oT{x:O}{l:List Nat}(h:pJ l s s2)(hl:∀t∈x.rd,t∈l):rdI s2 x=rdI s x:=by unfold rdI;rw[cO h hl]
theorem Lr{x:O}{l:List Nat}(h:pJ l s s2)(hl:∀t∈x.rd,t∈l):rdB s2 x=rdB s x:=by unfold rdB;rw[cO h hl]
theorem Dx{x:O}{l:List Nat}(h:pJ l s s2)(hl:∀t∈x.rd,t∈l):rdS s2 x=rdS s x:=by unfold rdS;rw[cO h hl]
theorem vW{l:List Nat}(h:pJ l s s2):∀{xs:List O},(∀t∈rG xs,t∈l)→mF s2 xs=mF s xs
 |[],_=>rfl
 |x::xs,hl=>by
  simp only[mF,cO h (x:=x) (fun t ht=>hl t (by simp[rG,ht])),vW h (xs:=xs) (fun t ht=>hl t (by simp[rG,ht]))]
theorem Vk{l:List Nat}(h:pJ l s s2):∀{ps:List (Nat×Nat×O)} {cs:List X},(∀t∈rG (ps.map fun p=>p.2.2),t∈l)→mS s2 cs ps=mS s cs ps
 |[],cs,_=>rfl
 |(off,n,o)::ps,cs,hl=>by
  simp only[mS,cO h (x:=o) (fun t ht=>hl t (by simp[rG,ht]))]
  congr 1;funext x;congr 1;funext us
  split
  ·exact Vk h (fun t ht=>hl t (by simp only[mc,rG,List.mem_append];exact .inr ht))
  ·rfl
theorem vB{l:List Nat}(h:pJ l s s2){d:Int}{x:Option O}(hl:∀t∈Tt x,t∈l):bN s2 d x=bN s d x:=by
 cases x with
 |none=>rfl
 |some x=>simp only[bN,oT h (x:=x) (fun t ht=>hl t ht)]
end
theorem u6{s s':St}{d:Option Nat}{id:Nat}{o:SOp}(hq:o.quiet=true)(hs:opS C s d id o=some s'):∃x,s'=s.put d x∧∀s2 id2,pJ o.rds s s2→opS C s2 d id2 o=some (s2.put d x):=by
 cases o with
 |mov x =>
  simp only[opS,aC] at hs
  obtain⟨y,h1,rfl⟩:=hs
  exact⟨y,rfl,fun s2 id2 h=>by simp only[opS,cO h (x:=x) (fun t ht=>ht),h1,oms]⟩
 |pick x1 x2 x3 =>
  simp only[opS,aA] at hs
  obtain⟨b,h1,h2⟩:=hs
  split at h2
  ·rename_i hb
   rw[aC] at h2
   obtain⟨y,h3,rfl⟩:=h2
   exact⟨y,rfl,fun s2 id2 h=>by simp only[opS,Lr h (x:=x1) (fun t ht=>by simp[SOp.rds,ht]),cO h (x:=x2) (fun t ht=>by simp[SOp.rds,ht]),h1,h3,oms,obs,if_pos hb]⟩
  ·rename_i hb
   rw[aC] at h2
   obtain⟨y,h3,rfl⟩:=h2
   exact⟨y,rfl,fun s2 id2 h=>by simp only[opS,Lr h (x:=x1) (fun t ht=>by simp[SOp.rds,ht]),cO h (x:=x3) (fun t ht=>by simp[SOp.rds,ht]),h1,h3,oms,obs,if_neg hb]⟩
 |ari b x y =>
  simp only[opS,aA] at hs
  obtain⟨m,h1,k,h2,h3⟩:=hs
  split at h3
  ·rename_i e
   rw[aC] at h3
   obtain⟨z,h4,rfl⟩:=h3
   exact⟨_,rfl,fun s2 id2 h=>by simp only[opS,oT h (x:=x) (fun t ht=>by simp[SOp.rds,ht]),oT h (x:=y) (fun t ht=>by simp[SOp.rds,ht]),h1,h2,obs,if_pos e,h4,oms]⟩
  ·simp at h3
 |cmp b x y =>
  simp only[opS,aA,aC] at hs
  obtain⟨m,h1,k,h2,z,h3,rfl⟩:=hs
  exact⟨_,rfl,fun s2 id2 h=>by simp only[opS,cO h (x:=x) (fun t ht=>by simp[SOp.rds,ht]),cO h (x:=y) (fun t ht=>by simp[SOp.rds,ht]),h1,h2,h3,obs,oms]⟩
 |cmpb b x y =>
  simp only[opS,aA,aC] at hs
  obtain⟨m,h1,k,h2,z,h3,rfl⟩:=hs
  exact⟨_,rfl,fun s2 id2 h=>by simp only[opS,Lr h (x:=x) (fun t ht=>by simp[SOp.rds,ht]),Lr h (x:=y) (fun t ht=>by simp[SOp.rds,ht]),h1,h2,h3,obs,oms]⟩
 |cat x y =>
  simp only[opS,aA] at hs
  obtain⟨m,h1,k,h2,h3⟩:=hs
  split at h3
  ·rename_i e
   simp only[oi] at h3
   subst h3
   exact⟨_,rfl,fun s2 id2 h=>by simp only[opS,Dx h (x:=x) (fun t ht=>by simp[SOp.rds,ht]),Dx h (x:=y) (fun t ht=>by simp[SOp.rds,ht]),h1,h2,obs,if_pos e]⟩
  ·simp at h3
 |neg x =>
  simp only[opS,aC] at hs
  obtain⟨y,h1,rfl⟩:=hs
  exact⟨_,rfl,fun s2 id2 h=>by simp only[opS,oT h (x:=x) (fun t ht=>ht),h1,oms]⟩
 |not x =>
  simp only[opS,aC] at hs
  obtain⟨y,h1,rfl⟩:=hs
  exact⟨_,rfl,fun s2 id2 h=>by simp only[opS,Lr h (x:=x) (fun t ht=>ht),h1,oms]⟩
 |conv k x =>
  simp only[opS,aC] at hs
  obtain⟨y,h1,rfl⟩:=hs
  exact⟨_,rfl,fun s2 id2 h=>by simp only[opS,oT h (x:=x) (fun t ht=>ht),h1,oms]⟩
 |rune x =>
  simp only[opS,aC] at hs
  obtain⟨y,h1,rfl⟩:=hs
  exact⟨_,rfl,fun s2 id2 h=>by simp only[opS,oT h (x:=x) (fun t ht=>ht),h1,oms]⟩
 |idxb f x y =>
  simp only[opS,aA] at hs
  obtain⟨z,h1,m,h2,h3⟩:=hs
  split at h3
  ·rename_i e
   simp only[oi] at h3
   subst h3
   exact⟨_,rfl,fun s2 id2 h=>by simp only[opS,Dx h (x:=x) (fun t ht=>by simp[SOp.rds,ht]),oT h (x:=y) (fun t ht=>by simp[SOp.rds,ht]),h1,h2,obs,if_pos e]⟩
  ·simp at h3
 |bos x =>
  simp only[opS,aA] at hs
  obtain⟨y,h1,h3⟩:=hs
  split at h3
  ·rename_i e
   simp only[oi] at h3
   subst h3
   exact⟨_,rfl,fun s2 id2 h=>by simp only[opS,Dx h (x:=x) (fun t ht=>ht),h1,obs,if_pos e]⟩
  ·simp at h3
 |sob x =>
  simp only[opS,aA] at hs
  obtain⟨y,h1,ns,h2,h3⟩:=hs
  split at h3
  ·simp at h3
  ·rename_i e
   simp only[oi] at h3
   subst h3
   exact⟨_,rfl,fun s2 id2 h=>by simp only[opS,cO h (x:=x) (fun t ht=>ht),h.1,h1,h2,obs,if_neg e]⟩
 |fld off k x =>
  simp only[opS,aA] at hs
  obtain⟨y,h1,h2⟩:=hs
  split at h2
  ·rw[aC] at h2
   obtain⟨z,h3,rfl⟩:=h2
   exact⟨_,rfl,fun s2 id2 h=>by simp only[opS,cO h (x:=x) (fun t ht=>ht),h1,obs,h3,oms]⟩
  ·simp at h2
 |faddr off x =>
  simp only[opS,aA,aC] at hs
  obtain⟨y,h1,z,h2,rfl⟩:=hs
  exact⟨_,rfl,fun s2 id2 h=>by simp only[opS,cO h (x:=x) (fun t ht=>ht),h1,obs,h2,oms]⟩
 |ixa sz x i =>
  simp only[opS,aA,aC] at hs
  obtain⟨y,h1,m,h2,z,h3,rfl⟩:=hs
  exact⟨_,rfl,fun s2 id2 h=>by simp only[opS,cO h (x:=x) (fun t ht=>by simp[SOp.rds,ht]),oT h (x:=i) (fun t ht=>by simp[SOp.rds,ht]),h.1,h1,h2,h3,obs,oms]⟩
 |ixs x i =>
  simp only[opS,aA] at hs
  obtain⟨y,h1,m,h2,h3⟩:=hs
  split at h3
  ·rename_i e
   rw[aC] at h3
   obtain⟨z,h4,rfl⟩:=h3
   exact⟨_,rfl,fun s2 id2 h=>by simp only[opS,Dx h (x:=x) (fun t ht=>by simp[SOp.rds,ht]),oT h (x:=i) (fun t ht=>by simp[SOp.rds,ht]),h1,h2,obs,if_pos e,h4,oms]⟩
  ·simp at h3
 |load k x =>
  simp only[opS,aA,aC] at hs
  obtain⟨y,h1,cs,h2,z,h3,rfl⟩:=hs
  exact⟨_,rfl,fun s2 id2 h=>by simp only[opS,cO h (x:=x) (fun t ht=>ht),h.1,h1,h2,h3,obs,oms]⟩
 |store=>simp[SOp.quiet] at hq
 |box=>simp[SOp.quiet] at hq
 |mm mx x y =>
  simp only[opS,aA] at hs
  obtain⟨m,h1,k,h2,h3⟩:=hs
  split at h3
  ·rename_i e
   simp only[oi] at h3
   subst h3
   exact⟨_,rfl,fun s2 id2 h=>by simp only[opS,oT h (x:=x) (fun t ht=>by simp[SOp.rds,ht]),oT h (x:=y) (fun t ht=>by simp[SOp.rds,ht]),h1,h2,obs,if_pos e]⟩
  ·simp at h3
 |eqa ng n x y =>
  simp only[opS,aA] at hs
  obtain⟨m,h1,k,h2,cs,h3,ds,h4,z,h5,h6⟩:=hs
  split at h6
  case isFalse=>simp at h6
  rename_i e
  simp only[oi] at h6
  subst h6
  exact⟨_,rfl,fun s2 id2 h=>by simp only[opS,cO h (x:=x) (fun t ht=>by simp[SOp.rds,ht]),cO h (x:=y) (fun t ht=>by simp[SOp.rds,ht]),h1,h2,h3,h4,h5,obs,if_pos e]⟩
 |vbox k x =>
  simp only[opS,aA] at hs
  obtain⟨y,h1,cs,h2,h3⟩:=hs
  split at h3
  ·rename_i e
   simp only[oi] at h3
   subst h3
   exact⟨_,rfl,fun s2 id2 h=>by simp only[opS,cO h (x:=x) (fun t ht=>ht),h1,h2,obs,if_pos e]⟩
  ·simp at h3
 |alloc=>simp[SOp.quiet] at hq
 |build zs ps =>
  simp only[opS,aC] at hs
  obtain⟨cs,h1,rfl⟩:=hs
  exact⟨_,rfl,fun s2 id2 h=>by simp only[opS,Vk h (fun t ht=>ht),h1,oms]⟩
 |lit=>simp[SOp.quiet] at hq
 |mk=>simp[SOp.quiet] at hq
 |cutm=>simp[SOp.quiet] at hq
 |clr=>simp[SOp.quiet] at hq
 |cutr sz x lo hi =>
  simp only[opS,aA] at hs
  obtain⟨y,h1,h2⟩:=hs
  split at h2
  ·simp only[aA] at h2
   obtain⟨l,h3,k,h4,h5⟩:=h2
   split at h5
   ·rename_i e
    simp only[oi] at h5
    subst h5
    exact⟨_,rfl,fun s2 id2 h=>by simp only[opS,cO h (x:=x) (fun t ht=>by simp[SOp.rds,ht]),vB h (x:=lo) (fun t ht=>by simp[SOp.rds,ht]),vB h (x:=hi) (fun t ht=>by simp[SOp.rds,ht]),h1,h3,h4,obs,if_pos e]⟩
   ·simp at h5
  ·simp at h2
 |cutS x lo hi =>
  simp only[opS,aA] at hs
  obtain⟨y,h1,l,h3,k,h4,h5⟩:=hs
  split at h5
  ·rename_i e
   simp only[oi] at h5
   subst h5
   exact⟨_,rfl,fun s2 id2 h=>by simp only[opS,Dx h (x:=x) (fun t ht=>by simp[SOp.rds,ht]),vB h (x:=lo) (fun t ht=>by simp[SOp.rds,ht]),vB h (x:=hi) (fun t ht=>by simp[SOp.rds,ht]),h1,h3,h4,obs,if_pos e]⟩
  ·simp at h5
 |len x =>
  simp only[opS,aA,aC] at hs
  obtain⟨y,h1,m,h2,rfl⟩:=hs
  exact⟨_,rfl,fun s2 id2 h=>by simp only[opS,cO h (x:=x) (fun t ht=>ht),h.1,h1,h2,obs,oms]⟩
 |slen x =>
  simp only[opS,aC] at hs
  obtain⟨y,h1,rfl⟩:=hs
  exact⟨_,rfl,fun s2 id2 h=>by simp only[opS,Dx h (x:=x) (fun t ht=>ht),h1,oms]⟩
 |app=>simp[SOp.quiet] at hq
 |fn f caps =>
  simp only[opS,aC] at hs
  obtain⟨y,h1,rfl⟩:=hs
  exact⟨_,rfl,fun s2 id2 h=>by simp only[opS,vW h (xs:=caps) (fun t ht=>ht),h1,oms]⟩
 |callr f xs =>
  simp only[opS,aA] at hs
  obtain⟨as,h1,bs,h2,r,h3,h4⟩:=hs
  split at h4
  ·rename_i e
   simp only[oi] at h4
   subst h4
   exact⟨_,rfl,fun s2 id2 h=>by simp only[opS,vW h (xs:=xs) (fun t ht=>ht),h.1,h1,h2,h3,obs,if_pos e]⟩
  ·simp at h4
 |callu f xs =>
  simp only[opS,aA] at hs
  obtain⟨as,h1,bs,h2,r,h3,h4⟩:=hs
  split at h4
  ·rename_i e
   simp only[oi] at h4
   subst h4
   exact⟨_,rfl,fun s2 id2 h=>by simp only[opS,vW h (xs:=xs) (fun t ht=>ht),h.1,h1,h2,h3,obs,if_pos e]⟩
  ·simp at h4
 |call=>simp[SOp.quiet] at hq
 |calli=>simp[SOp.quiet] at hq
 |callb=>simp[SOp.quiet] at hq
 |ext x i =>
  simp only[opS,aA] at hs
  obtain⟨y,h1,h2⟩:=hs
  split at h2
  ·rw[aC] at h2
   obtain⟨z,h3,rfl⟩:=h2
   exact⟨_,rfl,fun s2 id2 h=>by simp only[opS,cO h (x:=x) (fun t ht=>ht),h1,obs,h3,oms]⟩
  ·simp at h2
 |nck x =>
  simp only[opS,aA,aC] at hs
  obtain⟨y,h1,z,h2,rfl⟩:=hs
  exact⟨_,rfl,fun s2 id2 h=>by simp only[opS,cO h (x:=x) (fun t ht=>ht),h1,h2,obs,oms]⟩
theorem Vq{s s':St}{d:Option Nat}{id:Nat}{o:SOp}(hs:opS C s d id o=some s'):s'.next=s.next∧s'.fr=s.fr:=by
 by_cases hq:o.quiet=true
 ·obtain⟨x,rfl,_⟩:=u6 hq hs
  exact⟨eH ..,dN ..⟩
 ·cases o with
  |store k x y =>
   simp only[opS,aA,aC] at hs
   obtain⟨p,_,q,_,s1,h3,rfl⟩:=hs
   rw[Gb,jK]
   split at h3
   ·exact Vp h3
   ·exact Ia h3
  |box k x =>
   simp only[opS,aA] at hs
   obtain⟨p,_,q,_,h3⟩:=hs
   split at h3
   ·simp only[oi] at h3
    subst h3
    rw[eH,dN];exact⟨rfl,rfl⟩
   ·simp at h3
  |alloc zs =>
   simp only[opS,oi] at hs
   subst hs
   rw[eH,dN];exact⟨rfl,rfl⟩
  |lit sz ps =>
   simp only[opS,aC] at hs
   obtain⟨p,_,rfl⟩:=hs
   rw[eH,dN];exact⟨rfl,rfl⟩
  |mk sz bytes zs m =>
   simp only[opS,aA] at hs
   obtain⟨p,_,h3⟩:=hs
   split at h3
   ·simp only[oi] at h3
    subst h3
    rw[eH,dN];exact⟨rfl,rfl⟩
   ·simp at h3
  |cutm sz x lo hi =>
   simp only[opS,aA] at hs
   obtain⟨p,_,q,_,l,_,m,_,h3⟩:=hs
   split at h3
   ·simp only[oi] at h3
    subst h3
    rw[eH,dN];exact⟨rfl,rfl⟩
   ·simp at h3
  |clr x =>
   simp only[opS] at hs
   split at hs
   ·simp at hs
   ·simp only[aA] at hs
    obtain⟨p,_,q,_,r,_,h3⟩:=hs
    split at h3
    ·rw[aC] at h3
     obtain⟨hh,_,rfl⟩:=h3
     exact⟨rfl,rfl⟩
    ·simp at h3
  |app sz bytes x y =>
   simp only[opS,aA] at hs
   obtain⟨p,_,q,_,l,_,m,_,h3⟩:=hs
   split at h3
   ·simp only[oi] at h3
    subst h3
    rw[eH,dN];exact⟨rfl,rfl⟩
   ·simp at h3
  |call f xs =>
   simp only[opS,aA] at hs
   obtain⟨p,_,q,_,l,_,h3⟩:=hs
   split at h3
   ·exact B2 h3
   ·simp at h3
  |calli f xs =>
   simp only[opS,aA] at hs
   obtain⟨p,_,q,_,l,_,m,_,h3⟩:=hs
   exact B2 (st:={s with env:=qJ s.env}) h3
  |callb f xs bs =>
   simp only[opS,aA] at hs
   obtain⟨p,_,q,_,l,_,m,_,h3⟩:=hs
   split at h3
   ·rw[aA] at h3
    obtain⟨h2,_,h4⟩:=h3
    exact B2 (st:={s with env:=rO q.2.2 s.env}) h4
   ·simp at h3
  |_=>exact absurd rfl hq
theorem Bu{s s':St}{id:Nat}{it:SItem}(hs:itS C s id it=some s'):s'.next=s.next∧s'.fr=s.fr:=by
 unfold itS at hs
 split at hs
 ·exact Vq hs
 ·rw[aA] at hs
  obtain⟨t,_,h2⟩:=hs
  split at h2
  ·exact Vq h2
  ·simp only[oi] at h2
   subst h2
   exact⟨eH ..,dN ..⟩
def dR(P:Program)(nt:Nat)(ops:Array Oper):List Oper→List SItem→Bool
 |[],[]=>true
 |o::os,it::l=>it.chk P nt ops o&&dR P nt ops os l
 |_,_=>false
abbrev Okn(c:Ctx)(st:St)(a:Act)(w:World):Prop:=Ok c st (fun k=>k<st.next) a w
theorem zkf(hC:CallOk c.P C){ops:Array Oper}{Q:Exit→Act→World→Prop}:∀(os:List Oper) (l:List SItem) (ix m:Nat) (st:St) (a:Act) (w:World),(∀k,ops[ix+k]? = os[k]?)→dR c.P c.nt ops os l=true →
  mI C st m l=some st'→Ok c st (fun k=>k<st.next+m) a w→(∀a' w',Okn c st' a' w'→Q .normal a' w')→wpOps c.P ops Q (List.range' ix os.length) a w
 |[],[],ix,m,st,a,w,hi,hc,hs,hok,hQ=>by
  simp only[mI,oi] at hs
  subst hs
  simp only[ln,List.range'_zero,wpOps]
  obtain⟨γ,S,R⟩:=hok
  exact hQ _ _ ⟨γ,S,⟨R.mm,R.os,R.tape,R.output,R.size,R.keep,R.own,R.hd,R.sg,R.s0,R.s00,R.env,R.ids,R.hid,R.dom,R.df,R.sz,R.iso⟩⟩
 |o::os,it::l,ix,m,st,a,w,hi,hc,hs,⟨γ,S,R⟩,hQ=>by
  simp only[dR,bE] at hc
  simp only[mI,aA] at hs
  obtain⟨s1,h1,h2⟩:=hs
  have h0:ops[ix]? = some o:=by simpa using hi 0
  simp only[lc,List.range'_succ]
  rw[wpOps_cons]
  obtain⟨hn1,_⟩:=Bu h1
  refine pM R hc.1 hC (U':=fun k=>k<st.next+(m+32)) (fun _ k h3 h4=>by omega) (fun k h=>by omega) (fun _ k h3 h4=>by omega) h1 h0 ?_
  intro a' w' hok
  refine zkf hC os l (ix+1) (m+32) s1 a' w' (fun k=> ?_) hc.2 h2 (by rw[hn1];exact hok) hQ
  have:=hi (k+1)
  simpa[Nat.add_assoc,Nat.add_comm 1] using this
 |[],_::_,ix,m,st,a,w,hi,hc,hs,_,hQ=>by simp[dR] at hc
 |_::_,[],ix,m,st,a,w,hi,hc,hs,_,hQ=>by simp[dR] at hc
end
def zzt(acc:List Nat):List Edge→Nat
 |[]=>0
 |e::es=>if Region.binds .any e then(zzt acc es ||| 2 ^ e.on) ||| acc.getD e.on 0 else zzt acc es
def zz3:List Oper→List Nat→List Nat
 |[],acc=>acc
 |o::os,acc=>zz3 os (acc++[zzt acc o.after.toList])
def Closed(ops:Array Oper)(D:Nat→Prop):Prop:=∀j o,ops[j]? = some o→D j→∀e∈o.after,Region.binds .any e=true→D e.on
theorem L5{acc:List Nat}{i:Nat}:∀{es:List Edge},(zzt acc es).testBit i=true→∃e∈es,Region.binds .any e=true∧(e.on=i∨(acc.getD e.on 0).testBit i=true)
 |[],h=>by simp[zzt] at h
 |e::es,h=>by
  simp only[zzt] at h
  split at h
  ·rename_i hb
   rw[Nat.testBit_or,Nat.testBit_or,Bool.or_eq_true,Bool.or_eq_true,Nat.testBit_two_pow] at h
   rcases h with (h|h)|h
   ·obtain⟨e',h1,h2⟩:=L5 h
    exact⟨e',List.mem_cons_of_mem _ h1,h2⟩
   ·exact⟨e,by simp,hb,.inl (by simpa using h)⟩
   ·exact⟨e,by simp,hb,.inr h⟩
  ·obtain⟨e',h1,h2⟩:=L5 h
   exact⟨e',List.mem_cons_of_mem _ h1,h2⟩
theorem Jy{ops:Array Oper}{D:Nat→Prop}(hD:Closed ops D):∀(os:List Oper) (acc:List Nat),(∀k,ops[acc.length+k]? = os[k]?)→(∀j i,(acc.getD j 0).testBit i=true→D j→D i)→∀j i,((zz3 os acc).getD j 0).testBit i=true→D j→D i
 |[],acc,_,ha,j,i,h,hj=>ha j i h hj
 |o::os,acc,ho,ha,j,i,h,hj=>by
  simp only[zz3] at h
  refine Jy hD os (acc++[zzt acc o.after.toList]) (fun k=> ?_) (fun j i h hj=> ?_) j i h hj
  ·have:=ho (k+1)
   simpa[Nat.add_assoc,Nat.add_comm 1] using this
  ·rw[List.getD_eq_getElem?_getD,List.getElem?_append] at h
   split at h
   ·exact ha j i (by rw[List.getD_eq_getElem?_getD];exact h) hj
   ·rename_i hlt
    by_cases he:j=acc.length
    ·subst he
     simp only[Nat.sub_self,List.getElem?_cons_zero,Option.getD_some] at h
     obtain⟨e,h1,h2,h3⟩:=L5 h
     have h4:ops[acc.length]? = some o:=by simpa using ho 0
     have h5:=hD _ o h4 hj e (by simpa using h1) h2
     rcases h3 with rfl|h3
     ·exact h5
     ·exact ha _ _ h3 h5
    ·rw[List.getElem?_eq_none (by simp;omega)] at h
     simp at h
def SItem.rds(it:SItem):List Nat:=(match it.g with|some (s,_)=>[s]|none=>[])++it.o.rds
def SItem.tied(x y:SItem):Bool:= !x.o.quiet || !y.o.quiet||(match x.d with|some d=>y.rds.contains d|none=>false)||(match y.d with|some d=>x.rds.contains d|none=>false)
def SItem.unlike(x y:SItem):Bool:=match x.d,y.d with
 |some d,some e=>d != e
 |_,_=>true
def J2(bf:List Nat):Nat→List SItem→List SItem→Bool
 |_,_,[]=>true
 |j,pre,it::l=>(pre.zipIdx.all fun p=>it.unlike p.1&&(!p.1.tied it||(bf.getD j 0).testBit p.2))&&J2 bf (j+1) (pre++[it]) l
def vO:Nat→List Oper→Bool
 |_,[]=>true
 |j,o::os=>(o.after.toList.all fun e=> !Region.binds .any e||decide (e.on<j))&&vO (j+1) os
def zjI(P:Program)(nt:Nat)(ops:Array Oper)(l:List SItem):Bool :=
 P.follows .mixedOrders&&dR P nt ops ops.toList l&&vO 0 ops.toList&&J2 (zz3 ops.toList []) 0 [] l
theorem F2{P:Program}{nt:Nat}{ops:Array Oper}:∀{os:List Oper} {l:List SItem},dR P nt ops os l=true→l.length=os.length∧∀(k:Nat) (o:Oper) (it:SItem),os[k]? = some o→l[k]? = some it→it.chk P nt ops o=true
 |[],[],_=>⟨rfl,fun k o it h=>by simp at h⟩
 |o::os,it::l,h=>by
  simp only[dR,bE] at h
  obtain⟨h1,h2⟩:=F2 h.2
  refine⟨by simp[h1],fun k o' it' ho hit=> ?_⟩
  cases k with
  |zero =>
   simp only[List.getElem?_cons_zero,oi] at ho hit
   subst ho;subst hit
   exact h.1
  |succ k=>exact h2 k o' it' (by simpa using ho) (by simpa using hit)
 |[],_::_,h=>by simp[dR] at h
 |_::_,[],h=>by simp[dR] at h
theorem sE:∀{os:List Oper} {j:Nat},vO j os=true→∀(k:Nat) (o:Oper),os[k]? = some o→∀e∈o.after,Region.binds .any e=true→e.on<j+k
 |[],j,_,k,o,h=>by simp at h
 |o'::os,j,h,k,o,ho=>by
  simp only[vO,bE] at h
  intro e he hb
  cases k with
  |zero =>
   simp only[List.getElem?_cons_zero,oi] at ho
   subst ho
   have:=List.all_eq_true.1 h.1 e (by simpa using he)
   simp only[hb,Bool.not_true,Bool.false_or,zqd] at this
   omega
  |succ k =>
   have:=sE h.2 k o (by simpa using ho) e he hb
   omega
theorem N4{bf:List Nat}:∀{l pre:List SItem},J2 bf pre.length pre l=true→∀(i j:Nat) (x y:SItem),i<j→pre.length≤j→(pre++l)[i]? = some x→(pre++l)[j]? = some y →
  y.unlike x=true∧(x.tied y=true→(bf.getD j 0).testBit i=true)
 |[],pre,_,i,j,x,y,_,h1,_,hy=>by
  rw[zqe,List.getElem?_eq_none h1] at hy
  simp at hy
 |it::l,pre,h,i,j,x,y,hij,hj,hx,hy=>by
  simp only[J2,bE] at h
  by_cases he:j=pre.length
  ·subst he
   rw[List.getElem?_append_right (Nat.le_refl _),Nat.sub_self,List.getElem?_cons_zero,oi] at hy
   subst hy
   rw[List.getElem?_append_left hij] at hx
   have:=List.all_eq_true.1 h.1 (x,i) (by
    rw[List.mem_iff_getElem?]
    exact⟨i,by simp[List.getElem?_zipIdx,hx]⟩)
   simp only[bE,Bool.or_eq_true,Bool.not_eq_true'] at this
   exact⟨this.1,fun ht=>this.2.resolve_left (by simp[ht])⟩
  ·have h2:=h.2
   rw[show pre.length+1=(pre++[it]).length by simp] at h2
   refine N4 (pre:=pre++[it]) h2 i j x y hij (by simp;omega) ?_ ?_
   ·simpa using hx
   ·simpa using hy
section
variable{C:Cl}
theorem H9:∀{l:List SItem} {m:Nat} {s s':St},mI C s m l=some s'→∃T:Nat→St,T 0=s∧(∀k it,l[k]? = some it→itS C (T k) (s.next+m+32*k) it=some (T (k+1)))∧s'={T l.length with next:=s.next+m+32*l.length}
 |[],m,s,s',h=>by
  simp only[mI,oi] at h
  exact⟨fun _=>s,rfl,fun k it h=>by simp at h,h.symm⟩
 |it::l,m,s,s',h=>by
  simp only[mI,aA] at h
  obtain⟨s1,h1,h2⟩:=h
  obtain⟨T,h3,h4,h5⟩:=H9 h2
  obtain⟨hn,_⟩:=Bu h1
  refine⟨fun k=>match k with|0=>s|k+1=>T k,rfl,fun k it' hk=> ?_,?_⟩
  ·cases k with
   |zero =>
    simp only[List.getElem?_cons_zero,oi] at hk
    subst hk
    simp only[h3]
    exact h1
   |succ k =>
    have:=h4 k it' (by simpa using hk)
    rw[hn] at this
    rw[show s.next+m+32*(k+1)=s.next+(m+32)+32*k by omega]
    exact this
  ·rw[h5,hn]
   simp only[lc]
   congr 1
   omega
def St.putO(st:St)(d:Option Nat):Option X→St
 |some x=>st.put d x
 |none=>st.lose d
theorem gA(st:St)(d:Option Nat)(x:Option X):(st.putO d x).heap=st.heap∧(st.putO d x).fr=st.fr∧(st.putO d x).next=st.next:=by
 cases x
 ·exact⟨kE ..,jK ..,Gb ..⟩
 ·exact⟨sI ..,dN ..,eH ..⟩
theorem eQ(st:St)(d:Option Nat)(x:Option X)(t:Nat):(st.putO d x).env t=if d=some t then x else st.env t:=by
 cases d with
 |none=>cases x<;>simp[St.putO,St.put,St.lose]
 |some d =>
  cases x<;>simp only[St.putO,St.put,St.lose,upd,oi]<;>by_cases h:d=t
  ·subst h;simp
  ·simp[h,Ne.symm h]
  ·subst h;simp
  ·simp[h,Ne.symm h]
theorem gC{s s':St}{id:Nat}{it:SItem}(hq:it.o.quiet=true)(hs:itS C s id it=some s'):∃x:Option X,s'=s.putO it.d x∧∀s2 id2,pJ it.rds s s2→itS C s2 id2 it=some (s2.putO it.d x):=by
 unfold itS at hs
 split at hs
 ·rename_i hg
  obtain⟨x,rfl,h2⟩:=u6 hq hs
  refine⟨some x,rfl,fun s2 id2 h=> ?_⟩
  unfold itS
  rw[hg]
  exact h2 s2 id2 ⟨h.1,fun t ht=>h.2 t (by simp[SItem.rds,ht])⟩
 ·rename_i g b hg
  rw[aA] at hs
  obtain⟨t,h1,h2⟩:=hs
  have hen:∀s2,pJ it.rds s s2→s2.env g=s.env g:=fun s2 h=>h.2 g (by simp[SItem.rds,hg])
  split at h2
  ·rename_i e
   obtain⟨x,rfl,h3⟩:=u6 hq h2
   refine⟨some x,rfl,fun s2 id2 h=> ?_⟩
   unfold itS
   rw[hg]
   simp only[hen s2 h,h1,obs,if_pos e]
   exact h3 s2 id2 ⟨h.1,fun t ht=>h.2 t (by simp[SItem.rds,ht])⟩
  ·rename_i e
   simp only[oi] at h2
   subst h2
   refine⟨some (.tup []),rfl,fun s2 id2 h=> ?_⟩
   unfold itS
   rw[hg]
   simp only[hen s2 h,h1,obs,if_neg e]
   rfl
end
section
variable{c:Ctx}{C:Cl}{ops:Array Oper}{l:List SItem}{T:Nat→St}
structure Mid (l:List SItem) (T:Nat→St) (D:Nat→Prop) (p:Nat) (s:St):Prop where
 pre:∀j,j<p→D j
 bar:∀j it,l[j]? = some it→p≤j→D j→it.o.quiet=true
 heap:s.heap=(T p).heap
 fr:s.fr=(T p).fr
 nx:s.next=(T p).next
 dn:∀j it t,l[j]? = some it→p≤j→D j→it.d=some t→s.env t=(T (j+1)).env t
 old:∀t,(∀j it,l[j]? = some it→p≤j→D j→it.d≠some t)→s.env t=(T p).env t
theorem Mid.unique{D D':Nat→Prop}{p:Nat}{s s':St}(h:Mid l T D p s)(h':Mid l T D' p s')(hD:∀j,j<l.length→(D j↔D' j)):s=s':=by
 have he:s.env=s'.env:=funext fun t=>by
  by_cases hx:∃j it,l[j]? = some it∧p≤j∧D j∧it.d=some t
  ·obtain⟨j,it,h1,h2,h3,h4⟩:=hx
   have hlt:=(List.getElem?_eq_some_iff.1 h1).1
   rw[h.dn j it t h1 h2 h3 h4,h'.dn j it t h1 h2 ((hD j hlt).1 h3) h4]
  ·rw[h.old t (fun j it h1 h2 h3 h4=>hx ⟨j,it,h1,h2,h3,h4⟩),h'.old t (fun j it h1 h2 h3 h4=>hx ⟨j,it,h1,h2,(hD j (List.getElem?_eq_some_iff.1 h1).1).2 h3,h4⟩)]
 have h1:=h.heap.trans h'.heap.symm
 have h2:=h.fr.trans h'.fr.symm
 have h3:=h.nx.trans h'.nx.symm
 cases s;cases s'
 simp only at he h1 h2 h3
 subst he;subst h1;subst h2;subst h3
 rfl
theorem Mid.refl(p:Nat):Mid l T (· < p) p (T p) :=
 ⟨fun _ h=>h,fun j it _ h1 h2=>by omega,rfl,rfl,rfl,fun j it t _ h1 h2=>by omega,fun t _=>rfl⟩
variable(hT:∀k it,l[k]? = some it→∃n,itS C (T k) n it=some (T (k+1)))(hun:∀(i j:Nat) (x y:SItem),i<j→l[i]? = some x→l[j]? = some y→y.unlike x=true)
include hun
theorem Mid.step{D:Nat→Prop}{p:Nat}{s:St}(h:Mid l T D p s){i:Nat}{it:SItem}(hi:l[i]? = some it)(hp:p≤i)(hq:it.o.quiet=true){x:Option X}(hx:T (i+1)=(T i).putO it.d x){D':Nat→Prop}(hD':∀j,D' j↔D j∨j=i) :
  Mid l T D' p (s.putO it.d x):=by
 have hput:=gA s it.d x
 refine⟨fun j hj=>(hD' j).2 (.inl (h.pre j hj)),fun j it' h1 h2 h3=> ?_,by rw[hput.1,h.heap],by rw[hput.2.1,h.fr],by rw[hput.2.2,h.nx],fun j it' t h1 h2 h3 h4=> ?_,fun t ht=> ?_⟩
 ·rcases (hD' j).1 h3 with h4|rfl
  ·exact h.bar j it' h1 h2 h4
  ·rw[hi] at h1
   simp only[oi] at h1
   subst h1
   exact hq
 ·rw[eQ]
  by_cases e:j=i
  ·subst e
   rw[hi] at h1
   simp only[oi] at h1
   subst h1
   rw[if_pos h4,hx,eQ,if_pos h4]
  ·have hne:it.d≠some t:=fun h5=>by
    rcases Nat.lt_or_ge i j with hlt|hge
    ·have:=hun i j it it' hlt hi h1
     simp[SItem.unlike,h4,h5] at this
    ·have:=hun j i it' it (by omega) h1 hi
     simp[SItem.unlike,h4,h5] at this
   rw[if_neg hne]
   exact h.dn j it' t h1 h2 (((hD' j).1 h3).resolve_right e) h4
 ·rw[eQ,if_neg (ht i it hi hp ((hD' i).2 (.inr rfl)))]
  exact h.old t (fun j it' h1 h2 h3=>ht j it' h1 h2 ((hD' j).2 (.inl h3)))
include hT
theorem Mid.text{p:Nat}:∀{i:Nat},p≤i→i≤l.length→(∀j it,l[j]? = some it→p≤j→j<i→it.o.quiet=true)→Mid l T (· < i) p (T i)
 |0,hp,_,_=>by
  have:p=0:=by omega
  subst this
  exact Mid.refl 0
 |i+1,hp,hi,hq=>by
  by_cases e:p=i+1
  ·subst e;exact Mid.refl _
  ·have ih:=Mid.text (i:=i) (by omega) (by omega) (fun j it h1 h2 h3=>hq j it h1 h2 (by omega))
   obtain⟨it,hit⟩:∃it,l[i]? = some it:=⟨l[i],List.getElem?_eq_getElem (by omega)⟩
   obtain⟨n,hn⟩:=hT i it hit
   obtain⟨x,hx,_⟩:=gC (hq i it hit (by omega) (by omega)) hn
   have:=Mid.step hun ih hit (by omega) (hq i it hit (by omega) (by omega)) hx (D':=(· < i+1)) (fun j=>by omega)
   rw[←hx] at this
   exact this
end
section
variable{c:Ctx}{C:Cl}{ops:Array Oper}{l:List SItem}{T:Nat→St}
theorem z8M(hC:CallOk c.P C){Q:Exit→Act→World→Prop}{nx:Nat}
  (hT:∀k it,l[k]? = some it→itS C (T k) (nx+32*k) it=some (T (k+1)))
  (hun:∀(i j:Nat) (x y:SItem),i<j→l[i]? = some x→l[j]? = some y→y.unlike x=true)
  (hlen:l.length=ops.size)
  (hchk:∀(k:Nat) (o:Oper) (it:SItem),ops[k]? = some o→l[k]? = some it→it.chk c.P c.nt ops o=true)
  (hedge:∀(k:Nat) (o:Oper),ops[k]? = some o→∀e∈o.after,Region.binds .any e=true→e.on<k)
  (htie:∀(i j:Nat) (x y:SItem),i<j→l[i]? = some x→l[j]? = some y→x.tied y=true→∀D,Closed ops D→D j→D i)
  (hQ:∀a w,Ok c (T l.length) (fun k=>k<nx+32*l.length) a w→Q .normal a w) :
  ∀(fuel:Nat) (listed:Array Bool) (rem:List Nat) (p:Nat) (s:St) (a:Act) (w:World),listed.size=ops.size→rem.Nodup→(∀j,j<ops.size→(listed.getD j true=false↔j∈rem))→rem.length≤fuel →
   Closed ops (fun j=>listed.getD j false=true)→p≤l.length→Mid l T (fun j=>listed.getD j false=true) p s→Ok c s (fun k=>k<nx+32*p) a w→wpAny c.P .any ops Q fuel listed a w:=by
 have hT':∀k it,l[k]? = some it→∃n,itS C (T k) n it=some (T (k+1)):=fun k it h=>⟨_,hT k it h⟩
 intro fuel
 have hdone:∀(listed:Array Bool) (p:Nat) (s:St) (a:Act) (w:World),listed.size=ops.size→(∀j,j<ops.size→listed.getD j false=true)→p≤l.length→Mid l T (fun j=>listed.getD j false=true) p s→Ok c s (fun k=>k<nx+32*p) a w→Q .normal a w:=by
  intro listed p s a w hsz hall hp hm ⟨γ,S,R⟩
  have h1:=Mid.text (C:=C) hT' hun hp (Nat.le_refl _) (fun j it h1 h2 h3=>hm.bar j it h1 h2 (hall j (by omega)))
  have h2:=hm.unique h1 (fun j hj=>⟨fun _=>hj,fun _=>hall j (by omega)⟩)
  subst h2
  exact hQ a w ⟨γ,S,R.mono (fun k hk=>by have:k<nx+32*p:=hk;omega)⟩
 have hready:∀(listed:Array Bool),listed.size=ops.size→Region.ready .any ops listed=[]→∀j,j<ops.size→listed.getD j false=true:=by
  intro listed hsz hr j
  induction j using Nat.strongRecOn with
  |_ j ih =>
   intro hj
   refine Classical.byContradiction fun hne=> ?_
   have hf:listed.getD j true=false:=by
    rw[Array.getD_eq_getD_getElem?,Array.getElem?_eq_getElem (by omega),Option.getD_some] at hne ⊢
    simpa using hne
   have hmem:j∈Region.ready .any ops listed:=by
    rw[mem_ready]
    refine⟨hf,ops[j],Array.getElem?_eq_getElem hj,fun e he hb=> ?_⟩
    have:=hedge j ops[j] (Array.getElem?_eq_getElem hj) e he hb
    exact ih _ this (by omega)
   rw[hr] at hmem
   simp at hmem
 induction fuel with
 |zero =>
  intro listed rem p s a w hsz hnd hrem hfu hcl hp hm hok
  have hnil:rem=[]:=by cases rem with
   |nil=>rfl
   |cons=>simp at hfu
  subst hnil
  have hall:∀j,j<ops.size→listed.getD j false=true:=fun j hj=>by
   have:=(hrem j hj)
   rw[Array.getD_eq_getD_getElem?,Array.getElem?_eq_getElem (by omega),Option.getD_some] at this ⊢
   simpa using this
  refine⟨?_,hdone listed p s a w hsz hall hp hm hok⟩
  cases hr:Region.ready .any ops listed with
  |nil=>rfl
  |cons x xs =>
   have hx:x∈Region.ready .any ops listed:=by rw[hr];simp
   obtain⟨h1,o,ho,_⟩:=mem_ready.1 hx
   have:=(hrem x (Array.getElem?_eq_some_iff.1 ho).1).1 h1
   simp at this
 |succ fuel ih =>
  intro listed rem p s a w hsz hnd hrem hfu hcl hp hm hok
  refine⟨fun hr=>hdone listed p s a w hsz (hready listed hsz hr) hp hm hok,fun i hi=> ?_⟩
  obtain⟨h1,o,ho,h2⟩:=mem_ready.1 hi
  have hisz:=(Array.getElem?_eq_some_iff.1 ho).1
  obtain⟨it,hit⟩:∃it,l[i]? = some it:=⟨l[i]'(by omega),List.getElem?_eq_getElem (by omega)⟩
  have hir:=(hrem i hisz).1 h1
  have hund:¬listed.getD i false=true:=by
   rw[Array.getD_eq_getD_getElem?,Array.getElem?_eq_getElem (by omega),Option.getD_some] at h1 ⊢
   simp[h1]
  have hpi:p≤i:=Nat.le_of_not_lt fun hlt=>hund (hm.pre i hlt)
  have hget:∀j,(listed.setIfInBounds i true).getD j false=true↔listed.getD j false=true∨j=i:=fun j=>by
   by_cases e:i=j
   ·subst e
    simp[hsz,hisz]
   ·rw[getD_set_ne false e]
    simp[Ne.symm e]
  have hcl':Closed ops (fun j=>(listed.setIfInBounds i true).getD j false=true):=fun j oj hj hd e he hb=>by
   rcases (hget j).1 hd with h3|rfl
   ·exact(hget _).2 (.inl (hcl j oj hj h3 e he hb))
   ·rw[ho] at hj
    simp only[oi] at hj
    subst hj
    exact(hget _).2 (.inl (h2 e he hb))
  have hdn:∀j,j<ops.size→(∀D,Closed ops D→D i→D j)→j≠i→listed.getD j false=true:=fun j _ h3 hne=>((hget j).1 (h3 _ hcl' ((hget i).2 (.inr rfl)))).resolve_right hne
  have hnot:∀j,(∀D,Closed ops D→D j→D i)→¬listed.getD j false=true:=fun j h3 h4=>hund (h3 _ hcl h4)
  have hrem':∀j,j<ops.size→((listed.setIfInBounds i true).getD j true=false↔j∈rem.erase i):=fun j hj=>by
   rw[hnd.mem_erase_iff]
   by_cases e:i=j
   ·subst e
    simp[hsz,hisz]
   ·rw[getD_set_ne true e,hrem j hj]
    simp[Ne.symm e]
  have hfu':(rem.erase i).length≤fuel:=by
   rw[List.length_erase_of_mem hir]
   omega
  obtain⟨γ,S,R⟩:=hok
  have hstep:=hT i it hit
  have hbetween:∀j jt,l[j]? = some jt→p≤j→j<i→jt.o.quiet=true:=fun j jt h3 h4 h5=>by
   cases hq:jt.o.quiet with
   |true=>rfl
   |false =>
    have hd:listed.getD j false=true:=hdn j (by omega) (htie j i jt it h5 h3 hit (by simp[SItem.tied,hq])) (by omega)
    rw[hm.bar j jt h3 h4 hd] at hq
    simp at hq
  have htext:=Mid.text (C:=C) hT' hun hpi (by omega) hbetween
  cases hq:it.o.quiet with
  |true =>
   obtain⟨x,hx,hx2⟩:=gC hq hstep
   have hag:pJ it.rds (T i) s:=by
    refine⟨hm.heap.trans htext.heap.symm,fun t ht=> ?_⟩
    by_cases hw:∃j jt,l[j]? = some jt∧p≤j∧j≠i∧jt.d=some t
    ·obtain⟨j,jt,h3,h4,h5,h6⟩:=hw
     rcases Nat.lt_or_ge j i with hlt|hge
     ·have hd:listed.getD j false=true:=hdn j (by omega) (htie j i jt it hlt h3 hit (by simp[SItem.tied,h6,ht])) h5
      rw[hm.dn j jt t h3 h4 hd h6,htext.dn j jt t h3 h4 hlt h6]
     ·have hlt:i<j:=by omega
      have hd:¬listed.getD j false=true:=hnot j (htie i j it jt hlt hit h3 (by simp[SItem.tied,h6,ht]))
      have huniq:∀k kt,l[k]? = some kt→kt.d=some t→k=j:=fun k kt h7 h8=>by
       rcases Nat.lt_trichotomy k j with h9|h9|h9
       ·have:=hun k j kt jt h9 h7 h3
        simp[SItem.unlike,h6,h8] at this
       ·exact h9
       ·have:=hun j k jt kt h9 h3 h7
        simp[SItem.unlike,h6,h8] at this
      rw[hm.old t (fun k kt h7 _ h9 h10=>by rw[huniq k kt h7 h10] at h9;exact hd h9),htext.old t (fun k kt h7 _ h9 h10=>by rw[huniq k kt h7 h10] at h9;omega)]
    ·rw[hm.old t (fun k kt h7 h8 h9 h10=>hw ⟨k,kt,h7,h8,fun e=>by subst e;exact hund h9,h10⟩),htext.old t (fun k kt h7 h8 h9 h10=>hw ⟨k,kt,h7,h8,by omega,h10⟩)]
   have hrun:=hx2 s (nx+32*i) hag
   refine pM R (hchk i o it ho hit) hC (U':=fun k=>k<nx+32*p) (fun h=>by rw[hq] at h;simp at h) (fun k h=>h) (fun h=>by rw[hq] at h;simp at h) hrun ho ?_
   intro a' w' hok'
   exact ih _ (rem.erase i) p _ a' w' (by simp[hsz]) (hnd.erase i) hrem' hfu' hcl' hp (Mid.step hun hm hit hpi hq hx hget) hok'
  |false =>
   have hbefore:∀j,j<i→listed.getD j false=true:=fun j hj=>by
    obtain⟨jt,hjt⟩:∃jt,l[j]? = some jt:=⟨l[j]'(by omega),List.getElem?_eq_getElem (by omega)⟩
    exact hdn j (by omega) (htie j i jt it hj hjt hit (by simp[SItem.tied,hq])) (by omega)
   have hafter:∀j,i<j→j<l.length→¬listed.getD j false=true:=fun j hj hjl=>by
    obtain⟨jt,hjt⟩:∃jt,l[j]? = some jt:=⟨l[j],List.getElem?_eq_getElem hjl⟩
    exact hnot j (htie i j it jt hj hit hjt (by simp[SItem.tied,hq]))
   have hs:s=T i:=hm.unique htext (fun j hj=>⟨fun h3=>by
    rcases Nat.lt_trichotomy j i with h4|h4|h4
    ·exact h4
    ·subst h4;exact absurd h3 hund
    ·exact absurd h3 (hafter j h4 hj),fun h3=>hbefore j h3⟩)
   subst hs
   refine pM R (hchk i o it ho hit) hC (U':=fun k=>k<nx+32*(i+1)) (fun _ k h3 h4=>by omega) (fun k h=>by omega) (fun _ k h3 h4=>by omega) hstep ho ?_
   intro a' w' hok'
   refine ih _ (rem.erase i) (i+1) _ a' w' (by simp[hsz]) (hnd.erase i) hrem' hfu' hcl' (by omega) ?_ hok'
   refine⟨fun j hj=>(hget j).2 ?_,fun j jt h3 h4 h5=> ?_,rfl,rfl,rfl,fun j jt t h3 h4 h5=> ?_,fun t _=>rfl⟩
   ·rcases Nat.lt_or_ge j i with h|h
    ·exact .inl (hbefore j h)
    ·exact .inr (by omega)
   ·rcases (hget j).1 h5 with h6|h6
    ·exact absurd h6 (hafter j (by omega) (List.getElem?_eq_some_iff.1 h3).1)
    ·omega
   ·rcases (hget j).1 h5 with h6|h6
    ·exact absurd h6 (hafter j (by omega) (List.getElem?_eq_some_iff.1 h3).1)
    ·omega
theorem zzN{st st':St}{a:Act}{w:World}(hC:CallOk c.P C)(hc:zjI c.P c.nt ops l=true)(hs:mI C st 0 l=some st')(hok:Okn c st a w){Q:Exit→Act→World→Prop}(hQ:∀a' w',Okn c st' a' w'→Q .normal a' w'){rid:Nat} :
  (Code.region rid ops true).wp c.P Q a w:=by
 unfold zjI at hc
 simp only[bE] at hc
 obtain⟨⟨⟨h1,h2⟩,h3⟩,h4⟩:=hc
 obtain⟨hlen,hchk⟩:=F2 h2
 simp only[Array.length_toList] at hlen
 have hgl:∀k:Nat,ops.toList[k]? = ops[k]? := fun k=>Array.getElem?_toList
 obtain⟨T,hT0,hT,hst⟩:=H9 hs
 have hties:=N4 (pre:=[]) h4
 simp only[zqf,ln,Nat.zero_le,forall_const] at hties
 refine wp_region_any h1 ?_
 obtain⟨γ,S,R⟩:=hok
 refine z8M (T:=T) (nx:=st.next) (l:=l) hC (fun k it hk=>by simpa using hT k it hk) (fun i j x y hij hx hy=>(hties i j x y hij hx hy).1) hlen (fun k o it ho hit=>hchk k o it (by rw[hgl];exact ho) hit)
  (fun k o ho e he hb=>by simpa using sE h3 k o (by rw[hgl];exact ho) e he hb) (fun i j x y hij hx hy ht D hD hj=> ?_) (fun a' w' hok'=> ?_)
  ops.size (Array.replicate ops.size false) (List.range ops.size) 0 st a _ (by simp) List.nodup_range (fun j hj=>by simp[hj]) (by simp) (fun j o hj h=> ?_) (Nat.zero_le _) ?_ ⟨γ,S,(R.drew).mono (fun k hk=>by simpa using hk)⟩
 ·exact Jy hD ops.toList [] (fun k=>by simp) (fun j i h=>by simp at h) j i ((hties i j x y hij hx hy).2 ht) hj
 ·refine hQ a' w' ?_
  rw[hst]
  obtain⟨γ',S',R'⟩:=hok'
  exact⟨γ',S',⟨R'.mm,R'.os,R'.tape,R'.output,R'.size,R'.keep,R'.own,R'.hd,R'.sg,R'.s0,R'.s00,R'.env,fun t x h=>by simpa using R'.ids t x h,fun id d h=>by simpa using R'.hid id d h,R'.dom,R'.df,R'.sz,R'.iso⟩⟩
 ·by_cases h5:j<ops.size<;>simp[h5] at h
 ·rw[←hT0]
  refine⟨fun j h=>by omega,fun j it hj _ h=> ?_,rfl,rfl,rfl,fun j it t hj _ h=> ?_,fun t _=>rfl⟩
  ·by_cases h5:j<ops.size<;>simp[h5] at h
  ·by_cases h5:j<ops.size<;>simp[h5] at h
end
end Go.Ev
