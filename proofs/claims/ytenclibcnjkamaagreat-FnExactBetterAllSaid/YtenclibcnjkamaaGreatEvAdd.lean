import Derived.Test.YtenclibcnjkamaaGreatEvAny
set_option linter.all false
namespace Go.Ev
def Fr(J:Id)(x:X):Prop:=x.allp fun id _=>id≠J
def Frs(J:Id)(xs:List X):Prop:=aR (fun id _=>id≠J) xs
theorem xN{κ α:Type}[DecidableEq κ](f:κ→Option α){i j:κ}(x y:Option α)(h:i≠j):upd (upd f i x) j y=upd (upd f j y) i x:=by
 funext k
 simp only[upd]
 split
 ·rename_i e;subst e;rw[if_neg (Ne.symm h)]
 ·rfl
section
variable{h:Heap}{J id:Id}{r:D}{p:Path}
abbrev pl(J:Id)(r:D)(h:Heap):Heap:=upd h J (some r)
theorem z9X(hi:id≠J):(pl J r h).nav id p=h.nav id p:=by simp only[pl,Heap.nav,upd,if_neg hi]
theorem Ea(hi:id≠J):(pl J r h).row id p=h.row id p:=by simp only[Heap.row,z9X hi]
theorem z8o(hi:id≠J){x:D}:(pl J r h).put id p x=(h.put id p x).map (pl J r):=by
 simp only[pl,Heap.put,l6,if_neg hi]
 cases h id with
 |none=>rfl
 |some d =>
  simp only[obs,Option.map_map]
  cases d.put p x with
  |none=>rfl
  |some d'=>simp only[oms,Function.comp,xN h _ _ hi]
def plA{α:Type}(J:Id)(r:D)(a:α×Heap):α×Heap:=(a.1,pl J r a.2)
theorem T3(hi:id≠J):(pl J r h).take id p=(h.take id p).map (plA J r):=by
 cases p with
 |nil =>
  simp only[Heap.take,Ea hi,Option.map_map]
  cases h.row id [] with
  |none=>rfl
  |some x=>simp only[oms,Function.comp,plA,pl,xN h _ _ hi]
 |cons c p =>
  simp only[Heap.take,Ea hi,z8o hi]
  cases h.row id (c::p) with
  |none=>rfl
  |some x =>
   simp only[obs,Option.map_map]
   cases h.put id (c::p) .u<;>rfl
theorem zQw{x:X}(hx:Fr J x):iG (pl J r h) x=(iG h x).map (plA J r):=by
 unfold iG
 split<;>first|rfl|exact T3 hx
theorem Kr:∀{xs:List X} {h:Heap},Frs J xs→iZ (pl J r h) xs=(iZ h xs).map (plA J r)
 |[],_,_=>rfl
 |x::xs,h,hx=>by
  simp only[iZ,zQw hx.1]
  cases iG h x with
  |none=>rfl
  |some a =>
   simp only[oms,obs,plA,Kr (xs:=xs) hx.2,Option.map_map]
   cases iZ a.2 xs<;>rfl
theorem Vg{x:X}(hx:Fr J x):Frs J x.cells:=by
 unfold X.cells
 split
 ·exact hx
 ·exact⟨hx,trivial⟩
theorem Wq{x:X}(hx:Fr J x):kY (pl J r h) x=kY h x:=by
 unfold kY
 split<;>first|rfl|rw[Ea hx]
theorem Wv:∀{xs:List X},Frs J xs→uR (pl J r h) xs=uR h xs
 |[],_=>rfl
 |x::xs,hx=>by simp only[uR,Wq hx.1,Wv (xs:=xs) hx.2]
theorem zXe{x:X}(hx:Fr J x):Ag (pl J r h) x=Ag h x:=by
 unfold Ag
 split
 ·rw[Wv hx]
 ·exact Wq hx
theorem Fe:∀{xs:List X},Frs J xs→kV (pl J r h) xs=kV h xs
 |[],_=>rfl
 |x::xs,hx=>by simp only[kV,zXe hx.1,Fe (xs:=xs) hx.2]
theorem zYU{x:X}(hx:Fr J x):Pf (pl J r h) x=Pf h x:=by
 unfold Pf
 split<;>first|rfl|rw[Ea hx]
theorem zXx{x:X}{sz:Nat}{n:Int}(hx:Fr J x):Po (pl J r h) sz n x=Po h sz n x:=by
 unfold Po
 split<;>first|rfl|rw[Ea hx]
theorem zyl{x:X}(hx:Fr J x):Ak (pl J r h) x=Ak h x:=by
 unfold Ak
 split<;>first|rfl|rw[Ea hx]
theorem zQB{x:X}{n:Nat}(hx:Fr J x):oN (pl J r h) n x=oN h n x:=by
 unfold oN
 split<;>first|rfl|rw[Ea hx]
theorem zyH{x:X}(hx:Fr J x):pD (pl J r h) x=(pD h x).map (plA J r):=by
 unfold pD
 split
 ·rfl
 ·rfl
 ·rename_i id p
  rw[T3 hx]
  cases h.take id p with
  |none=>rfl
  |some a =>
   simp only[oms,obs,plA]
   cases a.1.rowOf<;>rfl
 ·rfl
theorem zqj{x:X}{sz:Nat}(hx:Fr J x):i7 (pl J r h) sz x=(i7 h sz x).map (plA J r):=by
 unfold i7
 split
 ·rfl
 ·rename_i id p
  rw[T3 hx]
  cases h.take id p with
  |none=>rfl
  |some a =>
   simp only[oms,obs,plA]
   cases a.1.rowOf with
   |none=>rfl
   |some b =>
    simp only[obs]
    split<;>rfl
 ·rfl
theorem zqY{x:X}(hi:id≠J):jT (pl J r h) id x=plA J r (jT h id x):=by
 unfold jT
 split
 ·simp only[plA,pl,xN h _ _ hi]
 ·rfl
theorem zq6:∀{xs:List X} {h:Heap} {id:Id},(∀k,k<xs.length→(id.1,id.2+k)≠J)→vR (pl J r h) id xs=plA J r (vR h id xs)
 |[],_,_,_=>rfl
 |x::xs,h,id,hi=>by
  have h0:id≠J:=hi 0 (by simp)
  have h1:=fun h=>zq6 (xs:=xs) (h:=h) (id:=(id.1,id.2+1)) (fun k hk=>by have:=hi (k+1) (by simp;omega);rwa [Nat.add_comm k 1,←Nat.add_assoc] at this)
  simp only[vR,zqY h0,plA,h1]
theorem zqz{x:X}(hi:∀k,k<x.cells.length→(id.1,id.2+k)≠J):mG (pl J r h) id x=plA J r (mG h id x):=by
 unfold mG
 split
 ·rename_i cs
  rw[zq6 (xs:=cs) (fun k hk=>hi k hk)];rfl
 ·rename_i hx
  refine zqY (hi 0 ?_)
  unfold X.cells
  split
  ·rename_i cs;exact absurd rfl (hx cs)
  ·simp
theorem zqn:∀{xs:List X} {h:Heap} {id:Id},(∀k,k<(xs.map fun x=>x.cells.length).sum→(id.1,id.2+k)≠J)→vC (pl J r h) id xs=plA J r (vC h id xs)
 |[],_,_,_=>rfl
 |x::xs,h,id,hi=>by
  simp only[mc,List.sum_cons] at hi
  have h1:=fun h=>zqn (xs:=xs) (h:=h) (id:=(id.1,id.2+x.cells.length)) (fun k hk=>by have:=hi (x.cells.length+k) (by omega);rwa [←Nat.add_assoc] at this)
  simp only[vC,zqz (x:=x) (h:=h) (id:=id) (fun k hk=>hi k (by omega)),plA,h1]
theorem zXy{x:X}(hi:∀k,k<x.ncells→(id.1,id.2+k)≠J):vF (pl J r h) id x=plA J r (vF h id x):=by
 unfold vF
 unfold X.ncells at hi
 split
 ·rename_i cs
  rw[zqn (xs:=cs) (fun k hk=>hi k hk)];rfl
 ·rename_i hx
  split at hi
  ·rename_i cs;exact absurd rfl (hx cs)
  ·exact zqz hi
end
def St.plus(s:St)(J:Id)(r:D)(e:Nat)(v:X):St:={s with heap:=pl J r s.heap,env:=upd s.env e (some v)}
section
variable{C:Cl}{s s':St}{J:Id}{r:D}{e:Nat}{v:X}{d:Option Nat}{id:Nat}
theorem aK{x:X}(hd:d≠some e):(s.plus J r e v).put d x=(s.put d x).plus J r e v:=by
 cases d with
 |none=>rfl
 |some d=>simp only[St.put,St.plus,xN s.env (i:=e) (j:=d) _ _ (fun h=>hd (by rw[h]))]
theorem uZ{h:Heap}:(s.plus J r e v).with (pl J r h)=(s.with h).plus J r e v:=rfl
theorem bW{x:O}(he:e∉x.rd):rdO (s.plus J r e v) x=rdO s x:=by
 cases x with
 |t n =>
  have:n≠e:=fun h=>he (by simp[O.rd,h])
  simp only[rdO,St.plus,upd,if_neg this]
 |_=>rfl
theorem iB{x:O}(he:e∉x.rd):rdI (s.plus J r e v) x=rdI s x:=by unfold rdI;rw[bW he]
theorem Fg{x:O}(he:e∉x.rd):rdB (s.plus J r e v) x=rdB s x:=by unfold rdB;rw[bW he]
theorem qM{x:O}(he:e∉x.rd):rdS (s.plus J r e v) x=rdS s x:=by unfold rdS;rw[bW he]
theorem u9:∀{xs:List O},e∉rG xs→mF (s.plus J r e v) xs=mF s xs
 |[],_=>rfl
 |x::xs,he=>by
  simp only[rG,List.mem_append,not_or] at he
  simp only[mF,bW he.1,u9 (xs:=xs) he.2]
theorem Nb:∀{ps:List (Nat×Nat×O)} {cs:List X},e∉rG (ps.map fun p=>p.2.2)→mS (s.plus J r e v) cs ps=mS s cs ps
 |[],_,_=>rfl
 |(off,n,o)::ps,cs,he=>by
  simp only[mc,rG,List.mem_append,not_or] at he
  simp only[mS,bW he.1,Nb (ps:=ps) he.2]
theorem wH{k:Int}{x:Option O}(he:e∉Tt x):bN (s.plus J r e v) k x=bN s k x:=by
 cases x with
 |none=>rfl
 |some x=>simp only[bN,iB (x:=x) he]
abbrev sC(J:Id)(s:St):Prop:=∀t x,s.env t=some x→Fr J x
theorem hY(hF:sC J s){o:O}{x:X}(h:rdO s o=some x):Fr J x:=by
 cases o with
 |t n=>exact hF n x h
 |_=>simp only[rdO,oi] at h;subst h;trivial
theorem Fq(hF:sC J s):∀{os:List O} {xs:List X},mF s os=some xs→Frs J xs
 |[],xs,h=>by simp only[mF,oi] at h;subst h;trivial
 |o::os,xs,h=>by
  simp only[mF,aA,aC] at h
  obtain⟨a,h1,as,h2,rfl⟩:=h
  exact⟨hY hF h1,Fq hF h2⟩
theorem E1(hF:sC J s){sz:Nat}:∀{os:List O} {m:Heap},e∉rG os→eS (s.plus J r e v) sz (pl J r m) os=(eS s sz m os).map (plA J r)
 |[],_,_=>rfl
 |o::os,m,he=>by
  simp only[rG,List.mem_append,not_or] at he
  simp only[eS,bW he.1]
  cases hx:rdO s o with
  |none=>rfl
  |some x =>
   simp only[obs,Kr (Vg (hY hF hx))]
   cases iZ m x.cells with
   |none=>rfl
   |some a =>
    simp only[oms,obs,plA]
    split
    ·rw[E1 hF he.2]
     cases eS s sz a.2 os<;>rfl
    ·rfl
def SOp.calm:SOp→Bool
 |.store .. => false
 |.cutm .. => false
 |.clr .. => false
 |.calli .. => false
 |.callb .. => false
 |_=>true
theorem Xh{o:SOp}(hk:o.calm=true)(hF:sC J s)(he:e∉o.rds)(hd:d≠some e)(hJ:∀k,k<32→(s.fr,id+k)≠J)(hs:opS C s d id o=some s'):opS C (s.plus J r e v) d id o=some (s'.plus J r e v):=by
 have hJ0:(s.fr,id)≠J:=hJ 0 (by omega)
 cases o<;>simp only[SOp.rds,List.mem_append,not_or] at he<;>try(simp only[SOp.calm,Bool.false_eq_true] at hk)
 case mov x =>
  have E:opS C (s.plus J r e v) d id (.mov x)=(opS C s d id (.mov x)).map (fun t=>t.plus J r e v):=by
   simp only[opS,bW he,Option.map_bind,Option.map_map,Function.comp_def,aK hd]
   repeat'(first|rfl|exact aK hd|exact congrArg some (aK hd)|(congr 1;funext _)|split|simp only[Option.map_map,Option.map_bind,Function.comp_def,aK hd,oms,Option.map_none])
  rw[E,hs];rfl
 case pick c a b =>
  have E:opS C (s.plus J r e v) d id (.pick c a b)=(opS C s d id (.pick c a b)).map (fun t=>t.plus J r e v):=by
   simp only[opS,Fg he.1.1,bW he.1.2,bW he.2,Option.map_bind,Option.map_map,Function.comp_def,aK hd]
   repeat'(first|rfl|exact aK hd|exact congrArg some (aK hd)|(congr 1;funext _)|split|simp only[Option.map_map,Option.map_bind,Function.comp_def,aK hd,oms,Option.map_none])
  rw[E,hs];rfl
 case ari b x y =>
  have E:opS C (s.plus J r e v) d id (.ari b x y)=(opS C s d id (.ari b x y)).map (fun t=>t.plus J r e v):=by
   simp only[opS,iB he.1,iB he.2,Option.map_bind,Option.map_map,Function.comp_def,aK hd]
   repeat'(first|rfl|exact aK hd|exact congrArg some (aK hd)|(congr 1;funext _)|split|simp only[Option.map_map,Option.map_bind,Function.comp_def,aK hd,oms,Option.map_none])
  rw[E,hs];rfl
 case cmp b x y =>
  have E:opS C (s.plus J r e v) d id (.cmp b x y)=(opS C s d id (.cmp b x y)).map (fun t=>t.plus J r e v):=by
   simp only[opS,bW he.1,bW he.2,Option.map_bind,Option.map_map,Function.comp_def,aK hd]
   repeat'(first|rfl|exact aK hd|exact congrArg some (aK hd)|(congr 1;funext _)|split|simp only[Option.map_map,Option.map_bind,Function.comp_def,aK hd,oms,Option.map_none])
  rw[E,hs];rfl
 case cmpb b x y =>
  have E:opS C (s.plus J r e v) d id (.cmpb b x y)=(opS C s d id (.cmpb b x y)).map (fun t=>t.plus J r e v):=by
   simp only[opS,Fg he.1,Fg he.2,Option.map_bind,Option.map_map,Function.comp_def,aK hd]
   repeat'(first|rfl|exact aK hd|exact congrArg some (aK hd)|(congr 1;funext _)|split|simp only[Option.map_map,Option.map_bind,Function.comp_def,aK hd,oms,Option.map_none])
  rw[E,hs];rfl
 case cat x y =>
  have E:opS C (s.plus J r e v) d id (.cat x y)=(opS C s d id (.cat x y)).map (fun t=>t.plus J r e v):=by
   simp only[opS,qM he.1,qM he.2,Option.map_bind,Option.map_map,Function.comp_def,aK hd]
   repeat'(first|rfl|exact aK hd|exact congrArg some (aK hd)|(congr 1;funext _)|split|simp only[Option.map_map,Option.map_bind,Function.comp_def,aK hd,oms,Option.map_none])
  rw[E,hs];rfl
 case neg x =>
  have E:opS C (s.plus J r e v) d id (.neg x)=(opS C s d id (.neg x)).map (fun t=>t.plus J r e v):=by
   simp only[opS,iB he,Option.map_bind,Option.map_map,Function.comp_def,aK hd]
   repeat'(first|rfl|exact aK hd|exact congrArg some (aK hd)|(congr 1;funext _)|split|simp only[Option.map_map,Option.map_bind,Function.comp_def,aK hd,oms,Option.map_none])
  rw[E,hs];rfl
 case not x =>
  have E:opS C (s.plus J r e v) d id (.not x)=(opS C s d id (.not x)).map (fun t=>t.plus J r e v):=by
   simp only[opS,Fg he,Option.map_bind,Option.map_map,Function.comp_def,aK hd]
   repeat'(first|rfl|exact aK hd|exact congrArg some (aK hd)|(congr 1;funext _)|split|simp only[Option.map_map,Option.map_bind,Function.comp_def,aK hd,oms,Option.map_none])
  rw[E,hs];rfl
 case conv k x =>
  have E:opS C (s.plus J r e v) d id (.conv k x)=(opS C s d id (.conv k x)).map (fun t=>t.plus J r e v):=by
   simp only[opS,iB he,Option.map_bind,Option.map_map,Function.comp_def,aK hd]
   repeat'(first|rfl|exact aK hd|exact congrArg some (aK hd)|(congr 1;funext _)|split|simp only[Option.map_map,Option.map_bind,Function.comp_def,aK hd,oms,Option.map_none])
  rw[E,hs];rfl
 case rune x =>
  have E:opS C (s.plus J r e v) d id (.rune x)=(opS C s d id (.rune x)).map (fun t=>t.plus J r e v):=by
   simp only[opS,iB he,Option.map_bind,Option.map_map,Function.comp_def,aK hd]
   repeat'(first|rfl|exact aK hd|exact congrArg some (aK hd)|(congr 1;funext _)|split|simp only[Option.map_map,Option.map_bind,Function.comp_def,aK hd,oms,Option.map_none])
  rw[E,hs];rfl
 case bos x =>
  have E:opS C (s.plus J r e v) d id (.bos x)=(opS C s d id (.bos x)).map (fun t=>t.plus J r e v):=by
   simp only[opS,qM he,Option.map_bind,Option.map_map,Function.comp_def,aK hd]
   repeat'(first|rfl|exact aK hd|exact congrArg some (aK hd)|(congr 1;funext _)|split|simp only[Option.map_map,Option.map_bind,Function.comp_def,aK hd,oms,Option.map_none])
  rw[E,hs];rfl
 case idxb f x y =>
  have E:opS C (s.plus J r e v) d id (.idxb f x y)=(opS C s d id (.idxb f x y)).map (fun t=>t.plus J r e v):=by
   simp only[opS,qM he.1,iB he.2,Option.map_bind,Option.map_map,Function.comp_def,aK hd]
   repeat'(first|rfl|exact aK hd|exact congrArg some (aK hd)|(congr 1;funext _)|split|simp only[Option.map_map,Option.map_bind,Function.comp_def,aK hd,oms,Option.map_none])
  rw[E,hs];rfl
 case fld off n x =>
  have E:opS C (s.plus J r e v) d id (.fld off n x)=(opS C s d id (.fld off n x)).map (fun t=>t.plus J r e v):=by
   simp only[opS,bW he,Option.map_bind,Option.map_map,Function.comp_def,aK hd]
   repeat'(first|rfl|exact aK hd|exact congrArg some (aK hd)|(congr 1;funext _)|split|simp only[Option.map_map,Option.map_bind,Function.comp_def,aK hd,oms,Option.map_none])
  rw[E,hs];rfl
 case faddr off x =>
  have E:opS C (s.plus J r e v) d id (.faddr off x)=(opS C s d id (.faddr off x)).map (fun t=>t.plus J r e v):=by
   simp only[opS,bW he,Option.map_bind,Option.map_map,Function.comp_def,aK hd]
   repeat'(first|rfl|exact aK hd|exact congrArg some (aK hd)|(congr 1;funext _)|split|simp only[Option.map_map,Option.map_bind,Function.comp_def,aK hd,oms,Option.map_none])
  rw[E,hs];rfl
 case ixs x i =>
  have E:opS C (s.plus J r e v) d id (.ixs x i)=(opS C s d id (.ixs x i)).map (fun t=>t.plus J r e v):=by
   simp only[opS,qM he.1,iB he.2,Option.map_bind,Option.map_map,Function.comp_def,aK hd]
   repeat'(first|rfl|exact aK hd|exact congrArg some (aK hd)|(congr 1;funext _)|split|simp only[Option.map_map,Option.map_bind,Function.comp_def,aK hd,oms,Option.map_none])
  rw[E,hs];rfl
 case mm mx x y =>
  have E:opS C (s.plus J r e v) d id (.mm mx x y)=(opS C s d id (.mm mx x y)).map (fun t=>t.plus J r e v):=by
   simp only[opS,iB he.1,iB he.2,Option.map_bind,Option.map_map,Function.comp_def,aK hd]
   repeat'(first|rfl|exact aK hd|exact congrArg some (aK hd)|(congr 1;funext _)|split|simp only[Option.map_map,Option.map_bind,Function.comp_def,aK hd,oms,Option.map_none])
  rw[E,hs];rfl
 case eqa ng k x y =>
  have E:opS C (s.plus J r e v) d id (.eqa ng k x y)=(opS C s d id (.eqa ng k x y)).map (fun t=>t.plus J r e v):=by
   simp only[opS,bW he.1,bW he.2,Option.map_bind,Option.map_map,Function.comp_def,aK hd]
   repeat'(first|rfl|exact aK hd|exact congrArg some (aK hd)|(congr 1;funext _)|split|simp only[Option.map_map,Option.map_bind,Function.comp_def,aK hd,oms,Option.map_none])
  rw[E,hs];rfl
 case vbox n x =>
  have E:opS C (s.plus J r e v) d id (.vbox n x)=(opS C s d id (.vbox n x)).map (fun t=>t.plus J r e v):=by
   simp only[opS,bW he,Option.map_bind,Option.map_map,Function.comp_def,aK hd]
   repeat'(first|rfl|exact aK hd|exact congrArg some (aK hd)|(congr 1;funext _)|split|simp only[Option.map_map,Option.map_bind,Function.comp_def,aK hd,oms,Option.map_none])
  rw[E,hs];rfl
 case build zs ps =>
  have E:opS C (s.plus J r e v) d id (.build zs ps)=(opS C s d id (.build zs ps)).map (fun t=>t.plus J r e v):=by
   simp only[opS,Nb he,Option.map_bind,Option.map_map,Function.comp_def,aK hd]
   repeat'(first|rfl|exact aK hd|exact congrArg some (aK hd)|(congr 1;funext _)|split|simp only[Option.map_map,Option.map_bind,Function.comp_def,aK hd,oms,Option.map_none])
  rw[E,hs];rfl
 case cutr sz x lo hi =>
  have E:opS C (s.plus J r e v) d id (.cutr sz x lo hi)=(opS C s d id (.cutr sz x lo hi)).map (fun t=>t.plus J r e v):=by
   simp only[opS,bW he.1.1,wH he.1.2,wH he.2,Option.map_bind,Option.map_map,Function.comp_def,aK hd]
   repeat'(first|rfl|exact aK hd|exact congrArg some (aK hd)|(congr 1;funext _)|split|simp only[Option.map_map,Option.map_bind,Function.comp_def,aK hd,oms,Option.map_none])
  rw[E,hs];rfl
 case cutS x lo hi =>
  have E:opS C (s.plus J r e v) d id (.cutS x lo hi)=(opS C s d id (.cutS x lo hi)).map (fun t=>t.plus J r e v):=by
   simp only[opS,qM he.1.1,wH he.1.2,wH he.2,Option.map_bind,Option.map_map,Function.comp_def,aK hd]
   repeat'(first|rfl|exact aK hd|exact congrArg some (aK hd)|(congr 1;funext _)|split|simp only[Option.map_map,Option.map_bind,Function.comp_def,aK hd,oms,Option.map_none])
  rw[E,hs];rfl
 case slen x =>
  have E:opS C (s.plus J r e v) d id (.slen x)=(opS C s d id (.slen x)).map (fun t=>t.plus J r e v):=by
   simp only[opS,qM he,Option.map_bind,Option.map_map,Function.comp_def,aK hd]
   repeat'(first|rfl|exact aK hd|exact congrArg some (aK hd)|(congr 1;funext _)|split|simp only[Option.map_map,Option.map_bind,Function.comp_def,aK hd,oms,Option.map_none])
  rw[E,hs];rfl
 case fn f xs =>
  have E:opS C (s.plus J r e v) d id (.fn f xs)=(opS C s d id (.fn f xs)).map (fun t=>t.plus J r e v):=by
   simp only[opS,u9 he,Option.map_bind,Option.map_map,Function.comp_def,aK hd]
   repeat'(first|rfl|exact aK hd|exact congrArg some (aK hd)|(congr 1;funext _)|split|simp only[Option.map_map,Option.map_bind,Function.comp_def,aK hd,oms,Option.map_none])
  rw[E,hs];rfl
 case ext x i =>
  have E:opS C (s.plus J r e v) d id (.ext x i)=(opS C s d id (.ext x i)).map (fun t=>t.plus J r e v):=by
   simp only[opS,bW he,Option.map_bind,Option.map_map,Function.comp_def,aK hd]
   repeat'(first|rfl|exact aK hd|exact congrArg some (aK hd)|(congr 1;funext _)|split|simp only[Option.map_map,Option.map_bind,Function.comp_def,aK hd,oms,Option.map_none])
  rw[E,hs];rfl
 case nck x =>
  have E:opS C (s.plus J r e v) d id (.nck x)=(opS C s d id (.nck x)).map (fun t=>t.plus J r e v):=by
   simp only[opS,bW he,Option.map_bind,Option.map_map,Function.comp_def,aK hd]
   repeat'(first|rfl|exact aK hd|exact congrArg some (aK hd)|(congr 1;funext _)|split|simp only[Option.map_map,Option.map_bind,Function.comp_def,aK hd,oms,Option.map_none])
  rw[E,hs];rfl
 case alloc zs=>simp only[opS,oi] at hs ⊢;subst hs;rw[←aK hd,←uZ];simp only[St.plus,pl,xN s.heap _ _ hJ0]
 case sob x =>
  simp only[opS,aA] at hs
  obtain⟨y,h1,ns,h2,h3⟩:=hs
  split at h3
  ·simp at h3
  ·rename_i hn
   simp only[oi] at h3
   subst h3
   simp only[opS,bW he,h1,obs]
   rw[show(s.plus J r e v).heap=pl J r s.heap from rfl,zyl (hY hF h1),h2,obs,if_neg hn,aK hd]
 case ixa sz x i =>
  simp only[opS,aA,aC] at hs
  obtain⟨y,h1,m,h2,z,h3,rfl⟩:=hs
  simp only[opS,bW he.1,iB he.2,h1,h2,obs]
  rw[show(s.plus J r e v).heap=pl J r s.heap from rfl,zXx (hY hF h1),h3,oms,aK hd]
 case load n x =>
  simp only[opS,aA,aC] at hs
  obtain⟨y,h1,cs,h2,z,h3,rfl⟩:=hs
  simp only[opS,bW he,h1,obs]
  rw[show(s.plus J r e v).heap=pl J r s.heap from rfl,zQB (hY hF h1),h2,obs,h3,oms,aK hd]
 case len x =>
  simp only[opS,aA,aC] at hs
  obtain⟨y,h1,z,h3,rfl⟩:=hs
  simp only[opS,bW he,h1,obs]
  rw[show(s.plus J r e v).heap=pl J r s.heap from rfl,zYU (hY hF h1),h3,oms,aK hd]
 case box n x =>
  simp only[opS,aA] at hs
  obtain⟨y,h1,b,h2,h3⟩:=hs
  split at h3
  ·rename_i hn
   simp only[oi] at h3
   subst h3
   simp only[opS,bW he,h1,obs]
   rw[show(s.plus J r e v).heap=pl J r s.heap from rfl,Kr (Vg (hY hF h1)),h2,oms,obs]
   simp only[plA]
   rw[←aK hd,←uZ]
   simp only[St.plus,pl,xN b.2 _ _ hJ0]
   exact if_pos hn
  ·simp at h3
 case lit sz ps =>
  simp only[opS,aC] at hs
  obtain⟨b,h1,rfl⟩:=hs
  simp only[opS]
  rw[show(s.plus J r e v).heap=pl J r s.heap from rfl,E1 hF he,h1,oms,oms]
  rw[←aK hd,←uZ]
  simp only[plA,St.plus,pl,xN b.2 _ _ hJ0]
 case mk sz bytes zs n =>
  simp only[opS,aA] at hs
  obtain⟨m,h1,h3⟩:=hs
  split at h3
  ·rename_i hn
   simp only[oi] at h3
   subst h3
   simp only[opS,iB he,h1,obs,if_pos hn]
   rw[←aK hd,←uZ]
   simp only[St.plus,pl,xN s.heap _ _ hJ0]
  ·simp at h3
 case app sz bytes x y =>
  simp only[opS,aA] at hs
  obtain⟨a,h1,b,h2,l,h3,m,h4,h5⟩:=hs
  split at h5
  ·rename_i hn
   simp only[oi] at h5
   subst h5
   simp only[opS,bW he.1,bW he.2,h1,h2,obs]
   rw[show(s.plus J r e v).heap=pl J r s.heap from rfl,zqj (hY hF h1),h3,oms,obs]
   simp only[plA]
   rw[zyH (hY hF h2),h4,oms,obs]
   simp only[plA]
   rw[←aK hd,←uZ]
   simp only[St.plus,pl,xN m.2 _ _ hJ0]
   exact if_pos hn
  ·simp at h5
 case callr f xs =>
  simp only[opS,aA] at hs
  obtain⟨as,h1,bs,h2,q,h3,h4⟩:=hs
  split at h4
  ·rename_i hn
   simp only[oi] at h4
   subst h4
   simp only[opS,u9 he,h1,obs]
   rw[show(s.plus J r e v).heap=pl J r s.heap from rfl,Fe (Fq hF h1),h2,obs,h3,obs,if_pos hn,aK hd]
  ·simp at h4
 case callu f xs =>
  simp only[opS,aA] at hs
  obtain⟨as,h1,bs,h2,q,h3,h4⟩:=hs
  split at h4
  ·rename_i hn
   simp only[oi] at h4
   subst h4
   simp only[opS,u9 he,h1,obs]
   rw[show(s.plus J r e v).heap=pl J r s.heap from rfl,Fe (Fq hF h1),h2,obs,h3,obs,if_pos hn,aK hd]
  ·simp at h4
 case call f xs =>
  simp only[opS,aA] at hs
  obtain⟨as,h1,bs,h2,q,h3,h4⟩:=hs
  split at h4
  ·rename_i hn
   simp only[opS,u9 he,h1,obs]
   rw[show(s.plus J r e v).heap=pl J r s.heap from rfl,Fe (Fq hF h1),h2,obs,h3,obs,if_pos hn]
   unfold kP at h4 ⊢
   split at h4
   ·rename_i hc
    simp only[oi] at h4
    subst h4
    rw[if_pos hc,show(s.plus J r e v).fr=s.fr from rfl,zXy (fun k hk=>hJ k (by omega)),←aK hd]
    rfl
   ·simp at h4
  ·simp at h4
theorem Y3{it:SItem}(hk:it.o.calm=true)(hF:sC J s)(he:e∉it.rds)(hd:it.d≠some e)(hJ:∀k,k<32→(s.fr,id+k)≠J)(hs:itS C s id it=some s'):itS C (s.plus J r e v) id it=some (s'.plus J r e v):=by
 unfold itS at hs ⊢
 unfold SItem.rds at he
 split at hs
 ·rename_i hg
  simp only[hg,zqf] at he
  exact Xh hk hF he hd hJ hs
 ·rename_i g b hg
  simp only[hg,List.cons_append,zqf,List.mem_cons,not_or] at he
  rw[show(s.plus J r e v).env g=s.env g by simp only[St.plus,upd,if_neg (Ne.symm he.1)]]
  rw[aA] at hs
  obtain⟨t,h1,h2⟩:=hs
  simp only[h1,obs]
  split at h2
  ·rename_i c
   rw[if_pos c]
   exact Xh hk hF he.2 hd hJ h2
  ·rename_i c
   simp only[oi] at h2
   subst h2
   rw[if_neg c,aK hd]
theorem Y4{o:SOp}(hk:o.calm=true)(hs:opS C s d id o=some s'):s'.fr=s.fr∧∀t,d≠some t→s'.env t=s.env t:=by
 by_cases hq:o.quiet=true
 ·obtain⟨x,rfl,_⟩:=u6 hq hs
  cases d with
  |none=>exact⟨rfl,fun _ _=>rfl⟩
  |some d=>exact⟨rfl,fun t ht=>by simp only[St.put,upd,if_neg (fun h:t=d=>ht (by rw[h]))]⟩
 ·have hp:∀(u:St) (x:X),u.fr=s.fr→u.env=s.env→(u.put d x).fr=s.fr∧∀t,d≠some t→(u.put d x).env t=s.env t:=fun u x h1 h2=>by
   cases d with
   |none=>exact⟨h1,fun _ _=>by rw[←h2];rfl⟩
   |some d=>exact⟨h1,fun t ht=>by simp only[St.put,upd,if_neg (fun h:t=d=>ht (by rw[h])),h2]⟩
  cases o<;>first|(exact absurd rfl hq)|(simp only[SOp.calm,Bool.false_eq_true] at hk;done)|skip
  case box n x =>
   simp only[opS,aA] at hs
   obtain⟨y,h1,b,h2,h3⟩:=hs
   split at h3
   ·simp only[oi] at h3;subst h3;exact hp _ _ rfl rfl
   ·simp at h3
  case alloc zs=>simp only[opS,oi] at hs;subst hs;exact hp _ _ rfl rfl
  case lit sz ps =>
   simp only[opS,aC] at hs
   obtain⟨b,h1,rfl⟩:=hs
   exact hp _ _ rfl rfl
  case mk sz bytes zs n =>
   simp only[opS,aA] at hs
   obtain⟨m,h1,h3⟩:=hs
   split at h3
   ·simp only[oi] at h3;subst h3;exact hp _ _ rfl rfl
   ·simp at h3
  case app sz bytes x y =>
   simp only[opS,aA] at hs
   obtain⟨a,h1,b,h2,l,h3,m,h4,h5⟩:=hs
   split at h5
   ·simp only[oi] at h5;subst h5;exact hp _ _ rfl rfl
   ·simp at h5
  case call f xs =>
   simp only[opS,aA] at hs
   obtain⟨as,h1,bs,h2,q,h3,h4⟩:=hs
   split at h4
   ·unfold kP at h4
    split at h4
    ·simp only[oi] at h4;subst h4;exact hp _ _ rfl rfl
    ·simp at h4
   ·simp at h4
theorem zK7{it:SItem}(hk:it.o.calm=true)(hs:itS C s id it=some s'):s'.fr=s.fr∧∀t,it.d≠some t→s'.env t=s.env t:=by
 unfold itS at hs
 split at hs
 ·exact Y4 hk hs
 ·rw[aA] at hs
  obtain⟨c,h1,h2⟩:=hs
  split at h2
  ·exact Y4 hk h2
  ·simp only[oi] at h2
   subst h2
   cases hd:it.d with
   |none=>exact⟨rfl,fun _ _=>rfl⟩
   |some d=>exact⟨rfl,fun t ht=>by simp only[St.put,upd,if_neg (fun h:t=d=>ht (by rw[h]))]⟩
def SItem.adder(it:SItem):Option (Nat×List Nat):=match it.g,it.d,it.o with
 |none,some e,.alloc _=>some (e,[])
 |none,some e,.mk _ _ _ n=>some (e,n.rd)
 |_,_,_=>none
theorem zJf{it:SItem}{l:List Nat}(ha:it.adder=some (e,l))(hs:itS C s id it=some s'):it.d=some e∧it.rds=l∧∃r v,s'=s.plus (s.fr,id) r e v∧∀s2,s2.fr=s.fr→(∀t∈l,s2.env t=s.env t)→itS C s2 id it=some (s2.plus (s.fr,id) r e v):=by
 obtain⟨d0,g0,o0⟩:=it
 simp only[SItem.adder] at ha
 split at ha
 ·simp only[oi,zqb] at ha
  obtain⟨rfl,rfl⟩:=ha
  refine⟨rfl,by simp[SItem.rds,SOp.rds],?_⟩
  simp only[itS,opS,oi] at hs ⊢
  subst hs
  exact⟨_,_,rfl,fun s2 h1 _=>by rw[h1];rfl⟩
 ·rename_i n
  simp only[oi,zqb] at ha
  obtain⟨rfl,rfl⟩:=ha
  refine⟨rfl,by simp[SItem.rds,SOp.rds],?_⟩
  simp only[itS,opS,aA] at hs
  obtain⟨m,h1,h2⟩:=hs
  split at h2
  ·rename_i hm
   simp only[oi] at h2
   subst h2
   refine⟨_,_,rfl,fun s2 h3 h4=> ?_⟩
   have h5:rdI s2 n=rdI s n:=by
    unfold rdI
    cases n with
    |t k=>simp only[rdO];rw[h4 k (by simp[O.rd])]
    |_=>rfl
   simp only[itS,opS,h5,h1,obs,if_pos hm,h3]
   rfl
  ·simp at h2
 ·simp at ha
end
theorem mY{J:Id}:∀{xs:List X},Frs J xs↔∀x∈xs,Fr J x
 |[]=>by simp[Frs,aR]
 |x::xs=>by
  have:=mY (J:=J) (xs:=xs)
  simp only[Frs,aR,Fr,List.mem_cons,forall_eq_or_imp] at this ⊢
  rw[this]
theorem zZ1{J:Id}:∀{cs:List D} {xs:List X},roL cs=some xs→Frs J xs
 |[],xs,h=>by simp only[roL,oi] at h;subst h;trivial
 |c::cs,xs,h=>by
  simp only[roL,aA,aC] at h
  obtain⟨x,h1,ys,h2,rfl⟩:=h
  refine⟨?_,zZ1 h2⟩
  unfold D.ro at h1
  split at h1<;>simp only[oi,reduceCtorEq] at h1<;>subst h1<;>trivial
theorem zkw{J id:Id}{q:Path}{j:Nat}(hi:id≠J):∀{cs:List D} {i:Nat} {xs:List X},D6 id q j i cs=some xs→Frs J xs
 |[],i,xs,h=>by simp only[D6,oi] at h;subst h;trivial
 |c::cs,i,xs,h=>by
  simp only[D6,aA,aC] at h
  obtain⟨x,h1,ys,h2,rfl⟩:=h
  refine⟨?_,zkw hi h2⟩
  unfold D.own at h1
  split at h1<;>simp only[oi,reduceCtorEq] at h1<;>subst h1<;>first|trivial|exact hi
theorem zVz{J:Id}{h:Heap}{n:Nat}{x:X}{cs:List X}(hx:Fr J x)(hs:oN h n x=some cs):Frs J cs:=by
 unfold oN at hs
 split at hs
 ·split at hs
  ·exact zZ1 hs
  ·simp at hs
 ·split at hs
  ·simp only[oi] at hs
   subst hs
   exact mY.2 (fun y hy=>mY.1 hx y (List.mem_of_mem_take hy))
  ·simp at hs
 ·simp only[aA] at hs
  obtain⟨r,_,el,_,hs⟩:=hs
  split at hs
  ·exact zkw hx hs
  ·simp at hs
 ·simp at hs
theorem Qu{J:Id}{x:X}{us:List X}(hx:Fr J x)(h:x.cellsV=some us):Frs J us:=by
 unfold X.cellsV at h
 split at h<;>simp only[oi,reduceCtorEq] at h<;>subst h
 ·exact hx
 ·exact⟨hx,trivial⟩
theorem zq3{J:Id}:∀{us cs:List X} {i:Nat},Frs J cs→Frs J us→Frs J (Lg cs i us)
 |[],cs,i,h,_=>h
 |u::us,cs,i,h,hu=>zq3 (us:=us) (mY.2 (fun y hy=>(List.mem_or_eq_of_mem_set hy).elim (mY.1 h y) (fun e=>by rw[e];exact hu.1))) hu.2
section
variable{C:Cl}{s s':St}{J:Id}{d:Option Nat}{id:Nat}
theorem Xd(hF:sC J s):∀{ps:List (Nat×Nat×O)} {cs xs:List X},Frs J cs→mS s cs ps=some xs→Frs J xs
 |[],cs,xs,hc,h=>by simp only[mS,oi] at h;subst h;exact hc
 |(off,n,o)::ps,cs,xs,hc,h=>by
  simp only[mS,aA] at h
  obtain⟨x,h1,us,h2,h3⟩:=h
  split at h3
  ·exact Xd hF (zq3 hc (Qu (hY hF h1) h2)) h3
  ·simp at h3
theorem aW{u:St}{x:X}(hF:sC J s)(he:u.env=s.env)(hx:Fr J x):sC J (u.put d x):=by
 intro t y hy
 cases d with
 |none=>exact hF t y (by rw[←he];exact hy)
 |some d =>
  simp only[St.put,upd] at hy
  split at hy
  ·simp only[oi] at hy;subst hy;exact hx
  ·exact hF t y (by rw[←he];exact hy)
def SOp.still:SOp→Bool
 |.store .. => false
 |.cutm .. => false
 |.clr .. => false
 |.calli .. => false
 |.callb .. => false
 |.call .. => false
 |.callr .. => false
 |.callu .. => false
 |_=>true
theorem zzZ{o:SOp}(h:o.still=true):o.calm=true:=by cases o<;>first|rfl|simp[SOp.still] at h
theorem Xq{o:SOp}(hk:o.still=true)(hF:sC J s)(hJ:(s.fr,id)≠J)(hs:opS C s d id o=some s'):sC J s':=by
 cases o<;>try(simp only[SOp.still,Bool.false_eq_true] at hk;done)
 case mov x =>
  simp only[opS,aA,aC] at hs
  obtain⟨y,h1,rfl⟩:=hs
  exact aW hF rfl (hY hF h1)
 case pick c a b =>
  simp only[opS,aA] at hs
  obtain⟨m,h1,h2⟩:=hs
  split at h2<;>(rw[aC] at h2;obtain⟨y,h3,rfl⟩:=h2;exact aW hF rfl (hY hF h3))
 case ari b x y =>
  simp only[opS,aA] at hs
  obtain⟨m,h1,k,h2,h3⟩:=hs
  split at h3
  ·rw[aC] at h3;obtain⟨z,h4,rfl⟩:=h3;exact aW hF rfl trivial
  ·simp at h3
 case cmp b x y =>
  simp only[opS,aA,aC] at hs
  obtain⟨m,h1,k,h2,z,h3,rfl⟩:=hs
  exact aW hF rfl trivial
 case cmpb b x y =>
  simp only[opS,aA,aC] at hs
  obtain⟨m,h1,k,h2,z,h3,rfl⟩:=hs
  exact aW hF rfl trivial
 case cat x y =>
  simp only[opS,aA] at hs
  obtain⟨m,h1,k,h2,h9⟩:=hs
  split at h9<;>first|(simp only[oi] at h9;subst h9;exact aW hF rfl trivial)|(rw[aC] at h9;obtain⟨z,_,rfl⟩:=h9;exact aW hF rfl trivial)|simp at h9
 case neg x =>
  simp only[opS,aA,aC] at hs
  obtain⟨y,h1,rfl⟩:=hs
  exact aW hF rfl trivial
 case not x =>
  simp only[opS,aA,aC] at hs
  obtain⟨y,h1,rfl⟩:=hs
  exact aW hF rfl trivial
 case conv k x =>
  simp only[opS,aA,aC] at hs
  obtain⟨y,h1,rfl⟩:=hs
  exact aW hF rfl trivial
 case rune x =>
  simp only[opS,aA,aC] at hs
  obtain⟨y,h1,rfl⟩:=hs
  exact aW hF rfl trivial
 case slen x =>
  simp only[opS,aA,aC] at hs
  obtain⟨y,h1,rfl⟩:=hs
  exact aW hF rfl trivial
 case bos x =>
  simp only[opS,aA] at hs
  obtain⟨y,h1,h9⟩:=hs
  split at h9<;>first|(simp only[oi] at h9;subst h9;exact aW hF rfl trivial)|(rw[aC] at h9;obtain⟨z,_,rfl⟩:=h9;exact aW hF rfl trivial)|simp at h9
 case idxb f x y =>
  simp only[opS,aA] at hs
  obtain⟨m,h1,k,h2,h9⟩:=hs
  split at h9<;>first|(simp only[oi] at h9;subst h9;exact aW hF rfl trivial)|(rw[aC] at h9;obtain⟨z,_,rfl⟩:=h9;exact aW hF rfl trivial)|simp at h9
 case sob x =>
  simp only[opS,aA] at hs
  obtain⟨y,h1,ns,h2,h3⟩:=hs
  split at h3
  ·simp at h3
  ·simp only[oi] at h3;subst h3;exact aW hF rfl trivial
 case fld off n x =>
  simp only[opS,aA] at hs
  obtain⟨y,h1,h2⟩:=hs
  have hy:=hY hF h1
  split at h2
  ·rename_i cs
   rw[aC] at h2
   obtain⟨z,h3,rfl⟩:=h2
   refine aW hF rfl ?_
   have hc:=mY.1 (show Frs J cs from hy)
   cases n with
   |none=>exact hc z (List.mem_of_getElem? h3)
   |some n =>
    simp only[zzV] at h3
    split at h3
    ·simp only[oi] at h3;subst h3
     exact mY.2 (fun y hy=>hc y (List.mem_of_mem_drop (List.mem_of_mem_take hy)))
    ·simp at h3
  ·simp at h2
 case faddr off x =>
  simp only[opS,aA,aC] at hs
  obtain⟨y,h1,z,h2,rfl⟩:=hs
  have hy:=hY hF h1
  refine aW hF rfl ?_
  unfold zO at h2
  split at h2<;>simp only[oi,reduceCtorEq] at h2<;>subst h2
  ·exact hy
  ·trivial
  ·exact mY.2 (fun y hy'=>mY.1 hy y (List.mem_of_mem_drop hy'))
 case ixa sz x i =>
  simp only[opS,aA,aC] at hs
  obtain⟨y,h1,m,h2,z,h3,rfl⟩:=hs
  have hy:=hY hF h1
  refine aW hF rfl ?_
  unfold Po at h3
  split at h3
  ·split at h3
   ·simp only[aA] at h3
    obtain⟨el,_,h3⟩:=h3
    split at h3
    ·simp only[oi] at h3;subst h3;trivial
    ·simp at h3
   ·simp at h3
  ·simp only[aA] at h3
   obtain⟨r,_,h3⟩:=h3
   split at h3
   ·simp only[oi] at h3;subst h3;exact hy
   ·simp at h3
  ·simp at h3
 case ixs x i =>
  simp only[opS,aA] at hs
  obtain⟨m,h1,k,h2,h9⟩:=hs
  split at h9<;>first|(simp only[oi] at h9;subst h9;exact aW hF rfl trivial)|(rw[aC] at h9;obtain⟨z,_,rfl⟩:=h9;exact aW hF rfl trivial)|simp at h9
 case load n x =>
  simp only[opS,aA,aC] at hs
  obtain⟨y,h1,cs,h2,z,h3,rfl⟩:=hs
  have hy:=zVz (hY hF h1) h2
  refine aW hF rfl ?_
  unfold uK at h3
  split at h3
  ·unfold one at h3
   split at h3
   ·simp only[oi] at h3;subst h3;exact hy.1
   ·simp at h3
  ·simp only[oi] at h3;subst h3;exact hy
 case mm mx x y =>
  simp only[opS,aA] at hs
  obtain⟨m,h1,k,h2,h9⟩:=hs
  split at h9<;>first|(simp only[oi] at h9;subst h9;exact aW hF rfl trivial)|(rw[aC] at h9;obtain⟨z,_,rfl⟩:=h9;exact aW hF rfl trivial)|simp at h9
 case eqa ng k x y =>
  simp only[opS,aA] at hs
  obtain⟨a,h1,b,h2,cs,h3,ds,h4,z,h5,h9⟩:=hs
  split at h9<;>first|(simp only[oi] at h9;subst h9;exact aW hF rfl trivial)|(rw[aC] at h9;obtain⟨z,_,rfl⟩:=h9;exact aW hF rfl trivial)|simp at h9
 case vbox n x =>
  simp only[opS,aA] at hs
  obtain⟨y,h1,cs,h2,h3⟩:=hs
  split at h3
  ·simp only[oi] at h3;subst h3;exact aW hF rfl (show Frs J cs from Qu (hY hF h1) h2)
  ·simp at h3
 case build zs ps =>
  simp only[opS,aC] at hs
  obtain⟨cs,h1,rfl⟩:=hs
  refine aW hF rfl (show Frs J cs from Xd hF (mY.2 (fun y hy=> ?_)) h1)
  obtain⟨z,_,rfl⟩:=List.mem_map.1 hy
  trivial
 case cutr sz x lo hi =>
  simp only[opS,aA] at hs
  obtain⟨y,h1,h2⟩:=hs
  split at h2
  ·simp only[aA] at h2
   obtain⟨l,_,k,_,h9⟩:=h2
   split at h9
   ·simp only[oi] at h9;subst h9;exact aW hF rfl trivial
   ·simp at h9
  ·simp at h2
 case cutS x lo hi =>
  simp only[opS,aA] at hs
  obtain⟨y,h1,l,h2,k,h3,h9⟩:=hs
  split at h9<;>first|(simp only[oi] at h9;subst h9;exact aW hF rfl trivial)|(rw[aC] at h9;obtain⟨z,_,rfl⟩:=h9;exact aW hF rfl trivial)|simp at h9
 case len x =>
  simp only[opS,aA,aC] at hs
  obtain⟨y,h1,z,h3,rfl⟩:=hs
  exact aW hF rfl trivial
 case fn f xs =>
  simp only[opS,aC] at hs
  obtain⟨as,h1,rfl⟩:=hs
  refine aW hF rfl ?_
  split
  ·trivial
  ·exact Fq hF h1
 case ext x i =>
  simp only[opS,aA] at hs
  obtain⟨y,h1,h2⟩:=hs
  have hy:=hY hF h1
  split at h2
  ·rw[aC] at h2
   obtain⟨z,h3,rfl⟩:=h2
   exact aW hF rfl (mY.1 hy z (List.mem_of_getElem? h3))
  ·simp at h2
 case nck x =>
  simp only[opS,aA,aC] at hs
  obtain⟨y,h1,z,h2,rfl⟩:=hs
  have hy:=hY hF h1
  refine aW hF rfl ?_
  unfold xO at h2
  split at h2<;>simp only[oi,reduceCtorEq] at h2<;>subst h2<;>exact hy
 case box n x =>
  simp only[opS,aA] at hs
  obtain⟨y,h1,b,h2,h3⟩:=hs
  split at h3
  ·simp only[oi] at h3;subst h3;exact aW hF rfl (show(s.fr,id)≠J from hJ)
  ·simp at h3
 case alloc zs=>simp only[opS,oi] at hs;subst hs;exact aW hF rfl (show(s.fr,id)≠J from hJ)
 case lit sz ps =>
  simp only[opS,aC] at hs
  obtain⟨b,h1,rfl⟩:=hs
  exact aW hF rfl (show(s.fr,id)≠J from hJ)
 case mk sz bytes zs n =>
  simp only[opS,aA] at hs
  obtain⟨m,h1,h3⟩:=hs
  split at h3
  ·simp only[oi] at h3;subst h3;exact aW hF rfl (show(s.fr,id)≠J from hJ)
  ·simp at h3
 case app sz bytes x y =>
  simp only[opS,aA] at hs
  obtain⟨a,h1,b,h2,l,h3,m,h4,h5⟩:=hs
  split at h5
  ·simp only[oi] at h5;subst h5;exact aW hF rfl (show(s.fr,id)≠J from hJ)
  ·simp at h5
theorem zxE{it:SItem}(hk:it.o.still=true)(hF:sC J s)(hJ:(s.fr,id)≠J)(hs:itS C s id it=some s'):sC J s':=by
 unfold itS at hs
 split at hs
 ·exact Xq hk hF hJ hs
 ·rw[aA] at hs
  obtain⟨c,h1,h2⟩:=hs
  split at h2
  ·exact Xq hk hF hJ h2
  ·simp only[oi] at h2
   subst h2
   exact aW hF rfl trivial
end
end Go.Ev
