import Derived.Test.YtenclibcnjkamaaGreatEvOps6
import Derived.Laws.BytesString
import Derived.Laws.StructEq
import Derived.Laws.Small
import Derived.Laws.IdiomStrings
import Derived.Laws.Externs
import Derived.KernelRfl
set_option linter.all false
namespace Go.Ev
open Go.RowKit
section
variable{c:Ctx}{st st':St}{U:Nat→Prop}{γ:Gm}{S:Nat→Prop}{a:Act}{w:World}{C:Cl}{o:Oper}{id:Nat}
theorem Mb:∀{els:List (List D)} {ns:List Int},Hs els=some ns→ns.length=els.length∧∀(j:Nat) (n:Int),ns[j]? = some n→els[j]? = some [.v (.int .u8 n)]
 |[],ns,h=>by
  simp only[Hs,oi] at h
  subst h
  exact⟨rfl,fun j n h=>by simp at h⟩
 |el::els,ns,h=>by
  unfold Hs at h
  split at h
  ·rename_i hh
   simp at hh
  ·rename_i n els' hh
   simp only[List.cons.injEq] at hh
   obtain⟨rfl,rfl⟩:=hh
   rw[aC] at h
   obtain⟨ms,h1,rfl⟩:=h
   obtain⟨h2,h3⟩:=Mb h1
   refine⟨by simp[h2],fun j m hj=> ?_⟩
   cases j with
   |zero =>
    simp only[List.getElem?_cons_zero,oi] at hj ⊢
    subst hj
    rfl
   |succ j=>simpa using h3 j m (by simpa using hj)
  ·simp at h
theorem z9R(R:Rep c st U γ S a w)(hd:∀k,o.dst=some k→k<c.nt){t1 t2 e:TypeId}{y1:Operand}{x1:O}(ho:o.op= .convert t1 t2 y1)(h1:eqO y1 x1=true)(ht1:cP c.P t1=some e)(he:R9 c.P e=some .u8)(ht2:m5 c.P t2=true)(hs:opS C st o.dst id (.sob x1)=some st'):Runs c o a w st' U:=by
 simp only[opS,aA] at hs
 obtain⟨x,h2,ns,h3,h4⟩:=hs
 split at h4
 ·simp at h4
 ·rename_i hne
  simp only[oi] at h4
  subst h4
  have h5:=(bV R h1 h2).1
  unfold Ak at h3
  split at h3
  ·rename_i id' p
   rw[aA] at h3
   obtain⟨r,h6,h7⟩:=h3
   split at h7
   ·rename_i hr1
    obtain⟨b,els,h8,h9⟩:=R.mm.row h6
    simp only[X.vr] at h5
    have hv:=(h5.2 _ h8).1
    have hrow:=R.mm.nav_ok h8
    obtain⟨hlen,hget⟩:=Mb h7
    rw[←h9,cY] at hlen
    have hnn:ns≠[]:=fun e=>hne (by rw[e];rfl)
    cases b with
    |none =>
     simp only[G.ok] at hrow
     rw[hrow.1] at hlen
     exact absurd (List.eq_nil_of_length_eq_zero (by simpa using hlen)) hnn
    |some b =>
     obtain⟨b,cap,o0⟩:=b
     simp only[G.val] at hv
     have hcells:∀(j:Nat) (u:Value),(ns.map (Value.int .u8))[j]? = some u→w.cell? ((⟨b,o0,none⟩:Addr).add j)=some u:=fun j u hj=>by
      rw[List.getElem?_map,aC] at hj
      obtain⟨n,h10,rfl⟩:=hj
      have h11:=hget j n h10
      rw[←h9,cG,List.getElem?_map,aC] at h11
      obtain⟨gs,h12,h13⟩:=h11
      have hgl:gs.length=1:=by
       have:=congrArg List.length h13
       simpa using this
      obtain⟨g,rfl⟩:=List.length_eq_one_iff.1 hgl
      simp only[mc,mn,List.cons.injEq,and_true] at h13
      have hnav:γ.nav id' (p++[(j,0)])=some g:=by
       unfold Gm.nav at h8 ⊢
       rw[aA] at h8 ⊢
       obtain⟨g0,e1,e2⟩:=h8
       exact⟨g0,e1,by rw[lW,e2];simp[G.nav,h12]⟩
      have hg:=R.mm.nav_ok hnav
      have hc:=sJ hrow h12 (i:=0) (c:=g) rfl
      rw[hr1] at hc
      cases g with
      |l d v =>
       simp only[G.er] at h13
       subst h13
       simp only[G.ok,D.rd] at hg
       rw[hg.2.1] at hc
       simp only[G.val] at hc
       rw[Addr.add_lit]
       simpa using hc
      |s sz bb els2=>simp[G.er] at h13
     have hl:=run_loadCells_list (P:=c.P) w ⟨b,o0,none⟩ (ns.map (Value.int .u8)) hcells
     rw[lm] at hl
     unfold cP at ht1
     split at ht1
     ·rename_i e' hu
      simp only[oi] at ht1
      subst ht1
      unfold R9 at he
      split at he
      ·rename_i k hk
       simp only[oi] at he
       subst he
       unfold m5 at ht2
       split at ht2
       ·rename_i hu2
        refine .value (.string (zwI ns)) w ?_ (gR R hd rfl)
        have hrun:(convert t1 t2 (a.eval y1)).run c.P w= .ok (.string (zwI ns)) w:=by
         rw[←hv,run_convert_bytes_string w t1 t2 e' _ _ _ hu hk hu2,←hlen,run_bytesToString w _ _ _ ns hl]
         rfl
        simp[execOp,ho,hrun]
       ·simp at ht2
      ·simp at he
     ·simp at ht1
   ·simp at h7
  ·simp at h3
theorem zWr(R:Rep c st U γ S a w)(hd:∀k,o.dst=some k→k<c.nt){t:TypeId}{y:Operand}{x:O}{n:Nat}(ho:o.op= .box t y)(hx:eqO y x=true){k:Nat}(hs:opS C st o.dst k (.vbox n x)=some st'):Runs c o a w st' U:=by
 simp only[opS,aA] at hs
 obtain⟨z,h1,cs,h2,h3⟩:=hs
 split at h3
 ·rename_i hl
  simp only[oi] at h3
  subst h3
  obtain⟨h4,h5⟩:=bV R hx h1
  obtain⟨h6,h7,h8⟩:=Q7 h4 h2
  have hk0:∀k,k<w.heap.size→(w.alloc (.cells (a.eval y).cells t)).heap[k]? = w.heap[k]? := fun k hk=>by
   show(w.heap.push _)[k]? = _
   rw[Array.getElem?_push,if_neg (by omega)]
  have hnew:(w.alloc (.cells (a.eval y).cells t)).heap[w.heap.size]? = some (.cells (a.eval y).cells t (0,0)):=by
   show(w.heap.push _)[w.heap.size]? = _
   rw[Array.getElem?_push,if_pos rfl]
  have hsz:(w.alloc (.cells (a.eval y).cells t)).heap.size=w.heap.size+1:=by
   show(w.heap.push _).size=_
   rw[Array.size_push]
  have hM:Mm st.heap γ (fun k=>S k∨k=w.heap.size) (w.alloc (.cells (a.eval y).cells t)):=R.mm.world (fun k hk=>⟨.inl hk,hk0 k (R.mm.sd k hk).1⟩) (fun i g hg k hk=>hk0 k (G.ok_lt g (R.mm.ok i g hg) k hk)) (fun k hk=>by
   rw[hsz]
   rcases hk with hk|rfl
   ·exact⟨by have:=(R.mm.sd k hk).1;omega,(R.mm.sd k hk).2⟩
   ·exact⟨by omega,fun i g hg hk=>by have:=G.ok_lt g (R.mm.ok i g hg) _ hk;omega⟩)
  have hR:=R.change (U':=U) (h':=st.heap) hM rfl rfl rfl (by rw[hsz];omega) (fun k hk _=>hk0 k hk) (fun k h=> .inl h) (fun t x _=>cS (fun id p=>Same.refl γ id p) x) (fun id _=>Same.refl γ id []) (fun k h=> .inl h) (fun k h=>h.imp (fun h=>h) (fun h=>by omega)) R.hid (fun _ h=>h) (fun _ _ h=>h)
  refine .value (.pointer (some ⟨w.heap.size,0,none⟩)) (w.alloc (.cells (a.eval y).cells t)) ?_ (dU (st:={st with heap:=st.heap}) hR hd ?_ ?_)
  ·simp[execOp,ho,Instr.box,newVar,newRow]
  ·simp only[X.vr]
   refine⟨_,rfl,(a.eval y).cells.toList,gJ (fun k hk=>⟨.inl hk,hk0 k (R.mm.sd k hk).1⟩) cs _ (fY (fun id p=>Same.refl γ id p) cs) h6,h8,fun i u hu=> ?_⟩
   rw[Addr.add_lit,Nat.zero_add]
   exact⟨by rw[cell_of_row _ _ _ _ _ _ hnew];simpa using hu,.inr rfl⟩
  ·simp only[X.allp]
   exact h7 _ h5
 ·simp at h3
theorem z6l(R:Rep c st U γ S a w)(hd:∀k,o.dst=some k→k<c.nt){mx:Bool}{y1 y2:Operand}{ts:Array TypeId}{x1 x2:O}(ho:o.op= .call {callee:= .builtin (if mx then .max else .min),args:= #[y1,y2],argTypes:=ts})(h1:eqO y1 x1=true)(h2:eqO y2 x2=true)(hs:opS C st o.dst id (.mm mx x1 x2)=some st'):Runs c o a w st' U:=by
 simp only[opS,aA] at hs
 obtain⟨m,h3,n,h4,h5⟩:=hs
 split at h5
 ·rename_i hk
  simp only[oi] at h5
  subst h5
  have e1:=fQ R h1 h3
  have e2:=fQ R h2 h4
  cases mx with
  |false =>
   refine .value _ w ?_ (gR R hd rfl)
   simp[execOp,ho,resolve,invoke,e1,e2,builtin,run_min_int2]
  |true =>
   refine .value _ w ?_ (gR R hd rfl)
   simp[execOp,ho,resolve,invoke,e1,e2,builtin,run_max_int2]
 ·simp at h5
def zqX(P:Program):Nat→List Field→Bool
 |_,[]=>true
 |off,f::fs=> !(f.name== "_")&&decide (f.offset=off)&&(match P.underlying f.type with|some (.int _)=>true|_=>false)&&zqX P (off+1) fs
def zZD(P:Program)(n:Nat)(t:TypeId):Bool:=(match P.underlying t with|some (.struct fs)=>zqX P 0 fs.toList&&decide (fs.size=n)|_=>false)&& !P.stoodInHeld t&& !P.eqGuardType P.depth t
theorem zkj{P:Program}{γ:Gm}{w:World}{S:Nat→Prop}{xs ys:List Value}(d:Nat):∀(fs:List Field) (off:Nat) (cs ds:List X) (z:Bool),zqX P off fs=true→yW cs ds=some z→vrs γ w S cs (xs.drop off)→vrs γ w S ds (ys.drop off)→fs.length=cs.length→(Op.eqFields (d+1) xs.toArray ys.toArray fs).run P w= .ok z w
 |[],off,cs,ds,z,_,hz,hx,hy,he=>by
  have:cs=[]:=List.length_eq_zero_iff.1 he.symm
  subst this
  cases ds with
  |nil=>simp only[yW,oi] at hz;subst hz;simp[Op.eqFields]
  |cons y ds=>simp[yW] at hz
 |f::fs,off,cs,ds,z,hf,hz,hx,hy,he=>by
  cases cs with
  |nil=>simp at he
  |cons c1 cs =>
   unfold yW at hz
   split at hz
   ·rename_i e;simp at e
   ·rename_i k m cs' k' n ds' e1
    simp only[List.cons.injEq] at e1
    obtain⟨rfl,rfl⟩:=e1
    split at hz
    ·rename_i hk
     subst hk
     rw[aC] at hz
     obtain⟨z',hz',rfl⟩:=hz
     simp only[zqX,bE,Bool.not_eq_true',beq_eq_false_iff_ne,ne_eq,zqd] at hf
     obtain⟨⟨⟨hn,ho⟩,hu⟩,hr⟩:=hf
     split at hu
     ·rename_i kk hu'
      cases hxs:xs.drop off with
      |nil=>rw[hxs] at hx;simp[vrs] at hx
      |cons u us =>
       cases hys:ys.drop off with
       |nil=>rw[hys] at hy;simp[vrs] at hy
       |cons v vs =>
        rw[hxs] at hx
        rw[hys] at hy
        simp only[vrs,X.vr] at hx hy
        have hu1:xs[off]? = some u:=by rw[←List.head?_drop,hxs];rfl
        have hv1:ys[off]? = some v:=by rw[←List.head?_drop,hys];rfl
        have ih:=zkj d fs (off+1) cs ds' z' hr hz' (by rw[←List.tail_drop,hxs];exact hx.2) (by rw[←List.tail_drop,hys];exact hy.2) (by simpa using he)
        have hag:(isAgg f.type).run P w= .ok false w:=by simp[isAgg,run_underlying hu']
        have hp1:(part f.type xs.toArray f.offset).run P w= .ok u w:=by simp[part,hag,ho,hu1]
        have hp2:(part f.type ys.toArray f.offset).run P w= .ok v w:=by simp[part,hag,ho,hv1]
        have heq:=run_equalIn_int (P:=P) w d f.type k kk m n hu'
        rw[hx.1.1] at hp1
        rw[hy.1.1] at hp2
        simp only[Op.eqFields,ne_eq,hn,not_false_eq_true,if_true,Sem.run_bind,hp1,hp2,Result.andThen_ok,heq,Sem.run_ite]
        by_cases hmn:m=n
        ·subst hmn
         simp[ih]
        ·have:(m==n)=false:=by simpa using hmn
         simp[this,hmn]
     ·simp at hu
    ·simp at hz
   ·simp at hz
theorem Kq{x:X}{cs:List X}(h:x.aggOf=some cs):x= .agg cs:=by
 unfold X.aggOf at h
 split at h
 ·simp only[oi] at h;subst h;rfl
 ·simp at h
theorem z7d(R:Rep c st U γ S a w)(hd:∀k,o.dst=some k→k<c.nt){ng:Bool}{n:Nat}{t t2:TypeId}{y1 y2:Operand}{x1 x2:O}(ho:o.op= .binOp (if ng then .neq else .eql) t y1 y2 t2)(h1:eqO y1 x1=true)(h2:eqO y2 x2=true)(h3:zZD c.P n t=true)(hs:opS C st o.dst id (.eqa ng n x1 x2)=some st'):Runs c o a w st' U:=by
 simp only[opS,aA] at hs
 obtain⟨m,e1,k,e2,cs,e3,ds,e4,z,e5,e6⟩:=hs
 split at e6
 case isFalse=>simp at e6
 rename_i el
 simp only[oi] at e6
 subst e6
 cases Kq e3
 cases Kq e4
 have v1:=(bV R h1 e1).1
 have v2:=(bV R h2 e2).1
 simp only[zZD,bE,Bool.not_eq_true'] at h3
 obtain⟨⟨hf,hp⟩,hm⟩:=h3
 split at hf
 ·rename_i fs hu
  simp only[bE,zqd] at hf
  obtain⟨hf,hn⟩:=hf
  simp only[X.vr] at v1 v2
  obtain⟨xs,hx,gx,_⟩:=v1
  obtain⟨ys,hy,gy,_⟩:=v2
  have hfo:Program.fieldsOf c.P t=fs:=by simp[Program.fieldsOf,hu]
  have hq:(Op.equalIn 10000 t (.agg xs.toArray) (.agg ys.toArray)).run c.P w= .ok z w:=by
   have h:=run_equalIn_struct (P:=c.P) w 9999 t xs.toArray ys.toArray (by rw[hfo];exact hu) hp
   rw[hfo] at h
   exact h.trans (zkj 9998 fs.toList 0 cs ds z hf e5 gx gy (by rw[Array.length_toList,hn,el]))
  cases ng with
  |false =>
   refine .value (.bool z) w ?_ (gR R hd rfl)
   simp[execOp,ho,hx,hy,run_eqGuard_agg,hm,run_eql_struct,hq]
  |true =>
   refine .value (.bool (!z)) w ?_ (gR R hd rfl)
   simp[execOp,ho,hx,hy,run_eqGuard_agg,hm,run_neq_struct,hq]
 ·simp at hf
end
open Go.RowKit
theorem zZ7{fn:Func}(h:fn.name= "internal/bytealg.IndexByteString")(h2:fn.origin= ""):Extern.findNext fn=none:=by
 unfold Extern.findNext
 rw[h,h2]
 have h1:Extern.allNextRows.lookup "internal/bytealg.IndexByteString" = none:=by kernel_rfl
 have h3:Extern.allNextRows.lookup "" = none:=by kernel_rfl
 simp only[h1,h3]
 rfl
theorem zx9{fn:Func}(h:fn.name= "internal/bytealg.IndexByteString"):Extern.find fn=some Extern.BytealgIndexByte.indexByte:=by
 unfold Extern.find
 rw[h]
 have h1:Extern.allGenericRows.lookup "internal/bytealg.IndexByteString" = none:=by kernel_rfl
 have h3:Extern.allTypedRows.lookup "internal/bytealg.IndexByteString" = none:=by kernel_rfl
 simp only[h1,h3,Option.map_none]
 rfl
section
variable{c:Ctx}{st st':St}{U:Nat→Prop}{γ:Gm}{S:Nat→Prop}{a:Act}{w:World}{C:Cl}{o:Oper}{id:Nat}
theorem Lj{w:World}{S:Nat→Prop}{A:Addr}(hS:S A.block):∀(bs:List UInt8) (off:Nat),(∀(j:Nat) (b:UInt8),bs[j]? = some b→w.cell? (A.add (off+j))=some (.int .u8 b.toNat))→dZ w S (some A) off (bs.map fun b=>[D.v (.int .u8 b.toNat)])
 |[],_,_=>by simp[dZ]
 |b::bs,off,h=>by
  simp only[mc,dZ,rds,D.rd,lc,ln,Nat.zero_add]
  refine⟨⟨A,rfl,⟨.int .u8 b.toNat,by simpa using h 0 b rfl,hS,rfl,rfl⟩,trivial⟩,?_⟩
  exact Lj hS bs (off+1) (fun j x hj=>by have:=h (j+1) x (by simpa using hj);simpa[Nat.add_assoc,Nat.add_comm 1] using this)
theorem z8F(R:Rep c st U γ S a w)(hd:∀k,o.dst=some k→k<c.nt){t1 t2 e:TypeId}{y1:Operand}{x1:O}(ho:o.op= .convert t1 t2 y1)(h1:eqO y1 x1=true)(ht1:m5 c.P t1=true)(ht2:cP c.P t2=some e)(he:R9 c.P e=some .u8)(hs:opS C st o.dst id (.bos x1)=some st'):Runs c o a w st' U:=by
 simp only[opS,aA] at hs
 obtain⟨s,h2,h3⟩:=hs
 split at h3
 ·rename_i hap
  simp only[oi] at h3
  subst h3
  have e1:=Ei R h1 h2
  have u1:c.P.underlying t1=some .string:=by
   unfold m5 at ht1
   split at ht1
   ·assumption
   ·simp at ht1
  have u2:c.P.underlying t2=some (.slice e):=by
   unfold cP at ht2
   split at ht2
   ·rename_i e' hu
    simp only[oi] at ht2
    subst ht2;exact hu
   ·simp at ht2
  have u3:c.P.underlying e=some (.int .u8):=by
   unfold R9 at he
   split at he
   ·rename_i k hu
    simp only[oi] at he
    subst he;exact hu
   ·simp at he
  have hrun:=run_bytes_of_string (P:=c.P) w t1 t2 e s u1 u2 u3
  have hge:=grownCap_ge w s.size 0 e
  have hle:=grownCap_le_maxLen w s.size 0 e (by have:=hap.2;simp only[maxLen];omega)
  generalize grownCap w s.size 0 e=cap at hrun hge hle
  generalize hk:(Obj.cells (bytesRow s cap) e ((bytesRow s cap).size,(bytesRow s cap).size+1))=ob at hrun
  have hnew:(w.drew.alloc ob).heap[w.heap.size]? = some ob:=heap_alloc_new w.drew ob
  have hold:∀k,k<w.heap.size→(w.drew.alloc ob).heap[k]? = w.heap[k]? := fun k hk=>Below.heap_alloc w.drew _ k hk
  have hsz:(w.drew.alloc ob).heap.size=w.heap.size+1:=by show(w.heap.push ob).size=_;simp
  have hlt:∀i g,γ i=some g→∀k∈g.bl,k<w.heap.size:=fun i g hg=>G.ok_lt g (R.mm.ok i g hg)
  have R2:Rep c {st with heap:=st.heap} U γ (fun j=>S j∨j=w.heap.size) a (w.drew.alloc ob):=R.change
   (R.mm.world (S':=fun j=>S j∨j=w.heap.size) (fun k h=>⟨.inl h,hold k (R.mm.sd k h).1⟩) (fun i g hg k hkb=>hold k (hlt i g hg k hkb)) (fun k h=>by
    rcases h with h|rfl
    ·exact⟨by have:=(R.mm.sd k h).1;omega,(R.mm.sd k h).2⟩
    ·exact⟨by omega,fun i g hg hkb=>by have:=hlt i g hg _ hkb;omega⟩))
   rfl rfl rfl (by omega) (fun k hk _=>hold k hk) (fun k h=> .inl h) (fun t x _=>cS (fun id p=>Same.refl γ id p) x) (fun id _=>Same.refl γ id []) (fun _ h=> .inl h) (fun k h=>by
    rcases h with h|rfl
    ·exact .inl h
    ·exact .inr (Nat.le_refl _)) R.hid (fun _ h=>h) (fun _ _ h=>h)
  refine .value (.slice (some ⟨w.heap.size,0,none⟩) s.size cap) (w.drew.alloc ob) (by simp[execOp,ho,e1,hrun]) (dU R2 hd ?_ (by simp only[X.allp]))
  have hl:(Ec s).length=s.size:=by simp only[Ec,lm,Array.length_toList];rfl
  simp only[X.vr,D.rd]
  refine⟨some ⟨w.heap.size,0,none⟩,cap,by rw[hl],by rw[hl];exact hge,hle,⟨1,fun el hel=> ?_⟩,?_⟩
  ·simp only[Ec,List.mem_map] at hel
   obtain⟨b,_,rfl⟩:=hel
   rfl
  ·refine Lj (.inr rfl) _ 0 (fun j b hj=> ?_)
   have hj2:j<s.data.size:=by
    have:=(List.getElem?_eq_some_iff.1 hj).1
    simpa using this
   have hadd:(⟨w.heap.size,0,none⟩:Addr).add (0+j)=⟨w.heap.size,j,none⟩:=by cases j<;>simp[Addr.add]
   rw[hadd]
   unfold World.cell?
   simp only
   rw[hnew,←hk]
   simp only[Option.isSome_none,Bool.false_eq_true,if_false,bytesRow]
   rw[Array.getElem?_append_left (by simpa using hj2)]
   rw[Array.getElem?_map]
   have:s.data[j]? = some b:=by rw[←Array.getElem?_toList];exact hj
   rw[this];rfl
 ·simp at h3
theorem zV8(R:Rep c st U γ S a w)(hd:∀k,o.dst=some k→k<c.nt){y y1 y2:Operand}{ts:Array TypeId}{f:Nat}{fn:Func}{x1 x2:O}(ho:o.op= .call {callee:= .value y,args:= #[y1,y2],argTypes:=ts})(hf:eqO y (.f f)=true)(h1:eqO y1 x1=true)(h2:eqO y2 x2=true)
  (hfn:c.P.funcs[f]? = some fn) (hb:fn.body.isNone=true) (hn:fn.name= "internal/bytealg.IndexByteString") (hor:fn.origin= "") (hs:opS C st o.dst id (.idxb f x1 x2)=some st'):Runs c o a w st' U:=by
 simp only[opS,aA] at hs
 obtain⟨s,h3,⟨k,n⟩,h4,h5⟩:=hs
 simp only at h5
 split at h5
 ·rename_i hk
  subst hk
  simp only[oi] at h5
  subst h5
  have e1:=Ei R h1 h3
  have e2:=fQ R h2 h4
  have hy:=(bV R hf (y:= .d (.v (.func (.func f) #[] #[]))) rfl).1
  simp only[X.vr] at hy
  refine .value (.int .i64 (Lib.indexByte s.data.toList n.toNat.toUInt8)) w ?_ (gR R hd rfl)
  have h6:=run_callFunc_extern (P:=c.P) hfn (by rw[hn];decide) hb (zZ7 hn hor) (zx9 hn) #[.string s,.int .u8 n] w
  rw[Lib.run_indexByteString] at h6
  simp only[Result.andThen] at h6
  simp[execOp,ho,resolve,hy.1,Deferred.ofValue,invoke,e1,e2,h6]
 ·simp at h5
end
section
variable{c:Ctx}{st st':St}{U:Nat→Prop}{γ:Gm}{S:Nat→Prop}{a:Act}{w:World}{C:Cl}{o:Oper}{id:Nat}
theorem Nj:∀{l l':List (List G)},l.Sublist l'→(bX l).Sublist (bX l')
 |_,_,.slnil=>by simp[bX]
 |_,_,.cons a h=>by simp only[bX];exact(Nj h).trans (List.sublist_append_right _ _)
 |_,_,.cons_cons a h=>by simp only[bX];exact(List.Sublist.refl _).append (Nj h)
theorem Nn{sz:Nat}:∀(els:List (List G)) (k:Nat),(∀el∈els,el.length=sz)→a7 (els.take k)=(a7 els).take (k*sz)
 |els,0,_=>by simp[a7]
 |[],k+1,_=>by simp[a7]
 |e::els,k+1,h=>by
  have he:(cL e).length=sz:=by rw[dH];exact h e (by simp)
  rw[List.take_succ_cons,a7,a7,Nn els k (fun x hx=>h x (by simp[hx])),Nat.add_mul,Nat.one_mul,List.take_append,List.take_of_length_le (show(cL e).length≤k*sz+sz by omega),he,show k*sz+sz-sz=k*sz by omega]
theorem Lo{sz:Nat}:∀(els:List (List G)) (k:Nat),(∀el∈els,el.length=sz)→a7 (els.drop k)=(a7 els).drop (k*sz)
 |els,0,_=>by simp
 |[],k+1,_=>by simp[a7]
 |e::els,k+1,h=>by
  have he:(cL e).length=sz:=by rw[dH];exact h e (by simp)
  rw[List.drop_succ_cons,Lo els k (fun x hx=>h x (by simp[hx])),a7,Nat.add_mul,Nat.one_mul,List.drop_append,List.drop_eq_nil_of_le (show(cL e).length≤k*sz+sz by omega),he,show k*sz+sz-sz=k*sz by omega,zqf]
theorem zqy(R:Rep c st U γ S a w){t e:TypeId}{y1:Operand}{l h:Option Operand}{xl xh:Option O}(ho:o.op= .slice t y1 l h none)(h2:gG l xl=true)(h3:gG h xh=true)(ht:cP c.P t=some e){sz:Nat}(hz:mC c.P e=some sz)
  {A:Option Addr} {n cap:Nat} (e1:a.eval y1= .slice A n cap) {lo hi:Int} (h8:bN st 0 xl=some lo) (h9:bN st (n:Int) xh=some hi) (b1:0≤lo) (b2:lo≤hi) (b3:hi≤n) (b4:n≤cap) :
  (execOp a.eval o).run c.P w= .ok (.value (sliced A lo.toNat hi.toNat cap sz)) w:=by
 unfold mC at hz
 rw[aC] at hz
 obtain⟨ie,hie,hse⟩:=hz
 have e2':(n:Int)≤cap:=by omega
 unfold cP at ht
 split at ht
 ·rename_i e' hu
  simp only[oi] at ht
  subst ht
  have hel:c.P.elem t=e':=by simp[Program.elem,hu]
  have hu':c.P.underlying t=some (.slice (c.P.elem t)):=by rw[hel];exact hu
  have hso:(sizeOf (c.P.elem t)).run c.P w= .ok sz w:=by simp[hel,sizeOf,typeInfo,hie,hse]
  cases l with
  |none =>
   cases xl with
   |some _=>simp[gG] at h2
   |none =>
    simp only[bN,oi] at h8
    subst h8
    cases h with
    |none =>
     cases xh with
     |some _=>simp[gG] at h3
     |none =>
      simp only[bN,oi] at h9
      subst h9
      simp[execOp,ho,e1,run_sliceAt_slice (P:=c.P) w t _ _ _ _ hu',run_slice_all (P:=c.P) w t A _ cap hu',hso]
    |some h =>
     cases xh with
     |none=>simp[gG] at h3
     |some xh =>
      simp only[bN,aC] at h9
      obtain⟨⟨k,m⟩,h11,rfl⟩:=h9
      have e6:=fQ R (x:=h) (o:=xh) (by simpa[gG] using h3) h11
      simp only at e6 b2 b3
      simp[execOp,ho,e1,e6,run_sliceAt_slice (P:=c.P) w t _ _ _ _ hu',run_slice_h (P:=c.P) w t A _ cap hu' k m b2 (by omega),hso]
  |some l =>
   cases xl with
   |none=>simp[gG] at h2
   |some xl =>
    simp only[bN,aC] at h8
    obtain⟨⟨k,m⟩,h11,rfl⟩:=h8
    have e6:=fQ R (x:=l) (o:=xl) (by simpa[gG] using h2) h11
    simp only at e6 b1 b2
    cases h with
    |none =>
     cases xh with
     |some _=>simp[gG] at h3
     |none =>
      simp only[bN,oi] at h9
      subst h9
      simp[execOp,ho,e1,e6,run_sliceAt_slice (P:=c.P) w t _ _ _ _ hu',run_slice_l (P:=c.P) w t A _ cap hu' k m b1 b2,hso]
    |some h =>
     cases xh with
     |none=>simp[gG] at h3
     |some xh =>
      simp only[bN,aC] at h9
      obtain⟨⟨k2,n2⟩,h12,rfl⟩:=h9
      have e7:=fQ R (x:=h) (o:=xh) (by simpa[gG] using h3) h12
      simp only at e7 b2 b3
      simp[execOp,ho,e1,e6,e7,run_sliceAt_slice (P:=c.P) w t _ _ _ _ hu',run_slice_lh (P:=c.P) w t A _ cap hu' k k2 m n2 b1 b2 (by omega),hso]
 ·simp at ht
def zjL(lo sz:Nat)(b:Bk):Bk:=⟨b.1,b.2-lo,b.3+lo*sz⟩
theorem z8j{sz:Nat}{bb:Option Bk}{ges:List (List G)}(hok:(G.s sz bb ges).ok w S){lo hi:Nat}(h1:lo≤hi)(h2:hi≤ges.length)(h3:lo=0∨lo<hi) :
  (G.s sz (bb.map (zjL lo sz)) ((ges.take hi).drop lo)).ok w S:=by
 simp only[G.ok] at hok ⊢
 obtain⟨a1,a2,a3⟩:=hok
 have hlen:((ges.take hi).drop lo).length=hi-lo:=by rw[List.length_drop,List.length_take];omega
 refine⟨?_,fun el hel=>a2 el (List.mem_of_mem_take (List.mem_of_mem_drop hel)),?_⟩
 ·cases bb with
  |none =>
   simp only at a1
   subst a1
   simp
  |some b =>
   obtain⟨b,cap,o0⟩:=b
   obtain⟨c1,c2,cur,e,c3,c4,c5⟩:=a1
   simp only at c1 c2 c3 c4 c5
   simp only[oms,zjL,hlen]
   refine⟨by omega,by omega,cur,e,c3,?_,?_⟩
   ·rw[c4,Nat.sub_mul]
    have:lo*sz≤cap*sz:=Nat.mul_le_mul_right _ (by omega)
    omega
   ·rw[Lo _ lo (fun el hel=>a2 el (List.mem_of_mem_take hel)),Nn _ hi a2,←c5,←List.drop_drop,List.take_take,List.drop_take]
    have h5:hi*sz≤ges.length*sz:=Nat.mul_le_mul_right _ h2
    rw[Nat.min_eq_left h5,Nat.sub_mul]
 ·rw[dV] at a3 ⊢
  exact fun el hel=>a3 el (List.mem_of_mem_take (List.mem_of_mem_drop hel))
theorem zq7{sz:Nat}{bb:Option Bk}{ges:List (List G)}{w:World}{S:Nat→Prop}(hok:(G.s sz bb ges).ok w S){lo hi:Nat}(h1:lo≤hi)(h2:hi≤ges.length)(h3:lo=0∨lo<hi) :
  ∃A cap,(G.s sz bb ges).val= .slice A ges.length cap∧ges.length≤cap∧(G.s sz (bb.map (zjL lo sz)) ((ges.take hi).drop lo)).val=sliced A lo hi cap sz:=by
 simp only[G.ok] at hok
 have hlen:((ges.take hi).drop lo).length=hi-lo:=by rw[List.length_drop,List.length_take];omega
 cases bb with
 |none =>
  have:=hok.1
  simp only at this
  subst this
  simp only[ln] at h2
  have e1:hi=0:=by omega
  have e2:lo=0:=by omega
  subst e1;subst e2
  exact⟨none,0,rfl,by simp,by simp[sliced,G.val]⟩
 |some b =>
  obtain⟨b,cap,o0⟩:=b
  obtain⟨c1,_⟩:=hok.1
  refine⟨some ⟨b,o0,none⟩,cap,rfl,c1,?_⟩
  simp only[oms,G.val,zjL,hlen,sliced]
  simp only at c1
  by_cases e:cap=lo
  ·rw[if_pos e]
   have:lo=0:=by omega
   subst this
   simp
  ·rw[if_neg e,Addr.add_lit]
theorem zYa(R:Rep c st U γ S a w)(hd:∀k,o.dst=some k→k<c.nt){t e:TypeId}{y1:Operand}{x1:O}{l h:Option Operand}{xl xh:Option O}(ho:o.op= .slice t y1 l h none)(h1:eqO y1 x1=true)(h2:gG l xl=true)(h3:gG h xh=true)(ht:cP c.P t=some e){sz:Nat}(hz:mC c.P e=some sz)
  {k:Nat} (hk:¬U k) {U':Nat→Prop} (hU:∀k,U k→U' k) (hk':U' k)
  (hs:opS C st o.dst k (.cutm sz x1 xl xh)=some st'):Runs c o a w st' U':=by
 simp only[opS,aA] at hs
 obtain⟨x,h4,lo,h8,⟨els,hp⟩,h5,hi,h9,h10⟩:=hs
 split at h10
 ·rename_i hb
  simp only[oi] at h10
  subst h10
  obtain⟨b1,b2,b3,b4⟩:=hb
  obtain⟨h6,h7⟩:=bV R h1 h4
  obtain⟨γ1,i1,bb,ges,t1,e1,e2⟩:=So R.mm h6 h5
  have hl1:ges.length=els.length:=by rw[←e1,cY]
  simp only at b3 h9
  have c1:lo.toNat≤hi.toNat:=by omega
  have c2:hi.toNat≤ges.length:=by omega
  have c3:lo.toNat=0∨lo.toNat<hi.toNat:=by omega
  have hok1:=t1.mm.ok _ _ t1.at_
  have hok0:=z8j hok1 c1 c2 c3
  obtain⟨A,cap,v1,v2,v3⟩:=zq7 hok1 c1 c2 c3
  rw[e2] at v1
  rw[←hl1] at h9 b3
  have hrun:=zqy R ho h2 h3 ht hz v1 h8 h9 b1 b2 b3 v2
  rw[←v3] at hrun
  have htop:(G.s sz (bb.map (zjL lo.toNat sz)) ((ges.take hi.toNat).drop lo.toNat)).top=(G.s sz bb ges).top:=by cases bb<;>rfl
  have hsub0:(G.s sz (bb.map (zjL lo.toNat sz)) ((ges.take hi.toNat).drop lo.toNat)).bl.Sublist (G.s sz bb ges).bl:=by
   rw[G.bl_s,G.bl_s,htop]
   exact(List.Sublist.refl _).append (Nj ((List.drop_sublist _ _).trans (List.take_sublist _ _)))
  generalize hG0:G.s sz (bb.map (zjL lo.toNat sz)) ((ges.take hi.toNat).drop lo.toNat)=G0 at *
  have hids:=G3 R hk
  have hM:=t1.mm.regroup (S':=S) (w':=w) [i1] (by simpa using t1.flo) (G0:=G0) hok0 (hsub0.nodup (t1.mm.nd _ _ t1.at_)) (fun q hq=> .inl ⟨i1,by simp,_,t1.at_,hsub0.subset hq⟩) (fun _ _ _ _ _ _=>rfl) (fun q hq=>⟨hq,rfl⟩) (fun q hq=>⟨(t1.mm.sd q hq).1,fun hq'=>(t1.mm.sd q hq).2 _ _ t1.at_ (hsub0.subset hq'),fun i g hi _=>(t1.mm.sd q hq).2 i g hi⟩) (st.fr,k)
  have hR:=R.change (U':=U') hM rfl rfl rfl (Nat.le_refl _) (fun _ _ _=>rfl) (fun q ⟨i,g,g1,g2⟩=> ?_) (fun t x hx=>bS (fun id p h=>(t1.same id p).trans (Same.regroup id p h)) x (hids t x hx)) (fun id hid=> ?_) (fun k h=>h) (fun k h=> .inl h) (fun id d hd=> ?_) hU (fun id hid h0=>by
   have:id≠(st.fr,k):=fun e=>by rw[e] at hid;simp at hid
   simp only[upd,this,if_false];exact t1.mono id h0)
  ·have hE:G0.er= .s sz ((els.take hi.toNat).drop lo.toNat):=by
    rw[←hG0,G.er,←e1,cG,cG,List.map_drop,List.map_take]
   refine .value _ w hrun ⟨upd (rem γ1 [i1]) (.inl (st.fr,k)) (some G0),S,?_⟩
   have:=hR.put (d:=o.dst) hd (x:= .ref (st.fr,k) []) (v:=G0.val) ?_ ?_
   ·rw[hE] at this
    exact this
   ·simp only[X.vr]
    refine⟨mZ hok0,fun g hg=> ?_⟩
    simp only[Gm.nav,upd,if_true,obs,G.nav,oi] at hg
    subst hg
    exact⟨rfl,by rw[←hG0];rfl⟩
   ·simp only[X.allp]
    exact .inr ⟨rfl,hk'⟩
  ·unfold upd at g1
   split at g1
   ·simp only[oi] at g1
    subst g1
    exact .inl (t1.sub _ _ t1.at_ q (hsub0.subset g2))
   ·rw[cA] at g1
    exact .inl (t1.sub i g g1.2 q g2)
  ·have:id≠(st.fr,k):=fun e=>by rw[e] at hid;simp at hid
   exact(t1.same id []).trans (Same.regroup id [] this)
  ·unfold upd at hd
   split at hd
   ·rename_i e
    subst e
    exact .inr ⟨rfl,hk'⟩
   ·have hne:st.heap id≠none:=fun h0=>by rw[t1.mono id h0] at hd;simp at hd
    obtain⟨d0,hd0⟩:=Option.ne_none_iff_exists'.1 hne
    exact(R.hid id d0 hd0).imp (fun h=>h) (fun h=>⟨h.1,hU _ h.2⟩)
 ·simp at h10
end
end Go.Ev
