import Derived.Test.YtenclibcnjkamaaGreatEvLib
import Derived.Shelf.Sort.Plain
import Derived.Shelf.Slices.In.SortNone
import Derived.Shelf.Slices.CompactI
import Derived.Shelf.Spec.SlicesGrow
set_option linter.all false
namespace Go.Ev
open Go.RowKit Go.Shelf Go.Sort Go.Proofs
theorem Bn{P:Program}{f:Nat}{fn:Func}(h:P.funcs[f]? = some fn)(h2:(fn.name== "runtime.NumGoroutine" || fn.body.isNone)=false):iD P f:=by
 simp only[Bool.or_eq_false_iff,beq_eq_false_iff_ne,ne_eq] at h2
 refine⟨fn,h,h2.1,fun e=> ?_⟩
 rw[e] at h2
 simp at h2
theorem zqA{w:World}{n blk off:Nat}{d:Array Int}{zs:List Int}{os:Array Obj}(hb:blk<w.heap.size)(hd:∀j,j<d.size→(w.cell? ⟨blk,off+j,none⟩).isSome=true)(hz:∀(j:Nat) (z:Int),zs[j]? = some z→d[j]? = some z) :
  LibRel w (grow (putRow (Value.int .i64) (Sort.ahead w n) blk off d) os) blk off zs:=by
 refine⟨rfl,rfl,rfl,by simp,fun k hk hne=> ?_,fun cur e hc=>⟨putCells (Value.int .i64) off d cur,?_,by simp[putCells],fun j z hj=> ?_⟩⟩
 ·rw[heap_grow_old _ os (by simpa using hk)]
  simp only[putRow,mapBlock,heap_ahead,Array.getElem?_modify]
  rw[if_neg (fun e=>hne e.symm)]
 ·rw[heap_grow_old _ os (by simpa using hb)]
  simp only[putRow,mapBlock,heap_ahead,Array.getElem?_modify,if_true,hc,oms,onCells]
 ·have h1:=hz j z hj
  have hlt:j<d.size:=(Array.getElem?_eq_some_iff.1 h1).1
  have h2:=hd j hlt
  rw[cell_of_row w blk _ cur e (0,0) hc,Option.isSome_iff_exists] at h2
  obtain⟨v,h2⟩:=h2
  simp only[putCells,Array.getElem?_mapIdx,h2,oms,Nat.le_add_right,true_and,Nat.add_lt_add_left hlt off,if_true,Nat.add_sub_cancel_left]
  rw[getElem!_pos d j hlt]
  have:=(Array.getElem?_eq_some_iff.1 h1).2
  rw[this]
theorem Vz{w:World}{blk off:Nat}{zs:List Int}(h:∀(j:Nat) (z:Int),zs[j]? = some z→w.cell? ⟨blk,off+j,none⟩=some (.int .i64 z)∧w.frozen? ⟨blk,off+j,none⟩=false):Holds (Value.int .i64) w blk off zs.toArray:=fun j hj=>by
 have hj':j<zs.length:=by simpa using hj
 have:=h j zs[j] (List.getElem?_eq_getElem hj')
 rw[getElem!_pos zs.toArray j hj]
 simpa using this
theorem z9w(zs:List Int):Lib.compact zs=Ki zs:=by
 simp only[Lib.compact,Lib.compactUpTo,Ki,List.getElem!_toArray]
 congr 2
 funext j
 simp[Lib.keeps,T7]
theorem W7(zs:List Int):(Ki zs).length≤zs.length:=by
 unfold Ki
 rw[lm]
 exact Nat.le_trans (List.length_filter_le _ _) (by simp)
variable{P:Program}{ρ:Ren}
theorem zxI(L:Lays.n189 P ρ)(hc:iD P (ρ.f 189)):LibOk P (ρ.f 189) 1 where
 call:=hc
 len:=fun zs _=>by simp[jY]
 le:=fun zs=>by simp[jY]
 full:=fun blk off cap zs w h hb hl hcap hz=>by
  have hH:=Vz h
  refine(Any.slices_Sort_int L blk off cap zs w hH hb (by omega)).mono ?_
  rintro e w' ⟨rfl,n,os,rfl⟩
  refine⟨by simp,zqA hb (fun j hj=> ?_) (fun j z hj=>by simpa[jY] using hj)⟩
  rw[(hH j (by simpa using hj)).1];rfl
 nil:=fun w=>by
  refine(Any.slices_Sort_int_none L none 0 w).mono ?_
  rintro e w' ⟨rfl,rfl⟩
  exact⟨by simp,rfl⟩
theorem Xy(L:Lays2.n20 P ρ)(hc:iD P (ρ.f 20)):LibOk P (ρ.f 20) 2 where
 call:=hc
 len:=fun zs h=>by simp at h
 le:=fun zs=>by simp only[jY];exact W7 zs
 full:=fun blk off cap zs w h hb hl hcap hz=>by
  have hH:=Vz h
  have hle:=W7 zs
  refine(Any.slices_Compact_int L blk off cap zs w hH (by simp only[maxLen] at hcap;omega) hl).mono ?_
  rintro e w' ⟨rfl,n,rfl⟩
  rw[z9w]
  have:=zqA (w:=w) (n:=n) (off:=off) (d:=(Ki zs++List.replicate (zs.length-(Ki zs).length) 0).toArray) (zs:=Ki zs) (os:= #[]) hb (fun j hj=>by
   have hj':j<zs.length:=by simp at hj;omega
   rw[(hH j (by simpa using hj')).1];rfl) (fun j z hj=>by
   have hlt:=(List.getElem?_eq_some_iff.1 hj).1
   simp only[List.getElem?_toArray]
   rw[List.getElem?_append_left hlt];exact hj)
  rw[grow_empty] at this
  exact⟨by simp[jY],by simpa[jY] using this⟩
 nil:=fun w=>by
  refine(Any.slices_Compact_int_empty L none 0 w).mono ?_
  rintro e w' ⟨rfl,rfl⟩
  exact⟨by simp,rfl⟩
theorem zZQ(L:Lays8.n4 P ρ)(hi:(P.info? (ρ.t 25)).map (fun i=>(i.zero,i.size,i.bytes))=some (some (Value.int IntKind.i64 0),1,8))(hc:iD P (ρ.f 4)):LibGrow P (ρ.f 4) where
 call:=hc
 grow:=fun n h0 h1 w=>by
  obtain⟨m,rfl⟩:∃m:Nat,n=m:=⟨n.toNat,by omega⟩
  by_cases hm:m=0
  ·subst hm
   refine(Any8.slices_Grow_room L none 0 0 0 w (by omega) (by omega) (by omega) (by omega)).mono ?_
   rintro e w' ⟨rfl,rfl⟩
   exact⟨none,rfl,rfl,rfl,rfl,Nat.le_refl _,fun _ _=>rfl,fun b0 h=>by simp at h⟩
  ·rw[Option.map_eq_some_iff] at hi
   obtain⟨i0,h2,h3⟩:=hi
   simp only[zqb] at h3
   obtain⟨h3,h4,h5⟩:=h3
   refine(Any8.slices_Grow_grow L i0 _ h2 h3 (by omega) none 0 0 m [] w (by omega) (by omega) (by rw[h5];omega) (by omega) (by simp) (fun _=>rfl) (fun a h=>by simp at h)).mono ?_
   rintro e w' ⟨rfl,rfl⟩
   have hge:=grownCap_ge w (0+m) 0 (ρ.t 25)
   have hle:=grownCap_le_maxLen w (0+m) 0 (ρ.t 25) (by simp only[maxLen];omega)
   refine⟨some ⟨w.heap.size,grownCap w (0+m) 0 (ρ.t 25),0⟩,rfl,rfl,rfl,rfl,?_,fun k hk=>Below.heap_alloc w.drew _ k hk,?_⟩
   ·show w.heap.size≤(w.heap.push _).size
    simp
   ·intro b0 h
    simp only[oi] at h
    subst h
    refine⟨rfl,hle,_,_,heap_alloc_new w.drew _,?_⟩
    simp only[Nat.zero_add] at hge ⊢
    simp only[Array.size_append,List.size_toArray,ln,size_zeroCells,Value.cells]
    simp
    omega
end Go.Ev
