import Derived.Test.YtenclibcnjkamaaGreatEvCall4
set_option linter.all false
namespace Go.Ev
open Go.RowKit
structure LibRel (w w':World) (blk off:Nat) (zs:List Int):Prop where
 os:w'.os=w.os
 tape:w'.tape=w.tape
 output:w'.output=w.output
 size:w.heap.size≤w'.heap.size
 keep:∀k,k<w.heap.size→k≠blk→w'.heap[k]? = w.heap[k]?
 row:∀cur e,w.heap[blk]? = some (.cells cur e (0,0))→∃cur',w'.heap[blk]? = some (.cells cur' e (0,0))∧cur'.size=cur.size∧∀(j:Nat) (z:Int),zs[j]? = some z→cur'[off+j]? = some (.int .i64 z)
structure LibOk (P:Program) (f n:Nat):Prop where
 call:gN P f
 len:∀zs,n=1→(jI n zs).length=zs.length
 le:∀zs,(jI n zs).length≤zs.length
 full:∀(blk off cap:Nat) (zs:List Int) (w:World),(∀(j:Nat) (z:Int),zs[j]? = some z→w.cell? ⟨blk,off+j,none⟩=some (.int .i64 z)∧w.frozen? ⟨blk,off+j,none⟩=false)→blk<w.heap.size→zs.length≤cap→cap≤maxLen→zs.length≤1000000000 →
  Calls P f #[.slice (some ⟨blk,off,none⟩) zs.length cap] w fun e w'=>e= .returned (if n=1 then .tuple #[] else .slice (some ⟨blk,off,none⟩) (jI n zs).length cap)∧LibRel w w' blk off (jI n zs)
 nil:∀w:World,Calls P f #[.slice none 0 0] w fun e w'=>e= .returned (if n=1 then .tuple #[] else .slice none 0 0)∧w'=w
structure LibGrow (P:Program) (f:Nat):Prop where
 call:gN P f
 grow:∀(n:Int),0≤n→n≤1000000000→∀w:World,Calls P f #[.slice none 0 0,.int .i64 n] w fun e w'=>∃b:Option Bk,e= .returned (G.s 1 b []).val∧w'.os=w.os∧w'.tape=w.tape∧w'.output=w.output∧w.heap.size≤w'.heap.size ∧
  (∀k,k<w.heap.size→w'.heap[k]? = w.heap[k]?)∧∀b0,b=some b0→b0.b=w.heap.size∧b0.c≤maxLen∧∃cur e,w'.heap[b0.b]? = some (.cells cur e (0,0))∧cur.size=b0.o+b0.c
def zyh(P:Program)(f:Nat)(s:SFn):Prop:=(∃n,s.code= .lib n∧s.np=1∧s.res=(if n=1 then [] else [.t 0])∧n≠3∧LibOk P f n)∨(s.code= .lib 3∧s.np=2∧s.res=[.t 0]∧LibGrow P f)
def jJ(zs:List Int):List (List G):=zs.map fun z=>[.l (.v (.int .i64 z)) (.int .i64 z)]
theorem zJm(zs:List Int):b9 (jJ zs)=Co zs:=by
 simp only[cC,jJ,Co,List.map_map]
 rfl
theorem zV(zs:List Int):(jJ zs).length=zs.length:=by simp[jJ]
theorem zxC(zs:List Int):bS (jJ zs)=[]:=by
 induction zs with
 |nil=>simp[jJ,bS]
 |cons z zs ih =>
  simp only[jJ,mc,bS,bls,G.bl,zqf] at ih ⊢
  exact ih
theorem Wk(zs:List Int):a7 (jJ zs)=zs.map (Value.int .i64):=by
 induction zs with
 |nil=>simp[jJ,a7]
 |cons z zs ih =>
  simp only[jJ,mc,a7,cH,mn,G.val,List.singleton_append] at ih ⊢
  rw[ih]
theorem zJl{w:World}{S:Nat→Prop}(zs:List Int):fV w S (jJ zs):=dG.2 fun el hel g hg=>by
 simp only[jJ,List.mem_map] at hel
 obtain⟨z,_,rfl⟩:=hel
 rw[List.mem_singleton] at hg
 subst hg
 simp[G.ok,D.leaf,D.rd,Value.oneCell']
theorem Ip{w:World}{S:Nat→Prop}:∀{els:List (List G)} {zs:List Int},fV w S els→Aq (b9 els)=some zs→a7 els=zs.map (Value.int .i64)∧bS els=[]∧els.length=zs.length
 |[],zs,_,h=>by
  simp only[b9,Aq,oi] at h
  subst h
  simp[a7,bS]
 |el::els,zs,ho,h=>by
  simp only[fV] at ho
  match el,ho,h with
  |[],_,h=>simp[b9,ers,Aq] at h
  |[.s _ _ _],_,h=>simp[b9,ers,G.er,Aq] at h
  |_::_::_,_,h=>simp[b9,ers,Aq] at h
  |[.l d v],ho,h =>
   simp only[b9,ers,G.er] at h
   unfold Aq at h
   split at h
   ·simp at *
   ·rename_i z els' he
    simp only[List.cons.injEq,and_true] at he
    obtain⟨rfl,rfl⟩:=he
    rw[aC] at h
    obtain⟨zs',h1,rfl⟩:=h
    obtain⟨a1,a2,a3⟩:=Ip ho.2 h1
    have:=ho.1
    simp only[oks,G.ok,D.rd] at this
    refine⟨by simp only[a7,cH,mc,mn,G.val,List.singleton_append,a1,this.1.2.1],by simp only[bS,bls,G.bl,zqf,a2],by simp only[lc,a3]⟩
   ·simp at h
end Go.Ev
