import Derived.Test.YtenclibcnjkamaaGreatEvCall4
set_option linter.all false
namespace Go.Ev
open Go.RowKit
structure LibRel (w w':World) (blk off:Nat) (zs:List Int):Prop where
 os:w'.os=w.os
 tape:w'.tape=w.tape
 output:w'.output=w.output
 size:w.heap.size≤w'.heap.size
 keep:∀k,k<w.heap.size→k≠blk→w'.heap[k]? = w.heap[k]?
 row:∀cur e,w.heap[blk]? = some (.cells cur e (0,0))→∃cur',w'.heap[blk]? = some (.cells cur' e (0,0))∧cur'.size=cur.size∧∀(j:Nat) (z:Int),zs[j]? = some z→cur'[off+j]? = some (.int .i64 z)
structure LibOk (P:Program) (f n:Nat):Prop where
 call:gZ P f
 len:∀zs,n=1→(d9 n zs).length=zs.length
 le:∀zs,(d9 n zs).length≤zs.length
 full:∀(blk off cap:Nat) (zs:List Int) (w:World),(∀(j:Nat) (z:Int),zs[j]? = some z→w.cell? ⟨blk,off+j,none⟩=some (.int .i64 z)∧w.frozen? ⟨blk,off+j,none⟩=false)→blk<w.heap.size→zs.length≤cap→cap≤maxLen→zs.length≤1000000000 →
  Calls P f #[.slice (some ⟨blk,off,none⟩) zs.length cap] w fun e w'=>e= .returned (if n=1 then .tuple #[] else .slice (some ⟨blk,off,none⟩) (d9 n zs).length cap)∧LibRel w w' blk off (d9 n zs)
 nil:∀w:World,Calls P f #[.slice none 0 0] w fun e w'=>e= .returned (if n=1 then .tuple #[] else .slice none 0 0)∧w'=w
structure LibGrow (P:Program) (f:Nat):Prop where
 call:gZ P f
 grow:∀(n:Int),0≤n→n≤1000000000→∀w:World,Calls P f #[.slice none 0 0,.int .i64 n] w fun e w'=>∃b:Option Bk,e= .returned (G.s 1 b []).val∧w'.os=w.os∧w'.tape=w.tape∧w'.output=w.output∧w.heap.size≤w'.heap.size ∧
  (∀k,k<w.heap.size→w'.heap[k]? = w.heap[k]?)∧∀b0,b=some b0→b0.b=w.heap.size∧b0.c≤maxLen∧∃cur e,w'.heap[b0.b]? = some (.cells cur e (0,0))∧cur.size=b0.o+b0.c
def zyR(P:Program)(f:Nat)(s:SFn):Prop:=(∃n,s.code= .lib n∧s.np=1∧s.res=(if n=1 then [] else [.t 0])∧n≠3∧LibOk P f n)∨(s.code= .lib 3∧s.np=2∧s.res=[.t 0]∧LibGrow P f)
def jV(zs:List Int):List (List G):=zs.map fun z=>[.l (.v (.int .i64 z)) (.int .i64 z)]
theorem zv2(zs:List Int):cW (jV zs)=Ad zs:=by
 simp only[c8,jV,Ad,List.map_map]
 rfl
theorem xT(zs:List Int):(jV zs).length=zs.length:=by simp[jV]
theorem zy2(zs:List Int):bY (jV zs)=[]:=by
 induction zs with
 |nil=>simp[jV,bY]
 |cons z zs ih =>
  simp only[jV,mc,bY,bls,G.bl,List.nil_append] at ih ⊢
  exact ih
theorem Xm(zs:List Int):bD (jV zs)=zs.map (Value.int .i64):=by
 induction zs with
 |nil=>simp[jV,bD]
 |cons z zs ih =>
  simp only[jV,mc,bD,cL,mn,G.val,List.singleton_append] at ih ⊢
  rw[ih]
theorem zvA{w:World}{S:Nat→Prop}(zs:List Int):gK w S (jV zs):=dW.2 fun el hel g hg=>by
 simp only[jV,List.mem_map] at hel
 obtain⟨z,_,rfl⟩:=hel
 rw[List.mem_singleton] at hg
 subst hg
 simp[G.ok,D.leaf,D.rd,Value.oneCell']
theorem Hx{w:World}{S:Nat→Prop}:∀{els:List (List G)} {zs:List Int},gK w S els→x6 (cW els)=some zs→bD els=zs.map (Value.int .i64)∧bY els=[]∧els.length=zs.length
 |[],zs,_,h=>by
  simp only[cW,x6,oi] at h
  subst h
  simp[bD,bY]
 |el::els,zs,ho,h=>by
  simp only[gK] at ho
  match el,ho,h with
  |[],_,h=>simp[cW,ers,x6] at h
  |[.s _ _ _],_,h=>simp[cW,ers,G.er,x6] at h
  |_::_::_,_,h=>simp[cW,ers,x6] at h
  |[.l d v],ho,h =>
   simp only[cW,ers,G.er] at h
   unfold x6 at h
   split at h
   ·simp at *
   ·rename_i z els' he
    simp only[List.cons.injEq,and_true] at he
    obtain⟨rfl,rfl⟩:=he
    rw[aB] at h
    obtain⟨zs',h1,rfl⟩:=h
    obtain⟨a1,a2,a3⟩:=Hx ho.2 h1
    have:=ho.1
    simp only[oks,G.ok,D.rd] at this
    refine⟨by simp only[bD,cL,mc,mn,G.val,List.singleton_append,a1,this.1.2.1],by simp only[bY,bls,G.bl,List.nil_append,a2],by simp only[lc,a3]⟩
   ·simp at h
end Go.Ev
