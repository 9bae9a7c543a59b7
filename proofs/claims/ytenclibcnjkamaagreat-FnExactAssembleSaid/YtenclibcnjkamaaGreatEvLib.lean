import Derived.Test.YtenclibcnjkamaaGreatEvCall4
set_option linter.all false
namespace Go.Ev
open Go.RowKit
structure LibRel (w w':World) (blk off:Nat) (zs:List Int):Prop where
 os:w'.os=w.os
 tape:w'.tape=w.tape
 output:w'.output=w.output
 size:w.heap.size≤w'.heap.size
 keep:∀k,k<w.heap.size→k≠blk→w'.heap[k]? = w.heap[k]?
 row:∀cur e,w.heap[blk]? = some (.cells cur e (0,0))→∃cur',w'.heap[blk]? = some (.cells cur' e (0,0))∧cur'.size=cur.size∧∀(j:Nat) (z:Int),zs[j]? = some z→cur'[off+j]? = some (.int .i64 z)
structure LibOk (P:Program) (f n:Nat):Prop where
 call:j9 P f
 len:∀zs,n=1→(fF n zs).length=zs.length
 le:∀zs,(fF n zs).length≤zs.length
 full:∀(blk off cap:Nat) (zs:List Int) (w:World),(∀(j:Nat) (z:Int),zs[j]? = some z→w.cell? ⟨blk,off+j,none⟩=some (.int .i64 z)∧w.frozen? ⟨blk,off+j,none⟩=false)→blk<w.heap.size→zs.length≤cap→cap≤maxLen→zs.length≤1000000000 →
  Calls P f #[.slice (some ⟨blk,off,none⟩) zs.length cap] w fun e w'=>e= .returned (if n=1 then .tuple #[] else .slice (some ⟨blk,off,none⟩) (fF n zs).length cap)∧LibRel w w' blk off (fF n zs)
 nil:∀w:World,Calls P f #[.slice none 0 0] w fun e w'=>e= .returned (if n=1 then .tuple #[] else .slice none 0 0)∧w'=w
structure LibGrow (P:Program) (f:Nat):Prop where
 call:j9 P f
 grow:∀(n:Int),0≤n→n≤1000000000→∀w:World,Calls P f #[.slice none 0 0,.int .i64 n] w fun e w'=>∃b:Option Bk,e= .returned (G.s 1 b []).val∧w'.os=w.os∧w'.tape=w.tape∧w'.output=w.output∧w.heap.size≤w'.heap.size ∧
  (∀k,k<w.heap.size→w'.heap[k]? = w.heap[k]?)∧∀b0,b=some b0→b0.b=w.heap.size∧b0.c≤maxLen∧∃cur e,w'.heap[b0.b]? = some (.cells cur e (0,0))∧cur.size=b0.o+b0.c
def zKR(P:Program)(f:Nat)(s:SFn):Prop:=(∃n,s.code= .lib n∧s.np=1∧s.res=(if n=1 then [] else [.t 0])∧n≠3∧LibOk P f n)∨(s.code= .lib 3∧s.np=2∧s.res=[.t 0]∧LibGrow P f)
def mQ(zs:List Int):List (List G):=zs.map fun z=>[.l (.v (.int .i64 z)) (.int .i64 z)]
theorem zWq(zs:List Int):cX (mQ zs)=Ii zs:=by
 simp only[c9,mQ,Ii,List.map_map]
 rfl
theorem Ea(zs:List Int):(mQ zs).length=zs.length:=by simp[mQ]
theorem zWV(zs:List Int):cQ (mQ zs)=[]:=by
 induction zs with
 |nil=>simp[mQ,cQ]
 |cons z zs ih =>
  simp only[mQ,mc,cQ,bls,G.bl,zqf] at ih ⊢
  exact ih
theorem zjI(zs:List Int):bX (mQ zs)=zs.map (Value.int .i64):=by
 induction zs with
 |nil=>simp[mQ,bX]
 |cons z zs ih =>
  simp only[mQ,mc,bX,dE,mn,G.val,List.singleton_append] at ih ⊢
  rw[ih]
theorem zJu{w:World}{S:Nat→Prop}(zs:List Int):jG w S (mQ zs):=eI.2 fun el hel g hg=>by
 simp only[mQ,List.mem_map] at hel
 obtain⟨z,_,rfl⟩:=hel
 rw[List.mem_singleton] at hg
 subst hg
 simp[G.ok,D.leaf,D.rd,Value.oneCell']
theorem Pr{w:World}{S:Nat→Prop}:∀{els:List (List G)} {zs:List Int},jG w S els→E2 (cX els)=some zs→bX els=zs.map (Value.int .i64)∧cQ els=[]∧els.length=zs.length
 |[],zs,_,h=>by
  simp only[cX,E2,oi] at h
  subst h
  simp[bX,cQ]
 |el::els,zs,ho,h=>by
  simp only[jG] at ho
  match el,ho,h with
  |[],_,h=>simp[cX,ers,E2] at h
  |[.s _ _ _],_,h=>simp[cX,ers,G.er,E2] at h
  |_::_::_,_,h=>simp[cX,ers,E2] at h
  |[.l d v],ho,h =>
   simp only[cX,ers,G.er] at h
   unfold E2 at h
   split at h
   ·simp at *
   ·rename_i z els' he
    simp only[List.cons.injEq,and_true] at he
    obtain⟨rfl,rfl⟩:=he
    rw[aD] at h
    obtain⟨zs',h1,rfl⟩:=h
    obtain⟨a1,a2,a3⟩:=Pr ho.2 h1
    have:=ho.1
    simp only[oks,G.ok,D.rd] at this
    refine⟨by simp only[bX,dE,mc,mn,G.val,List.singleton_append,a1,this.1.2.1],by simp only[cQ,bls,G.bl,zqf,a2],by simp only[lc,a3]⟩
   ·simp at h
end Go.Ev
