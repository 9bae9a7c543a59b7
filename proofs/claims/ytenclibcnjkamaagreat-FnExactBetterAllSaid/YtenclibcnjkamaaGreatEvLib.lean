import Derived.Test.YtenclibcnjkamaaGreatEvCall4
set_option linter.all false
namespace Go.Ev
open Go.RowKit
structure LibRel (w w':World) (blk off:Nat) (zs:List Int):Prop where
 os:w'.os=w.os
 tape:w'.tape=w.tape
 output:w'.output=w.output
 size:w.heap.size≤w'.heap.size
 keep:∀k,k<w.heap.size→k≠blk→w'.heap[k]? = w.heap[k]?
 row:∀cur e,w.heap[blk]? = some (.cells cur e (0,0))→∃cur',w'.heap[blk]? = some (.cells cur' e (0,0))∧cur'.size=cur.size∧∀(j:Nat) (z:Int),zs[j]? = some z→cur'[off+j]? = some (.int .i64 z)
structure LibOk (P:Program) (f n:Nat):Prop where
 call:iD P f
 len:∀zs,n=1→(jY n zs).length=zs.length
 le:∀zs,(jY n zs).length≤zs.length
 full:∀(blk off cap:Nat) (zs:List Int) (w:World),(∀(j:Nat) (z:Int),zs[j]? = some z→w.cell? ⟨blk,off+j,none⟩=some (.int .i64 z)∧w.frozen? ⟨blk,off+j,none⟩=false)→blk<w.heap.size→zs.length≤cap→cap≤maxLen→zs.length≤1000000000 →
  Calls P f #[.slice (some ⟨blk,off,none⟩) zs.length cap] w fun e w'=>e= .returned (if n=1 then .tuple #[] else .slice (some ⟨blk,off,none⟩) (jY n zs).length cap)∧LibRel w w' blk off (jY n zs)
 nil:∀w:World,Calls P f #[.slice none 0 0] w fun e w'=>e= .returned (if n=1 then .tuple #[] else .slice none 0 0)∧w'=w
structure LibGrow (P:Program) (f:Nat):Prop where
 call:iD P f
 grow:∀(n:Int),0≤n→n≤1000000000→∀w:World,Calls P f #[.slice none 0 0,.int .i64 n] w fun e w'=>∃b:Option Bk,e= .returned (G.s 1 b []).val∧w'.os=w.os∧w'.tape=w.tape∧w'.output=w.output∧w.heap.size≤w'.heap.size ∧
  (∀k,k<w.heap.size→w'.heap[k]? = w.heap[k]?)∧∀b0,b=some b0→b0.b=w.heap.size∧b0.c≤maxLen∧∃cur e,w'.heap[b0.b]? = some (.cells cur e (0,0))∧cur.size=b0.o+b0.c
def zxc(P:Program)(f:Nat)(s:SFn):Prop:=(∃n,s.code= .lib n∧s.np=1∧s.res=(if n=1 then [] else [.t 0])∧n≠3∧LibOk P f n)∨(s.code= .lib 3∧s.np=2∧s.res=[.t 0]∧LibGrow P f)
def kN(zs:List Int):List (List G):=zs.map fun z=>[.l (.v (.int .i64 z)) (.int .i64 z)]
theorem zZO(zs:List Int):cD (kN zs)=E5 zs:=by
 simp only[cG,kN,E5,List.map_map]
 rfl
theorem Cp(zs:List Int):(kN zs).length=zs.length:=by simp[kN]
theorem zxC(zs:List Int):bX (kN zs)=[]:=by
 induction zs with
 |nil=>simp[kN,bX]
 |cons z zs ih =>
  simp only[kN,mc,bX,bls,G.bl,zqf] at ih ⊢
  exact ih
theorem zjk(zs:List Int):a7 (kN zs)=zs.map (Value.int .i64):=by
 induction zs with
 |nil=>simp[kN,a7]
 |cons z zs ih =>
  simp only[kN,mc,a7,cL,mn,G.val,List.singleton_append] at ih ⊢
  rw[ih]
theorem zZj{w:World}{S:Nat→Prop}(zs:List Int):gK w S (kN zs):=dV.2 fun el hel g hg=>by
 simp only[kN,List.mem_map] at hel
 obtain⟨z,_,rfl⟩:=hel
 rw[List.mem_singleton] at hg
 subst hg
 simp[G.ok,D.leaf,D.rd,Value.oneCell']
theorem Lt{w:World}{S:Nat→Prop}:∀{els:List (List G)} {zs:List Int},gK w S els→Db (cD els)=some zs→a7 els=zs.map (Value.int .i64)∧bX els=[]∧els.length=zs.length
 |[],zs,_,h=>by
  simp only[cD,Db,oi] at h
  subst h
  simp[a7,bX]
 |el::els,zs,ho,h=>by
  simp only[gK] at ho
  match el,ho,h with
  |[],_,h=>simp[cD,ers,Db] at h
  |[.s _ _ _],_,h=>simp[cD,ers,G.er,Db] at h
  |_::_::_,_,h=>simp[cD,ers,Db] at h
  |[.l d v],ho,h =>
   simp only[cD,ers,G.er] at h
   unfold Db at h
   split at h
   ·simp at *
   ·rename_i z els' he
    simp only[List.cons.injEq,and_true] at he
    obtain⟨rfl,rfl⟩:=he
    rw[aC] at h
    obtain⟨zs',h1,rfl⟩:=h
    obtain⟨a1,a2,a3⟩:=Lt ho.2 h1
    have:=ho.1
    simp only[oks,G.ok,D.rd] at this
    refine⟨by simp only[a7,cL,mc,mn,G.val,List.singleton_append,a1,this.1.2.1],by simp only[bX,bls,G.bl,zqf,a2],by simp only[lc,a3]⟩
   ·simp at h
end Go.Ev
