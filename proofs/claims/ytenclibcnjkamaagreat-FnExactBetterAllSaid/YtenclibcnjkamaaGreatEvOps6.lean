import Derived.Test.YtenclibcnjkamaaGreatEvStep
import Derived.WalkKit
import Derived.Laws.Strings
import Derived.Laws.Runes
import Derived.Laws.StructEq
import Derived.Laws.Small
import Derived.Laws.Slices
import Derived.Laws.Strings3
import Derived.Laws.DeepStrings4
import Derived.Laws.Cells
import Derived.Great.BuildSlice
import Derived.Laws.MakeOwn
import Derived.Maps.AppendAt
import Derived.Laws.Tables
set_option linter.all false
namespace Go.Ev
open Go.RowKit
inductive Runs (c:Ctx) (o:Oper) (a:Act) (w:World) (st':St) (U':Nat→Prop):Prop
 |value (v:Value) (w':World) (h:(execOp a.eval o).run c.P w= .ok (.value v) w') (k:Ok c st' U' (a.put o.dst v) w')
 |skip (w':World) (h:(execOp a.eval o).run c.P w= .ok .skip w') (k:Ok c st' U' (a.put o.dst undef) w')
 |enter (f:FuncId) (args:Array Value) (w1:World) (h:(execOp a.eval o).run c.P w= .ok (.enter f args) w1)
   (k:Calls c.P f args w1 fun e w''=>∃v,e= .returned v∧Ok c st' U' (a.put o.dst v) w'')
theorem Runs.wp{c:Ctx}{o:Oper}{a:Act}{w:World}{st':St}{U':Nat→Prop}(h:Runs c o a w st' U'){K:Act→World→Prop}{Q:Exit→Act→World→Prop}(hK:∀a' w',Ok c st' U' a' w'→K a' w'):o.wp c.P a w K Q:=by
 unfold Oper.wp
 cases h with
 |value v w' h k=>rw[h,Oper.upon_value];exact hK _ _ k
 |skip w' h k=>rw[h,Oper.upon_skip];exact hK _ _ k
 |enter f args w1 h k =>
  rw[h,Oper.upon_enter]
  refine k.mono fun e w'' ⟨v,he,hok⟩=> ?_
  subst he
  exact hK _ _ hok
def R9(P:Program)(t:TypeId):Option IntKind:=match P.underlying t with|some (.int k)=>some k|_=>none
def m5(P:Program)(t:TypeId):Bool:=match P.underlying t with|some .string=>true|_=>false
def zjt(P:Program)(t:TypeId):Bool:=match P.underlying t with|some .bool=>true|_=>false
def cP(P:Program)(t:TypeId):Option TypeId:=match P.underlying t with|some (.slice e)=>some e|_=>none
def aggOf(P:Program)(t:TypeId):Option (Option Nat):=match P.underlying t with
 |some (.struct _)=>(P.info? t).map fun i=>some i.size
 |some (.array _ _)=>(P.info? t).map fun i=>some i.size
 |some _=>some none
 |none=>none
def mC(P:Program)(t:TypeId):Option Nat:=(P.info? t).map fun i=>i.size
def Hc(P:Program)(t:TypeId)(f:Nat):Option (Nat×TypeId):=match P.underlying t with
 |some (.struct fs)=>(fs[f]?).map fun x=>(x.offset,x.type)
 |_=>none
def qB:List Operand→List O→Bool
 |[],[]=>true
 |x::xs,o::os=>eqO x o&&qB xs os
 |_,_=>false
def gG:Option Operand→Option O→Bool
 |none,none=>true
 |some x,some o=>eqO x o
 |_,_=>false
section
variable{c:Ctx}{st st':St}{U:Nat→Prop}{γ:Gm}{S:Nat→Prop}{a:Act}{w:World}{C:Cl}{id:Nat}{o:Oper}{id:Nat}
theorem z7n{P:Program}{w:World}{x:Sem Value}{v:Value}{w':World}(h:x.run P w= .ok v w'):(do pure (Next.value (←x)):Sem Next).run P w= .ok (.value v) w':=by
 simp[h]
theorem dU(R:Rep c st U γ S a w){d:Option Nat}(hd:∀k,d=some k→k<c.nt){x:X}{v:Value}(hx:x.vr γ w S v)(hi:x.allp (fun id _=>fO c.A st.fr U id)):Ok c (st.put d x) U (a.put d v) w:=⟨γ,S,R.put hd hx hi⟩
theorem gR(R:Rep c st U γ S a w){d:Option Nat}(hd:∀k,d=some k→k<c.nt){v:Value}(h1:v.oneCell'=true):Ok c (st.put d (.d (.v v))) U (a.put d v) w :=
 dU R hd (by simp[X.vr,h1]) (by simp only[X.allp])
theorem zQ6(R:Rep c st U γ S a w)(hd:∀k,o.dst=some k→k<c.nt){y:Operand}{x:O}(ho:o.op= .move y∨o.op= .assign y)(hx:eqO y x=true)(hs:opS C st o.dst id (.mov x)=some st'):Runs c o a w st' U:=by
 simp only[opS,aC] at hs
 obtain⟨z,h1,rfl⟩:=hs
 obtain⟨h2,h3⟩:=bV R hx h1
 refine .value (a.eval y) w ?_ (dU R hd h2 h3)
 rcases ho with ho|ho<;>simp[execOp,ho]
theorem zW6(R:Rep c st U γ S a w)(hd:∀k,o.dst=some k→k<c.nt){y1 y2 y3:Operand}{x1 x2 x3:O}(ho:o.op= .pick y1 y2 y3)(h1:eqO y1 x1=true)(h2:eqO y2 x2=true)(h3:eqO y3 x3=true)(hs:opS C st o.dst id (.pick x1 x2 x3)=some st'):Runs c o a w st' U:=by
 simp only[opS,aA] at hs
 obtain⟨t,h4,h5⟩:=hs
 have e1:=Gn R h1 h4
 cases t with
 |true =>
  simp only[if_true,aC] at h5
  obtain⟨z,h6,rfl⟩:=h5
  obtain⟨h7,h8⟩:=bV R h2 h6
  exact .value (a.eval y2) w (by simp[execOp,ho,e1,asBool]) (dU R hd h7 h8)
 |false =>
  simp only[Bool.false_eq_true,if_false,aC] at h5
  obtain⟨z,h6,rfl⟩:=h5
  obtain⟨h7,h8⟩:=bV R h3 h6
  exact .value (a.eval y3) w (by simp[execOp,ho,e1,asBool]) (dU R hd h7 h8)
theorem z9Q(R:Rep c st U γ S a w)(hd:∀k,o.dst=some k→k<c.nt){b:BinOp}{t1 t2:TypeId}{y1 y2:Operand}{x1 x2:O}(ho:o.op= .binOp b t1 y1 y2 t2)(h1:eqO y1 x1=true)(h2:eqO y2 x2=true)(hs:opS C st o.dst id (.ari b x1 x2)=some st'):Runs c o a w st' U:=by
 simp only[opS,aA] at hs
 obtain⟨⟨k,m⟩,h4,⟨k',n⟩,h5,h6⟩:=hs
 have e1:=fQ R h1 h4
 have e2:=fQ R h2 h5
 simp only at e1 e2 h6
 split at h6
 ·rename_i hk
  subst hk
  simp only[aC] at h6
  obtain⟨z,h7,rfl⟩:=h6
  refine .value (.int k z) w ?_ (gR R hd rfl)
  cases b<;>simp only[zyU,oi,reduceCtorEq,Option.ite_none_left_eq_some] at h7 <;>
   first
    |(subst h7;simp[execOp,ho,e1,e2,eqGuard_at_int,binOp,Op.intArith,Op.intBits,bits];done)
    |(obtain⟨h8,rfl⟩:=h7;simp[execOp,ho,e1,e2,eqGuard_at_int,binOp,Op.intDiv,h8];done)
    |(obtain⟨h8,rfl⟩:=h7;simp[execOp,ho,e1,e2,eqGuard_at_int,binOp,Op.shift,h8])
 ·simp at h6
theorem O3{x y:ByteArray}:(x.toList==y.toList)=decide (x=y):=by
 rw[ByteArray.toList_eq,ByteArray.toList_eq]
 rw[Bool.eq_iff_iff,beq_iff_eq,decide_eq_true_iff]
 constructor
 ·intro h
  cases x;cases y
  simp only[Array.toList_inj] at h
  exact congrArg _ h
 ·rintro rfl;rfl
theorem z8b(R:Rep c st U γ S a w)(hd:∀k,o.dst=some k→k<c.nt){b:BinOp}{t1 t2:TypeId}{y1 y2:Operand}{x1 x2:O}(ho:o.op= .binOp b t1 y1 y2 t2)(h1:eqO y1 x1=true)(h2:eqO y2 x2=true)(hs:opS C st o.dst id (.cmp b x1 x2)=some st'):Runs c o a w st' U:=by
 simp only[opS,aA,aC] at hs
 obtain⟨m,h4,n,h5,z,h6,rfl⟩:=hs
 obtain⟨h7,_⟩:=bV R h1 h4
 obtain⟨h8,_⟩:=bV R h2 h5
 refine .value (.bool z) w ?_ (gR R hd rfl)
 unfold zJo at h6
 split at h6
 ·rename_i k m k' n
  simp only[X.vr] at h7 h8
  split at h6
  ·rename_i hk
   subst hk
   cases b<;>simp only[z8d,oi,reduceCtorEq] at h6<;>subst h6<;>simp[execOp,ho,h7.1,h8.1,eqGuard_at_int,binOp,Op.intCmp]<;>rfl
  ·simp at h6
 ·rename_i x y
  simp only[X.vr] at h7 h8
  cases b<;>simp only[z8D,oi,reduceCtorEq] at h6<;>subst h6<;>simp[execOp,ho,h7.1,h8.1,eqGuard_at_string,binOp,Op.stringOp,O3]
 ·simp at h6
theorem zYE(R:Rep c st U γ S a w)(hd:∀k,o.dst=some k→k<c.nt){b:BinOp}{t1 t2:TypeId}{y1 y2:Operand}{x1 x2:O}(ho:o.op= .binOp b t1 y1 y2 t2)(h1:eqO y1 x1=true)(h2:eqO y2 x2=true)(hb:zjt c.P t1=true)(hs:opS C st o.dst id (.cmpb b x1 x2)=some st'):Runs c o a w st' U:=by
 simp only[opS,aA,aC] at hs
 obtain⟨m,h4,n,h5,z,h6,rfl⟩:=hs
 have e7:=Gn R h1 h4
 have e8:=Gn R h2 h5
 refine .value (.bool z) w ?_ (gR R hd rfl)
 unfold zjt at hb
 split at hb
 ·rename_i hu
  cases b<;>simp only[zxT,oi,reduceCtorEq] at h6<;>subst h6
  ·simp[execOp,ho,e7,e8,eqGuard_at_bool,run_eql_bool (P:=c.P) w t1 _ _ hu]
  ·simp[execOp,ho,e7,e8,eqGuard_at_bool,run_neq_bool (P:=c.P) w t1 _ _ hu]
 ·simp at hb
theorem z8Z(R:Rep c st U γ S a w)(hd:∀k,o.dst=some k→k<c.nt){t1 t2:TypeId}{y1 y2:Operand}{x1 x2:O}(ho:o.op= .binOp .add t1 y1 y2 t2)(h1:eqO y1 x1=true)(h2:eqO y2 x2=true)(hs:opS C st o.dst id (.cat x1 x2)=some st'):Runs c o a w st' U:=by
 simp only[opS,aA] at hs
 obtain⟨x,h4,y,h5,h6⟩:=hs
 have e1:=Ei R h1 h4
 have e2:=Ei R h2 h5
 split at h6
 ·rename_i hl
  unfold aE at hl
  simp only[oi] at h6
  subst h6
  refine .value (.string (x++y)) w ?_ (gR R hd rfl)
  have hl':¬((x.size+y.size:Nat):Int)>9223372036854775807:=by omega
  have hl2:¬(9223372036854775807:Int)<(x.size:Int)+(y.size:Int):=by omega
  simp[execOp,ho,e1,e2,eqGuard_at_string,binOp,Op.stringOp,hl2]
 ·simp at h6
theorem z8x(R:Rep c st U γ S a w)(hd:∀k,o.dst=some k→k<c.nt){t1:TypeId}{y1:Operand}{x1:O}(ho:o.op= .unOp .neg t1 y1)(h1:eqO y1 x1=true)(hs:opS C st o.dst id (.neg x1)=some st'):Runs c o a w st' U:=by
 simp only[opS,aC] at hs
 obtain⟨⟨k,m⟩,h4,rfl⟩:=hs
 have e1:=fQ R h1 h4
 simp only at e1
 exact .value (.int k (k.wrap (0-m))) w (by simp[execOp,ho,e1,Op.unary,Op.intArith]) (gR R hd rfl)
theorem z94(R:Rep c st U γ S a w)(hd:∀k,o.dst=some k→k<c.nt){t1:TypeId}{y1:Operand}{x1:O}(ho:o.op= .unOp .not t1 y1)(h1:eqO y1 x1=true)(hs:opS C st o.dst id (.not x1)=some st'):Runs c o a w st' U:=by
 simp only[opS,aC] at hs
 obtain⟨b,h4,rfl⟩:=hs
 have e1:=Gn R h1 h4
 exact .value (.bool !b) w (by simp[execOp,ho,e1,Op.unary]) (gR R hd rfl)
theorem zWx(R:Rep c st U γ S a w)(hd:∀k,o.dst=some k→k<c.nt){t1 t2:TypeId}{y1:Operand}{x1:O}{k:IntKind}(ho:o.op= .convert t1 t2 y1)(h1:eqO y1 x1=true)(ht1:(c.P.underlying t1).isSome=true)(ht2:R9 c.P t2=some k)(hs:opS C st o.dst id (.conv k x1)=some st'):Runs c o a w st' U:=by
 simp only[opS,aC] at hs
 obtain⟨⟨k',m⟩,h4,rfl⟩:=hs
 have e1:=fQ R h1 h4
 simp only at e1
 unfold R9 at ht2
 split at ht2
 ·rename_i k2 hu
  simp only[oi] at ht2
  subst ht2
  refine .value (.int k2 (k2.wrap m)) w ?_ (gR R hd rfl)
  obtain⟨d1,hd1⟩:=Option.isSome_iff_exists.1 ht1
  simp[execOp,ho,e1,convert,run_underlying hd1,run_underlying hu,Conv.intToInt]
 ·simp at ht2
theorem zWm(R:Rep c st U γ S a w)(hd:∀k,o.dst=some k→k<c.nt){t1 t2:TypeId}{y1:Operand}{x1:O}(ho:o.op= .convert t1 t2 y1)(h1:eqO y1 x1=true)(ht1:(c.P.underlying t1).isSome=true)(ht2:m5 c.P t2=true)(hs:opS C st o.dst id (.rune x1)=some st'):Runs c o a w st' U:=by
 simp only[opS,aC] at hs
 obtain⟨⟨k',m⟩,h4,rfl⟩:=hs
 have e1:=fQ R h1 h4
 simp only at e1
 unfold m5 at ht2
 split at ht2
 ·rename_i hu
  refine .value (.string (Utf8.encode m)) w ?_ (gR R hd rfl)
  simp[execOp,ho,e1,run_convert_int_string (P:=c.P) w t1 t2 k' m ht1 hu]
 ·simp at ht2
theorem z9A(R:Rep c st U γ S a w)(hd:∀k,o.dst=some k→k<c.nt){t1:TypeId}{y1 y2:Operand}{x1 x2:O}(ho:o.op= .index t1 y1 y2)(h1:eqO y1 x1=true)(h2:eqO y2 x2=true)(ht:m5 c.P t1=true)(hs:opS C st o.dst id (.ixs x1 x2)=some st'):Runs c o a w st' U:=by
 simp only[opS,aA] at hs
 obtain⟨s,h4,⟨k,n⟩,h5,h6⟩:=hs
 have e1:=Ei R h1 h4
 have e2:=fQ R h2 h5
 simp only at e2 h6
 split at h6
 ·rename_i h0
  simp only[aC] at h6
  obtain⟨b,h7,rfl⟩:=h6
  unfold m5 at ht
  split at ht
  ·rename_i hu
   refine .value (.int .u8 b.toNat) w ?_ (gR R hd rfl)
   have h8:n.toNat<s.size:=by
    by_cases h9:n.toNat<s.size
    ·exact h9
    ·rw[ByteArray.getElem?_ge' s _ h9] at h7;simp at h7
   rw[ByteArray.getElem?_lt' s _ h8] at h7
   simp only[oi] at h7
   have h10:0≤n∧n<(s.size:Int):=by omega
   simp[execOp,ho,e1,e2,run_index_string (P:=c.P) w t1 s k n hu,h10,h7]
  ·simp at ht
 ·simp at h6
theorem z84(R:Rep c st U γ S a w)(hd:∀k,o.dst=some k→k<c.nt){y1:Operand}{x1:O}{i:Nat}(ho:o.op= .extract y1 i)(h1:eqO y1 x1=true)(hs:opS C st o.dst id (.ext x1 i)=some st'):Runs c o a w st' U:=by
 simp only[opS,aA] at hs
 obtain⟨x,h4,h5⟩:=hs
 obtain⟨h6,h7⟩:=bV R h1 h4
 split at h5
 ·rename_i cs
  simp only[aC] at h5
  obtain⟨y,h8,rfl⟩:=h5
  simp only[X.vr] at h6
  obtain⟨vs,e1,e2⟩:=h6
  obtain⟨v,e3,e4⟩:=J6 e2 h8
  simp only[X.allp] at h7
  refine .value v w ?_ (dU R hd e4 (bG.1 h7 y (List.mem_of_getElem? h8)))
  simp[execOp,ho,e1,Instr.extract,e3]
 ·simp at h5
theorem z99(R:Rep c st U γ S a w)(hd:∀k,o.dst=some k→k<c.nt){y1:Operand}{x1:O}(ho:o.op= .nilCheck y1)(h1:eqO y1 x1=true)(hs:opS C st o.dst id (.nck x1)=some st'):Runs c o a w st' U:=by
 simp only[opS,aA,aC] at hs
 obtain⟨x,h4,y,h5,rfl⟩:=hs
 obtain⟨h6,h7⟩:=bV R h1 h4
 have hxy:y=x:=by
  unfold xO at h5
  split at h5<;>simp_all
 subst hxy
 have hp:∃ad,a.eval y1= .pointer (some ad):=by
  unfold xO at h5
  split at h5
  ·simp only[X.vr] at h6;obtain⟨ad,e,_⟩:=h6;exact⟨ad,e⟩
  ·simp only[X.vr] at h6;obtain⟨ad,e,_⟩:=h6;exact⟨ad,e⟩
  ·simp only[X.vr] at h6;obtain⟨ad,e,_⟩:=h6;exact⟨ad,e⟩
  ·simp at h5
 obtain⟨ad,e⟩:=hp
 exact .value (a.eval y1) w (by simp[execOp,ho,e]) (dU R hd h6 h7)
theorem zXr(R:Rep c st U γ S a w)(hd:∀k,o.dst=some k→k<c.nt){t1:TypeId}{y1:Operand}{x1:O}{l h:Option Operand}{xl xh:Option O}(ho:o.op= .slice t1 y1 l h none)(h1:eqO y1 x1=true)(h2:gG l xl=true)(h3:gG h xh=true)(ht:m5 c.P t1=true)
  (hs:opS C st o.dst id (.cutS x1 xl xh)=some st'):Runs c o a w st' U:=by
 simp only[opS,aA] at hs
 obtain⟨s,h4,lo,h5,hi,h6,h7⟩:=hs
 have e1:=Ei R h1 h4
 split at h7
 ·rename_i hb
  simp only[oi] at h7
  subst h7
  unfold m5 at ht
  split at ht
  ·rename_i hu
   refine .value (.string (s.extract lo.toNat hi.toNat)) w ?_ (gR R hd rfl)
   obtain⟨b1,b2,b3⟩:=hb
   cases l with
   |none =>
    cases xl with
    |some _=>simp[gG] at h2
    |none =>
     simp only[bN,oi] at h5
     subst h5
     cases h with
     |none =>
      cases xh with
      |some _=>simp[gG] at h3
      |none =>
       simp only[bN,oi] at h6
       subst h6
       simp[execOp,ho,e1,run_sliceAt_string (P:=c.P) w t1 _ _ _ _ hu,run_slice_string_all (P:=c.P) w t1 s hu]
     |some h =>
      cases xh with
      |none=>simp[gG] at h3
      |some xh =>
       simp only[bN,aC] at h6
       obtain⟨⟨k,n⟩,h8,rfl⟩:=h6
       have e2:=fQ R (x:=h) (o:=xh) (by simpa[gG] using h3) h8
       simp only at e2 b2 b3
       simp[execOp,ho,e1,e2,run_sliceAt_string (P:=c.P) w t1 _ _ _ _ hu,run_slice_string_to_if (P:=c.P) w t1 s k n hu,b2,b3]
   |some l =>
    cases xl with
    |none=>simp[gG] at h2
    |some xl =>
     simp only[bN,aC] at h5
     obtain⟨⟨k,n⟩,h8,rfl⟩:=h5
     have e2:=fQ R (x:=l) (o:=xl) (by simpa[gG] using h2) h8
     simp only at e2 b1 b2
     cases h with
     |none =>
      cases xh with
      |some _=>simp[gG] at h3
      |none =>
       simp only[bN,oi] at h6
       subst h6
       simp[execOp,ho,e1,e2,run_sliceAt_string (P:=c.P) w t1 _ _ _ _ hu,run_slice_string_from_if (P:=c.P) w t1 s k n hu,b1,b2]
     |some h =>
      cases xh with
      |none=>simp[gG] at h3
      |some xh =>
       simp only[bN,aC] at h6
       obtain⟨⟨k2,n2⟩,h9,rfl⟩:=h6
       have e3:=fQ R (x:=h) (o:=xh) (by simpa[gG] using h3) h9
       simp only at e3 b2 b3
       have b4:0≤n2:=by omega
       simp[execOp,ho,e1,e2,e3,run_sliceAt_string (P:=c.P) w t1 _ _ _ _ hu,run_slice_string (P:=c.P) w t1 s k k2 n n2 hu b1 b2 b3]
  ·simp at ht
 ·simp at h7
end
open Go.RowKit
section
variable{γ:Gm}{w:World}{S:Nat→Prop}
theorem Kg:∀(n:Nat) {xs:List X} {vs:List Value},vrs γ w S xs vs→vrs γ w S (xs.drop n) (vs.drop n)
 |0,_,_,h=>h
 |n+1,[],[],h=>by simpa using h
 |n+1,x::xs,v::vs,h=>by
  simp only[vrs] at h
  simpa using Kg n h.2
 |_+1,[],_::_,h=>by simp[vrs] at h
 |_+1,_::_,[],h=>by simp[vrs] at h
theorem Mv:∀(n:Nat) {xs:List X} {vs:List Value},vrs γ w S xs vs→vrs γ w S (xs.take n) (vs.take n)
 |0,_,_,h=>by simp[vrs]
 |n+1,[],[],h=>by simpa using h
 |n+1,x::xs,v::vs,h=>by
  simp only[vrs,List.take_succ_cons] at h ⊢
  exact⟨h.1,Mv n h.2⟩
 |_+1,[],_::_,h=>by simp[vrs] at h
 |_+1,_::_,[],h=>by simp[vrs] at h
theorem Jz:∀(cs:List D) (a:Addr) (m n:Nat),rds w S (a.add m) n cs↔rds w S a (m+n) cs
 |[],_,_,_=>by simp[rds]
 |c::cs,a,m,n=>by
  simp only[rds,Addr.add_add,Addr.add_block,Jz cs a m (n+1),Nat.add_assoc]
theorem Wo:∀(k:Nat) (cs:List D) (a:Addr) (n:Nat),rds w S a n cs→rds w S a (n+k) (cs.drop k)
 |0,cs,a,n,h=>h
 |k+1,[],a,n,h=>by simp[rds]
 |k+1,c::cs,a,n,h=>by
  simp only[rds] at h
  have:=Wo k cs a (n+1) h.2
  rw[show n+1+k=n+(k+1) by omega] at this
  simpa using this
theorem X8:∀(k:Nat) (cs:List D) (a:Addr) (n:Nat),rds w S a n cs→rds w S a n (cs.take k)
 |0,cs,a,n,h=>by simp[rds]
 |k+1,[],a,n,h=>by simp[rds]
 |k+1,c::cs,a,n,h=>by
  simp only[rds,List.take_succ_cons] at h ⊢
  exact⟨h.1,X8 k cs a (n+1) h.2⟩
theorem U0:∀(cs:List D) (a:Addr) (n:Nat),rds w S a n cs→∃us:List Value,us.length=cs.length∧(∀(j:Nat) (u:Value),us[j]? = some u→w.cell? (a.add (n+j))=some u)∧∀(j:Nat) (c:D) (u:Value),cs[j]? = some c→us[j]? = some u→c.rd w S u
 |[],a,n,h=>⟨[],rfl,by simp,by simp⟩
 |c::cs,a,n,h=>by
  simp only[rds] at h
  obtain⟨⟨u,h1,_,h2⟩,h3⟩:=h
  obtain⟨us,e1,e2,e3⟩:=U0 cs a (n+1) h3
  refine⟨u::us,by simp[e1],fun j v hj=> ?_,fun j d v hd hj=> ?_⟩
  ·cases j with
   |zero=>simp only[List.getElem?_cons_zero,oi] at hj;subst hj;exact h1
   |succ j =>
    simp only[List.getElem?_cons_succ] at hj
    have:=e2 j v hj
    rwa [show n+1+j=n+(j+1) by omega] at this
  ·cases j with
   |zero =>
    simp only[List.getElem?_cons_zero,oi] at hj hd
    subst hj;subst hd
    exact h2
   |succ j =>
    simp only[List.getElem?_cons_succ] at hj hd
    exact e3 j d v hd hj
theorem zqo{sz:Nat}:∀(els:List (List D)) (A:Option Addr) (n:Nat),(∀el∈els,el.length=sz)→dZ w S A n els→∀(i:Nat) (el:List D),els[i]? = some el→∃a,A=some a∧rds w S a (n+i*sz) el
 |[],A,n,_,h,i,el,hi=>by simp at hi
 |e::els,A,n,hl,h,0,el,hi=>by
  simp only[List.getElem?_cons_zero,oi] at hi
  subst hi
  simp only[dZ] at h
  simpa using h.1
 |e::els,A,n,hl,h,i+1,el,hi=>by
  simp only[List.getElem?_cons_succ] at hi
  simp only[dZ] at h
  obtain⟨a,h1,h2⟩:=zqo els A _ (fun x hx=>hl x (by simp[hx])) h.2 i el hi
  refine⟨a,h1,?_⟩
  rw[hl e (by simp)] at h2
  rw[show n+(i+1)*sz=n+sz+i*sz by rw[Nat.add_mul];omega]
  exact h2
theorem z7W{c:D}{x:X}(hx:c.ro=some x){u:Value}(h:c.rd w S u):x.vr γ w S u∧∀φ,x.allp φ:=by
 unfold D.ro at hx
 split at hx
 ·simp only[oi] at hx;subst hx
  simp only[D.rd] at h
  exact⟨by simp only[X.vr];exact h,fun φ=>by simp only[X.allp]⟩
 ·simp only[oi] at hx;subst hx
  simp only[D.rd] at h
  exact⟨by simp only[X.vr,D.rd];exact h,fun φ=>by simp only[X.allp]⟩
 ·simp only[oi] at hx;subst hx
  simp only[D.rd] at h
  exact⟨by simp only[X.vr,D.rd];exact h,fun φ=>by simp only[X.allp]⟩
 ·simp only[oi] at hx;subst hx
  simp only[D.rd] at h
  exact⟨by simp only[X.vr];exact h,fun φ=>by simp only[X.allp]⟩
theorem Gu{c:D}{u:Value}(h:c.rd w S u):u.oneCell'=true:=by
 cases c with
 |v x=>simp only[D.rd] at h;rw[h.1];exact h.2
 |s sz els=>simp only[D.rd] at h;obtain⟨A,c,rfl,_⟩:=h;rfl
 |r els=>simp only[D.rd] at h;obtain⟨A,c,rfl,_⟩:=h;rfl
 |u=>simpa only[D.rd] using h
theorem zks:∀{cs:List D} {xs:List X} {us:List Value},roL cs=some xs→us.length=cs.length→(∀(j:Nat) (c:D) (u:Value),cs[j]? = some c→us[j]? = some u→c.rd w S u)→vrs γ w S xs us∧∀φ,aR φ xs
 |[],xs,[],h,_,_=>by
  simp only[roL,oi] at h
  subst h
  exact⟨by simp[vrs],fun φ=>by simp[aR]⟩
 |c::cs,xs,u::us,h,hl,hr=>by
  simp only[roL,aA,aC] at h
  obtain⟨x,h1,ys,h2,rfl⟩:=h
  obtain⟨h3,h4⟩:=z7W (γ:=γ) h1 (hr 0 c u rfl rfl)
  obtain⟨h5,h6⟩:=zks (us:=us) h2 (by simpa using hl) (fun j d v hd hv=>hr (j+1) d v (by simpa using hd) (by simpa using hv))
  exact⟨by simp only[vrs];exact⟨h3,h5⟩,fun φ=>by simp only[aR];exact⟨h4 φ,h6 φ⟩⟩
 |[],_,_::_,_,hl,_=>by simp at hl
 |_::_,_,[],_,hl,_=>by simp at hl
theorem mZ{g:G}(h:g.ok w S):g.val.oneCell'=true:=by
 cases g with
 |l d v=>simp only[G.ok] at h;exact Gu h.2
 |s sz b els=>cases b<;>rfl
theorem z7k{id:Id}{p:Path}{g:G}(hn:γ.nav id p=some g)(hg:g.ok w S){x:X}(hx:g.er.own id p=some x):x.vr γ w S g.val∧∀φ:Id→Path→Prop,(∀p,φ id p)→x.allp φ:=by
 cases g with
 |l d v =>
  simp only[G.ok] at hg
  simp only[G.er,D.own] at hx
  split at hx
  ·simp only[oi] at hx;subst hx
   simp only[D.rd] at hg
   exact⟨by simp only[X.vr,G.val];exact hg.2,fun φ _=>by simp only[X.allp]⟩
  ·simp[D.leaf] at hg
  ·simp only[oi] at hx;subst hx
   exact⟨by simp only[X.vr,G.val];exact hg.2,fun φ _=>by simp only[X.allp]⟩
  ·simp only[oi] at hx;subst hx
   simp only[D.rd] at hg
   exact⟨by simp only[X.vr,G.val];exact hg.2,fun φ _=>by simp only[X.allp]⟩
 |s sz b els =>
  simp only[G.er,D.own,oi] at hx
  subst hx
  refine⟨?_,fun φ h=>by simp only[X.allp];exact h p⟩
  simp only[X.vr]
  refine⟨mZ hg,fun g' hg'=> ?_⟩
  rw[hn] at hg'
  simp only[oi] at hg'
  subst hg'
  exact⟨rfl,rfl⟩
theorem X4{id:Id}{q:Path}{j:Nat}:∀{gs:List G} {i:Nat} {xs:List X},(∀(k:Nat) (g:G),gs[k]? = some g→γ.nav id (q++[(j,i+k)])=some g∧g.ok w S)→D6 id q j i (ers gs)=some xs →
  vrs γ w S xs (cL gs)∧∀φ:Id→Path→Prop,(∀p,φ id p)→aR φ xs
 |[],i,xs,_,h=>by
  simp only[ers,D6,oi] at h
  subst h
  exact⟨by simp[vrs,cL],fun φ _=>by simp[aR]⟩
 |g::gs,i,xs,hg,h=>by
  simp only[ers,D6,aA,aC] at h
  obtain⟨x,h1,ys,h2,rfl⟩:=h
  obtain⟨h3,h4⟩:=hg 0 g rfl
  obtain⟨h5,h6⟩:=z7k h3 h4 h1
  obtain⟨h7,h8⟩:=X4 (gs:=gs) (i:=i+1) (fun k g' hk=>by
   have:=hg (k+1) g' (by simpa using hk)
   rwa [show i+(k+1)=i+1+k by omega] at this) h2
  exact⟨by simp only[vrs,cL,mc];exact⟨h5,h7⟩,fun φ hφ=>by simp only[aR];exact⟨h6 φ hφ,h8 φ hφ⟩⟩
theorem V1(gs:List G)(n:Nat):ers (gs.drop n)=(ers gs).drop n:=by simp[gV,List.map_drop]
theorem X7(gs:List G)(n:Nat):ers (gs.take n)=(ers gs).take n:=by simp[gV,List.map_take]
end
section
variable{c:Ctx}{st st':St}{U:Nat→Prop}{γ:Gm}{S:Nat→Prop}{a:Act}{w:World}{C:Cl}{o:Oper}{id:Nat}
theorem W3(R:Rep c st U γ S a w){n:Nat}{x:X}{xs:List X}(hl:oN st.heap n x=some xs){v:Value}(hx:x.vr γ w S v)(hi:x.allp (fun id _=>fO c.A st.fr U id)) :
  ∃ad us,v= .pointer (some ad)∧us.length=n∧(∀(j:Nat) (u:Value),us[j]? = some u→w.cell? (ad.add j)=some u)∧vrs γ w S xs us∧aR (fun id _=>fO c.A st.fr U id) xs∧∀u∈us,u.oneCell'=true:=by
 unfold oN at hl
 split at hl
 ·rename_i cs
  split at hl
  ·rename_i hle
   simp only[X.vr] at hx
   obtain⟨ad,rfl,h1⟩:=hx
   obtain⟨us,e1,e2,e3⟩:=U0 _ _ _ (X8 n cs ad 0 h1)
   obtain⟨h2,h3⟩:=zks (γ:=γ) hl e1 e3
   refine⟨ad,us,rfl,by rw[e1,List.length_take];omega,fun j u hj=>by simpa using e2 j u hj,h2,h3 _,fun u hu=> ?_⟩
   obtain⟨j,hj⟩:=List.getElem?_of_mem hu
   have hlt:=(List.getElem?_eq_some_iff.1 hj).1
   exact Gu (e3 j _ u (List.getElem?_eq_getElem (by omega)) hj)
  ·simp at hl
 ·rename_i cs
  split at hl
  ·rename_i hle
   simp only[oi] at hl
   subst hl
   simp only[X.vr,X.allp] at hx hi
   obtain⟨ad,rfl,us,h1,h2,h3⟩:=hx
   have hlen:=fR h1
   refine⟨ad,us.take n,rfl,by rw[List.length_take];omega,fun j u hj=> ?_,Mv n h1,bG.2 fun x hx=>bG.1 hi x (List.mem_of_mem_take hx),fun u hu=>h2 u (List.mem_of_mem_take hu)⟩
   rw[List.getElem?_take] at hj
   split at hj
   ·exact(h3 j u hj).1
   ·simp at hj
  ·simp at hl
 ·rename_i id q j i
  simp only[aA] at hl
  obtain⟨r,h1,el,h2,h3⟩:=hl
  split at h3
  ·rename_i hle
   obtain⟨b,els,h4,h5⟩:=R.mm.row h1
   rw[←h5,cG,List.getElem?_map,aC] at h2
   obtain⟨gs,h6,rfl⟩:=h2
   rw[←gV] at h3 hle
   rw[←V1,←X7] at h3
   rw[d4] at hle
   have hrow:=R.mm.nav_ok h4
   cases b with
   |none =>
    simp only[G.ok] at hrow
    rw[hrow.1] at h6
    simp at h6
   |some b =>
    obtain⟨b,cap,o0⟩:=b
    simp only[X.vr] at hx
    obtain⟨ad,rfl,h7⟩:=hx
    have h8:=h7 _ _ _ h4
    subst h8
    have hcell:∀(k:Nat) (g:G),((gs.drop i).take n)[k]? = some g→gs[i+k]? = some g:=fun k g hk=>by
     rw[List.getElem?_take] at hk
     split at hk
     ·rwa [List.getElem?_drop] at hk
     ·simp at hk
    have hnav:∀(k:Nat) (g:G),gs[k]? = some g→γ.nav id (q++[(j,k)])=some g∧g.ok w S:=fun k g hk=>by
     have:γ.nav id (q++[(j,k)])=some g:=by
      unfold Gm.nav at h4 ⊢
      rw[aA] at h4 ⊢
      obtain⟨g0,e1,e2⟩:=h4
      exact⟨g0,e1,by rw[lW,e2];simp[G.nav,h6,hk]⟩
     exact⟨this,R.mm.nav_ok this⟩
    obtain⟨h9,h10⟩:=X4 (γ:=γ) (w:=w) (S:=S) (gs:=(gs.drop i).take n) (i:=i) (fun k g hk=>hnav _ _ (hcell k g hk)) h3
    simp only[X.allp] at hi
    refine⟨_,cL ((gs.drop i).take n),rfl,by simp[cL];omega,fun k u hk=> ?_,h9,h10 _ (fun _=>hi),fun u hu=> ?_⟩
    ·simp only[cL,List.getElem?_map,aC] at hk
     obtain⟨g,hk,rfl⟩:=hk
     rw[Addr.add_lit]
     simp only
     rw[show o0+(j*r.1+i)+k=o0+(j*r.1+(i+k)) by omega]
     exact sJ hrow h6 (hcell k g hk)
    ·simp only[cL,List.mem_map] at hu
     obtain⟨g,hg,rfl⟩:=hu
     obtain⟨k,hk⟩:=List.getElem?_of_mem hg
     exact mZ (hnav _ _ (hcell k g hk)).2
  ·simp at h3
 ·simp at hl
theorem yM{P:Program}{w:World}{t:TypeId}{n:Nat}(h:aggOf P t=some (some n)){ad:Addr}{us:List Value}(hl:us.length=n)(hc:∀(j:Nat) (u:Value),us[j]? = some u→w.cell? (ad.add j)=some u) :
  (Instr.loadAt t (.pointer (some ad))).run P w= .ok (.agg us.toArray) w:=by
 have hrun:=run_loadCells_list (P:=P) w ad us hc
 rw[hl] at hrun
 unfold aggOf at h
 split at h
 ·rename_i fs hu
  rw[aC] at h
  obtain⟨i,hi,he⟩:=h
  simp only[oi] at he
  simp[Instr.loadAt,Instr.sureAddr,loadVar,isAgg,run_underlying hu,sizeOf,typeInfo,hi,he,hrun]
 ·rename_i e m hu
  rw[aC] at h
  obtain⟨i,hi,he⟩:=h
  simp only[oi] at he
  simp[Instr.loadAt,Instr.sureAddr,loadVar,isAgg,run_underlying hu,sizeOf,typeInfo,hi,he,hrun]
 ·simp at h
 ·simp at h
theorem yP{P:Program}{w:World}{t:TypeId}(h:aggOf P t=some none){ad:Addr}{u:Value}(hc:w.cell? ad=some u) :
  (Instr.loadAt t (.pointer (some ad))).run P w= .ok u w:=by
 unfold aggOf at h
 split at h
 ·rw[aC] at h
  obtain⟨i,_,he⟩:=h
  simp at he
 ·rw[aC] at h
  obtain⟨i,_,he⟩:=h
  simp at he
 ·rename_i d hns hna hu
  have hag:(isAgg t).run P w= .ok false w:=by
   unfold isAgg
   simp only[Sem.run_bind,run_underlying hu,Result.andThen_ok]
   rfl
  simp[Instr.loadAt,Instr.sureAddr,loadVar,hag,load,Sem.run,hc]
 ·simp at h
theorem zYD(R:Rep c st U γ S a w)(hd:∀k,o.dst=some k→k<c.nt){t:TypeId}{y:Operand}{x:O}{n:Option Nat}(ho:o.op= .load t y)(hx:eqO y x=true)(ht:aggOf c.P t=some n)(hs:opS C st o.dst id (.load n x)=some st'):Runs c o a w st' U:=by
 simp only[opS,aA,aC] at hs
 obtain⟨z,h1,xs,h2,r,h3,rfl⟩:=hs
 obtain⟨h4,h5⟩:=bV R hx h1
 obtain⟨ad,us,h6,h7,h8,h9,h10,h11⟩:=W3 R h2 h4 h5
 cases n with
 |none =>
  simp only[uK] at h3
  unfold one at h3
  split at h3
  ·rename_i x1
   simp only[oi] at h3
   subst h3
   have hul:=fR h9
   obtain⟨u,rfl⟩:∃u,us=[u]:=by
    match us,hul with
    |[u],_=>exact⟨u,rfl⟩
   simp only[vrs,aR] at h9 h10
   have hc:=h8 0 u rfl
   rw[Addr.add_zero'] at hc
   refine .value u w ?_ (dU R hd h9.1 h10.1)
   simp[execOp,ho,h6,yP ht hc]
  ·simp at h3
 |some n =>
  simp only[uK,oi] at h3
  subst h3
  simp only[Option.getD_some] at h7
  refine .value (.agg us.toArray) w ?_ (dU R hd (by simp only[X.vr];exact⟨us,rfl,h9,h11⟩) (by simp only[X.allp];exact h10))
  simp[execOp,ho,h6,yM ht h7 h8]
theorem z7a(R:Rep c st U γ S a w)(hd:∀k,o.dst=some k→k<c.nt){t:TypeId}{f:Nat}{y:Operand}{x:O}{off:Nat}{n:Option Nat}{ft:TypeId}(ho:o.op= .field t y f)(hx:eqO y x=true)(hf:Hc c.P t f=some (off,ft))(ht:aggOf c.P ft=some n)
  (hs:opS C st o.dst id (.fld off n x)=some st'):Runs c o a w st' U:=by
 simp only[opS,aA] at hs
 obtain⟨z,h1,h2⟩:=hs
 obtain⟨h3,h4⟩:=bV R hx h1
 split at h2
 ·rename_i cs
  rw[aC] at h2
  obtain⟨r,h5,rfl⟩:=h2
  simp only[X.vr] at h3
  obtain⟨vs,h6,h7,h8⟩:=h3
  simp only[X.allp] at h4
  unfold Hc at hf
  split at hf
  ·rename_i fs hu
   rw[aC] at hf
   obtain⟨fl,h9,h10⟩:=hf
   simp only[zqb] at h10
   obtain⟨rfl,rfl⟩:=h10
   cases n with
   |none =>
    simp only[zzV] at h5
    obtain⟨u,h11,h12⟩:=J6 h7 h5
    refine .value u w ?_ (dU R hd h12 (bG.1 h4 r (List.mem_of_getElem? h5)))
    have hag:(isAgg fl.type).run c.P w= .ok false w:=by
     unfold aggOf at ht
     split at ht
     ·rw[aC] at ht;obtain⟨i,_,he⟩:=ht;simp at he
     ·rw[aC] at ht;obtain⟨i,_,he⟩:=ht;simp at he
     ·rename_i d hns hna hu2
      unfold isAgg
      simp only[Sem.run_bind,run_underlying hu2,Result.andThen_ok]
      rfl
     ·simp at ht
    simp[execOp,ho,h6,Instr.field,run_underlying hu,h9,asAgg,part,hag,h11]
   |some n =>
    simp only[zzV] at h5
    split at h5
    ·rename_i hle
     simp only[oi] at h5
     subst h5
     have hlen:=fR h7
     refine .value (.agg ((vs.drop fl.offset).take n).toArray) w ?_ (dU R hd (by
      simp only[X.vr]
      exact⟨_,rfl,Mv n (Kg fl.offset h7),fun u hu'=>h8 u (List.mem_of_mem_drop (List.mem_of_mem_take hu'))⟩) (by
      simp only[X.allp]
      exact bG.2 fun x hx'=>bG.1 h4 x (List.mem_of_mem_drop (List.mem_of_mem_take hx'))))
     have hag:∃i,c.P.info? fl.type=some i∧i.size=n∧(isAgg fl.type).run c.P w= .ok true w:=by
      unfold aggOf at ht
      split at ht
      ·rename_i hu2
       rw[aC] at ht
       obtain⟨i,hi,he⟩:=ht
       simp only[oi] at he
       exact⟨i,hi,he,by simp[isAgg,run_underlying hu2]⟩
      ·rename_i hu2
       rw[aC] at ht
       obtain⟨i,hi,he⟩:=ht
       simp only[oi] at he
       exact⟨i,hi,he,by simp[isAgg,run_underlying hu2]⟩
      ·simp at ht
      ·simp at ht
     obtain⟨i,hi,he,hag⟩:=hag
     simp[execOp,ho,h6,Instr.field,run_underlying hu,h9,asAgg,part,hag,sizeOf,typeInfo,hi,he,List.extract_eq_take_drop]
    ·simp at h5
  ·simp at hf
 ·simp at h2
theorem zKq(R:Rep c st U γ S a w)(hd:∀k,o.dst=some k→k<c.nt){t:TypeId}{f:Nat}{y:Operand}{x:O}{off:Nat}{ft:TypeId}{n:Nat}(ho:o.op= .fieldAddr t y f)(hx:eqO y x=true)(hf:Hc c.P t f=some (off,ft))(ht:mC c.P ft=some n)(hn:n≠0)
  (hs:opS C st o.dst id (.faddr off x)=some st'):Runs c o a w st' U:=by
 simp only[opS,aA,aC] at hs
 obtain⟨z,h1,r,h2,rfl⟩:=hs
 obtain⟨h3,h4⟩:=bV R hx h1
 unfold Hc at hf
 split at hf
 ·rename_i fs hu
  rw[aC] at hf
  obtain⟨fl,h9,h10⟩:=hf
  simp only[zqb] at h10
  obtain⟨rfl,rfl⟩:=h10
  unfold mC at ht
  rw[aC] at ht
  obtain⟨i,hi,he⟩:=ht
  have hrun:∀ad,(Instr.fieldAt t (.pointer (some ad)) f).run c.P w= .ok (.pointer (some (ad.add fl.offset))) w:=fun ad=>by
   simp[Instr.fieldAt,run_underlying hu,h9,Instr.sureAddr,fieldPlace,sizeOf,typeInfo,hi,he,hn]
  unfold zO at h2
  split at h2
  ·rename_i id q j i
   simp only[oi] at h2
   subst h2
   simp only[X.vr] at h3
   obtain⟨ad,h5,h6⟩:=h3
   refine .value _ w (by simp only[execOp,ho,h5,Sem.run_bind,hrun];rfl) (dU R hd (by
    simp only[X.vr]
    refine⟨_,rfl,fun sz b els hnav=> ?_⟩
    rw[h6 sz b els hnav,Addr.add_lit];simp only[Nat.add_assoc]) (by simpa only[X.allp] using h4))
  ·rename_i cs
   simp only[oi] at h2
   subst h2
   simp only[X.vr] at h3
   obtain⟨ad,h5,h6⟩:=h3
   refine .value _ w (by simp only[execOp,ho,h5,Sem.run_bind,hrun];rfl) (dU R hd (by
    simp only[X.vr]
    refine⟨_,rfl,?_⟩
    rw[Jz]
    have:=Wo fl.offset cs ad 0 h6
    rw[Nat.zero_add] at this
    exact this) (by simp only[X.allp]))
  ·rename_i cs
   simp only[oi] at h2
   subst h2
   simp only[X.vr,X.allp] at h3 h4
   obtain⟨ad,h5,us,h6,h7,h8⟩:=h3
   refine .value _ w (by simp only[execOp,ho,h5,Sem.run_bind,hrun];rfl) (dU R hd (by
    simp only[X.vr]
    refine⟨_,rfl,us.drop fl.offset,Kg _ h6,fun u hu=>h7 u (List.mem_of_mem_drop hu),fun i u hu=> ?_⟩
    rw[List.getElem?_drop] at hu
    rw[Addr.add_add,Addr.add_block]
    exact h8 _ u hu) (by
    simp only[X.allp]
    exact bG.2 fun x hx=>bG.1 h4 x (List.mem_of_mem_drop hx)))
  ·simp at h2
 ·simp at hf
theorem z90(R:Rep c st U γ S a w)(hd:∀k,o.dst=some k→k<c.nt){t e:TypeId}{y1 y2:Operand}{x1 x2:O}{sz:Nat}(ho:o.op= .indexAddr t y1 y2)(h1:eqO y1 x1=true)(h2:eqO y2 x2=true)(ht:cP c.P t=some e)(hz:mC c.P e=some sz)
  (hs:opS C st o.dst id (.ixa sz x1 x2)=some st'):Runs c o a w st' U:=by
 simp only[opS,aA,aC] at hs
 obtain⟨x,h4,⟨k,n⟩,h5,r,h6,rfl⟩:=hs
 obtain⟨h7,h8⟩:=bV R h1 h4
 have e2:=fQ R h2 h5
 simp only at e2 h6
 unfold mC at hz
 rw[aC] at hz
 obtain⟨i,hi,he⟩:=hz
 unfold cP at ht
 split at ht
 ·rename_i e' hu
  simp only[oi] at ht
  subst ht
  have hrun:∀(ad:Addr) (len cap:Nat),0≤n→n<(len:Int)→(Instr.indexAt t (.slice (some ad) len cap) (.int k n)).run c.P w= .ok (.pointer (some (ad.add (n.toNat*sz)))) w:=fun ad len cap h0 h1=>by
   simp[Instr.indexAt,run_underlying hu,asIntOf,sizeOf,typeInfo,hi,he,h0,h1]
  unfold Po at h6
  split at h6
  ·rename_i els
   split at h6
   ·rename_i hb
    simp only[aA] at h6
    obtain⟨el,h9,h10⟩:=h6
    split at h10
    ·rename_i hel
     simp only[oi] at h10
     subst h10
     simp only[X.vr,D.rd] at h7
     obtain⟨A,cap,h11,h12,h13,⟨sz',h14⟩,h15⟩:=h7
     obtain⟨ad,rfl,h16⟩:=zqo els A 0 h14 h15 _ _ h9
     have hsz:sz'=sz:=by rw[←hel];exact(h14 el (List.mem_of_getElem? h9)).symm
     subst hsz
     refine .value _ w (by simp only[execOp,ho,h11,e2,Sem.run_bind,hrun ad _ _ hb.1 hb.2];rfl) (dU R hd (by
      simp only[X.vr]
      refine⟨_,rfl,?_⟩
      rw[Jz]
      rw[Nat.zero_add] at h16
      exact h16) (by simp only[X.allp]))
    ·simp at h10
   ·simp at h6
  ·rename_i id p
   simp only[aA] at h6
   obtain⟨q,h9,h10⟩:=h6
   split at h10
   ·rename_i hb
    simp only[oi] at h10
    subst h10
    obtain⟨b,els,h11,h12⟩:=R.mm.row h9
    simp only[X.vr] at h7
    obtain⟨h13,_⟩:=h7.2 _ h11
    have hlen:els.length=q.2.length:=by rw[←h12,cY]
    cases b with
    |none =>
     have hrow:=R.mm.nav_ok h11
     simp only[G.ok] at hrow
     rw[hrow.1] at hlen
     simp at hlen
     have:=hb.2.1
     rw[←hlen] at this
     simp at this
     omega
    |some b =>
     obtain⟨b,cap,o0⟩:=b
     simp only[G.val] at h13
     refine .value _ w (by simp only[execOp,ho,←h13,e2,Sem.run_bind,hrun _ els.length _ hb.1 (by rw[hlen];exact hb.2.1)];rfl) (dU R hd (by
      simp only[X.vr]
      refine⟨_,rfl,fun sz' b' els' hnav=> ?_⟩
      rw[h11] at hnav
      simp only[oi,G.s.injEq] at hnav
      obtain⟨rfl,rfl,rfl⟩:=hnav
      rw[Addr.add_lit,hb.2.2]
      simp) (by simpa only[X.allp] using h8))
   ·simp at h10
  ·simp at h6
 ·simp at ht
theorem zYB(R:Rep c st U γ S a w)(hd:∀k,o.dst=some k→k<c.nt){t:TypeId}{y1:Operand}{x1:O}(ho:o.op= .call {callee:= .builtin .len,args:= #[y1],argTypes:= #[t]})(h1:eqO y1 x1=true)(ht:m5 c.P t=true)
  (hs:opS C st o.dst id (.slen x1)=some st'):Runs c o a w st' U:=by
 simp only[opS,aC] at hs
 obtain⟨s,h4,rfl⟩:=hs
 have e1:=Ei R h1 h4
 unfold m5 at ht
 split at ht
 ·rename_i hu
  refine .value (.int .i64 s.size) w ?_ (gR R hd rfl)
  simp[execOp,ho,resolve,invoke,builtin,e1,Builtin.len_,run_underlying hu,goInt]
 ·simp at ht
theorem z9O(R:Rep c st U γ S a w)(hd:∀k,o.dst=some k→k<c.nt){t e:TypeId}{y1:Operand}{x1:O}(ho:o.op= .call {callee:= .builtin .len,args:= #[y1],argTypes:= #[t]})(h1:eqO y1 x1=true)(ht:cP c.P t=some e)
  (hs:opS C st o.dst id (.len x1)=some st'):Runs c o a w st' U:=by
 simp only[opS,aA,aC] at hs
 obtain⟨x,h4,n,h5,rfl⟩:=hs
 obtain⟨h6,h7⟩:=bV R h1 h4
 have hrun:∀(base:Option Addr) (m cap:Nat),a.eval y1= .slice base m cap→(execOp a.eval o).run c.P w= .ok (.value (.int .i64 m)) w:=fun base m cap he=>by
  unfold cP at ht
  split at ht
  ·rename_i e' hu
   simp[execOp,ho,resolve,invoke,builtin,he,Builtin.len_,run_underlying hu,goInt]
  ·simp at ht
 refine .value (.int .i64 n) w ?_ (gR R hd rfl)
 unfold Pf at h5
 split at h5
 ·rename_i els
  simp only[oi] at h5
  subst h5
  simp only[X.vr,D.rd] at h6
  obtain⟨A,cap,h11,_⟩:=h6
  exact hrun _ _ _ h11
 ·simp only[oi] at h5
  subst h5
  simp only[X.vr] at h6
  exact hrun _ _ _ h6.2
 ·rename_i id p
  simp only[aC] at h5
  obtain⟨q,h8,rfl⟩:=h5
  obtain⟨b,els,h9,h10⟩:=R.mm.row h8
  simp only[X.vr] at h6
  have hv:=(h6.2 _ h9).1
  rw[←h10,cY]
  cases b with
  |none =>
   have hrow:=R.mm.nav_ok h9
   simp only[G.ok] at hrow
   rw[hrow.1]
   simp only[G.val] at hv
   exact hrun _ _ _ hv.symm
  |some b =>
   simp only[G.val] at hv
   exact hrun _ _ _ hv.symm
 ·simp at h5
theorem Ku{w:World}{S:Nat→Prop}{sz:Nat}:∀(els:List (List D)) (A:Option Addr) (n:Nat),(∀el∈els,el.length=sz)→dZ w S A n els→∀k,dZ w S A (n+k*sz) (els.drop k)∧dZ w S A n (els.take k)
 |els,A,n,hl,h,0=>by simp[h,dZ]
 |[],A,n,hl,h,k+1=>by simp[dZ]
 |e::els,A,n,hl,h,k+1=>by
  simp only[dZ] at h
  obtain⟨h1,h2⟩:=Ku els A _ (fun x hx=>hl x (by simp[hx])) h.2 k
  simp only[List.drop_succ_cons,List.take_succ_cons,dZ]
  refine⟨?_,h.1,h2⟩
  rw[hl e (by simp)] at h1
  rw[show n+(k+1)*sz=n+sz+k*sz by rw[Nat.add_mul];omega]
  exact h1
theorem Y9{w:World}{S:Nat→Prop}:∀(els:List (List D)) (ad:Addr) (m n:Nat),dZ w S (some (ad.add m)) n els↔dZ w S (some ad) (m+n) els
 |[],_,_,_=>by simp[dZ]
 |e::els,ad,m,n=>by
  simp only[dZ,oi,exists_eq_left',Jz,Y9 els ad m,Nat.add_assoc]
theorem zY8(R:Rep c st U γ S a w)(hd:∀k,o.dst=some k→k<c.nt){t e:TypeId}{y1:Operand}{x1:O}{l h:Option Operand}{xl xh:Option O}(ho:o.op= .slice t y1 l h none)(h1:eqO y1 x1=true)(h2:gG l xl=true)(h3:gG h xh=true)(ht:cP c.P t=some e){sz:Nat}(hz:mC c.P e=some sz)
  (hs:opS C st o.dst id (.cutr sz x1 xl xh)=some st'):Runs c o a w st' U:=by
 simp only[opS,aA] at hs
 obtain⟨x,h4,h5⟩:=hs
 obtain⟨h6,h7⟩:=bV R h1 h4
 split at h5
 ·rename_i els
  simp only[aA] at h5
  obtain⟨lo,h8,hi,h9,h10⟩:=h5
  split at h10
  ·rename_i hb
   simp only[oi] at h10
   subst h10
   obtain⟨b1,b2,b3,b4⟩:=hb
   simp only[X.vr,D.rd] at h6
   obtain⟨A,cap,e1,e2,e3,⟨sz',e4⟩,e5⟩:=h6
   unfold mC at hz
   rw[aC] at hz
   obtain⟨ie,hie,hse⟩:=hz
   have e2':(els.length:Int)≤cap:=by omega
   have hsz:∀el∈els,el.length=sz:=fun el hel=>by
    have:=List.all_eq_true.1 b4 el hel
    simpa using this
   have hlen:((els.take hi.toNat).drop lo.toNat).length=hi.toNat-lo.toNat:=by
    rw[List.length_drop,List.length_take];omega
   unfold cP at ht
   split at ht
   ·rename_i e' hu
    simp only[oi] at ht
    subst ht
    have hel:c.P.elem t=e':=by simp[Program.elem,hu]
    have hu':c.P.underlying t=some (.slice (c.P.elem t)):=by rw[hel];exact hu
    have hrun:(execOp a.eval o).run c.P w= .ok (.value (sliced A lo.toNat hi.toNat cap sz)) w:=by
     have hso:(sizeOf (c.P.elem t)).run c.P w= .ok sz w:=by simp[hel,sizeOf,typeInfo,hie,hse]
     cases l with
     |none =>
      cases xl with
      |some _=>simp[gG] at h2
      |none =>
       simp only[bN,oi] at h8
       subst h8
       cases h with
       |none =>
        cases xh with
        |some _=>simp[gG] at h3
        |none =>
         simp only[bN,oi] at h9
         subst h9
         simp[execOp,ho,e1,run_sliceAt_slice (P:=c.P) w t _ _ _ _ hu',run_slice_all (P:=c.P) w t A _ cap hu',hso]
       |some h =>
        cases xh with
        |none=>simp[gG] at h3
        |some xh =>
         simp only[bN,aC] at h9
         obtain⟨⟨k,n⟩,h11,rfl⟩:=h9
         have e6:=fQ R (x:=h) (o:=xh) (by simpa[gG] using h3) h11
         simp only at e6 b2 b3
         simp[execOp,ho,e1,e6,run_sliceAt_slice (P:=c.P) w t _ _ _ _ hu',run_slice_h (P:=c.P) w t A _ cap hu' k n b2 (by omega),hso]
     |some l =>
      cases xl with
      |none=>simp[gG] at h2
      |some xl =>
       simp only[bN,aC] at h8
       obtain⟨⟨k,n⟩,h11,rfl⟩:=h8
       have e6:=fQ R (x:=l) (o:=xl) (by simpa[gG] using h2) h11
       simp only at e6 b1 b2
       cases h with
       |none =>
        cases xh with
        |some _=>simp[gG] at h3
        |none =>
         simp only[bN,oi] at h9
         subst h9
         simp[execOp,ho,e1,e6,run_sliceAt_slice (P:=c.P) w t _ _ _ _ hu',run_slice_l (P:=c.P) w t A _ cap hu' k n b1 b2,hso]
       |some h =>
        cases xh with
        |none=>simp[gG] at h3
        |some xh =>
         simp only[bN,aC] at h9
         obtain⟨⟨k2,n2⟩,h12,rfl⟩:=h9
         have e7:=fQ R (x:=h) (o:=xh) (by simpa[gG] using h3) h12
         simp only at e7 b2 b3
         simp[execOp,ho,e1,e6,e7,run_sliceAt_slice (P:=c.P) w t _ _ _ _ hu',run_slice_lh (P:=c.P) w t A _ cap hu' k k2 n n2 b1 b2 (by omega),hso]
    refine .value _ w hrun (dU R hd (by
     simp only[X.vr,D.rd,sliced,hlen]
     refine⟨_,_,rfl,by omega,by omega,⟨sz,fun el hel'=>hsz el (List.mem_of_mem_take (List.mem_of_mem_drop hel'))⟩,?_⟩
     by_cases hz0:lo.toNat=hi.toNat
     ·have:(els.take hi.toNat).drop lo.toNat=[]:=by
       apply List.eq_nil_of_length_eq_zero;rw[hlen];omega
      rw[this]
      simp[dZ]
     ·rw[if_neg (by omega)]
      have hcut:(els.take hi.toNat).drop lo.toNat=(els.drop lo.toNat).take (hi.toNat-lo.toNat):=by rw[List.drop_take]
      rw[hcut]
      have h13:=(Ku els A 0 hsz e5 lo.toNat).1
      have h14:=(Ku (els.drop lo.toNat) A _ (fun x hx=>hsz x (List.mem_of_mem_drop hx)) h13 (hi.toNat-lo.toNat)).2
      rw[Nat.zero_add] at h14
      cases A with
      |none =>
       cases hq:(els.drop lo.toNat).take (hi.toNat-lo.toNat) with
       |nil=>simp[dZ]
       |cons q qs=>rw[hq] at h14;simp only[dZ] at h14;obtain⟨⟨ad,hc,_⟩,_⟩:=h14;simp at hc
      |some ad =>
       simp only[oms]
       rw[Y9]
       exact h14) (by simp only[X.allp]))
   ·simp at ht
  ·simp at h10
 ·simp at h5
theorem wI(R:Rep c st U γ S a w):∀{ys:List Operand} {xs:List O} {as:List X},qB ys xs=true→mF st xs=some as→vrs γ w S as (ys.map a.eval)∧aR (fun id _=>fO c.A st.fr U id) as
 |[],[],as,_,h=>by
  simp only[mF,oi] at h
  subst h
  exact⟨by simp[vrs],by simp[aR]⟩
 |y::ys,x::xs,as,he,h=>by
  simp only[mF,aA,aC] at h
  obtain⟨z,h1,zs,h2,rfl⟩:=h
  simp only[qB,bE] at he
  obtain⟨h3,h4⟩:=bV R he.1 h1
  obtain⟨h5,h6⟩:=wI R he.2 h2
  exact⟨by simp only[vrs,mc];exact⟨h3,h5⟩,by simp only[aR];exact⟨h4,h6⟩⟩
 |[],_::_,_,h,_=>by simp[qB] at h
 |_::_,[],_,h,_=>by simp[qB] at h
theorem z7t(R:Rep c st U γ S a w)(hd:∀k,o.dst=some k→k<c.nt){f:Nat}{ys:Array Operand}{xs:List O}(ho:o.op= .makeFunc (.func f) #[] ys)(h1:qB ys.toList xs=true)(hs:opS C st o.dst id (.fn f xs)=some st'):Runs c o a w st' U:=by
 simp only[opS,aC] at hs
 obtain⟨as,h2,rfl⟩:=hs
 obtain⟨h3,h4⟩:=wI R h1 h2
 refine .value (.func (.func f) #[] (ys.toList.map a.eval).toArray) w ?_ (dU R hd ?_ ?_)
 ·simp[execOp,ho,Instr.makeFunc]
  rw[←Array.toList_map,Array.toArray_toList]
 ·split
  ·rename_i he
   have:as=[]:=by simpa using he
   subst this
   have:=fR h3
   simp only[ln] at this
   have:ys.toList.map a.eval=[]:=List.eq_nil_of_length_eq_zero this.symm
   rw[this]
   simp[X.vr,Value.oneCell']
  ·simp only[X.vr]
   exact⟨_,rfl,h3⟩
 ·split
  ·simp only[X.allp]
  ·simp only[X.allp];exact h4
end
open Go.RowKit
theorem Sub.own{c:Ctx}{st:St}{U:Nat→Prop}{γ γ':Gm}{S:Nat→Prop}{a:Act}{w:World}(_:Rep c st U γ S a w)(h:Sub γ' γ):∀k,Bl γ' k→Bl γ k∨w.heap.size≤k:=fun k ⟨i,g,h1,h2⟩=> .inl (h i g h1 k h2)
section
variable{c:Ctx}{st st':St}{U:Nat→Prop}{γ:Gm}{S:Nat→Prop}{a:Act}{w:World}{C:Cl}{o:Oper}{id:Nat}
theorem Ft{γ:Gm}{w:World}{S:Nat→Prop}{x:X}{v:Value}(h:x.vr γ w S v):vrs γ w S x.cells v.cells.toList∨∃cs,x= .tup cs:=by
 cases x with
 |agg cs =>
  simp only[X.vr] at h
  obtain⟨vs,rfl,h1,_⟩:=h
  exact .inl (by simpa[X.cells,Value.cells] using h1)
 |tup cs=>exact .inr ⟨cs,rfl⟩
 |d x =>
  have hc:v.cells= #[v]:=by
   cases x with
   |v x=>simp only[X.vr] at h;obtain⟨rfl,h1⟩:=h;cases v<;>first|rfl|simp[Value.oneCell'] at h1
   |r els=>simp only[X.vr,D.rd] at h;obtain⟨A,c,rfl,_⟩:=h;rfl
   |s sz els=>simp only[X.vr] at h;rw[h.2];rfl
   |u=>simp only[X.vr] at h;cases v<;>first|rfl|simp[Value.oneCell'] at h
  refine .inl ?_
  rw[hc]
  simp only[X.cells,vrs]
  exact⟨h,trivial⟩
 |ref id p =>
  have hc:v.cells= #[v]:=by
   simp only[X.vr] at h;obtain⟨h1,_⟩:=h;cases v<;>first|rfl|simp[Value.oneCell'] at h1
  refine .inl ?_
  rw[hc]
  simp only[X.cells,vrs]
  exact⟨h,trivial⟩
 |ptr id q j i =>
  have hc:v.cells= #[v]:=by simp only[X.vr] at h;obtain⟨a,rfl,_⟩:=h;rfl
  refine .inl ?_
  rw[hc]
  simp only[X.cells,vrs]
  exact⟨h,trivial⟩
 |rop cs =>
  have hc:v.cells= #[v]:=by simp only[X.vr] at h;obtain⟨a,rfl,_⟩:=h;rfl
  refine .inl ?_
  rw[hc]
  simp only[X.cells,vrs]
  exact⟨h,trivial⟩
 |vp cs =>
  have hc:v.cells= #[v]:=by simp only[X.vr] at h;obtain⟨a,rfl,_⟩:=h;rfl
  refine .inl ?_
  rw[hc]
  simp only[X.cells,vrs]
  exact⟨h,trivial⟩
 |clo f caps =>
  have hc:v.cells= #[v]:=by simp only[X.vr] at h;obtain⟨vs,rfl,_⟩:=h;rfl
  refine .inl ?_
  rw[hc]
  simp only[X.cells,vrs]
  exact⟨h,trivial⟩
theorem Hd{h:Heap}{cs:List X}:iZ h (X.tup cs).cells=none:=by simp[X.cells,iZ,iG]
theorem Ri(gs:List G):a7 [gs]=cL gs:=by simp[a7]
theorem V7(gs:List G):bX [gs]=bls gs:=by simp[bX]
theorem Wk(gs:List G):cD [gs]=[ers gs]:=by simp[cD]
theorem dH(gs:List G):(cL gs).length=gs.length:=by simp[cL]
theorem z7X(R:Rep c st U γ S a w){h1:Heap}{γ1:Gm}(m:Mm h1 γ1 S w)(hmono:∀id,st.heap id=none→h1 id=none)(hsame:∀id p,Same γ γ1 id p)(hsub:Sub γ1 γ){is:List GId}{gs:List G}(hf:fls γ1 h1 is gs)
  {els:List (List G)} (hgs:∀el∈els,∀g∈el,g∈gs) (hbl:(bX els).Perm (bls gs)) {sz cap:Nat} (hsz:∀el∈els,el.length=sz) (hle:els.length≤cap) (hmax:cap≤maxLen) {cur:Array Value} {e:TypeId} (hcur:cur.size=cap*sz) (htake:cur.toList.take (els.length*sz)=a7 els)
  {n:Nat} (hn:∀t x,st.env t=some x→x.allp (fun id _=>id≠(st.fr,n))) {U':Nat→Prop} (hU:∀k,U k→U' k) (hn':U' n) :
  ∃γ',Rep c (st.with (upd h1 (st.fr,n) (some (.s sz (cD els))))) U' γ' S a (w.alloc (.cells cur e))∧γ' (.inl (st.fr,n))=some (.s sz (some ⟨w.heap.size,cap,0⟩) els):=by
 have hold:∀k,k<w.heap.size→(w.alloc (.cells cur e)).heap[k]? = w.heap[k]? := fun k hk=>Below.heap_alloc w _ k hk
 have hSw:∀k,S k→S k∧(w.alloc (.cells cur e)).heap[k]? = w.heap[k]? := fun k hk=>⟨hk,hold k (m.sd k hk).1⟩
 have hlt:∀i g,γ1 i=some g→∀k∈g.bl,k<w.heap.size:=fun i g hg=>G.ok_lt g (m.ok i g hg)
 have hmemg:∀g∈gs,∀k∈g.bl,k<w.heap.size:=fun g hg k hk=>by
  obtain⟨i,_,hi⟩:=xG hf g hg
  exact hlt i g hi k hk
 have hblk:∀k∈bX els,k<w.heap.size:=fun k hk=>by
  obtain⟨g,h1,h2⟩:=xR.1 (hbl.mem_iff.1 hk)
  exact hmemg g h1 k h2
 have hG:(G.s sz (some ⟨w.heap.size,cap,0⟩) els).ok (w.alloc (.cells cur e)) S:=by
  simp only[G.ok]
  refine⟨⟨hle,hmax,cur,e,heap_alloc_new w _,by simpa using hcur,by simpa using htake⟩,hsz,?_⟩
  rw[dV]
  intro el hel g hg
  exact G.ok_congr hSw g (fun k hk=>hold k (hmemg g (hgs el hel g hg) k hk)) (zjc m hf g (hgs el hel g hg))
 have hM:=m.regroup (S':=S) (w':=w.alloc (.cells cur e)) is (fun i hi=>(zq5 hf i hi).1) hG (by
   simp only[G.bl,List.singleton_append,List.nodup_cons]
   exact⟨fun hk=>by have:=hblk _ hk;omega,hbl.nodup_iff.2 (Rk m hf)⟩) (fun k hk=>by
   simp only[G.bl,List.singleton_append,List.mem_cons] at hk
   rcases hk with rfl|hk
   ·exact .inr (Nat.le_refl _)
   ·obtain⟨g,h3,h4⟩:=xR.1 (hbl.mem_iff.1 hk)
    obtain⟨i,h5,h6⟩:=xG hf g h3
    exact .inl ⟨i,h5,g,h6,h4⟩) (fun i g hi _ k hk=>hold k (hlt i g hi k hk)) hSw (fun k hk=>⟨by have:=(m.sd k hk).1;simp;omega,fun hk'=>by
   simp only[G.bl,List.singleton_append,List.mem_cons] at hk'
   rcases hk' with rfl|hk'
   ·have:=(m.sd _ hk).1;omega
   ·obtain⟨g,h3,h4⟩:=xR.1 (hbl.mem_iff.1 hk')
    obtain⟨i,h5,h6⟩:=xG hf g h3
    exact(m.sd k hk).2 i g h6 h4,fun i g hi _=>(m.sd k hk).2 i g hi⟩) (st.fr,n)
 refine⟨upd (rem γ1 is) (.inl (st.fr,n)) (some (.s sz (some ⟨w.heap.size,cap,0⟩) els)),?_,by simp[upd]⟩
 have hR:=R.change (U':=U') (h':=upd h1 (st.fr,n) (some (G.s sz (some ⟨w.heap.size,cap,0⟩) els).er)) hM rfl rfl rfl (by simp) (fun k hk _=>hold k hk) (fun k ⟨i,g,h3,h4⟩=> ?_) (fun t x hx=> ?_) (fun id hid=> ?_) (fun k h=>h) (fun k h=> .inl h) (fun id d hd=> ?_) hU (fun id hid h0=>by
   have hne:id≠(st.fr,n):=fun e=>by rw[e] at hid;simp at hid
   simp only[upd,hne,if_false];exact hmono id h0)
 ·simp only[G.er] at hR
  exact hR
 ·unfold upd at h3
  split at h3
  ·simp only[oi] at h3
   subst h3
   simp only[G.bl,List.singleton_append,List.mem_cons] at h4
   rcases h4 with rfl|h4
   ·exact .inr (Nat.le_refl _)
   ·obtain⟨g,h5,h6⟩:=xR.1 (hbl.mem_iff.1 h4)
    obtain⟨i,_,h7⟩:=xG hf g h5
    exact .inl (hsub i g h7 k h6)
  ·rw[cA] at h3
   exact .inl (hsub i g h3.2 k h4)
 ·exact bS (fun id p h=>(hsame id p).trans (Same.regroup id p h)) x (hn t x hx)
 ·have:id≠(st.fr,n):=fun e=>by rw[e] at hid;simp at hid
  exact(hsame id []).trans (Same.regroup id [] this)
 ·unfold upd at hd
  split at hd
  ·rename_i e
   subst e
   exact .inr ⟨rfl,hn'⟩
  ·have hne:st.heap id≠none:=fun h0=>by
    rw[hmono id h0] at hd
    simp at hd
   obtain⟨d0,hd0⟩:=Option.ne_none_iff_exists'.1 hne
   exact(R.hid id d0 hd0).imp (fun h=>h) (fun h=>⟨h.1,hU _ h.2⟩)
theorem G3(R:Rep c st U γ S a w){n:Nat}(hn:¬U n):∀t x,st.env t=some x→x.allp (fun id _=>id≠(st.fr,n)):=fun t x hx =>
 bS (fun id _ h e=>by subst e;exact h.elim (fun h=>by simp at h) (fun h=>hn h.2)) x (R.ids t x hx)
theorem z81(R:Rep c st U γ S a w)(hd:∀k,o.dst=some k→k<c.nt){t:TypeId}{y:Operand}{x:O}{n:Nat}(ho:o.op= .box t y)(hx:eqO y x=true){k:Nat}(hk:¬U k){U':Nat→Prop}(hU:∀k,U k→U' k)(hk':U' k)(hs:opS C st o.dst k (.box n x)=some st'):Runs c o a w st' U':=by
 simp only[opS,aA] at hs
 obtain⟨z,h1,⟨ds,h2⟩,h3,h4⟩:=hs
 split at h4
 ·rename_i hl
  simp only[oi] at h4
  subst h4
  obtain⟨h5,h6⟩:=bV R hx h1
  rcases Ft h5 with h7|⟨cs,rfl⟩
  ·obtain⟨γ1,is,gs,t1,e1,e2⟩:=Fz R.mm h7 h3
   subst e1
   rw[d4] at hl
   have hvl:(a.eval y).cells.size=n:=by
    have:=congrArg List.length e2
    rw[dH] at this
    simp at this
    omega
   obtain⟨γ',hR,hat⟩:=z7X (n:=k) (U':=U') R t1.mm t1.mono t1.same t1.sub t1.fl (els:=[gs]) (by simp) (by rw[V7]) (sz:=n) (cap:=1) (by simp[hl]) (by simp) (by simp[maxLen]) (cur:=(a.eval y).cells) (e:=t) (by simp[hvl]) (by
    rw[Ri,e2]
    apply List.take_of_length_le
    simp[hvl]) (G3 R hk) hU hk'
   rw[Wk] at hR
   refine .value (.pointer (some ⟨w.heap.size,0,none⟩)) (w.alloc (.cells (a.eval y).cells t)) ?_ (dU hR hd ?_ ?_)
   ·simp[execOp,ho,Instr.box,newVar,newRow]
   ·simp only[X.vr]
    refine⟨_,rfl,fun sz b els hnav=> ?_⟩
    simp only[Gm.nav,hat,obs,G.nav,oi,G.s.injEq,zqb] at hnav
    obtain⟨_,⟨rfl,_⟩,_⟩:=hnav
    simp
   ·simp only[X.allp]
    exact .inr ⟨rfl,hk'⟩
  ·rw[Hd] at h3
   simp at h3
 ·simp at h4
def zEq:List Value→List D→Bool
 |[],[]=>true
 |v::vs,.v x::ds=>vEq v x&&zEq vs ds
 |.slice none 0 0::vs,.s _ []::ds=>zEq vs ds
 |_,_=>false
theorem Lk:∀{vs:List Value} {ds:List D},zEq vs ds=true→∃gs,ers gs=ds∧cL gs=vs∧bls gs=[]∧∀(w:World) (S:Nat→Prop),∀g∈gs,g.ok w S
 |[],[],_=>⟨[],by simp[ers],by simp[cL],by simp[bls],by simp⟩
 |v::vs,.v x::ds,h=>by
  simp only[zEq,bE] at h
  obtain⟨h1,h2⟩:=Sj h.1
  obtain⟨gs,e1,e2,e3,e4⟩:=Lk h.2
  refine⟨.l (.v x) v::gs,by simp[ers,G.er,e1],by simp[cL,G.val];exact e2,by simp[bls,G.bl,e3],fun w S g hg=> ?_⟩
  rcases List.mem_cons.1 hg with rfl|hg
  ·simp only[G.ok,D.rd]
   exact⟨rfl,h1,by rw[←h1];exact h2⟩
  ·exact e4 w S g hg
 |v::vs,.s sz []::ds,h=>by
  unfold zEq at h
  split at h
  ·simp_all
  ·simp_all
  ·rename_i vs' sz' ds' he1 he2
   simp only[List.cons.injEq] at he1 he2
   obtain⟨rfl,rfl⟩:=he1
   obtain⟨_,rfl⟩:=he2
   obtain⟨gs,e1,e2,e3,e4⟩:=Lk h
   refine⟨.s sz none []::gs,by simp[ers,G.er,cD,e1],by simp[cL,G.val];exact e2,by simp[bls,G.bl,bX,e3],fun w S g hg=> ?_⟩
   rcases List.mem_cons.1 hg with rfl|hg
   ·simp[G.ok,gK]
   ·exact e4 w S g hg
  ·simp at h
 |v::vs,.s sz (e::es)::ds,h=>by
  simp[zEq] at h
 |v::vs,.r _::ds,h=>by
  simp[zEq] at h
 |v::vs,.u::ds,h=>by
  simp[zEq] at h
 |[],_::_,h=>by simp[zEq] at h
 |_::_,[],h=>by simp[zEq] at h
theorem z9p(R:Rep c st U γ S a w){els:List (List G)}(hok:∀(w:World) (S:Nat→Prop),gK w S els)(hbl:bX els=[]){sz cap:Nat}(hsz:∀el∈els,el.length=sz)(hle:els.length≤cap)(hmax:cap≤maxLen){cur:Array Value}{e:TypeId}(hcur:cur.size=cap*sz)(htake:cur.toList.take (els.length*sz)=a7 els)
  {n:Nat} (hn:¬U n) {U':Nat→Prop} (hU:∀k,U k→U' k) (hn':U' n) :
  ∃γ',Rep c (st.with (upd st.heap (st.fr,n) (some (.s sz (cD els))))) U' γ' S a (w.alloc (.cells cur e))∧γ' (.inl (st.fr,n))=some (.s sz (some ⟨w.heap.size,cap,0⟩) els):=by
 have hold:∀k,k<w.heap.size→(w.alloc (.cells cur e)).heap[k]? = w.heap[k]? := fun k hk=>Below.heap_alloc w _ k hk
 have hSw:∀k,S k→S k∧(w.alloc (.cells cur e)).heap[k]? = w.heap[k]? := fun k hk=>⟨hk,hold k (R.mm.sd k hk).1⟩
 have hlt:∀i g,γ i=some g→∀k∈g.bl,k<w.heap.size:=fun i g hg=>G.ok_lt g (R.mm.ok i g hg)
 have hG:(G.s sz (some ⟨w.heap.size,cap,0⟩) els).ok (w.alloc (.cells cur e)) S:=by
  simp only[G.ok]
  exact⟨⟨hle,hmax,cur,e,heap_alloc_new w _,by simpa using hcur,by simpa using htake⟩,hsz,hok _ _⟩
 have hbl':(G.s sz (some ⟨w.heap.size,cap,0⟩) els).bl=[w.heap.size]:=by simp[G.bl,hbl]
 have hM:=R.mm.regroup (S':=S) (w':=w.alloc (.cells cur e)) [] (by simp) hG (by rw[hbl'];simp) (fun k hk=>by
   rw[hbl',List.mem_singleton] at hk
   exact .inr (by omega)) (fun i g hi _ k hk=>hold k (hlt i g hi k hk)) hSw (fun k hk=>⟨by have:=(R.mm.sd k hk).1;simp;omega,fun hk'=>by
   rw[hbl',List.mem_singleton] at hk'
   have:=(R.mm.sd _ hk).1;omega,fun i g hi _=>(R.mm.sd k hk).2 i g hi⟩) (st.fr,n)
 refine⟨upd (rem γ []) (.inl (st.fr,n)) (some (.s sz (some ⟨w.heap.size,cap,0⟩) els)),?_,by simp[upd]⟩
 have hR:=R.change (U':=U') (h':=upd st.heap (st.fr,n) (some (G.s sz (some ⟨w.heap.size,cap,0⟩) els).er)) hM rfl rfl rfl (by simp) (fun k hk _=>hold k hk) (fun k ⟨i,g,h3,h4⟩=> ?_) (fun t x hx=> ?_) (fun id hid=> ?_) (fun k h=>h) (fun k h=> .inl h) (fun id d hd=> ?_) hU (fun id hid h0=>by
   have hne:id≠(st.fr,n):=fun e=>by rw[e] at hid;simp at hid
   simp only[upd,hne,if_false];exact h0)
 ·simp only[G.er] at hR
  exact hR
 ·unfold upd at h3
  split at h3
  ·simp only[oi] at h3
   subst h3
   rw[hbl',List.mem_singleton] at h4
   exact .inr (by omega)
  ·rw[cA] at h3
   exact .inl ⟨i,g,h3.2,h4⟩
 ·exact bS (fun id p h=>Same.regroup id p h) x (G3 R hn t x hx)
 ·have:id≠(st.fr,n):=fun e=>by rw[e] at hid;simp at hid
  exact Same.regroup id [] this
 ·unfold upd at hd
  split at hd
  ·rename_i e
   subst e
   exact .inr ⟨rfl,hn'⟩
  ·exact(R.hid id d hd).imp (fun h=>h) (fun h=>⟨h.1,hU _ h.2⟩)
theorem zzu{γ':Gm}{w':World}{n sz b cap:Nat}{els:List (List G)}(hat:γ' (.inl (st.fr,n))=some (.s sz (some ⟨b,cap,0⟩) els)) :
  (X.ptr (st.fr,n) [] 0 0).vr γ' w' S (.pointer (some ⟨b,0,none⟩))∧(X.ref (st.fr,n) []).vr γ' w' S (.slice (some ⟨b,0,none⟩) els.length cap):=by
 constructor
 ·simp only[X.vr]
  refine⟨_,rfl,fun sz' b' els' hnav=> ?_⟩
  simp only[Gm.nav,hat,obs,G.nav,oi,G.s.injEq] at hnav
  obtain⟨_,rfl,_⟩:=hnav
  simp
 ·simp only[X.vr]
  refine⟨rfl,fun g hg=> ?_⟩
  simp only[Gm.nav,hat,obs,G.nav,oi] at hg
  subst hg
  exact⟨rfl,rfl⟩
def sG(P:Program)(t:TypeId):Option (List Value):=(P.info? t).bind fun i=>i.zero.map fun z=>z.cells.toList
theorem lF{P:Program}{t:TypeId}{vs:List Value}(h:sG P t=some vs)(w:World):∃z,(zeroValue t).run P w= .ok z w∧z.cells.toList=vs∧∃i,P.info? t=some i∧i.zero=some z:=by
 unfold sG at h
 rw[aA] at h
 obtain⟨i,hi,h⟩:=h
 rw[aC] at h
 obtain⟨z,hz,h⟩:=h
 exact⟨z,by simp[zeroValue,typeInfo,hi,hz],h,i,hi,hz⟩
theorem zVa(R:Rep c st U γ S a w)(hd:∀k,o.dst=some k→k<c.nt){t:TypeId}{zs:List D}(ho:o.op= .alloc t){vs:List Value}(ht:sG c.P t=some vs)(hz:zEq vs zs=true){k:Nat}(hk:¬U k){U':Nat→Prop}(hU:∀k,U k→U' k)(hk':U' k)(hs:opS C st o.dst k (.alloc zs)=some st'):Runs c o a w st' U':=by
 simp only[opS,oi] at hs
 subst hs
 obtain⟨z,h1,h2,_⟩:=lF ht w
 obtain⟨gs,e1,e2,e3,e4⟩:=Lk hz
 have hlen:gs.length=zs.length:=by rw[←e1,d4]
 have hvl:z.cells.size=zs.length:=by
  have:=congrArg List.length e2
  rw[dH,←h2] at this
  simp at this
  omega
 obtain⟨γ',hR,hat⟩:=z9p (n:=k) (U':=U') R (els:=[gs]) (fun w S=>by
  simp only[gK]
  exact⟨Kb.2 (e4 w S),trivial⟩) (by rw[V7,e3]) (sz:=zs.length) (cap:=1) (by simp[hlen]) (by simp) (by simp[maxLen]) (cur:=z.cells) (e:=t) (by simp[hvl]) (by
   rw[Ri,e2,←h2]
   apply List.take_of_length_le
   simp[hvl]) hk hU hk'
 rw[Wk,e1] at hR
 refine .value (.pointer (some ⟨w.heap.size,0,none⟩)) (w.alloc (.cells z.cells t)) ?_ (dU hR hd (zzu hat).1 ?_)
 ·simp[execOp,ho,Instr.alloc,h1,newVar,newRow]
 ·simp only[X.allp]
  exact .inr ⟨rfl,hk'⟩
end
open Go.RowKit
section
variable{c:Ctx}{st st':St}{U:Nat→Prop}{γ:Gm}{S:Nat→Prop}{a:Act}{w:World}{C:Cl}{o:Oper}{id:Nat}
theorem yG{gs:List G}{sz:Nat}(h:gs.length=sz)(n:Nat):(a7 (List.replicate n gs)).length=n*sz:=by
 have:=jW (sz:=sz) (els:=List.replicate n gs) (fun el hel=>by rw[List.eq_of_mem_replicate hel];exact h)
 simpa using this
theorem Gl{z:Array Value}{gs:List G}(hz:cL gs=z.toList)(n:Nat)(hpos:0<gs.length):(madeCells z (n*gs.length)).toList=a7 (List.replicate n gs):=by
 have hlen:=yG (gs:=gs) rfl n
 have hzs:z.size=gs.length:=by
  have:=congrArg List.length hz
  rw[dH] at this
  simpa using this.symm
 apply List.ext_getElem?
 intro k
 by_cases hk:k<n*gs.length
 ·have hj:k / gs.length<n:=Nat.div_lt_of_lt_mul (by rw[Nat.mul_comm];exact hk)
  have hi:k % gs.length<gs.length:=Nat.mod_lt _ hpos
  have h1:(List.replicate n gs)[k / gs.length]? = some gs:=by rw[List.getElem?_replicate,if_pos hj]
  have h2:=Ck (sz:=gs.length) (fun el hel=>by rw[List.eq_of_mem_replicate hel]) h1 (List.getElem?_eq_getElem hi)
  rw[Nat.mul_comm,Nat.div_add_mod] at h2
  rw[h2]
  have h3:z.toList[k % gs.length]? = some (gs[k % gs.length]).val:=by rw[←hz];simp[cL,List.getElem?_map,List.getElem?_eq_getElem hi]
  unfold madeCells
  simp only[Array.toList_map,Array.toList_range,List.getElem?_map,hzs]
  rw[List.getElem?_range hk]
  simp only[oms,oi]
  rw[Array.getElem?_toList] at h3
  simp[getElem!_def,h3]
 ·rw[List.getElem?_eq_none (by simp[madeCells];omega),List.getElem?_eq_none (by rw[hlen];omega)]
theorem Cv{gs:List G}(h:bls gs=[]):∀n,bX (List.replicate n gs)=[]
 |0=>by simp[bX]
 |n+1=>by simp[List.replicate_succ,bX,h,Cv h n]
theorem Mj(gs:List G)(n:Nat):cD (List.replicate n gs)=List.replicate n (ers gs):=by simp[cG,gV]
theorem z6d(R:Rep c st U γ S a w)(hd:∀k,o.dst=some k→k<c.nt){t e:TypeId}{y1 y2:Operand}{x1:O}{sz bytes:Nat}{zs:List D}(ho:o.op= .makeSlice t y1 y2)(h1:eqO y1 x1=true)(h2:eqO y2 x1=true)(ht:cP c.P t=some e){vs:List Value}(hz:sG c.P e=some vs)(hzz:zEq vs zs=true)
  (hsz:∀i,c.P.info? e=some i→i.size=sz∧i.bytes=bytes) (hpos:0<sz) (hbpos:0<bytes) {k:Nat} (hk:¬U k) {U':Nat→Prop} (hU:∀k,U k→U' k) (hk':U' k) (hs:opS C st o.dst k (.mk sz bytes zs x1)=some st'):Runs c o a w st' U':=by
 simp only[opS,aA] at hs
 obtain⟨⟨kd,n⟩,h4,h5⟩:=hs
 have e1:=fQ R h1 h4
 have e2:=fQ R h2 h4
 simp only at e1 e2 h5
 split at h5
 ·rename_i hb
  obtain⟨⟨b1,b2⟩,b3⟩:=hb
  simp only[oi] at h5
  subst h5
  obtain⟨z,h6,h7,i,hi,hiz⟩:=lF hz w
  obtain⟨hsi,hbi⟩:=hsz i hi
  obtain⟨gs,e3,e4,e5,e6⟩:=Lk hzz
  have hlen:gs.length=sz:=by rw[←b3,←e3,d4]
  have hn63:n≤9223372036854775807:=by
   have h1:(1:Int)≤bytes:=by omega
   have h2:n≤bytes*n:=by
    have:=Int.mul_le_mul_of_nonneg_right h1 b1
    omega
   omega
  unfold cP at ht
  split at ht
  ·rename_i e' hu
   simp only[oi] at ht
   subst ht
   have hmc:=Gl (z:=z.cells) (gs:=gs) (by rw[e4,h7]) n.toNat (by omega)
   rw[hlen] at hmc
   obtain⟨γ',hR,hat⟩:=z9p (n:=k) (U':=U') R (els:=List.replicate n.toNat gs) (fun w S=>by
    rw[dV]
    intro el hel g hg
    rw[List.eq_of_mem_replicate hel] at hg
    exact e6 w S g hg) (Cv e5 _) (sz:=sz) (cap:=n.toNat) (fun el hel=>by rw[List.eq_of_mem_replicate hel];exact hlen) (by simp) (by simp only[maxLen];omega) (cur:=madeCells z.cells (n.toNat*sz)) (e:=e') (by simp[madeCells]) (by
    rw[hmc]
    apply List.take_of_length_le
    rw[yG hlen]
    simp) hk hU hk'
   rw[Mj,e3] at hR
   refine .value (.slice (some ⟨w.heap.size,0,none⟩) n.toNat n.toNat) (w.alloc (.cells (madeCells z.cells (n.toNat*sz)) e')) ?_ (dU hR hd ?_ ?_)
   ·have:=run_make (P:=c.P) w t e' i z hu hi hiz kd kd n n b1 (Int.le_refl _) (by rw[hbi];exact b2) hn63
    rw[hsi] at this
    simp[execOp,ho,e1,e2,this]
   ·have:=(zzu (S:=S) (st:=st) (w':=w.alloc (.cells (madeCells z.cells (n.toNat*sz)) e')) hat).2
    simpa using this
   ·simp only[X.allp]
    exact .inr ⟨rfl,hk'⟩
  ·simp at ht
 ·simp at h5
theorem N2(R:Rep c st U γ S a w){sz:Nat}:∀{ys:List Operand} {os:List O} {h h':Heap} {γ0:Gm},Mm h γ0 S w→(∀id p,Same γ γ0 id p)→qB ys os=true→∀{els:List (List D)},eS st sz h os=some (els,h') →
  ∃γ' is gs ges,TookL h h' γ0 γ' S w is gs∧cD ges=els∧ges.flatten=gs∧(∀el∈ges,el.length=sz)∧a7 ges=(ys.map fun y=>(a.eval y).cells.toList).flatten∧ges.length=ys.length∧∀y∈ys,(a.eval y).cells.size=sz
 |[],[],h,h',γ0,m,_,_,els,ht=>by
  simp only[eS,oi,zqb] at ht
  obtain⟨rfl,rfl⟩:=ht
  exact⟨γ0,[],[],[],⟨m,by simp[fls],fun j _ _=>⟨by simp,rfl⟩,fun _ h=>h,fun id p=>Same.refl γ0 id p,Sub.refl γ0⟩,by simp[cD],rfl,by simp,by simp[a7],rfl,by simp⟩
 |y::ys,o::os,h,h',γ0,m,hsm,he,els,ht=>by
  simp only[eS,aA] at ht
  obtain⟨x,h1,⟨ds,h2⟩,h3,h4⟩:=ht
  split at h4
  ·rename_i hl
   rw[aC] at h4
   obtain⟨⟨els',h5⟩,h6,h7⟩:=h4
   simp only[zqb] at h7
   obtain⟨rfl,rfl⟩:=h7
   simp only[qB,bE] at he
   obtain⟨h8,h9⟩:=bV R he.1 h1
   have h8':=fW (S':=S) (w':=w) (fun k hk=>⟨hk,rfl⟩) x _ (cS hsm x) h8
   rcases Ft h8' with h10|⟨cs,rfl⟩
   ·obtain⟨γ1,is,gs,t1,e1,e2⟩:=Fz m h10 h3
    obtain⟨γ2,is2,gs2,ges2,t2,e3,e4,e5,e6,e7,e8⟩:=N2 R t1.mm (fun id p=>(hsm id p).trans (t1.same id p)) he.2 h6
    have hgl:gs.length=sz:=by rw[←d4,e1];exact hl
    refine⟨γ2,is++is2,gs++gs2,gs::ges2,⟨t2.mm,?_,fun j hj hs=> ?_,fun id hid=>t2.mono id (t1.mono id hid),fun id p=>(t1.same id p).trans (t2.same id p),t2.sub.trans t1.sub⟩,by simp[cD,e1,e3],by simp[e4],fun el hel=> ?_,?_,by simp[e7],fun y' hy'=> ?_⟩
    ·have:=t1.fl
     clear e1 e2 hgl
     revert this
     have hnew:=t2.new
     have hmono:=t2.mono
     have hfl:=t2.fl
     clear t1
     induction is generalizing gs with
     |nil =>
      intro hf
      cases gs with
      |nil=>simpa using hfl
      |cons g gs=>simp[fls] at hf
     |cons i is ih =>
      intro hf
      cases gs with
      |nil=>simp[fls] at hf
      |cons g gs =>
       simp only[fls] at hf
       obtain⟨f1,f2,f3,f4⟩:=hf
       obtain⟨f5,f6⟩:=hnew i f2 (by rw[f1];rfl)
       simp only[List.cons_append,fls]
       exact⟨f6.trans f1,fun id e=>hmono id (f2 id e),by simp[f3,f5],ih gs f4⟩
    ·obtain⟨a1,a2⟩:=t1.new j hj hs
     obtain⟨a3,a4⟩:=t2.new j (fun id e=>t1.mono id (hj id e)) (by rw[a2];exact hs)
     exact⟨by simp[a1,a3],a4.trans a2⟩
    ·rcases List.mem_cons.1 hel with rfl|hel
     ·exact hgl
     ·exact e5 el hel
    ·simp only[a7,mc,List.flatten_cons,e6]
     rw[e2]
    ·rcases List.mem_cons.1 hy' with rfl|hy'
     ·have:=congrArg List.length e2
      rw[dH,hgl] at this
      simpa using this.symm
     ·exact e8 y' hy'
   ·rw[Hd] at h3
    simp at h3
  ·simp at h4
 |[],_::_,_,_,_,_,_,h,_,_=>by simp[qB] at h
 |_::_,[],_,_,_,_,_,h,_,_=>by simp[qB] at h
theorem F9:∀els:List (List G),bX els=bls els.flatten
 |[]=>by simp[bX,bls]
 |el::els=>by
  have:∀(a b:List G),bls (a++b)=bls a++bls b:=fun a b=>by
   induction a with
   |nil=>simp[bls]
   |cons x a ih=>simp[bls,ih]
  simp[bX,F9 els,this]
theorem Ih{α:Type}{s:Nat}:∀{L:List (List α)},(∀l∈L,l.length=s)→∀(j i:Nat),i<s→L.flatten[j*s+i]? = (L[j]?).bind fun l=>l[i]?
 |[],_,j,i,_=>by simp
 |l::L,h,0,i,hi=>by
  simp only[Nat.zero_mul,Nat.zero_add,List.flatten_cons,List.getElem?_cons_zero,obs]
  rw[List.getElem?_append_left (by rw[h l (by simp)];exact hi)]
 |l::L,h,j+1,i,hi=>by
  simp only[List.flatten_cons,List.getElem?_cons_succ]
  rw[List.getElem?_append_right (by rw[h l (by simp),Nat.add_mul];omega),h l (by simp)]
  rw[show(j+1)*s+i-s=j*s+i by rw[Nat.add_mul];omega]
  exact Ih (fun l hl=>h l (by simp[hl])) j i hi
theorem zQa{s:Nat}(hs:0<s)(vs:List Value)(hv:∀v∈vs,v.cells.size=s)(z:Array Value):∃r,Instr.fill (fun i=>some (i*s,s)) ((Array.range (vs.length*s)).map (z[· % z.size]!)) ((vs.zipIdx 0).map fun x=>(x.2,x.1))=some r∧r.toList=(vs.map fun v=>v.cells.toList).flatten:=by
 obtain⟨r,h1,h2,h3⟩:=Go.Great.fill_dense hs vs 0 ((Array.range (vs.length*s)).map (z[· % z.size]!)) hv (by simp)
 refine⟨r,h1,?_⟩
 have hlen:∀l∈vs.map (fun v=>v.cells.toList),l.length=s:=fun l hl=>by
  obtain⟨v,h4,rfl⟩:=List.mem_map.1 hl
  simpa using hv v h4
 apply List.ext_getElem?
 intro k
 rw[Array.getElem?_toList,h3 k,Nat.zero_mul,Nat.zero_add]
 have hk:=Ih hlen (k / s) (k % s) (Nat.mod_lt _ hs)
 rw[Nat.mul_comm,Nat.div_add_mod] at hk
 rw[hk]
 split
 ·simp only[Nat.sub_zero,List.getElem?_map]
  cases vs[k / s]? <;> simp
 ·rename_i hlt
  have h5:vs.length*s≤k:=by omega
  have h6:vs[k / s]? = none:=List.getElem?_eq_none (by rw[Nat.le_div_iff_mul_le hs];exact h5)
  rw[List.getElem?_map,h6]
  simp only[Option.map_none,Option.bind_none]
  rw[Array.getElem?_eq_none (by simp;omega)]
theorem z9K(R:Rep c st U γ S a w)(hd:∀k,o.dst=some k→k<c.nt){t e:TypeId}{len:Nat}{parts:Array (Nat×Operand)}{ys:List Operand}{os:List O}{sz:Nat}(ho:o.op= .buildSlice t len parts)(hp:parts.toList=(ys.zipIdx 0).map fun x=>(x.2,x.1))(hl:ys.length=len)(he:qB ys os=true)(ht:cP c.P t=some e)
  {i:TypeInfo} (hi:c.P.info? e=some i) (hsz:i.size=sz) (hpos:0<sz) (hz:i.zero.isSome=true) (hsmall:len*sz≤16777216) {k:Nat} (hk:¬U k) {U':Nat→Prop} (hU:∀k,U k→U' k) (hk':U' k) (hs:opS C st o.dst k (.lit sz os)=some st'):Runs c o a w st' U':=by
 simp only[opS,aC] at hs
 obtain⟨⟨els,h1⟩,h2,rfl⟩:=hs
 obtain⟨γ1,is,gs,ges,t1,e1,e2,e3,e4,e5,e6⟩:=N2 R R.mm (fun id p=>Same.refl γ id p) he h2
 obtain⟨z,hz⟩:=Option.isSome_iff_exists.1 hz
 unfold cP at ht
 split at ht
 ·rename_i e' hu
  simp only[oi] at ht
  subst ht
  obtain⟨r,h3,h4⟩:=zQa hpos (ys.map a.eval) (fun v hv=>by
   obtain⟨y,hy,rfl⟩:=List.mem_map.1 hv
   exact e6 y hy) (if len*sz=0 then #[] else z.cells)
  have hrs:r.size=len*sz:=by
   have:=congrArg List.length h4
   rw[List.map_map] at this
   rw[show(ys.map ((fun v=>v.cells.toList) ∘ a.eval)).flatten=a7 ges by rw[e4];rfl,jW e3,e5,hl] at this
   simpa using this
  obtain⟨γ',hR,hat⟩:=z7X (n:=k) (U':=U') R t1.mm t1.mono t1.same t1.sub t1.fl (els:=ges) (fun el hel g hg=>by rw[←e2];exact List.mem_flatten.2 ⟨el,hel,hg⟩) (by rw[F9,e2]) (sz:=sz) (cap:=len) e3 (by omega) (by simp only[maxLen];have:len≤len*sz:=Nat.le_mul_of_pos_right _ hpos;omega) (cur:=r) (e:=e') hrs (by
   rw[h4,List.map_map,e4]
   apply List.take_of_length_le
   rw[show((fun v:Value=>v.cells.toList) ∘ a.eval)=fun y=>(a.eval y).cells.toList from rfl,←e4,jW e3]
   omega) (G3 R hk) hU hk'
  rw[e1] at hR
  refine .value (.slice (some ⟨w.heap.size,0,none⟩) len len) (w.alloc (.cells r e')) ?_ (dU hR hd ?_ ?_)
  ·have hparts:parts.toList.map (fun x=>(x.1,a.eval x.2))=((ys.map a.eval).zipIdx 0).map fun x=>(x.2,x.1):=by
    rw[hp,List.map_map,List.zipIdx_map,List.map_map]
    rfl
   have hlen:(ys.map a.eval).length=len:=by simpa using hl
   rw[hlen] at h3
   have hgt:¬16777216<len*sz:=by omega
   by_cases h0:len*sz=0
   ·have hl0:len=0:=(Nat.mul_eq_zero.1 h0).resolve_right (by omega)
    subst hl0
    have hys:ys=[]:=List.eq_nil_of_length_eq_zero hl
    subst hys
    have hpa:parts= #[]:=by simpa using hp
    have hr:r= #[]:=by simpa using h4
    subst hpa
    subst hr
    simp[execOp,ho,Instr.buildSlice,run_underlying hu,sizeOf,typeInfo,hi,Instr.fill,newRow,show Array.range 0= #[] from rfl]
   ·rw[if_neg h0] at h3
    simp only[execOp,ho,Instr.buildSlice,Sem.run_bind,run_underlying hu,sizeOf,typeInfo,run_program,Result.andThen_ok,hi,Sem.run_pure,hsz,hgt,if_false,zeroValue,hz,h0]
    rw[show((parts.map fun x=>(x.1,a.eval x.2)).toList)=((ys.map a.eval).zipIdx 0).map fun x=>(x.2,x.1) by rw[Array.toList_map];exact hparts]
    rw[h3]
    simp[newRow]
  ·have:=(zzu (S:=S) (st:=st) (w':=w.alloc (.cells r e')) hat).2
   rw[e5,hl] at this
   exact this
  ·simp only[X.allp]
   exact .inr ⟨rfl,hk'⟩
 ·simp at ht
end
open Go.RowKit
section
variable{c:Ctx}{st st':St}{U:Nat→Prop}{γ:Gm}{S:Nat→Prop}{a:Act}{w:World}{C:Cl}{o:Oper}{id:Nat}
def Cw(el:List G)(i:Nat):List G→List G
 |[]=>el
 |c::cs=>Cw (el.set i c) (i+1) cs
theorem Qp:∀(cs el:List G) (i:Nat),ers (Cw el i cs)=setCells (ers el) i (ers cs)
 |[],el,i=>by simp[Cw,setCells,ers]
 |c::cs,el,i=>by
  simp only[Cw,setCells,ers]
  rw[Qp cs]
  congr 1
  simp[gV,List.map_set]
theorem T5:∀(cs el:List G) (i:Nat),(Cw el i cs).length=el.length
 |[],el,i=>rfl
 |c::cs,el,i=>by simp only[Cw];rw[T5 cs];simp
theorem Xs{h h1:Heap}{id:Id}{q:Path}{x:D}(h1':h.put id q x=some h1)(y:D):h1.put id q y=h.put id q y:=by
 unfold Heap.put at h1' ⊢
 rw[aA] at h1'
 obtain⟨d,hd,h2⟩:=h1'
 rw[aC] at h2
 obtain⟨d',h3,rfl⟩:=h2
 rw[hd]
 simp only[upd,if_true,obs,zka q d x y d' h3]
 congr 1
 funext d2 j
 by_cases hj:j=id<;>simp[upd,hj]
structure StoredL (h h':Heap) (γ γ':Gm) (S:Nat→Prop) (w:World) (id:Id) (q:Path) (j i sz b cap o:Nat) (els:List (List G)) (el:List G) (gs:List G):Prop where
 put:h.put id q (.s sz (cD (els.set j (Cw el i gs))))=some h'
 mm:Mm h' γ' S (w.setCells b (o+(j*sz+i)) (cL gs))
 mono:∀id,h id=none↔h' id=none
 same:∀id' p',(id'=id→∀k r,i≤k→k<i+gs.length→p'≠q++[(j,k)]++r)→Same γ γ' id' p'
 plain:(∀k,k<gs.length→∃x v,el[i+k]? = some (.l (.v x) v))→(∀g∈gs,∃y u,g= .l (.v y) u)→∀id' p',Same γ γ' id' p'
 sub:Sub γ' γ
 inb:∃i0 g0,γ i0=some g0∧b∈g0.bl
theorem zVr{id:Id}{q:Path}{sz b cap o j:Nat}:∀{gs:List G} {is:List GId} {h:Heap} {γ:Gm} {w:World} {els:List (List G)} {el:List G} {i:Nat} {d0:D},gs≠[]→Mm h γ S w→fls γ h is gs→h id=some d0→γ.nav id q=some (.s sz (some ⟨b,cap,o⟩) els) →
  els[j]? = some el→i+gs.length≤el.length→∃h' γ',StoredL h h' γ γ' S w id q j i sz b cap o els el gs
 |[],_,_,_,_,_,_,_,_,hne,_,_,_,_,_,_=>absurd rfl hne
 |g::gs,[],_,_,_,_,_,_,_,_,_,hf,_,_,_,_=>by simp[fls] at hf
 |g::gs,gid::is,h,γ,w,els,el,i,d0,_,m,hf,hd0,hq,hj,hle=>by
  simp only[fls] at hf
  obtain⟨f1,f2,f3,f4⟩:=hf
  simp only[lc] at hle
  have hi:i<el.length:=by omega
  obtain⟨h1,γ1,s1⟩:=zZN m hd0 hq hj (List.getElem?_eq_getElem hi) f1 f2
  have hplain1:(∃x v,el[i]? = some (.l (.v x) v))→(∃y u,g= .l (.v y) u)→∀id' p',Same γ γ1 id' p':=fun⟨x,v,hx⟩ ⟨y,u,hy⟩=>s1.plain ⟨x,v,y,u,hx,hy⟩
  by_cases hgs:gs=[]
  ·subst hgs
   refine⟨h1,γ1,⟨by simpa[Cw] using s1.put,by simpa[cL,World.setCells] using s1.mm,s1.mono,fun id' p' hp=>s1.same id' p' (fun e r=>hp e i r (Nat.le_refl _) (by simp)),fun he hg=>hplain1 (by simpa using he 0 (by simp)) (hg g (by simp)),s1.sub,s1.inb⟩⟩
  ·have hf':fls γ1 h1 is gs:=by
    have hh:∀{is:List GId} {gs:List G},gid∉is→fls γ h is gs→fls γ1 h1 is gs:=by
     intro is
     induction is with
     |nil=>intro gs _ hf;cases gs with
      |nil=>simp[fls]
      |cons g gs=>simp[fls] at hf
     |cons k is ih=>intro gs hn hf;cases gs with
      |nil=>simp[fls] at hf
      |cons g gs =>
       simp only[fls] at hf ⊢
       refine⟨?_,fun id e=>(s1.mono id).1 (hf.2.1 id e),hf.2.2.1,ih (fun h=>hn (by simp[h])) hf.2.2.2⟩
       rw[s1.new k hf.2.1 (fun e=>hn (by simp[e]))]
       exact hf.1
    exact hh f3 f4
   have hd1:∃d1,h1 id=some d1:=by
    cases hx:h1 id with
    |none=>have:=(s1.mono id).2 hx;rw[hd0] at this;simp at this
    |some d1=>exact⟨d1,rfl⟩
   obtain⟨d1,hd1⟩:=hd1
   obtain⟨h2,γ2,s2⟩:=zVr (i:=i+1) hgs s1.mm hf' hd1 s1.at_ (by rw[List.getElem?_set_self (List.getElem?_eq_some_iff.1 hj).1]) (by simp;omega)
   refine⟨h2,γ2,⟨?_,?_,fun id=>(s1.mono id).trans (s2.mono id),fun id' p' hp=> ?_,fun he hg=> ?_,s2.sub.trans s1.sub,s1.inb⟩⟩
   ·have:=s2.put
    rw[Xs s1.put] at this
    rw[←this]
    simp only[Cw,List.set_set]
   ·have:=s2.mm
    simp only[cL,mc,World.setCells] at this ⊢
    rw[show o+(j*sz+i)+1=o+(j*sz+(i+1)) by omega]
    exact this
   ·exact(s1.same id' p' (fun e r=>hp e i r (Nat.le_refl _) (by simp))).trans (s2.same id' p' (fun e k r hk1 hk2=>hp e k r (by omega) (by simp;omega)))
   ·intro id' p'
    exact(hplain1 (by simpa using he 0 (by simp)) (hg g (by simp)) id' p').trans (s2.plain (fun k hk=>by
     rw[List.getElem?_set_ne (by omega)]
     have:=he (k+1) (by simp;omega)
     rwa [show i+(k+1)=i+1+k by omega] at this) (fun g' hg'=>hg g' (by simp[hg'])) id' p')
theorem Yy{q:Path}{j i n k:Nat}{r:Path}(h1:i≤k)(h2:k<i+n):Path.under q j i n (q++(j,k)::r)=true:=by
 unfold Path.under
 simp[h1,h2]
theorem Tb{id:Id}{q:Path}{j i n:Nat}:∀{xs:List X},Wy id q j i n xs=false→∀x∈xs,x.hitC id q j i n=false
 |[],_,x,hx=>by simp at hx
 |y::ys,h,x,hx=>by
  simp only[Wy,Bool.or_eq_false_iff] at h
  rcases List.mem_cons.1 hx with rfl|hx
  ·exact h.1
  ·exact Tb h.2 x hx
theorem zY4{id:Id}{q:Path}{j i n:Nat}{φ:Id→Path→Prop}(hφ:∀id' p',(id'=id→∀k r,i≤k→k<i+n→p'≠q++[(j,k)]++r)→φ id' p'){x:X}(h:x.hit id q j i n=false):x.allp φ:=by
 have hc:∀y:X,y.hitC id q j i n=false→y.allp φ:=fun y hy=>by
  cases y with
  |ref id' p' =>
   simp only[X.allp]
   refine hφ id' p' fun e k r h1 h2 e2=> ?_
   subst e;subst e2
   simp[X.hitC,Yy h1 h2] at hy
  |ptr id' p' a b =>
   simp only[X.allp]
   refine hφ id' p' fun e k r h1 h2 e2=> ?_
   subst e;subst e2
   simp[X.hitC,Yy h1 h2] at hy
  |d x=>simp only[X.allp]
  |rop cs=>simp only[X.allp]
  |vp cs=>simp[X.hitC] at hy
  |agg cs=>simp[X.hitC] at hy
  |tup cs=>simp[X.hitC] at hy
  |clo f cs=>simp[X.hitC] at hy
 cases x with
 |agg cs =>
  simp only[X.hit] at h
  simp only[X.allp]
  exact bG.2 fun y hy=>hc y (Tb h y hy)
 |tup cs=>simp[X.hit] at h
 |d x=>simp only[X.allp]
 |rop cs=>simp only[X.allp]
 |vp cs =>
  simp only[X.hit] at h
  simp only[X.allp]
  exact bG.2 fun y hy=>hc y (Tb h y hy)
 |ref id' p'=>exact hc _ (by simpa[X.hit] using h)
 |ptr id' p' a b=>exact hc _ (by simpa[X.hit] using h)
 |clo f cs=>exact hc _ (by simpa[X.hit] using h)
theorem Eb:∀{gs:List G},(∀g∈gs,g.ok w S)→fJ (ers gs)=true→∀g∈gs,∃x v,g= .l (.v x) v
 |[],_,_,g,hg=>by simp at hg
 |g::gs,hok,h,g',hg'=>by
  cases g with
  |s sz b els=>simp[ers,G.er,fJ] at h
  |l d v =>
   cases d with
   |v x =>
    simp only[ers,G.er,fJ] at h
    rcases List.mem_cons.1 hg' with rfl|hg'
    ·exact⟨x,v,rfl⟩
    ·exact Eb (fun g hg=>hok g (by simp[hg])) h g' hg'
   |s _ _=>simp[ers,G.er,fJ] at h
   |r _=>simp[ers,G.er,fJ] at h
   |u=>simp[ers,G.er,fJ] at h
theorem iQ(b:Nat):∀(vs:List Value) (off:Nat) (w:World) (k:Nat),k≠b→(w.setCells b off vs).heap[k]? = w.heap[k]?
 |[],off,w,k,_=>rfl
 |v::vs,off,w,k,h=>by
  simp only[World.setCells]
  rw[iQ b vs (off+1) _ k h,Below.heap_setCell w _ v k (by simpa using h)]
theorem n9(b:Nat):∀(vs:List Value) (off:Nat) (w:World),(w.setCells b off vs).os=w.os∧(w.setCells b off vs).tape=w.tape∧(w.setCells b off vs).output=w.output∧(w.setCells b off vs).heap.size=w.heap.size
 |[],off,w=>⟨rfl,rfl,rfl,rfl⟩
 |v::vs,off,w=>by
  simp only[World.setCells]
  obtain⟨h1,h2,h3,h4⟩:=n9 b vs (off+1) (w.setCell ⟨b,off,none⟩ v)
  exact⟨h1,h2,h3,by rw[h4];simp⟩
theorem z7b{x:X}{v:Value}(h:x.vr γ w S v):x.dim.vr γ w S v∧∀φ:Id→Path→Prop,x.allp φ→x.dim.allp φ:=by
 have hC:∀(y:X) (u:Value),y.vr γ w S u→y.dimC.vr γ w S u∧∀φ:Id→Path→Prop,y.allp φ→y.dimC.allp φ:=fun y u hy=>by
  cases y with
  |ref id p =>
   simp only[X.vr] at hy
   exact⟨by simp only[X.dimC,X.vr];exact hy.1,fun φ _=>by simp only[X.dimC,X.allp]⟩
  |_=>exact⟨hy,fun φ h=>h⟩
 have hL:∀(ys:List X) (us:List Value),vrs γ w S ys us→vrs γ w S (ys.map X.dimC) us∧∀φ:Id→Path→Prop,aR φ ys→aR φ (ys.map X.dimC):=fun ys=>by
  induction ys with
  |nil=>exact fun us h=>⟨h,fun φ h=>h⟩
  |cons y ys ih =>
   intro us h
   cases us with
   |nil=>simp[vrs] at h
   |cons u us =>
    simp only[vrs] at h
    obtain⟨h1,h2⟩:=hC y u h.1
    obtain⟨h3,h4⟩:=ih us h.2
    exact⟨by simp only[mc,vrs];exact⟨h1,h3⟩,fun φ hφ=>by simp only[mc,aR] at hφ ⊢;exact⟨h2 φ hφ.1,h4 φ hφ.2⟩⟩
 cases x with
 |agg cs =>
  simp only[X.vr] at h
  obtain⟨vs,h1,h2,h3⟩:=h
  obtain⟨h4,h5⟩:=hL cs vs h2
  exact⟨by simp only[X.dim,X.vr];exact⟨vs,h1,h4,h3⟩,fun φ hφ=>by simp only[X.dim,X.allp] at hφ ⊢;exact h5 φ hφ⟩
 |_=>exact hC _ _ h
theorem Rj(R:Rep c st U γ S a w){t:TypeId}{y1 y2:Operand}{x1:O}{n:Nat}(ho:o.op= .store t y1 y2)(h1:eqO y1 x1=true)(ht:mC c.P t=some n)(hn:0<n){p y:X}(h3:rdO st x1=some p)(h8:y.vr γ w S (a.eval y2)){s:St}(h5:sT st n p y.cells=some s):Runs c o a w (s.lose o.dst) U:=by
 obtain⟨h6,h7⟩:=bV R h1 h3
 unfold sT at h5
 split at h5
 ·rename_i pid q j i
  rw[aA] at h5
  obtain⟨⟨ds,hp⟩,h10,h11⟩:=h5
  split at h11
  ·rename_i hl
   simp only[aA] at h11
   obtain⟨r,h12,el,h13,h14⟩:=h11
   split at h14
   ·rename_i hle
    rw[aC] at h14
    obtain⟨h',h15,rfl⟩:=h14
    rcases Ft h8 with h16|⟨cs,rfl⟩
    ·obtain⟨γ1,is,gs,t1,e1,e2⟩:=Fz R.mm h16 h10
     obtain⟨b,els,h17,h18⟩:=t1.mm.row h12
     rw[←h18,cG,List.getElem?_map,aC] at h13
     obtain⟨gel,h19,h20⟩:=h13
     rw[←gV] at h20
     have hgl:gs.length=n:=by rw[←d4,e1];exact hl
     have hel:gel.length=el.length:=by rw[←h20,d4]
     have hrow:=t1.mm.nav_ok h17
     cases b with
     |none =>
      simp only[G.ok] at hrow
      rw[hrow.1] at h19
      simp at h19
     |some b =>
      obtain⟨b,cap,o0⟩:=b
      have hd0:∃d0,hp pid=some d0:=by
       unfold Heap.row Heap.nav at h12
       simp only[aA] at h12
       obtain⟨_,⟨d0,hd0,_⟩,_⟩:=h12
       exact⟨d0,hd0⟩
      obtain⟨d0,hd0⟩:=hd0
      obtain⟨h2',γ2,s2⟩:=zVr (S:=S) (gs:=gs) (by intro e;rw[e] at hgl;simp at hgl;omega) t1.mm t1.fl hd0 h17 h19 (i:=i) (by rw[hgl,hel];exact hle)
      have hput:=s2.put
      have hrw:cD (els.set j (Cw gel i gs))=r.2.set j (setCells el i ds):=by
       rw[←h18,←h20,←e1,←Qp]
       simp[cG,gV,List.map_set]
      rw[hrw] at hput
      rw[h15] at hput
      simp only[oi] at hput
      subst hput
      have hvr1:=fW (S':=S) (w':=w) (fun k hk=>⟨hk,rfl⟩) (.ptr pid q j i) _ (by simp only[X.allp];exact t1.same pid q) h6
      simp only[X.vr] at hvr1
      obtain⟨ad,had,hadeq⟩:=hvr1
      have hadb:=hadeq _ _ _ h17
      subst hadb
      have hvs:cL gs=(a.eval y2).cells.toList:=e2
      have hcells:∀k,k<gs.length→(w.cell? ⟨b,o0+(j*r.1+i)+k,none⟩).isSome=true∧w.frozen? ⟨b,o0+(j*r.1+i)+k,none⟩=false:=fun k hk=>by
       have hk':i+k<gel.length:=by omega
       have:=sJ hrow h19 (List.getElem?_eq_getElem hk')
       obtain⟨cur,e,hcur⟩:=kD hrow
       rw[show o0+(j*r.1+i)+k=o0+(j*r.1+(i+k)) by omega]
       exact⟨by rw[this];rfl,frozen_of_row w b _ cur e hcur⟩
      have hone:∀v∈cL gs,v.oneCell'=true:=fun v hv=>by
       simp only[cL,List.mem_map] at hv
       obtain⟨g,hg,rfl⟩:=hv
       exact mZ (zjc t1.mm t1.fl g hg)
      have hrun:(execOp a.eval o).run c.P w= .ok .skip (w.setCells b (o0+(j*r.1+i)) (cL gs)):=by
       unfold mC at ht
       rw[aC] at ht
       obtain⟨ti,hti,hts⟩:=ht
       have hcs:(a.eval y2).cells.size=n:=by
        have:=congrArg List.length hvs
        rw[dH,hgl] at this
        simpa using this.symm
       have hst:=run_storeCells_cells (P:=c.P) b (o0+(j*r.1+i)) (cL gs) 0 w (fun k hk=>by rw[dH] at hk;simpa using (hcells k hk).1) (fun k hk=>by rw[dH] at hk;simpa using (hcells k hk).2) hone
       rw[hvs] at hst
       simp[execOp,ho,had,Instr.storeAt,Instr.sureAddr,storeVar,sizeOf,typeInfo,hti,hts,hcs,hst,hvs]
      refine .skip _ hrun ?_
      obtain⟨so,stp,sou,ssz⟩:=n9 b (cL gs) (o0+(j*r.1+i)) w
      have hbl:Bl γ b:=by
       obtain⟨i0,g0,hb1,hb2⟩:=s2.inb
       exact t1.sub i0 g0 hb1 b hb2
      have hsame:∀t x,(if fJ ((el.drop i).take n)&&fJ ds then st.env else purge pid q j i n st.env) t=some x→st.env t=some x∧x.allp (Same γ γ2):=fun t x hx=>by
       split at hx
       ·rename_i hpl
        simp only[bE] at hpl
        refine⟨hx,cS (fun id p=>(t1.same id p).trans (s2.plain (fun k hk=> ?_) (fun g hg=> ?_) id p)) x⟩
        ·have hok:∀g∈(gel.drop i).take n,g.ok w S:=fun g hg=>by
          have hg':=List.mem_of_mem_drop (List.mem_of_mem_take hg)
          simp only[G.ok] at hrow
          exact dV.1 hrow.2.2 gel (List.mem_of_getElem? h19) g hg'
         have hpl1:=hpl.1
         rw[←h20,←V1,←X7] at hpl1
         have hk':i+k<gel.length:=by omega
         have hmem:gel[i+k]∈(gel.drop i).take n:=by
          refine List.mem_of_getElem? (i:=k) ?_
          rw[List.getElem?_take,if_pos (by omega),List.getElem?_drop,List.getElem?_eq_getElem hk']
         obtain⟨x,v,e⟩:=Eb hok hpl1 _ hmem
         exact⟨x,v,by rw[List.getElem?_eq_getElem hk',e]⟩
        ·have hpl2:=hpl.2
         rw[←e1] at hpl2
         exact Eb (zjc t1.mm t1.fl) hpl2 g hg
       ·unfold purge at hx
        rw[aA] at hx
        obtain⟨x',hx1,hx2⟩:=hx
        split at hx2
        ·simp at hx2
        ·rename_i hh
         simp only[oi] at hx2
         subst hx2
         refine⟨hx1,zY4 (n:=n) (fun id' p' hp'=>(t1.same id' p').trans (s2.same id' p' (fun e k r hk1 hk2=>hp' e k r hk1 (by omega)))) (by simpa using hh)⟩
      have R2:=(R.less (fun t x hx=>(hsame t x hx).1)).change (U':=U) s2.mm so stp sou (by rw[ssz];exact Nat.le_refl _) (fun k _ hk=>iQ b _ _ w k (fun e=>hk (e ▸ hbl))) (Sub.own R (s2.sub.trans t1.sub)) (fun t x hx=>(hsame t x hx).2)
       (fun id hid=> ?_) (fun k h=>h) (fun k h=> .inl h) (fun id d hd=> ?_) (fun _ h=>h) (fun id _ h0=>(s2.mono id).1 (t1.mono id h0))
      ·exact⟨γ2,S,R2.lose _⟩
      ·refine(t1.same id []).trans (s2.same id [] (fun e k r _ _ e2=> ?_))
       simp at e2
      ·have hne:st.heap id≠none:=fun h0=>by
        have:=(s2.mono id).1 (t1.mono id h0)
        rw[this] at hd
        simp at hd
       obtain⟨d1,hd1⟩:=Option.ne_none_iff_exists'.1 hne
       exact R.hid id d1 hd1
    ·rw[Hd] at h10
     simp at h10
   ·simp at h14
  ·simp at h11
 ·simp at h5
theorem zQe(R:Rep c st U γ S a w){t:TypeId}{y1 y2:Operand}{x1 x2:O}{n:Nat}(ho:o.op= .store t y1 y2)(h1:eqO y1 x1=true)(h2:eqO y2 x2=true)(ht:mC c.P t=some n)(hn:0<n)(hk:¬10000≤n)(hs:opS C st o.dst id (.store n x1 x2)=some st'):Runs c o a w st' U:=by
 simp only[opS,aA,aC,if_neg hk] at hs
 obtain⟨p,h3,y,h4,s,h5,rfl⟩:=hs
 exact Rj R ho h1 ht hn h3 (bV R h2 h4).1 h5
theorem zw7(R:Rep c st U γ S a w){t:TypeId}{y1 y2:Operand}{x1 x2:O}(ho:o.op= .store t y1 y2)(h1:eqO y1 x1=true)(h2:eqO y2 x2=true){k:Nat}(ht:mC c.P t=some k){p y:X}(h3:rdO st x1=some p)(h4:rdO st x2=some y){s:St}(h5:uA st k x1 p y=some s):Runs c o a w (s.lose o.dst) U:=by
 obtain⟨h6,h7⟩:=bV R h1 h3
 obtain⟨h8,h9⟩:=bV R h2 h4
 unfold uA at h5
 split at h5
 ·rename_i t0 pid cs
  split at h5
  ·rename_i hc
   obtain⟨h0,hcl⟩:=hc
   unfold Ch at h5
   split at h5
   ·rename_i sz el hd
    split at h5
    ·rename_i hel
     simp only[oi] at h5
     subst h5
     obtain⟨g,hg,he⟩:=R.mm.er pid _ hd
     obtain⟨gel,b,cap,o0,rfl,hger⟩:∃gel b cap o0,g= .s sz (some ⟨b,cap,o0⟩) [gel]∧ers gel=el:=by
      have hok:=R.mm.ok _ _ hg
      cases g with
      |s sz' b ges =>
       simp only[G.er,D.s.injEq] at he
       obtain⟨rfl,he⟩:=he
       cases ges with
       |nil=>simp[cD] at he
       |cons gel ges =>
        simp only[cD,List.cons.injEq] at he
        obtain⟨he1,he2⟩:=he
        have hges:ges=[]:=by
         have:=congrArg List.length he2
         rw[cY] at this
         simpa using this
        subst hges
        cases b with
        |none =>
         simp only[G.ok] at hok
         simp at hok
        |some b=>exact⟨gel,b.1,b.2,b.3,rfl,he1⟩
      |l d v =>
       simp only[G.ok] at hok
       simp only[G.er] at he
       rw[he] at hok
       simp[D.leaf] at hok
     have hok:=R.mm.ok _ _ hg
     simp only[X.vr] at h6
     obtain⟨ad,had,hadeq⟩:=h6
     have hnv:γ.nav pid []=some (.s sz (some ⟨b,cap,o0⟩) [gel]):=by unfold Gm.nav;rw[hg];simp[G.nav]
     have hadb:=hadeq _ _ _ hnv
     simp only[Nat.zero_mul,Nat.add_zero] at hadb
     subst hadb
     simp only[X.vr] at h8
     obtain⟨vs,hvs,hvr,hone⟩:=h8
     have hlen:vs.length=k:=(fR hvr).symm.trans hcl
     have hgl:gel.length=k:=by rw[←d4,hger];exact hel
     have hbl:Bl γ b:=⟨.inl pid,_,hg,by simp[G.bl]⟩
     have hcells:∀m,m<vs.length→(w.cell? ⟨b,o0+m,none⟩).isSome=true∧w.frozen? ⟨b,o0+m,none⟩=false:=fun m hm=>by
      have hk':m<gel.length:=by omega
      have h10:=sJ hok (j:=0) (el:=gel) rfl (List.getElem?_eq_getElem hk')
      obtain⟨cur,e,hcur⟩:=kD hok
      rw[Nat.zero_mul,Nat.zero_add] at h10
      exact⟨by rw[h10];rfl,frozen_of_row w b _ cur e hcur⟩
     have hrun:(execOp a.eval o).run c.P w= .ok .skip (w.setCells b o0 vs):=by
      unfold mC at ht
      rw[aC] at ht
      obtain⟨ti,hti,hts⟩:=ht
      have hcs:(a.eval y2).cells.size=k:=by rw[hvs];simpa[Value.cells] using hlen
      have hcs2:(a.eval y2).cells.toList=vs:=by rw[hvs];simp[Value.cells]
      have hst:=run_storeCells_cells (P:=c.P) b o0 vs 0 w (fun k hk=>by simpa using (hcells k hk).1) (fun k hk=>by simpa using (hcells k hk).2) hone
      simp only[Nat.add_zero] at hst
      simp[execOp,ho,had,Instr.storeAt,Instr.sureAddr,storeVar,sizeOf,typeInfo,hti,hts,hcs,hst,hcs2]
     refine .skip _ hrun ?_
     obtain⟨so,stp,sou,ssz⟩:=n9 b vs o0 w
     have hSb:∀k,S k→k≠b:=fun k hk e=>(R.mm.sd k hk).2 _ _ hg (by rw[e];simp[G.bl])
     have hS:∀k,S k→(S k∨k=b)∧(w.setCells b o0 vs).heap[k]? = w.heap[k]? := fun k hk=>⟨.inl hk,iQ b _ _ w k (hSb k hk)⟩
     have hrem:∀i g',rem γ [.inl pid] i=some g'→i≠ .inl pid∧γ i=some g':=fun i g' h=>by
      obtain⟨e1,e2⟩:=cA.1 h
      exact⟨by simpa using e1,e2⟩
     have hnb:∀i g',rem γ [.inl pid] i=some g'→b∉g'.bl:=fun i g' h hb=>by
      obtain⟨e1,e2⟩:=hrem i g' h
      exact R.mm.dj (.inl pid) i _ g' hg e2 (fun e=>e1 e.symm) b (by simp[G.bl]) hb
     have hsame:∀id' p',Same γ (rem γ [.inl pid]) id' p':=fun id' p'=>by
      by_cases e:id'=pid
      ·exact Same.of_none (by simp[rem,e]) p'
      ·exact Same.of_eq (by simp[rem,e]) p'
     have hR:Rep c {st with heap:=upd st.heap pid none,env:=upd st.env t0 (some (.vp cs))} U (rem γ [.inl pid]) (fun k=>S k∨k=b) a (w.setCells b o0 vs):=by
      refine⟨?_,so.trans R.os,stp.trans R.tape,sou.trans R.output,by rw[ssz];exact R.size,fun k hk hb=> ?_,fun k hk=> ?_,fun id' hid=> ?_,fun k hk=> ?_,fun k hk=> .inl (R.s0 k hk),R.s00,fun t' x hx=> ?_,fun t' x hx=> ?_,fun id' d hd'=> ?_,fun id' hid _=> ?_,R.df,R.sz,R.iso⟩
      ·refine⟨fun id' d hd'=> ?_,fun i g' h=> ?_,fun i g' h=>R.mm.nd i g' (hrem i g' h).2,fun i i' g1 g2 e1 e2=>R.mm.dj i i' g1 g2 (hrem i g1 e1).2 (hrem i' g2 e2).2,fun k hk=> ?_,?_⟩
       ·simp only[upd] at hd'
        split at hd'
        ·simp at hd'
        ·rename_i e
         obtain⟨g',e1,e2⟩:=R.mm.er id' d hd'
         exact⟨g',by simp[rem,e,e1],e2⟩
       ·exact G.ok_congr hS g' (fun k hk=>iQ b _ _ w k (fun e=>hnb i g' h (e ▸ hk))) (R.mm.ok i g' (hrem i g' h).2)
       ·rcases hk with hk|rfl
        ·exact⟨by rw[ssz];exact(R.mm.sd k hk).1,fun i g' h=>(R.mm.sd k hk).2 i g' (hrem i g' h).2⟩
        ·exact⟨by rw[ssz];exact Bl.lt R hbl,fun i g' h=>hnb i g' h⟩
       ·obtain⟨N,hN⟩:=R.mm.fin
        exact⟨N,fun m hm=>by simp[rem,hN m hm]⟩
      ·rw[iQ b _ _ w k (fun e=>(R.own b hbl).elim (R.iso h0 b) (fun h=>by omega))]
       exact R.keep k hk hb
      ·obtain⟨i,g',e1,e2⟩:=hk
       exact R.own k ⟨i,g',(hrem i g' e1).2,e2⟩
      ·exact absurd hid (by simp only[h0];omega)
      ·rcases hk with hk|rfl
       ·exact R.sg k hk
       ·exact .inr ((R.own k hbl).elim (fun h=>absurd h (R.iso h0 k)) (fun h=>h))
      ·simp only[upd] at hx
       split at hx
       ·rename_i e
        subst e
        simp only[oi] at hx
        subst hx
        have hy1:a.eval y1=a.tmps.getD t' undef:=by
         unfold eqO at h1
         split at h1<;>simp_all[Act.eval]
        simp only[X.vr]
        rw[←hy1,had]
        refine⟨_,rfl,vs,gJ hS cs vs ?_ hvr,hone,fun i u hu=>⟨?_,.inr rfl⟩⟩
        ·exact bG.2 fun x _=>cS hsame x
        ·have hi:=(List.getElem?_eq_some_iff.1 hu).1
         have h11:=World.cell?_setCells_in b vs o0 w (fun j hj=>(hcells j hj).1) i hi
         rw[Addr.add_lit,h11,←hu,List.getElem?_eq_getElem hi]
       ·exact fW hS x _ (cS hsame x) (R.env t' x hx)
      ·simp only[upd] at hx
       split at hx
       ·simp only[oi] at hx
        subst hx
        simp only[X.allp] at h9 ⊢
        exact h9
       ·exact R.ids t' x hx
      ·simp only[upd] at hd'
       split at hd'
       ·simp at hd'
       ·exact R.hid id' d hd'
      ·exact absurd hid (by simp only[h0];omega)
     exact⟨_,_,hR.lose _⟩
    ·simp at h5
   ·simp at h5
  ·simp at h5
 ·simp at h5
def stM(k:Nat):Nat:=if 20000≤k then k-20000 else k-10000
theorem zys(R:Rep c st U γ S a w){t:TypeId}{y1 y2:Operand}{x1 x2:O}(ho:o.op= .store t y1 y2)(h1:eqO y1 x1=true)(h2:eqO y2 x2=true){k:Nat}(ht:mC c.P t=some (stM k))(hk:0<stM k){p y:X}(h3:rdO st x1=some p)(h4:rdO st x2=some y){s:St}(h5:qY st k x1 p y=some s):Runs c o a w (s.lose o.dst) U:=by
 unfold qY at h5
 split at h5
 ·rw[stM,if_pos ‹_›] at ht hk
  generalize k-20000=k2 at *
  exact Rj R ho h1 ht hk h3 (z7b (bV R h2 h4).1).1 h5
 ·rw[stM,if_neg ‹_›] at ht
  generalize k-10000=k2 at *
  exact zw7 R ho h1 h2 ht h3 h4 h5
end
open Go.RowKit
section
variable{P:Program}(w:World)
theorem Gy(t ty e e2:TypeId)(i:TypeInfo)(ht:P.underlying t=some (.slice e))(hi:P.info? e=some i)
  (g sLen sCap:Nat) (cur:Array Value) (hg:w.heap[g]? = some (.cells cur e2 (0,0)))
  (a:Addr) (m c:Nat) (news:List Value) (hl:news.length=m*i.size) (hnews:∀(j:Nat) (u:Value),news[j]? = some u→w.cell? (a.add j)=some u) (h1:∀u∈news,u.oneCell'=true)
  (hroom:sLen+m≤sCap) (o0:Nat) (hfit:o0+sLen*i.size+news.length≤cur.size) :
  (Builtin.append_ #[t,t] ty #[.slice (some ⟨g,o0,none⟩) sLen sCap,.slice (some a) m c]).run P w =
   .ok (.slice (some ⟨g,o0,none⟩) (sLen+m) sCap) (w.setRow g (cur.toList.take (o0+sLen*i.size)++news++cur.toList.drop (o0+sLen*i.size+news.length)).toArray):=by
 have hf:=run_firstCells_some (P:=P) w i.size m a m c news hl hnews
 have hst:=run_storeCells_at P g (o0+sLen*i.size) e2 news 0 cur w hg (by simpa using hfit) h1
 simp only[Nat.add_zero] at hst
 simp[Builtin.append_,run_underlying ht,sizeOf,typeInfo,hi,Builtin.lenOf,hroom,hf,Addr.add_lit,hst]
structure Appended (w w':World) (v':Value) (b0:Option Bk) (b' cap' o' sz k:Nat) (cL:List Value):Prop where
 val:v'= .slice (some ⟨b',o',none⟩) k cap'
 row:∃cur e,w'.heap[b']? = some (.cells cur e (0,0))∧cur.size=o'+cap'*sz∧(cur.toList.drop o').take (k*sz)=cL
 le:k≤cap'
 max:cap'≤maxLen
 at_:(∃c0 o0,b0=some ⟨b',c0,o0⟩)∨b'=w.heap.size
 os:w'.os=w.os
 tape:w'.tape=w.tape
 output:w'.output=w.output
 size:w.heap.size≤w'.heap.size
 lt:b'<w'.heap.size
 keep:∀k,k<w.heap.size→k≠b'→w'.heap[k]? = w.heap[k]?
theorem zjC{S:Nat→Prop}{sz:Nat}{b0:Option Bk}{els0:List (List G)}(hok:(G.s sz b0 els0).ok w S)(t ty e:TypeId)(i:TypeInfo)(z:Value)(ht:P.underlying t=some (.slice e))(hi:P.info? e=some i)(hz:i.zero=some z)(hsz:i.size=sz)(hzs:z.cells.size=sz)(hpos:0<sz)
  (A:Option Addr) (m c:Nat) (news:List Value) (hl:news.length=m*sz) (hnews:∀(j:Nat) (u:Value),news[j]? = some u→∃a,A=some a∧w.cell? (a.add j)=some u) (h1:∀u∈news,u.oneCell'=true)
  (h63:els0.length+m≤maxLen) (hbytes:(els0.length+m)*i.bytes≤140737488355328) :
  (m=0∧(Builtin.append_ #[t,t] ty #[(G.s sz b0 els0).val,.slice A m c]).run P w= .ok (G.s sz b0 els0).val w) ∨
  (0<m∧∃v' w' b' cap' o',(Builtin.append_ #[t,t] ty #[(G.s sz b0 els0).val,.slice A m c]).run P w= .ok v' w'∧Appended w w' v' b0 b' cap' o' sz (els0.length+m) (a7 els0++news)):=by
 subst hsz
 simp only[G.ok] at hok
 obtain⟨h2,h3,_⟩:=hok
 have hvl:=jW h3
 by_cases hm:m=0
 ·left
  refine⟨hm,?_⟩
  subst hm
  have hf:(Builtin.firstCells i.size 0 (.slice A 0 c)).run P w= .ok #[] w:=by
   cases A with
   |none=>exact run_firstCells_none w i.size 0 0 c
   |some a =>
    have:=run_firstCells_some (P:=P) w i.size 0 a 0 c [] (by simp) (by simp)
    simpa using this
  cases b0 with
  |none =>
   simp only at h2
   subst h2
   simp[G.val,Builtin.append_,run_underlying ht,sizeOf,typeInfo,hi,Builtin.lenOf,hf]
  |some b0 =>
   obtain⟨h4,_⟩:=h2
   simp[G.val,Builtin.append_,run_underlying ht,sizeOf,typeInfo,hi,Builtin.lenOf,hf,h4,storeCells]
 ·right
  refine⟨by omega,?_⟩
  have hne:0<news.length:=by rw[hl];exact Nat.mul_pos (by omega) hpos
  obtain⟨a,rfl,_⟩:=hnews 0 _ (List.getElem?_eq_getElem hne)
  have hnews':∀(j:Nat) (u:Value),news[j]? = some u→w.cell? (a.add j)=some u:=fun j u hu=>by
   obtain⟨a',h4,h5⟩:=hnews j u hu
   simp only[oi] at h4
   subst h4
   exact h5
  have h63':((els0.length+m:Nat):Int)≤9223372036854775807:=by simp only[maxLen] at h63;omega
  cases b0 with
  |none =>
   simp only at h2
   subst h2
   simp only[ln,Nat.zero_add] at hbytes h63 h63'
   have hrun:=run_append_nil (P:=P) w t ty e i z ht hi hz a m c news hl hnews' (by omega) h63' (by omega)
   have hge:=grownCap_ge w m 0 e
   refine⟨_,_,w.heap.size,grownCap w m 0 e,0,hrun,⟨by simp,⟨_,e,heap_alloc_new w.drew _,?_,?_⟩,by simpa using hge,grownCap_le_maxLen w m 0 e h63,.inr rfl,rfl,rfl,rfl,by simp,by simp,fun k hk _=>Below.heap_alloc w.drew _ k hk⟩⟩
   ·simp only[Array.size_append,List.size_toArray,size_zeroCells,hzs,hl,←Nat.add_mul,Nat.zero_add]
    congr 1
    omega
   ·simp only[ln,Nat.zero_add,a7,zqf,Array.toList_append,List.drop_zero]
    rw[←hl]
    exact List.take_left
  |some b0 =>
   obtain⟨b,cap,o0⟩:=b0
   obtain⟨h4,h5,cur,e2,h6,h7,h8⟩:=h2
   by_cases hroom:els0.length+m≤cap
   ·have hmul:(els0.length+m)*i.size≤cap*i.size:=Nat.mul_le_mul_right _ hroom
    rw[Nat.add_mul] at hmul
    have hrun:=Gy (P:=P) w t ty e e2 i ht hi b els0.length cap cur h6 a m c news hl hnews' h1 hroom o0 (by rw[hl,h7];simp only;omega)
    refine⟨_,_,b,cap,o0,hrun,⟨rfl,⟨_,e2,setRow_heap w b cur _ e2 (0,0) h6,?_,?_⟩,hroom,h5,.inl ⟨cap,o0,rfl⟩,rfl,rfl,rfl,by simp,by simp only[size_setRow];exact(Array.getElem?_eq_some_iff.1 h6).1,fun k _ hk=>setRow_other w b k _ hk⟩⟩
    ·simp only[List.size_toArray,la,List.length_take,List.length_drop,Array.length_toList,h7,hl]
     omega
    ·simp only
     have hle0:o0≤(cur.toList.take (o0+els0.length*i.size)).length:=by
      have h7':cur.toList.length=o0+cap*i.size:=h7
      have hmul2:els0.length*i.size+m*i.size≤cap*i.size:=hmul
      rw[List.length_take,h7'];omega
     rw[zqc,List.drop_append_of_le_length hle0,List.drop_take,show o0+els0.length*i.size-o0=els0.length*i.size by omega,h8,←List.append_assoc,List.take_left' (by rw[la,hvl,hl,Nat.add_mul])]
   ·have holds:∀(j:Nat) (v:Value),(a7 els0)[j]? = some v→w.cell? ((⟨b,o0,none⟩:Addr).add j)=some v:=fun j v hv=>by
     rw[←h8,List.getElem?_take] at hv
     split at hv
     ·rw[Addr.add_lit,cell_of_row w b (o0+j) cur e2 (0,0) h6]
      rw[List.getElem?_drop] at hv
      simpa using hv
     ·simp at hv
    have hrun:=run_append_grow (P:=P) w t ty e i z ht hi hz ⟨b,o0,none⟩ els0.length cap (a7 els0) hvl holds a m c news hl hnews' (by omega) h63' (growslice_fits (by omega) hbytes)
    have hge:=grownCap_ge w (els0.length+m) cap e
    refine⟨_,_,w.heap.size,grownCap w (els0.length+m) cap e,0,hrun,⟨rfl,⟨_,e,heap_alloc_new w.drew _,?_,?_⟩,hge,grownCap_le_maxLen w _ cap e h63,.inr rfl,rfl,rfl,rfl,by simp,by simp,fun k hk _=>Below.heap_alloc w.drew _ k hk⟩⟩
    ·simp only[Array.size_append,List.size_toArray,size_zeroCells,hzs,hl,hvl,←Nat.add_mul,Nat.zero_add]
     congr 1
     omega
    ·simp only[Array.toList_append,List.drop_zero]
     rw[List.take_left' (by simp[hvl,hl,Nat.add_mul])]
end
section
variable{c:Ctx}{st st':St}{U:Nat→Prop}{γ:Gm}{S:Nat→Prop}{a:Act}{w:World}{C:Cl}{o:Oper}{id:Nat}
theorem zwS{d:D}{u:Value}(h:d.rd w S u):(G.l d.toR u).ok w S∧(G.l d.toR u).er=d.toR:=by
 refine⟨?_,by simp[G.er]⟩
 simp only[G.ok]
 cases d with
 |v x=>exact⟨rfl,h⟩
 |s sz els=>simp only[D.rd] at h;exact⟨rfl,by simp only[D.toR,D.rd];exact h⟩
 |r els=>exact⟨rfl,h⟩
 |u=>exact⟨rfl,h⟩
theorem M7:∀(cs:List D) (ad:Addr) (n:Nat),rds w S ad n cs→∃gs:List G,ers gs=cs.map D.toR∧bls gs=[]∧oks w S gs∧gs.length=cs.length∧∀(j:Nat) (u:Value),(cL gs)[j]? = some u→w.cell? (ad.add (n+j))=some u
 |[],ad,n,_=>⟨[],by simp[ers],by simp[bls],by simp[oks],rfl,by simp[cL]⟩
 |d::cs,ad,n,h=>by
  simp only[rds] at h
  obtain⟨⟨u,h1,_,h2⟩,h3⟩:=h
  obtain⟨gs,e1,e2,e3,e4,e5⟩:=M7 cs ad (n+1) h3
  obtain⟨h4,h5⟩:=zwS h2
  refine⟨.l d.toR u::gs,by simp[ers,h5,e1],by simp[bls,G.bl,e2],by simp only[oks];exact⟨h4,e3⟩,by simp[e4],fun j v hj=> ?_⟩
  cases j with
  |zero =>
   simp only[cL,mc,List.getElem?_cons_zero,oi,G.val] at hj
   subst hj
   exact h1
  |succ j =>
   simp only[cL,mc,List.getElem?_cons_succ] at hj
   have:=e5 j v hj
   rwa [show n+1+j=n+(j+1) by omega] at this
theorem H4{sz:Nat}:∀(els:List (List D)) (A:Option Addr) (n:Nat),(∀el∈els,el.length=sz)→dZ w S A n els→∃ges:List (List G),cD ges=els.map (fun el=>el.map D.toR)∧bX ges=[]∧gK w S ges∧ges.length=els.length∧(∀el∈ges,el.length=sz) ∧
  ∀(j:Nat) (u:Value),(a7 ges)[j]? = some u→∃ad,A=some ad∧w.cell? (ad.add (n+j))=some u
 |[],A,n,_,_=>⟨[],by simp[cD],by simp[bX],by simp[gK],rfl,by simp,by simp[a7]⟩
 |el::els,A,n,hl,h=>by
  simp only[dZ] at h
  obtain⟨⟨ad,rfl,h1⟩,h2⟩:=h
  obtain⟨gs,e1,e2,e3,e4,e5⟩:=M7 el ad n h1
  obtain⟨ges,f1,f2,f3,f4,f5,f6⟩:=H4 els (some ad) _ (fun x hx=>hl x (by simp[hx])) h2
  have hel:=hl el (by simp)
  refine⟨gs::ges,by simp[cD,e1,f1],by simp[bX,e2,f2],by simp only[gK];exact⟨e3,f3⟩,by simp[f4],fun x hx=> ?_,fun j u hj=> ?_⟩
  ·rcases List.mem_cons.1 hx with rfl|hx
   ·omega
   ·exact f5 x hx
  ·simp only[a7] at hj
   by_cases hlt:j<(cL gs).length
   ·rw[List.getElem?_append_left hlt] at hj
    exact⟨ad,rfl,e5 j u hj⟩
   ·rw[List.getElem?_append_right (by omega)] at hj
    obtain⟨ad',h6,h7⟩:=f6 _ _ hj
    refine⟨ad',h6,?_⟩
    rw[dH] at h7 hlt
    rwa [show n+el.length+(j-gs.length)=n+j by omega] at h7
theorem zwu{h h':Heap}{γ γ':Gm}{i:GId}{g:G}(t:Took h h' γ γ' S w i g)(x:X)(v:Value)(hx:x.vr γ w S v):x.vr γ' w S v :=
 fW (fun k hk=>⟨hk,rfl⟩) x v (cS t.same x) hx
theorem So{h h':Heap}(m:Mm h γ S w){sz:Nat}{x:X}{v:Value}(hx:x.vr γ w S v){els:List (List D)}(hb:i7 h sz x=some (els,h')) :
  ∃γ' i b ges,Took h h' γ γ' S w i (.s sz b ges)∧cD ges=els∧(G.s sz b ges).val=v:=by
 unfold i7 at hb
 split at hb
 ·simp only[oi,zqb] at hb
  obtain⟨rfl,rfl⟩:=hb
  simp only[X.vr] at hx
  obtain⟨γ',i,ht⟩:=nG m (g:= .s sz none []) (by simp[G.ok,gK]) (by simp[G.bl,bX])
  exact⟨γ',i,none,[],ht,by simp[cD],by simp[G.val,hx]⟩
 ·rename_i id p
  simp only[aA] at hb
  obtain⟨⟨d,h1⟩,h2,r,h3,h4⟩:=hb
  split at h4
  ·rename_i hsz
   simp only[oi,zqb] at h4
   obtain⟨rfl,rfl⟩:=h4
   simp only[X.vr] at hx
   obtain⟨γ',i,g,t1,e1,e2,sz',b,ges,rfl⟩:=Fy m h2 (fun g hg=>(hx.2 g hg).1)
   subst e1
   simp only[G.er,D.rowOf,oi] at h3
   subst h3
   simp only at hsz
   subst hsz
   exact⟨γ',i,b,ges,t1,rfl,e2⟩
  ·simp at h4
 ·simp at hb
def z7V:Option Bk→Option Addr
 |none=>none
 |some b=>some ⟨b.1,b.3,none⟩
def z6z:Option Bk→Nat
 |none=>0
 |some b=>b.2
theorem z8H{h h':Heap}(m:Mm h γ S w){x:X}{v:Value}(hx:x.vr γ w S v){els:List (List D)}(hb:pD h x=some (els,h')){sz:Nat}(hsz:∀el∈els,el.length=sz) :
  ∃γ' A m c ges,v= .slice A m c∧ges.length=m∧cD ges=els∧(∀el∈ges,el.length=sz)∧gK w S ges∧(∀(j:Nat) (u:Value),(a7 ges)[j]? = some u→∃ad,A=some ad∧w.cell? (ad.add j)=some u)∧(∀id p,Same γ γ' id p)∧Sub γ' γ∧(∀id,h id=none→h' id=none)∧Mm h' γ' S w ∧
   (∀j,Flo h j→(γ j).isSome=true→γ' j=γ j)∧(bX ges).Nodup∧((bX ges=[])∨∃i g,γ' i=some g∧Flo h' i∧(∀k∈bX ges,k∈g.bl)∧∀j,Flo h j→(γ j).isSome=true→j≠i):=by
 unfold pD at hb
 split at hb
 ·simp only[oi,zqb] at hb
  obtain⟨rfl,rfl⟩:=hb
  simp only[X.vr] at hx
  exact⟨γ,none,0,0,[],hx.2,rfl,by simp[cD],by simp,by simp[gK],by simp[a7],fun id p=>Same.refl γ id p,Sub.refl γ,fun _ h=>h,m,fun _ _ _=>rfl,by simp[bX],.inl (by simp[bX])⟩
 ·rename_i els0
  simp only[oi,zqb] at hb
  obtain⟨rfl,rfl⟩:=hb
  simp only[X.vr,D.rd] at hx
  obtain⟨A,cap,h1,h2,h3,⟨sz',h4⟩,h5⟩:=hx
  have hsz':∀el∈els0,el.length=sz:=fun el hel=>by
   have:=hsz (el.map D.toR) (List.mem_map.2 ⟨el,hel,rfl⟩)
   simpa using this
  obtain⟨ges,e1,e2,e3,e4,e5,e6⟩:=H4 els0 A 0 hsz' h5
  exact⟨γ,A,els0.length,cap,ges,h1,e4,e1,e5,e3,fun j u hj=>by simpa using e6 j u hj,fun id p=>Same.refl γ id p,Sub.refl γ,fun _ h=>h,m,fun _ _ _=>rfl,by rw[e2];simp,.inl e2⟩
 ·rename_i id p
  simp only[aA,aC] at hb
  obtain⟨⟨d,h1⟩,h2,r,h3,h4⟩:=hb
  simp only[zqb] at h4
  obtain⟨rfl,rfl⟩:=h4
  simp only[X.vr] at hx
  obtain⟨γ',i,g,t1,e1,e2,sz',b,ges,rfl⟩:=Fy m h2 (fun g hg=>(hx.2 g hg).1)
  subst e1
  simp only[G.er,D.rowOf,oi] at h3
  subst h3
  have hok:=t1.mm.ok _ _ t1.at_
  have hnd:=t1.mm.nd _ _ t1.at_
  have hszg:∀el∈ges,el.length=sz:=fun el hel=>by
   have:=hsz (ers el) (by simp only[cG];exact List.mem_map.2 ⟨el,hel,by rw[gV]⟩)
   rwa [d4] at this
  refine⟨γ',z7V b,ges.length,z6z b,ges,?_,rfl,rfl,hszg,?_,fun j u hj=> ?_,t1.same,t1.sub,t1.mono,t1.mm,fun j hj hs=>(t1.new j hj hs).2,?_,.inr ⟨i,_,t1.at_,t1.flo,fun k hk=> ?_,fun j hj hs=>(t1.new j hj hs).1⟩⟩
  ·rw[←e2]
   cases b with
   |none =>
    simp only[G.ok] at hok
    rw[hok.1]
    rfl
   |some b=>rfl
  ·simp only[G.ok] at hok
   exact hok.2.2
  ·cases b with
   |none =>
    simp only[G.ok] at hok
    rw[hok.1] at hj
    simp[a7] at hj
   |some b =>
    refine⟨_,rfl,?_⟩
    simp only[G.ok] at hok
    obtain⟨⟨_,_,cur,e,h6,h7,h8⟩,h9,_⟩:=hok
    rw[←h8,List.getElem?_take] at hj
    split at hj
    ·rw[Addr.add_lit,cell_of_row w b.1 (b.3+j) cur e (0,0) h6]
     rw[List.getElem?_drop] at hj
     simpa using hj
    ·simp at hj
  ·rw[G.bl_s] at hnd
   exact(List.nodup_append.1 hnd).2.1
  ·rw[G.bl_s]
   exact List.mem_append_right _ hk
 ·simp at hb
theorem Wp(a b:List (List G)):bX (a++b)=bX a++bX b:=by
 induction a with
 |nil=>simp[bX]
 |cons x a ih=>simp[bX,ih]
theorem Uz(a b:List (List G)):cD (a++b)=cD a++cD b:=by simp[cG]
theorem z89(R:Rep c st U γ S a w)(hd:∀k,o.dst=some k→k<c.nt){t e:TypeId}{y1 y2:Operand}{x1 x2:O}{sz bytes:Nat}(ho:o.op= .call {callee:= .builtin .append,args:= #[y1,y2],argTypes:= #[t,t]})(h1:eqO y1 x1=true)(h2:eqO y2 x2=true)(ht:cP c.P t=some e)
  {i:TypeInfo} (hi:c.P.info? e=some i) (hsz:i.size=sz) (hby:i.bytes=bytes) (hpos:0<sz) {vz:List Value} (hz:sG c.P e=some vz) (hzl:vz.length=sz) {k:Nat} (hk:¬U k) {U':Nat→Prop} (hU:∀k,U k→U' k) (hk':U' k)
  (hs:opS C st o.dst k (.app sz bytes x1 x2)=some st'):Runs c o a w st' U':=by
 simp only[opS,aA] at hs
 obtain⟨x,h3,y,h4,⟨els1,hp1⟩,h5,⟨els2,hp2⟩,h6,h7⟩:=hs
 split at h7
 ·rename_i hb
  obtain⟨⟨b1,b2⟩,b3⟩:=hb
  simp only at b1 b2
  simp only[oi] at h7
  subst h7
  obtain⟨h8,h9⟩:=bV R h1 h3
  obtain⟨h10,h11⟩:=bV R h2 h4
  obtain⟨γ1,i1,bb,ges1,t1,e1,e2⟩:=So R.mm h8 h5
  have hszs:∀el∈els2,el.length=sz:=fun el hel=>by
   have:=List.all_eq_true.1 b3 el hel
   simpa using this
  obtain⟨γ2,A,m,cc,ges2,f1,f2,f3,f4,f5,f6,f7,f8,f9,f10,f11,f12,f13⟩:=z8H t1.mm (zwu t1 y _ h10) h6 hszs
  have hat1:γ2 i1=some (.s sz bb ges1):=(f11 i1 t1.flo (by rw[t1.at_];rfl)).trans t1.at_
  have hl1:ges1.length=els1.length:=by rw[←e1,cY]
  have hl2:ges2.length=els2.length:=by rw[←f3,cY]
  have hok1:=f10.ok _ _ hat1
  obtain⟨z,hz1,hz2,iz,hiz,hiz2⟩:=lF hz w
  rw[hi] at hiz
  simp only[oi] at hiz
  subst hiz
  unfold cP at ht
  split at ht
  ·rename_i e' hu
   simp only[oi] at ht
   subst ht
   have hone:∀u∈a7 ges2,u.oneCell'=true:=fun u hu'=>by
    obtain⟨j,hj⟩:=List.getElem?_of_mem hu'
    have:∀(ges:List (List G)),gK w S ges→∀u∈a7 ges,u.oneCell'=true:=fun ges=>by
     induction ges with
     |nil=>intro _ u hu;simp[a7] at hu
     |cons el ges ih =>
      intro hok u hu
      simp only[gK] at hok
      simp only[a7,List.mem_append] at hu
      rcases hu with hu|hu
      ·simp only[cL,List.mem_map] at hu
       obtain⟨g,hg,rfl⟩:=hu
       exact mZ (Kb.1 hok.1 g hg)
      ·exact ih hok.2 u hu
    exact this ges2 f5 u hu'
   have hrun:=zjC (P:=c.P) w hok1 t o.type e' i z hu hi hiz2 hsz (by
    have:=congrArg List.length hz2
    rw[hzl] at this
    simpa using this) hpos A m cc (a7 ges2) (by rw[jW f4,f2]) f6 hone (by rw[hl1,←f2,hl2];simp only[maxLen];omega) (by rw[hl1,←f2,hl2,hby];exact b1)
   rw[e2,←f1] at hrun
   have hrunE:∀v' w',(Builtin.append_ #[t,t] o.type #[a.eval y1,a.eval y2]).run c.P w= .ok v' w'→(execOp a.eval o).run c.P w= .ok (.value v') w':=fun v' w' hr=>by
    simp[execOp,ho,resolve,invoke,builtin,hr]
   have hsame:∀id p,Same γ γ2 id p:=fun id p=>(t1.same id p).trans (f7 id p)
   have hsub:Sub γ2 γ:=f8.trans t1.sub
   have hmono:∀id,st.heap id=none→hp2 id=none:=fun id h0=>f9 id (t1.mono id h0)
   have hflo1:Flo hp2 i1:=fun id e=>f9 id (t1.flo id e)
   have hlt:∀i g,γ2 i=some g→∀k∈g.bl,k<w.heap.size:=fun i g hg=>G.ok_lt g (f10.ok i g hg)
   have hnd1:=f10.nd _ _ hat1
   rw[G.bl_s] at hnd1
   have hndd:=List.nodup_append.1 hnd1
   have hids:=G3 R hk
   obtain⟨is,his,hfl,hbl2⟩:∃is:List GId,i1∈is∧(∀j∈is,Flo hp2 j)∧(∀k∈bX ges2,∃j∈is,j≠i1∧∃g,γ2 j=some g∧k∈g.bl):=by
    rcases f13 with h0|⟨j,g,g1,g2,g3,g4⟩
    ·exact⟨[i1],by simp,by simpa using hflo1,by rw[h0];simp⟩
    ·exact⟨[i1,j],by simp,by simp;exact⟨hflo1,g2⟩,fun k hk=>⟨j,by simp,(g4 i1 t1.flo (by rw[t1.at_];rfl)).symm,g,g1,g3 k hk⟩⟩
   have hcross:∀k∈(G.s sz bb ges1).bl,k∉bX ges2:=fun k hk1 hk2=>by
    obtain⟨j,_,hj,g,hg,hkg⟩:=hbl2 k hk2
    exact f10.dj _ _ _ _ hat1 hg (Ne.symm hj) k hk1 hkg
   rcases hrun with⟨hm0,hrun⟩|⟨hm0,v',w',b',cap',o',hrun,hA⟩
   ·
    have hg2:ges2=[]:=List.eq_nil_of_length_eq_zero (by omega)
    subst hg2
    have hM:=f10.regroup (S':=S) (w':=w) [i1] (by simpa using hflo1) (G0:= .s sz bb ges1) hok1 (f10.nd _ _ hat1) (fun k hk=> .inl ⟨i1,by simp,_,hat1,hk⟩) (fun _ _ _ _ _ _=>rfl) (fun k hk=>⟨hk,rfl⟩) (fun k hk=>⟨(f10.sd k hk).1,(f10.sd k hk).2 _ _ hat1,fun i g hi _=>(f10.sd k hk).2 i g hi⟩) (st.fr,k)
    have hR:=R.change (U':=U') hM rfl rfl rfl (Nat.le_refl _) (fun _ _ _=>rfl) (fun q ⟨i,g,g1,g2⟩=> ?_) (fun t x hx=>bS (fun id p h=>(hsame id p).trans (Same.regroup id p h)) x (hids t x hx)) (fun id hid=> ?_) (fun k h=>h) (fun k h=> .inl h) (fun id d hd=> ?_) hU (fun id hid h0=>by
     have:id≠(st.fr,k):=fun e=>by rw[e] at hid;simp at hid
     simp only[upd,this,if_false];exact hmono id h0)
    ·have hE:els1++els2=cD ges1:=by rw[←f3,←e1];simp[cD]
     refine .value _ w (hrunE _ _ hrun) ⟨upd (rem γ2 [i1]) (.inl (st.fr,k)) (some (.s sz bb ges1)),S,?_⟩
     have:=hR.put (d:=o.dst) hd (x:= .ref (st.fr,k) []) (v:=a.eval y1) ?_ ?_
     ·simp only[G.er] at this
      rw[←hE] at this
      exact this
     ·simp only[X.vr]
      refine⟨by rw[←e2];exact mZ hok1,fun g hg=> ?_⟩
      simp only[Gm.nav,upd,if_true,obs,G.nav,oi] at hg
      subst hg
      exact⟨e2,rfl⟩
     ·simp only[X.allp]
      exact .inr ⟨rfl,hk'⟩
    ·unfold upd at g1
     split at g1
     ·simp only[oi] at g1
      subst g1
      exact .inl (hsub _ _ hat1 q g2)
     ·rw[cA] at g1
      exact .inl (hsub i g g1.2 q g2)
    ·have:id≠(st.fr,k):=fun e=>by rw[e] at hid;simp at hid
     exact(hsame id []).trans (Same.regroup id [] this)
    ·unfold upd at hd
     split at hd
     ·rename_i e
      subst e
      exact .inr ⟨rfl,hk'⟩
     ·have hne:st.heap id≠none:=fun h0=>by rw[hmono id h0] at hd;simp at hd
      obtain⟨d0,hd0⟩:=Option.ne_none_iff_exists'.1 hne
      exact(R.hid id d0 hd0).imp (fun h=>h) (fun h=>⟨h.1,hU _ h.2⟩)
   ·obtain⟨cur,ecur,hc1,hc2,hc3⟩:=hA.row
    have hb'cases:(b'∈(G.s sz bb ges1).bl)∨b'=w.heap.size:=by
     rcases hA.at_ with⟨c0,o0,rfl⟩|h
     ·exact .inl (by simp[G.bl])
     ·exact .inr h
    have hb'1:b'∉bX ges1:=fun hk1=>by
     rcases hA.at_ with⟨c0,o0,rfl⟩|h
     ·exact hndd.2.2 b' (by simp[G.top]) b' hk1 rfl
     ·have:=hlt _ _ hat1 b' (by rw[G.bl_s];exact List.mem_append_right _ hk1)
      omega
    have hb'2:b'∉bX ges2:=fun hk2=>by
     rcases hb'cases with h|h
     ·exact hcross b' h hk2
     ·obtain⟨j,_,_,g,hg,hkg⟩:=hbl2 b' hk2
      have:=hlt j g hg b' hkg
      omega
    have hother:∀i g,γ2 i=some g→i≠i1→∀k∈g.bl,w'.heap[k]? = w.heap[k]? := fun i g hg hne k hk=>by
     refine hA.keep k (hlt i g hg k hk) fun e=> ?_
     subst e
     rcases hb'cases with h|h
     ·exact f10.dj _ _ _ _ hat1 hg (Ne.symm hne) k h hk
     ·have:=hlt i g hg k hk
      omega
    have hSw:∀q,S q→S q∧w'.heap[q]? = w.heap[q]? := fun q hq=>⟨hq,hA.keep q (f10.sd q hq).1 fun e=>by
     subst e
     rcases hb'cases with h|h
     ·exact(f10.sd q hq).2 _ _ hat1 h
     ·have:=(f10.sd q hq).1
      omega⟩
    have hok':∀ges,gK w S ges→(∀k∈bX ges,k<w.heap.size∧k≠b')→gK w' S ges:=fun ges h hh=>D2 hSw ges (fun k hk=>hA.keep k (hh k hk).1 (hh k hk).2) h
    have hblt2:∀k∈bX ges2,k<w.heap.size:=fun k hk=>by
     obtain⟨j,_,_,g,hg,hkg⟩:=hbl2 k hk
     exact hlt j g hg k hkg
    have hblt1:∀k∈bX ges1,k<w.heap.size:=fun k hk=>hlt _ _ hat1 k (by rw[G.bl_s];exact List.mem_append_right _ hk)
    have hG:(G.s sz (some ⟨b',cap',o'⟩) (ges1++ges2)).ok w' S:=by
     simp only[G.ok] at hok1 ⊢
     refine⟨⟨by rw[la,f2];exact hA.le,hA.max,cur,ecur,hc1,hc2,by rw[la,f2,hc3,Ey]⟩,fun el hel=> ?_,?_⟩
     ·rcases List.mem_append.1 hel with hel|hel
      ·exact hok1.2.1 el hel
      ·exact f4 el hel
     ·have a1:=hok' ges1 hok1.2.2 (fun k hk=>⟨hblt1 k hk,fun e=>hb'1 (e ▸ hk)⟩)
      have a2:=hok' ges2 f5 (fun k hk=>⟨hblt2 k hk,fun e=>hb'2 (e ▸ hk)⟩)
      rw[dV] at a1 a2 ⊢
      intro el hel g hg
      rcases List.mem_append.1 hel with hel|hel
      ·exact a1 el hel g hg
      ·exact a2 el hel g hg
    have hGbl:(G.s sz (some ⟨b',cap',o'⟩) (ges1++ges2)).bl=b'::(bX ges1++bX ges2):=by simp[G.bl,Wp]
    have hM:=f10.regroup (S':=S) (w':=w') is hfl hG (by
      rw[hGbl,List.nodup_cons]
      refine⟨by simp[hb'1,hb'2],List.nodup_append.2 ⟨hndd.2.1,f12,fun x hx y hy e=> ?_⟩⟩
      subst e
      exact hcross x (by rw[G.bl_s];exact List.mem_append_right _ hx) hy) (fun q hq=>by
      rw[hGbl,List.mem_cons,List.mem_append] at hq
      rcases hq with rfl|hq|hq
      ·rcases hb'cases with h|h
       ·exact .inl ⟨i1,his,_,hat1,h⟩
       ·exact .inr (by omega)
      ·exact .inl ⟨i1,his,_,hat1,by rw[G.bl_s];exact List.mem_append_right _ hq⟩
      ·obtain⟨j,hj,_,g,hg,hkg⟩:=hbl2 q hq
       exact .inl ⟨j,hj,g,hg,hkg⟩) (fun i g hg hni q hq=>hother i g hg (fun e=>hni (e ▸ his)) q hq) hSw (fun q hq=>⟨by have:=(f10.sd q hq).1;have:=hA.size;omega,fun hq'=>by
      rw[hGbl,List.mem_cons,List.mem_append] at hq'
      rcases hq' with rfl|hq'|hq'
      ·rcases hb'cases with h|h
       ·exact(f10.sd q hq).2 _ _ hat1 h
       ·have:=(f10.sd q hq).1;omega
      ·exact(f10.sd q hq).2 _ _ hat1 (by rw[G.bl_s];exact List.mem_append_right _ hq')
      ·obtain⟨j,_,_,g,hg,hkg⟩:=hbl2 q hq'
       exact(f10.sd q hq).2 j g hg hkg,fun i g hg _=>(f10.sd q hq).2 i g hg⟩) (st.fr,k)
    have hR:=R.change (U':=U') hM hA.os hA.tape hA.output hA.size (fun q hq hnb=> ?_) (fun q ⟨i,g,g1,g2⟩=> ?_) (fun t x hx=>bS (fun id p h=>(hsame id p).trans (Same.regroup id p h)) x (hids t x hx)) (fun id hid=> ?_) (fun k h=>h) (fun k h=> .inl h) (fun id d hd=> ?_) hU (fun id hid h0=>by
     have:id≠(st.fr,k):=fun e=>by rw[e] at hid;simp at hid
     simp only[upd,this,if_false];exact hmono id h0)
    ·have hE:els1++els2=cD (ges1++ges2):=by rw[←f3,←e1,Uz]
     refine .value _ w' (hrunE _ _ hrun) ⟨upd (rem γ2 is) (.inl (st.fr,k)) (some (.s sz (some ⟨b',cap',o'⟩) (ges1++ges2))),S,?_⟩
     have:=hR.put (d:=o.dst) hd (x:= .ref (st.fr,k) []) (v:=v') ?_ ?_
     ·simp only[G.er] at this
      rw[←hE] at this
      exact this
     ·simp only[X.vr]
      refine⟨by rw[hA.val];rfl,fun g hg=> ?_⟩
      simp only[Gm.nav,upd,if_true,obs,G.nav,oi] at hg
      subst hg
      exact⟨by rw[hA.val];simp[G.val,f2],rfl⟩
     ·simp only[X.allp]
      exact .inr ⟨rfl,hk'⟩
    ·refine hA.keep q hq fun e=> ?_
     subst e
     rcases hb'cases with h|h
     ·exact hnb (hsub _ _ hat1 q h)
     ·omega
    ·unfold upd at g1
     split at g1
     ·simp only[oi] at g1
      subst g1
      rw[hGbl,List.mem_cons,List.mem_append] at g2
      rcases g2 with rfl|g2|g2
      ·rcases hb'cases with h|h
       ·exact .inl (hsub _ _ hat1 q h)
       ·exact .inr (by omega)
      ·exact .inl (hsub _ _ hat1 q (by rw[G.bl_s];exact List.mem_append_right _ g2))
      ·obtain⟨j,_,_,g,hg,hkg⟩:=hbl2 q g2
       exact .inl (hsub j g hg q hkg)
     ·rw[cA] at g1
      exact .inl (hsub i g g1.2 q g2)
    ·have:id≠(st.fr,k):=fun e=>by rw[e] at hid;simp at hid
     exact(hsame id []).trans (Same.regroup id [] this)
    ·unfold upd at hd
     split at hd
     ·rename_i e
      subst e
      exact .inr ⟨rfl,hk'⟩
     ·have hne:st.heap id≠none:=fun h0=>by rw[hmono id h0] at hd;simp at hd
      obtain⟨d0,hd0⟩:=Option.ne_none_iff_exists'.1 hne
      exact(R.hid id d0 hd0).imp (fun h=>h) (fun h=>⟨h.1,hU _ h.2⟩)
  ·simp at ht
 ·simp at h7
theorem zkp{γ:Gm}{w:World}{S:Nat→Prop}:∀{xs:List X} {vs:List Value} (i:Nat) {x:X} {v:Value},vrs γ w S xs vs→x.vr γ w S v→vrs γ w S (xs.set i x) (vs.set i v)
 |[],[],i,_,_,h,_=>by simpa using h
 |x::xs,v::vs,0,_,_,h,hx=>by simp only[vrs,List.set_cons_zero] at h ⊢;exact⟨hx,h.2⟩
 |x::xs,v::vs,i+1,_,_,h,hx=>by simp only[vrs,List.set_cons_succ] at h ⊢;exact⟨h.1,zkp i h.2 hx⟩
 |[],_::_,_,_,_,h,_=>by simp[vrs] at h
 |_::_,[],_,_,_,h,_=>by simp[vrs] at h
def N6(vs:List Value)(i:Nat):List Value→List Value
 |[]=>vs
 |u::us=>N6 (vs.set i u) (i+1) us
theorem U5{γ:Gm}{w:World}{S:Nat→Prop}:∀{us:List X} {ws:List Value} {xs:List X} {vs:List Value} (i:Nat),vrs γ w S xs vs→vrs γ w S us ws→vrs γ w S (Lg xs i us) (N6 vs i ws)
 |[],[],_,_,_,h,_=>h
 |u::us,z::ws,xs,vs,i,h,h'=>by
  simp only[vrs] at h'
  simp only[Lg,N6]
  exact U5 (i+1) (zkp i h h'.1) h'.2
 |[],_::_,_,_,_,_,h=>by simp[vrs] at h
 |_::_,[],_,_,_,_,h=>by simp[vrs] at h
theorem Xw:∀(us vs:List Value) (i:Nat),(N6 vs i us).length=vs.length
 |[],vs,i=>rfl
 |u::us,vs,i=>by simp only[N6];rw[Xw us];simp
theorem Xg:∀(us vs:List Value) (i:Nat) (x:Value),x∈N6 vs i us→x∈vs∨x∈us
 |[],vs,i,x,h=> .inl h
 |u::us,vs,i,x,h=>by
  simp only[N6] at h
  rcases Xg us _ _ x h with h|h
  ·exact(List.mem_or_eq_of_mem_set h).imp (fun h=>h) (fun h=>by simp[h])
  ·exact .inr (by simp[h])
theorem Le:∀(l:List Value) (s off:Nat) (cs:Array Value),((l.zipIdx s).foldl (fun cs (x:Value×Nat)=>cs.setIfInBounds (off+x.2) x.1) cs).toList=N6 cs.toList (off+s) l
 |[],s,off,cs=>by simp[N6]
 |v::l,s,off,cs=>by
  simp only[List.zipIdx_cons,List.foldl_cons,N6]
  rw[Le l (s+1) off,Array.toList_setIfInBounds,Nat.add_assoc]
theorem zw3(place:Nat→Option (Nat×Nat))(cells:Array Value)(i off size:Nat)(v:Value)(rest:List (Nat×Value))(hp:place i=some (off,size))(hs:v.cells.size=size)(hle:off+size≤cells.size) :
  Instr.fill place cells ((i,v)::rest)=Instr.fill place (N6 cells.toList off v.cells.toList).toArray rest:=by
 simp only[Instr.fill,hp]
 rw[if_neg (by simp[hs];omega)]
 congr 1
 have:=Le v.cells.toList 0 off cells
 rw[Nat.add_zero] at this
 rw[←this,Array.toArray_toList,←Array.foldl_toList,Array.toList_zipIdx]
def Mk(P:Program)(t:TypeId):Option (List (Nat×Nat)):=match P.underlying t with
 |some (.struct fs)=>fs.toList.mapM fun f=>(P.info? f.type).map fun i=>(f.offset,i.size)
 |_=>none
def Lq(places:List (Nat×Nat)):List (Nat×Operand)→List (Nat×Nat×O)→Bool
 |[],[]=>true
 |(i,y)::ys,(off,n,o)::os=>(places[i]? == some (off,n))&&eqO y o&&Lq places ys os
 |_,_=>false
theorem Q7{γ:Gm}{w:World}{S:Nat→Prop}{x:X}{v:Value}(h:x.vr γ w S v){us:List X}(hu:x.cellsV=some us):vrs γ w S us v.cells.toList∧(∀φ:Id→Path→Prop,x.allp φ→aR φ us)∧∀u∈v.cells.toList,u.oneCell'=true:=by
 rcases Ft h with h1|⟨cs,rfl⟩
 ·cases x with
  |tup cs=>simp[X.cellsV] at hu
  |agg cs =>
   simp only[X.cellsV,oi] at hu
   subst hu
   simp only[X.vr] at h
   obtain⟨vs,rfl,h2,h3⟩:=h
   exact⟨by simpa[X.cells] using h1,fun φ hφ=>by simpa only[X.allp] using hφ,by simpa[Value.cells] using h3⟩
  |d x =>
   simp only[X.cellsV,oi] at hu
   subst hu
   refine⟨by simpa[X.cells] using h1,fun φ hφ=>by simp only[aR];exact⟨hφ,trivial⟩,fun u hu=> ?_⟩
   have hone:v.oneCell'=true:=by
    cases x with
    |v x=>simp only[X.vr] at h;rw[h.1];exact h.2
    |r els=>simp only[X.vr] at h;exact Gu h
    |s sz els=>simp only[X.vr] at h;rw[h.2];rfl
    |u=>simpa only[X.vr] using h
   have:v.cells= #[v]:=by cases v<;>first|rfl|simp[Value.oneCell'] at hone
   rw[this] at hu
   simp only[List.mem_singleton] at hu
   subst hu
   exact hone
  |ref id p =>
   simp only[X.cellsV,oi] at hu
   subst hu
   simp only[X.vr] at h
   have:v.cells= #[v]:=by cases v<;>first|rfl|simp[Value.oneCell'] at h
   refine⟨by simpa[X.cells] using h1,fun φ hφ=>by simp only[aR];exact⟨hφ,trivial⟩,fun u hu=> ?_⟩
   rw[this] at hu
   simp only[List.mem_singleton] at hu
   subst hu
   exact h.1
  |ptr id q j i =>
   simp only[X.cellsV,oi] at hu
   subst hu
   simp only[X.vr] at h
   obtain⟨ad,rfl,_⟩:=h
   exact⟨by simpa[X.cells] using h1,fun φ hφ=>by simp only[aR];exact⟨hφ,trivial⟩,fun u hu=>by simp only[Value.cells,List.mem_singleton] at hu;subst hu;rfl⟩
  |rop cs =>
   simp only[X.cellsV,oi] at hu
   subst hu
   simp only[X.vr] at h
   obtain⟨ad,rfl,_⟩:=h
   exact⟨by simpa[X.cells] using h1,fun φ hφ=>by simp only[aR];exact⟨hφ,trivial⟩,fun u hu=>by simp only[Value.cells,List.mem_singleton] at hu;subst hu;rfl⟩
  |vp cs =>
   simp only[X.cellsV,oi] at hu
   subst hu
   simp only[X.vr] at h
   obtain⟨ad,rfl,_⟩:=h
   exact⟨by simpa[X.cells] using h1,fun φ hφ=>by simp only[aR];exact⟨hφ,trivial⟩,fun u hu=>by simp only[Value.cells,List.mem_singleton] at hu;subst hu;rfl⟩
  |clo f caps =>
   simp only[X.cellsV,oi] at hu
   subst hu
   simp only[X.vr] at h
   obtain⟨vs,rfl,_⟩:=h
   exact⟨by simpa[X.cells] using h1,fun φ hφ=>by simp only[aR];exact⟨hφ,trivial⟩,fun u hu=>by simp only[Value.cells,List.mem_singleton] at hu;subst hu;rfl⟩
 ·simp[X.cellsV] at hu
theorem Xz(R:Rep c st U γ S a w){places:List (Nat×Nat)}:∀{ys:List (Nat×Operand)} {ps:List (Nat×Nat×O)} {cs:List X} {vs:List Value},Lq places ys ps=true→vrs γ w S cs vs→aR (fun id _=>fO c.A st.fr U id) cs→(∀u∈vs,u.oneCell'=true)→∀{xs:List X},mS st cs ps=some xs →
  ∃us:List Value,Instr.fill (fun i=>places[i]?) vs.toArray (ys.map fun x=>(x.1,a.eval x.2))=some us.toArray∧vrs γ w S xs us∧aR (fun id _=>fO c.A st.fr U id) xs∧∀u∈us,u.oneCell'=true
 |[],[],cs,vs,_,hv,hi,h1,xs,h=>by
  simp only[mS,oi] at h
  subst h
  exact⟨vs,by simp[Instr.fill],hv,hi,h1⟩
 |(i,y)::ys,(off,n,o)::ps,cs,vs,he,hv,hi,h1,xs,h=>by
  simp only[Lq,bE,beq_iff_eq] at he
  obtain⟨⟨he1,he2⟩,he3⟩:=he
  simp only[mS,aA] at h
  obtain⟨x,h2,us,h3,h4⟩:=h
  split at h4
  ·rename_i hb
   obtain⟨h5,h6⟩:=bV R he2 h2
   obtain⟨h7,h8,h9⟩:=Q7 h5 h3
   have hlen:=fR h7
   have hlen2:=fR hv
   have hsz:(a.eval y).cells.size=n:=by
    have:=hb.1
    simp at hlen
    omega
   have hall:aR (fun id _=>fO c.A st.fr U id) (Lg cs off us):=by
    have:∀(us cs:List X) (off:Nat),aR (fun id _=>fO c.A st.fr U id) cs→aR (fun id _=>fO c.A st.fr U id) us→aR (fun id _=>fO c.A st.fr U id) (Lg cs off us):=by
     intro us
     induction us with
     |nil=>intro cs off h _;exact h
     |cons u us ih =>
      intro cs off h hu
      simp only[aR] at hu
      simp only[Lg]
      refine ih _ _ (bG.2 fun x hx=> ?_) hu.2
      rcases List.mem_or_eq_of_mem_set hx with hx|hx
      ·exact bG.1 h x hx
      ·subst hx;exact hu.1
    exact this us cs off hi (h8 _ h6)
   obtain⟨zs,g1,g2,g3,g4⟩:=Xz R he3 (U5 off hv h7) hall (fun u hu=>(Xg _ _ _ u hu).elim (h1 u) (h9 u)) h4
   refine⟨zs,?_,g2,g3,g4⟩
   rw[mc,zw3 _ _ i off n _ _ he1 hsz (by simp;omega)]
   exact g1
  ·simp at h4
 |[],_::_,_,_,h,_,_,_,_,_=>by simp[Lq] at h
 |_::_,[],_,_,h,_,_,_,_,_=>by simp[Lq] at h
theorem z7B{γ:Gm}{w:World}{S:Nat→Prop}:∀{vs:List Value} {zs:List D},zEq vs zs=true→vrs γ w S (zs.map .d) vs∧(∀φ,aR φ (zs.map .d))∧∀u∈vs,u.oneCell'=true:=fun {vs zs} h=>by
 obtain⟨gs,e1,e2,e3,e4⟩:=Lk h
 subst e1;subst e2
 have h4:=e4 w S
 clear e4
 induction gs with
 |nil=>exact⟨by simp[ers,cL,vrs],fun φ=>by simp[ers,aR],by simp[cL]⟩
 |cons g gs ih =>
  have hz:∃d v,(g= .l (.v d) v)∨∃sz,g= .s sz none []:=by
   cases g with
   |l d v =>
    cases d with
    |v x=>exact⟨x,v,.inl rfl⟩
    |s sz els=>have:=h4 _ (List.mem_cons_self);simp[G.ok,D.leaf] at this
    |r els=>cases hv:v<;>simp[ers,G.er,cL,G.val,zEq,hv] at h
    |u=>cases hv:v<;>simp[ers,G.er,cL,G.val,zEq,hv] at h
   |s sz b els =>
    cases b with
    |none =>
     have:=h4 _ (List.mem_cons_self)
     simp only[G.ok] at this
     exact⟨.nilFunc,.nilFunc,.inr ⟨sz,by rw[this.1]⟩⟩
    |some b=>simp[bls,G.bl] at e3
  have htl:zEq (cL gs) (ers gs)=true∧bls gs=[]:=by
   refine⟨?_,by simp only[bls,List.append_eq_nil_iff] at e3;exact e3.2⟩
   rcases hz with⟨d,v,rfl|⟨sz,rfl⟩⟩
   ·simp only[cL,mc,ers,G.er,G.val,zEq,bE] at h
    exact h.2
   ·simpa[cL,ers,G.er,G.val,zEq,cD] using h
  obtain⟨i1,i2,i3⟩:=ih htl.2 htl.1 (fun g hg=>h4 g (by simp[hg]))
  rcases hz with⟨d,v,rfl|⟨sz,rfl⟩⟩
  ·have hd:=h4 _ (List.mem_cons_self)
   simp only[G.ok,D.rd] at hd
   refine⟨?_,fun φ=> ?_,fun u hu=> ?_⟩
   ·simp only[ers,G.er,mc,cL,G.val,vrs,X.vr]
    exact⟨hd.2,i1⟩
   ·simp only[ers,G.er,mc,aR,X.allp]
    exact⟨trivial,i2 φ⟩
   ·simp only[cL,mc,List.mem_cons,G.val] at hu
    rcases hu with rfl|hu
    ·rw[hd.2.1];exact hd.2.2
    ·exact i3 u hu
  ·refine⟨?_,fun φ=> ?_,fun u hu=> ?_⟩
   ·simp only[ers,G.er,cD,mc,cL,G.val,vrs,X.vr]
    exact⟨by simp,i1⟩
   ·simp only[ers,G.er,cD,mc,aR,X.allp]
    exact⟨trivial,i2 φ⟩
   ·simp only[cL,mc,List.mem_cons,G.val] at hu
    rcases hu with rfl|hu
    ·rfl
    ·exact i3 u hu
theorem zVm(R:Rep c st U γ S a w)(hd:∀k,o.dst=some k→k<c.nt){t:TypeId}{parts:Array (Nat×Operand)}{zs:List D}{ps:List (Nat×Nat×O)}(ho:o.op= .build t parts){places:List (Nat×Nat)}(hp:Mk c.P t=some places)(he:Lq places parts.toList ps=true){vz:List Value}(hz:sG c.P t=some vz)(hzz:zEq vz zs=true)
  (hs:opS C st o.dst id (.build zs ps)=some st'):Runs c o a w st' U:=by
 simp only[opS,aC] at hs
 obtain⟨xs,h1,rfl⟩:=hs
 obtain⟨z1,z2,z3⟩:=z7B (γ:=γ) (w:=w) (S:=S) hzz
 obtain⟨us,g1,g2,g3,g4⟩:=Xz R he z1 (z2 _) z3 h1
 obtain⟨z,hz1,hz2,iz,hiz,hiz2⟩:=lF hz w
 refine .value (.agg us.toArray) w ?_ (dU R hd (by simp only[X.vr];exact⟨us,rfl,g2,g4⟩) (by simp only[X.allp];exact g3))
 have hb:c.P.built t (parts.map fun x=>(x.1,a.eval x.2)).toList=some us.toArray:=by
  unfold Mk at hp
  split at hp
  ·rename_i fs hu
   simp only[Program.built,hiz,hu,hiz2,hp,Array.toList_map]
   rw[←hz2,Array.toArray_toList] at g1
   simpa using g1
  ·simp at hp
 simp[execOp,ho,run_build (P:=c.P) w t _ _ hb]
end
end Go.Ev
