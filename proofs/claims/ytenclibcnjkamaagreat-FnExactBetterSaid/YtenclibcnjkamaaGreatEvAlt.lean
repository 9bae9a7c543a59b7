import Derived.Test.YtenclibcnjkamaaGreatEvRow
set_option linter.all false
namespace Go.Ev
def qEq(t:Nat)(n:Int)(st:St):Bool:=match st.env t with
 |some (.d (.v (.int _ m)))=>decide (m=n)
 |_=>false
section
variable{α:Type}(k:α→Int×Int)
def iJ(op:Int):Bool:=decide (op=12)||decide (op=9)||decide (op=28)
def dC:Bool→List α→List α
 |_,[]=>[]
 |o,t::ts=>(if (o||decide ((k t).1=8))=true then [t] else [])++dC ((o||decide ((k t).1=8))&& !iJ (k t).1) ts
def lK(t:α):List α→Bool
 |[]=>false
 |u::_=>decide ((k t).1=9)&&(decide ((k u).1=8)&&decide ((k u).2=(k t).2))
def fL:List α→List α
 |[]=>[]
 |t::ts=>(if lK k t ts=true then [] else [t])++fL ts
def goG(all:List α)(n:Int):Bool:=all.any fun x=>(decide ((k x).1=9)||decide ((k x).1=10))&&decide ((k x).2=n)
def nC(all:List α):List α→List α
 |[]=>[]
 |t::ts=>(if (!decide ((k t).1=8)||goG k all (k t).2)=true then [t] else [])++nC all ts
def cF(l:List α):List α:=nC k (fL k (dC k true l)) (fL k (dC k true l))
def wD(l:List α):Bool:=match l.getLast? with
 |some t=>iJ (k t).1
 |none=>false
def lV(l:List α):Bool:=decide ((cF k l).length=l.length) || !wD k (cF k l)
end
def opN:List D→Int×Int
 |.v (.int _ op)::_::_::_:: .v (.int _ n)::_=>(op,n)
 |_=>(0,0)
def zXh(st:St)(t c:Nat):List (List D):=match st.env t with
 |some (.ptr id q j i)=>(((((st.heap.row id q).bind fun r=>r.2[j]?).bind fun el=>el[i+c]?).bind D.rowOf).map fun r=>r.2).getD []
 |_=>[]
def zwd(t:Nat)(st:St):Bool:=lV opN (zXh st t 3)
section
variable{α β:Type}{k:α→Int×Int}{k':β→Int×Int}{f:α→β}(h:∀x,k' (f x)=k x)
include h
theorem Ts:∀(l:List α) (o:Bool),dC k' o (l.map f)=(dC k o l).map f
 |[],o=>rfl
 |t::ts,o=>by
  rw[mc,dC,dC,h,Ts ts,List.map_append]
  congr 1
  split<;>rfl
theorem Vj:∀(l:List α),fL k' (l.map f)=(fL k l).map f
 |[]=>rfl
 |t::ts=>by
  have e:lK k' (f t) (ts.map f)=lK k t ts:=by cases ts<;>simp[lK,h]
  rw[mc,fL,fL,e,Vj ts,List.map_append]
  congr 1
  split<;>rfl
theorem zVE(all:List α)(n:Int):goG k' (all.map f) n=goG k all n:=by simp[goG,List.any_map,Function.comp_def,h]
theorem Va(all:List α):∀(l:List α),nC k' (all.map f) (l.map f)=(nC k all l).map f
 |[]=>rfl
 |t::ts=>by
  rw[mc,nC,nC,h,zVE h,Va all ts,List.map_append]
  congr 1
  split<;>rfl
theorem zv5(l:List α):cF k' (l.map f)=(cF k l).map f:=by rw[cF,Ts h,Vj h,Va h];rfl
theorem zqg(l:List α):lV k' (l.map f)=lV k l:=by
 have e:∀l:List α,wD k' (l.map f)=wD k l:=fun l=>by
  rw[wD,wD,List.getLast?_map]
  cases l.getLast? with
  |none=>rfl
  |some t=>simp[h]
 rw[lV,lV,zv5 h,e,lm,lm]
end
end Go.Ev
