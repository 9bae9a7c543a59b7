import Derived.Test.YtenclibcnjkamaaGreatEvRow
set_option linter.all false
namespace Go.Ev
def qEq(t:Nat)(n:Int)(st:St):Bool:=match st.env t with
 |some (.d (.v (.int _ m)))=>decide (m=n)
 |_=>false
section
variable{α:Type}(k:α→Int×Int)
def jJ(op:Int):Bool:=decide (op=12)||decide (op=9)||decide (op=28)
def dI:Bool→List α→List α
 |_,[]=>[]
 |o,t::ts=>(if (o||decide ((k t).1=8))=true then [t] else [])++dI ((o||decide ((k t).1=8))&& !jJ (k t).1) ts
def mH(t:α):List α→Bool
 |[]=>false
 |u::_=>decide ((k t).1=9)&&(decide ((k u).1=8)&&decide ((k u).2=(k t).2))
def gH:List α→List α
 |[]=>[]
 |t::ts=>(if mH k t ts=true then [] else [t])++gH ts
def goG(all:List α)(n:Int):Bool:=all.any fun x=>(decide ((k x).1=9)||decide ((k x).1=10))&&decide ((k x).2=n)
def oM(all:List α):List α→List α
 |[]=>[]
 |t::ts=>(if (!decide ((k t).1=8)||goG k all (k t).2)=true then [t] else [])++oM all ts
def cJ(l:List α):List α:=oM k (gH k (dI k true l)) (gH k (dI k true l))
def xZ(l:List α):Bool:=match l.getLast? with
 |some t=>jJ (k t).1
 |none=>false
def mN(l:List α):Bool:=decide ((cJ k l).length=l.length) || !xZ k (cJ k l)
end
def opN:List D→Int×Int
 |.v (.int _ op)::_::_::_:: .v (.int _ n)::_=>(op,n)
 |_=>(0,0)
def z8R(st:St)(t c:Nat):List (List D):=match st.env t with
 |some (.ptr id q j i)=>(((((st.heap.row id q).bind fun r=>r.2[j]?).bind fun el=>el[i+c]?).bind D.rowOf).map fun r=>r.2).getD []
 |_=>[]
def zQ2(t:Nat)(st:St):Bool:=mN opN (z8R st t 3)
section
variable{α β:Type}{k:α→Int×Int}{k':β→Int×Int}{f:α→β}(h:∀x,k' (f x)=k x)
include h
theorem Yf:∀(l:List α) (o:Bool),dI k' o (l.map f)=(dI k o l).map f
 |[],o=>rfl
 |t::ts,o=>by
  rw[mc,dI,dI,h,Yf ts,List.map_append]
  congr 1
  split<;>rfl
theorem Ze:∀(l:List α),gH k' (l.map f)=(gH k l).map f
 |[]=>rfl
 |t::ts=>by
  have e:mH k' (f t) (ts.map f)=mH k t ts:=by cases ts<;>simp[mH,h]
  rw[mc,gH,gH,e,Ze ts,List.map_append]
  congr 1
  split<;>rfl
theorem zV7(all:List α)(n:Int):goG k' (all.map f) n=goG k all n:=by simp[goG,List.any_map,Function.comp_def,h]
theorem Ws(all:List α):∀(l:List α),oM k' (all.map f) (l.map f)=(oM k all l).map f
 |[]=>rfl
 |t::ts=>by
  rw[mc,oM,oM,h,zV7 h,Ws all ts,List.map_append]
  congr 1
  split<;>rfl
theorem zwf(l:List α):cJ k' (l.map f)=(cJ k l).map f:=by rw[cJ,Yf h,Ze h,Ws h];rfl
theorem zkF(l:List α):mN k' (l.map f)=mN k l:=by
 have e:∀l:List α,xZ k' (l.map f)=xZ k l:=fun l=>by
  rw[xZ,xZ,List.getLast?_map]
  cases l.getLast? with
  |none=>rfl
  |some t=>simp[h]
 rw[mN,mN,zwf h,e,lm,lm]
end
end Go.Ev
