import Derived.Calls
import Derived.Lib.Bytealg
import Derived.Orders
import Derived.WalkKit
set_option linter.all false
namespace Go.Ev
inductive D where
 |v (x:Value)
 |s (sz:Nat) (els:List (List D))
 |r (els:List (List D))
 |u
abbrev Id:=Nat×Nat
abbrev Path:=List (Nat×Nat)
inductive X where
 |d (x:D)
 |agg (cs:List X)
 |tup (cs:List X)
 |ref (id:Id) (p:Path)
 |ptr (id:Id) (q:Path) (j i:Nat)
 |rop (cs:List D)
 |vp (cs:List X)
 |clo (f:Nat) (caps:List X)
def upd{κ α:Type}[DecidableEq κ](f:κ→Option α)(k:κ)(x:Option α):κ→Option α:=fun j=>if j=k then x else f j
def emp{κ α:Type}:κ→Option α:=fun _=>none
theorem l6{κ α:Type}[DecidableEq κ](f:κ→Option α)(k:κ)(x:Option α)(j:κ):upd f k x j=if j=k then x else f j:=rfl
theorem zyy{κ α:Type}(j:κ):(emp:κ→Option α) j=none:=rfl
abbrev Env:=Nat→Option X
abbrev Heap:=Id→Option D
structure St where
 env:Env
 heap:Heap
 fr:Nat
 next:Nat
def D.nav:D→Path→Option D
 |d,[]=>some d
 |d,(j,i)::p=>match d with
  |.s _ els=>(els[j]?).bind fun el=>(el[i]?).bind fun c=>c.nav p
  |_=>none
def D.put:D→Path→D→Option D
 |_,[],x=>some x
 |d,(j,i)::p,x=>match d with
  |.s sz els=>(els[j]?).bind fun el=>(el[i]?).bind fun c=>(c.put p x).map fun c'=> .s sz (els.set j (el.set i c'))
  |_=>none
def Heap.nav(h:Heap)(id:Id)(p:Path):Option D:=(h id).bind fun d=>d.nav p
def D.rowOf:D→Option (Nat×List (List D))
 |.s sz els=>some (sz,els)
 |_=>none
def Heap.row(h:Heap)(id:Id)(p:Path):Option (Nat×List (List D)):=(h.nav id p).bind D.rowOf
def Heap.put(h:Heap)(id:Id)(p:Path)(x:D):Option Heap:=(h id).bind fun d=>(d.put p x).map fun d'=>upd h id (some d')
def Heap.take(h:Heap)(id:Id):Path→Option (D×Heap)
 |[]=>(h.row id []).map fun r=>(.s r.1 r.2,upd h id none)
 |c::p=>(h.row id (c::p)).bind fun r=>(h.put id (c::p) .u).map fun h'=>(.s r.1 r.2,h')
def iG(h:Heap):X→Option (D×Heap)
 |.d (.v x)=>some (.v x,h)
 |.d (.r e)=>some (.r e,h)
 |.d (.s sz [])=>some (.s sz [],h)
 |.d .u=>some (.u,h)
 |.ref id p=>h.take id p
 |_=>none
def iZ(h:Heap):List X→Option (List D×Heap)
 |[]=>some ([],h)
 |x::xs=>(iG h x).bind fun a=>(iZ a.2 xs).map fun b=>(a.1::b.1,b.2)
def X.cells:X→List X
 |.agg cs=>cs
 |x=>[x]
mutual
def D.fz:D→D
 |.v x=> .v x
 |.s _ els=> .r (fzs els)
 |.r els=> .r (fzs els)
 |.u=> .u
def fzs:List (List D)→List (List D)
 |[]=>[]
 |el::els=>fzl el::fzs els
def fzl:List D→List D
 |[]=>[]
 |d::ds=>d.fz::fzl ds
end
def kY(h:Heap):X→Option X
 |.d (.v x)=>some (.d (.v x))
 |.d (.r e)=>some (.d (.r e))
 |.d (.s _ [])=>some (.d (.r []))
 |.d .u=>some (.d .u)
 |.ref id p=>(h.row id p).map fun r=> .d (.r (fzs r.2))
 |.ptr id q j i=>(h.row id q).bind fun r=>(r.2[j]?).map fun el=> .rop (fzl (el.drop i))
 |_=>none
def uR(h:Heap):List X→Option (List X)
 |[]=>some []
 |x::xs=>(kY h x).bind fun y=>(uR h xs).map fun ys=>y::ys
def Ag(h:Heap):X→Option X
 |.agg cs=>(uR h cs).map .agg
 |x=>kY h x
def kV(h:Heap):List X→Option (List X)
 |[]=>some []
 |x::xs=>(Ag h x).bind fun y=>(kV h xs).map fun ys=>y::ys
def lV(fr:Nat)(h:Heap):X→Option (X×Heap)
 |.ptr id q j i=>if id.1=fr then none else some (.ptr id q j i,h)
 |.ref id p=>if id.1=fr then(h.take id p).map fun a=>(.d a.1,a.2) else some (.ref id p,h)
 |.d (.v x)=>some (.d (.v x),h)
 |.d (.r e)=>some (.d (.r e),h)
 |.d (.s sz [])=>some (.d (.s sz []),h)
 |.rop cs=>some (.rop cs,h)
 |_=>none
def Oc(fr:Nat)(h:Heap):List X→Option (List X×Heap)
 |[]=>some ([],h)
 |x::xs=>(lV fr h x).bind fun a=>(Oc fr a.2 xs).map fun b=>(a.1::b.1,b.2)
def oQ(fr:Nat)(h:Heap):X→Option (X×Heap)
 |.agg cs=>(Oc fr h cs).map fun a=>(.agg a.1,a.2)
 |x=>lV fr h x
def oY(fr:Nat)(h:Heap):List X→Option (List X×Heap)
 |[]=>some ([],h)
 |x::xs=>(oQ fr h x).bind fun a=>(oY fr a.2 xs).map fun b=>(a.1::b.1,b.2)
def nI:List X→X
 |[x]=>x
 |xs=> .tup xs
def a8(fr:Nat)(h:Heap):Heap:=fun id=>if id.1=fr then none else h id
def jT(h:Heap)(id:Id):X→X×Heap
 |.d (.s sz els)=>(.ref id [],upd h id (some (.s sz els)))
 |x=>(x,h)
def vR(h:Heap)(id:Id):List X→List X×Heap
 |[]=>([],h)
 |x::xs=>((jT h id x).1::(vR (jT h id x).2 (id.1,id.2+1) xs).1,(vR (jT h id x).2 (id.1,id.2+1) xs).2)
def mG(h:Heap)(id:Id):X→X×Heap
 |.agg cs=>(.agg (vR h id cs).1,(vR h id cs).2)
 |x=>jT h id x
def vC(h:Heap)(id:Id):List X→List X×Heap
 |[]=>([],h)
 |x::xs=>((mG h id x).1::(vC (mG h id x).2 (id.1,id.2+x.cells.length) xs).1,(vC (mG h id x).2 (id.1,id.2+x.cells.length) xs).2)
def vF(h:Heap)(id:Id):X→X×Heap
 |.tup cs=>(.tup (vC h id cs).1,(vC h id cs).2)
 |x=>mG h id x
inductive O where
 |t (n:Nat)
 |c (x:Value)
 |n (sz:Nat)
 |f (f:Nat)
 deriving Inhabited
inductive SOp where
 |mov (x:O)
 |pick (c a b:O)
 |ari (b:BinOp) (x y:O)
 |cmp (b:BinOp) (x y:O)
 |cmpb (b:BinOp) (x y:O)
 |cat (x y:O)
 |neg (x:O)
 |not (x:O)
 |conv (k:IntKind) (x:O)
 |rune (x:O)
 |sob (x:O)
 |idxb (f:Nat) (x y:O)
 |bos (x:O)
 |fld (off:Nat) (n:Option Nat) (x:O)
 |faddr (off:Nat) (x:O)
 |ixa (sz:Nat) (x i:O)
 |ixs (x i:O)
 |load (n:Option Nat) (x:O)
 |store (n:Nat) (x y:O)
 |box (n:Nat) (x:O)
 |mm (mx:Bool) (x y:O)
 |eqa (ng:Bool) (n:Nat) (x y:O)
 |vbox (n:Nat) (x:O)
 |alloc (zs:List D)
 |build (zs:List D) (parts:List (Nat×Nat×O))
 |lit (sz:Nat) (parts:List O)
 |mk (sz:Nat) (bytes:Nat) (zs:List D) (n:O)
 |cutr (sz:Nat) (x:O) (lo hi:Option O)
 |cutm (sz:Nat) (x:O) (lo hi:Option O)
 |cutS (x:O) (lo hi:Option O)
 |clr (x:O)
 |len (x:O)
 |slen (x:O)
 |app (sz bytes:Nat) (x y:O)
 |fn (f:Nat) (caps:List O)
 |callr (f:Nat) (xs:List O)
 |callu (f:Nat) (xs:List O)
 |call (f:Nat) (xs:List O)
 |calli (f:O) (xs:List O)
 |callb (f:Nat) (xs:List O) (bs:List Bool)
 |ext (x:O) (i:Nat)
 |nck (x:O)
 deriving Inhabited
structure SItem where
 d:Option Nat
 g:Option (Nat×Bool):=none
 o:SOp
 deriving Inhabited
structure DItem where
 it:SItem
 ix:Nat
 re:List SItem
 deriving Inhabited
inductive SCode where
 |skip
 |ops (l:List SItem)
 |opsd (l:List DItem)
 |clone (sz:Nat) (l:List SItem)
 |seq (a b:SCode)
 |cond (c:O) (a b:SCode)
 |block (id:Nat) (a:SCode)
 |loop (L:List Nat) (a:SCode)
 |exit (id:Nat)
 |ret
 |keep (L:List Nat)
 |alt (q:St→Bool) (a b:SCode)
 |lib (n:Nat)
 |stuck
 deriving Inhabited
inductive SRes where
 |t (n:Nat)
 |c (n:Nat) (k:Option Nat)
 deriving Inhabited
structure SFn where
 np:Nat
 nt:Nat
 code:SCode
 res:List SRes
inductive Ex where
 |nor
 |ext (id:Nat)
 |ret
 deriving DecidableEq
def rdO(st:St):O→Option X
 |.t n=>st.env n
 |.c x=>some (.d (.v x))
 |.n sz=>some (.d (.s sz []))
 |.f f=>some (.d (.v (.func (.func f) #[] #[])))
def mF(st:St):List O→Option (List X)
 |[]=>some []
 |x::xs=>(rdO st x).bind fun a=>(mF st xs).map fun as=>a::as
def X.int:X→Option (IntKind×Int)
 |.d (.v (.int k n))=>some (k,n)
 |_=>none
def X.bool:X→Option Bool
 |.d (.v (.bool b))=>some b
 |_=>none
def X.str:X→Option ByteArray
 |.d (.v (.string s))=>some s
 |_=>none
def rdI(st:St)(x:O):Option (IntKind×Int):=(rdO st x).bind X.int
def rdB(st:St)(x:O):Option Bool:=(rdO st x).bind X.bool
def rdS(st:St)(x:O):Option ByteArray:=(rdO st x).bind X.str
def zyU:BinOp→IntKind→Int→Int→Option Int
 |.add,k,a,b=>some (k.wrap (a+b))
 |.sub,k,a,b=>some (k.wrap (a-b))
 |.mul,k,a,b=>some (k.wrap (a*b))
 |.quo,k,a,b=>if b=0 then none else some (k.wrap (a.tdiv b))
 |.rem,_,a,b=>if b=0 then none else some (a.tmod b)
 |.and,k,a,b=>some (bits .and k a b)
 |.or,k,a,b=>some (bits .or k a b)
 |.xor,k,a,b=>some (bits .xor k a b)
 |.shr,k,a,b=>if b<0 then none else some (a.fdiv (2 ^ min b.toNat k.bits))
 |_,_,_,_=>none
def z8d:BinOp→Int→Int→Option Bool
 |.eql,a,b=>some (decide (a=b))
 |.neq,a,b=>some (!decide (a=b))
 |.lss,a,b=>some (decide (a<b))
 |.leq,a,b=>some (decide (a≤b))
 |.gtr,a,b=>some (decide (b<a))
 |.geq,a,b=>some (decide (b≤a))
 |_,_,_=>none
def z8D:BinOp→ByteArray→ByteArray→Option Bool
 |.eql,a,b=>some (decide (a=b))
 |.neq,a,b=>some (!decide (a=b))
 |_,_,_=>none
def zxT:BinOp→Bool→Bool→Option Bool
 |.eql,a,b=>some (a==b)
 |.neq,a,b=>some (!(a==b))
 |_,_,_=>none
def zJo(b:BinOp):X→X→Option Bool
 |.d (.v (.int k m)),.d (.v (.int k' n))=>if k=k' then z8d b m n else none
 |.d (.v (.string x)),.d (.v (.string y))=>z8D b x y
 |_,_=>none
def D.ro:D→Option X
 |.v x=>some (.d (.v x))
 |.s _ els=>some (.d (.r els))
 |.r els=>some (.d (.r els))
 |.u=>some (.d .u)
def D.own(id:Id)(p:Path):D→Option X
 |.v x=>some (.d (.v x))
 |.s _ _=>some (.ref id p)
 |.r els=>some (.d (.r els))
 |.u=>some (.d .u)
def roL:List D→Option (List X)
 |[]=>some []
 |c::cs=>(c.ro).bind fun x=>(roL cs).map fun xs=>x::xs
def D6(id:Id)(q:Path)(j:Nat):Nat→List D→Option (List X)
 |_,[]=>some []
 |i,c::cs=>(c.own id (q++[(j,i)])).bind fun x=>(D6 id q j (i+1) cs).map fun xs=>x::xs
def oN(h:Heap)(n:Nat):X→Option (List X)
 |.rop cs=>if n≤cs.length then roL (cs.take n) else none
 |.vp cs=>if n≤cs.length then some (cs.take n) else none
 |.ptr id q j i=>(h.row id q).bind fun r=>(r.2[j]?).bind fun el=>if i+n≤el.length then D6 id q j i ((el.drop i).take n) else none
 |_=>none
def one:List X→Option X
 |[x]=>some x
 |_=>none
def Path.under(q:Path)(j i n:Nat):Path→Bool
 |p=>q.isPrefixOf p&&(match p.drop q.length with
  |(j',i')::_=>j'==j&&decide (i≤i')&&decide (i'<i+n)
  |[]=>false)
def X.hitC(id:Id)(q:Path)(j i n:Nat):X→Bool
 |.ref id' p=>id'==id&&Path.under q j i n p
 |.ptr id' p _ _=>id'==id&&Path.under q j i n p
 |.clo _ _=>true
 |.tup _=>true
 |.agg _=>true
 |.vp _=>true
 |_=>false
def Wy(id:Id)(q:Path)(j i n:Nat):List X→Bool
 |[]=>false
 |x::xs=>x.hitC id q j i n||Wy id q j i n xs
def X.hit(id:Id)(q:Path)(j i n:Nat):X→Bool
 |.agg cs=>Wy id q j i n cs
 |.vp cs=>Wy id q j i n cs
 |.tup _=>true
 |x=>x.hitC id q j i n
def purge(id:Id)(q:Path)(j i n:Nat)(e:Env):Env:=fun t=>(e t).bind fun x=>if x.hit id q j i n then none else some x
def fJ:List D→Bool
 |[]=>true
 |.v _::cs=>fJ cs
 |_::_=>false
def setCells(el:List D)(i:Nat):List D→List D
 |[]=>el
 |c::cs=>setCells (el.set i c) (i+1) cs
def sT(st:St)(n:Nat)(a:X)(cs:List X):Option St :=
 match a with
 |.ptr id q j i=>(iZ st.heap cs).bind fun b=>if b.1.length=n then
   (b.2.row id q).bind fun r=>(r.2[j]?).bind fun el=>if i+n≤el.length then
    (b.2.put id q (.s r.1 (r.2.set j (setCells el i b.1)))).map fun h =>
     {st with heap:=h,env:=if fJ ((el.drop i).take n)&&fJ b.1 then st.env else purge id q j i n st.env}
   else none
  else none
 |_=>none
def X.dimC:X→X
 |.ref _ _=> .d .u
 |x=>x
def X.dim:X→X
 |.agg cs=> .agg (cs.map X.dimC)
 |x=>x.dimC
def Ch(st:St)(n t:Nat)(id:Id)(cs:List X):Option D→Option St
 |some (.s _ [el])=>if el.length=n then some {st with heap:=upd st.heap id none,env:=upd st.env t (some (.vp cs))} else none
 |_=>none
def uA(st:St)(n:Nat):O→X→X→Option St
 |.t t,.ptr id [] 0 0,.agg cs=>if st.fr=0∧cs.length=n then Ch st n t id cs (st.heap id) else none
 |_,_,_=>none
def qY(st:St)(n:Nat)(o:O)(x y:X):Option St:=if 20000≤n then sT st (n-20000) x y.dim.cells else uA st (n-10000) o x y
def Lg(cs:List X)(i:Nat):List X→List X
 |[]=>cs
 |x::xs=>Lg (cs.set i x) (i+1) xs
def X.cellsV:X→Option (List X)
 |.tup _=>none
 |.agg cs=>some cs
 |x=>some [x]
def mS(st:St)(cs:List X):List (Nat×Nat×O)→Option (List X)
 |[]=>some cs
 |(off,n,o)::ps=>(rdO st o).bind fun x=>(x.cellsV).bind fun us=>if us.length=n∧off+n≤cs.length then mS st (Lg cs off us) ps else none
def St.put(st:St)(d:Option Nat)(x:X):St:=match d with
 |some d=>{st with env:=upd st.env d (some x)}
 |none=>st
def St.lose(st:St)(d:Option Nat):St:=match d with
 |some d=>{st with env:=upd st.env d none}
 |none=>st
def St.with(st:St)(h:Heap):St:={st with heap:=h}
def eS(st:St)(sz:Nat)(h:Heap):List O→Option (List (List D)×Heap)
 |[]=>some ([],h)
 |o::os=>(rdO st o).bind fun x=>(iZ h x.cells).bind fun a=>if a.1.length=sz then(eS st sz a.2 os).map fun b=>(a.1::b.1,b.2) else none
def D.toR:D→D
 |.s _ els=> .r els
 |x=>x
def pD(h:Heap):X→Option (List (List D)×Heap)
 |.d (.s _ [])=>some ([],h)
 |.d (.r els)=>some (els.map fun el=>el.map D.toR,h)
 |.ref id p=>(h.take id p).bind fun a=>(a.1.rowOf).map fun r=>(r.2,a.2)
 |_=>none
def i7(h:Heap)(sz:Nat):X→Option (List (List D)×Heap)
 |.d (.s _ [])=>some ([],h)
 |.ref id p=>(h.take id p).bind fun a=>(a.1.rowOf).bind fun r=>if r.1=sz then some (r.2,a.2) else none
 |_=>none
def Pf(h:Heap):X→Option Nat
 |.d (.r els)=>some els.length
 |.d (.s _ [])=>some 0
 |.ref id p=>(h.row id p).map fun r=>r.2.length
 |_=>none
def Po(h:Heap)(sz:Nat)(n:Int):X→Option X
 |.d (.r els)=>if 0≤n∧n<(els.length:Int) then(els[n.toNat]?).bind fun el=>if el.length=sz then some (.rop el) else none else none
 |.ref id p=>(h.row id p).bind fun r=>if 0≤n∧n<(r.2.length:Int)∧r.1=sz then some (.ptr id p n.toNat 0) else none
 |_=>none
def bN(st:St)(dflt:Int):Option O→Option Int
 |none=>some dflt
 |some o=>(rdI st o).map fun a=>a.2
def Hs:List (List D)→Option (List Int)
 |[]=>some []
 |[.v (.int .u8 n)]::els=>(Hs els).map fun ns=>n::ns
 |_=>none
def zwI(ns:List Int):ByteArray:=ns.foldl (fun r n=>r.push (UInt8.ofNat n.toNat)) ByteArray.empty
def Ak(h:Heap):X→Option (List Int)
 |.ref id p=>(h.row id p).bind fun r=>if r.1=1 then Hs r.2 else none
 |_=>none
def zzV(off:Nat):Option Nat→List X→Option X
 |none,cs=>cs[off]?
 |some n,cs=>if off+n≤cs.length then some (.agg ((cs.drop off).take n)) else none
def uK:Option Nat→List X→Option X
 |none,cs=>one cs
 |some _,cs=>some (.agg cs)
def xO:X→Option X
 |.ptr id q j i=>some (.ptr id q j i)
 |.rop cs=>some (.rop cs)
 |.vp cs=>some (.vp cs)
 |_=>none
def zO(off:Nat):X→Option X
 |.ptr id q j i=>some (.ptr id q j (i+off))
 |.rop cs=>some (.rop (cs.drop off))
 |.vp cs=>some (.vp (cs.drop off))
 |_=>none
def fnOf:Value→Option Nat
 |.func (.func f) a b=>if a.size=0∧b.size=0 then some f else none
 |_=>none
def Et:X→Option (Nat×List X)
 |.d (.v x)=>(fnOf x).map fun f=>(f,[])
 |.clo f caps=>some (f,caps)
 |_=>none
def X.ncells:X→Nat
 |.tup cs=>(cs.map fun x=>x.cells.length).sum
 |x=>x.cells.length
def X.rootC:X→Bool
 |.ref _ p=>p.isEmpty
 |.ptr _ q _ _=>q.isEmpty
 |.agg _=>false
 |.tup _=>false
 |.clo _ _=>false
 |.vp _=>false
 |_=>true
def C4:List X→Bool
 |[]=>true
 |x::xs=>x.rootC&&C4 xs
def X.root:X→Bool
 |.agg cs=>C4 cs
 |.vp cs=>C4 cs
 |.clo _ cs=>C4 cs
 |x=>x.rootC
def qJ(e:Env):Env:=fun t=>(e t).bind fun x=>if x.root then some x else none
def D.noR:D→Bool
 |.v _=>true
 |.s _ els=>noRss els
 |.r _=>false
 |.u=>true
where
 noRss:List (List D)→Bool
  |[]=>true
  |el::els=>noRs el&&noRss els
 noRs:List D→Bool
  |[]=>true
  |c::cs=>c.noR&&noRs cs
def X.noRC:X→Bool
 |.d x=>x.noR
 |_=>false
def Sg:List X→Bool
 |[]=>true
 |x::xs=>x.noRC&&Sg xs
def X.noRV:X→Bool
 |.agg cs=>Sg cs
 |x=>x.noRC
def zyw:List X→Bool
 |[]=>true
 |x::xs=>x.noRV&&zyw xs
def X.noR:X→Bool
 |.tup cs=>zyw cs
 |x=>x.noRV
def X.roC:X→Bool
 |.d _=>true
 |_=>false
def Fd:List X→Bool
 |[]=>true
 |x::xs=>x.roC&&Fd xs
def X.roV:X→Bool
 |.agg cs=>Fd cs
 |x=>x.roC
def iY:List X→Bool
 |[]=>true
 |x::xs=>x.roV&&iY xs
abbrev Cl:=Nat→List X→Heap→Nat→Option (X×Heap)
def Dn(h:Heap):X→Option (X×Heap)
 |.ref id p=>(h.take id p).map fun a=>(.d a.1,a.2)
 |x=>some (x,h)
def Cl.give(C:Cl):Cl:=fun f a h fr=>(C f a h fr).bind fun r=>Dn r.2 r.1
theorem uM{C:Cl}{f:Nat}{a:List X}{h:Heap}{fr:Nat}{r:X×Heap}:C.give f a h fr=some r↔∃r0,C f a h fr=some r0∧Dn r0.2 r0.1=some r:=Option.bind_eq_some_iff
def Cl.iso(C:Cl)(f:Nat)(args:List X):Option X:=(C f args emp 0).map fun r=>r.1
def kP(st:St)(d:Option Nat)(id:Nat)(x:X)(h:Heap):Option St :=
 if x.ncells≤32 then some ((st.with (vF h (st.fr,id) x).2).put d (vF h (st.fr,id) x).1) else none
def X.frzC:X→X
 |.d (.s _ els)=> .d (.r (fzs els))
 |x=>x
def y6:List X→List X
 |[]=>[]
 |x::xs=>x.frzC::y6 xs
def X.frzV:X→X
 |.agg cs=> .agg (y6 cs)
 |x=>x.frzC
def Py:List X→List X
 |[]=>[]
 |x::xs=>x.frzV::Py xs
def X.frz:X→X
 |.tup cs=> .tup (Py cs)
 |x=>x.frzV
abbrev dA:=List (Id×Path×D)
def yY(h:Heap)(k:Nat):X→Option (X×Heap×dA)
 |.ref id p=>(h.take id p).map fun a=>(.ref (0,k) [],a.2,[(id,p,a.1)])
 |.ptr id q j i=>(h.take id q).map fun a=>(.ptr (0,k) [] j i,a.2,[(id,q,a.1)])
 |.d (.v x)=>some (.d (.v x),h,[])
 |.d (.r e)=>some (.d (.r e),h,[])
 |.d (.s sz [])=>some (.d (.s sz []),h,[])
 |_=>none
def Qh(h:Heap)(k:Nat):List X→Option (List X×Heap×dA)
 |[]=>some ([],h,[])
 |x::xs=>(yY h k x).bind fun a=>(Qh a.2.1 (k+a.2.2.length) xs).map fun b=>(a.1::b.1,b.2.1,a.2.2++b.2.2)
def It(h:Heap)(k:Nat):X→Option (X×Heap×dA)
 |.agg cs=>(Qh h k cs).map fun a=>(.agg a.1,a.2)
 |x=>yY h k x
def rS(h:Heap)(k:Nat):List X→List Bool→Option (List X×Heap×dA)
 |[],_=>some ([],h,[])
 |x::xs,true::bs=>(It h k x).bind fun a=>(rS a.2.1 (k+a.2.2.length) xs bs).map fun c=>(a.1::c.1,c.2.1,a.2.2++c.2.2)
 |x::xs,false::bs=>(rS h k xs bs).map fun c=>(x::c.1,c.2.1,c.2.2)
 |_::_,[]=>none
def oI(h:Heap):List X→List Bool→Option (List X)
 |[],_=>some []
 |x::xs,true::bs=>(oI h xs bs).map fun ys=>x::ys
 |x::xs,false::bs=>(Ag h x).bind fun y=>(oI h xs bs).map fun ys=>y::ys
 |_::_,[]=>none
def roF:List X→List Bool→Bool
 |[],_=>true
 |_::xs,true::bs=>roF xs bs
 |x::xs,false::bs=>x.roV&&roF xs bs
 |_::_,[]=>false
def Cx:Nat→dA→Heap
 |_,[]=>emp
 |k,a::L=>upd (Cx (k+1) L) (0,k) (some a.2.2)
def w5(id:Id)(p:Path):dA→Bool
 |[]=>true
 |b::L=>(!decide (b.1=id)||(!p.isPrefixOf b.2.1&& !b.2.1.isPrefixOf p))&&w5 id p L
def rY:dA→Bool
 |[]=>true
 |a::L=>w5 a.1 a.2.1 L&&rY L
def Heap.putb(h:Heap)(id:Id):Path→D→Option Heap
 |[],x=>some (upd h id (some x))
 |c::p,x=>h.put id (c::p) x
def Al(h hB:Heap):Nat→dA→Option Heap
 |_,[]=>some h
 |k,a::L=>match hB (0,k) with
  |some (.s sz els)=>(h.putb a.1 a.2.1 (.s sz els)).bind fun h'=>Al h' hB (k+1) L
  |some _=>none
  |none=>Al h hB (k+1) L
def Zg(hB:Heap):Nat→dA→Bool
 |_,[]=>true
 |k,_::L=>(match hB (0,k) with
  |some d=>d.noR
  |none=>true)&&Zg hB (k+1) L
def X.inC(id:Id)(p:Path):X→Bool
 |.ref id' p'=>decide (id'=id)&&p.isPrefixOf p'&& !decide (p'=p)
 |.ptr id' p' _ _=>decide (id'=id)&&p.isPrefixOf p'&& !decide (p'=p)
 |.clo _ _=>true
 |.tup _=>true
 |.agg _=>true
 |.vp _=>true
 |_=>false
def inL(id:Id)(p:Path):List X→Bool
 |[]=>false
 |x::xs=>x.inC id p||inL id p xs
def X.inV(id:Id)(p:Path):X→Bool
 |.agg cs=>inL id p cs
 |.vp cs=>inL id p cs
 |.clo _ cs=>inL id p cs
 |x=>x.inC id p
def wF(x:X):dA→Bool
 |[]=>false
 |a::L=>x.inV a.1 a.2.1||wF x L
def rO(L:dA)(e:Env):Env:=fun t=>(e t).bind fun x=>if wF x L then none else some x
def X.noP:X→Bool
 |.tup cs=>iY cs
 |x=>x.roV
def aE(a b:ByteArray):Prop:=a.size+b.size≤9223372036854775807
instance (a b:ByteArray):Decidable (aE a b):=inferInstanceAs (Decidable (_≤_))
def aF(bytes:Nat)(n:Int):Prop:=0≤n∧bytes*n≤281474976710656
instance (b:Nat) (n:Int):Decidable (aF b n):=inferInstanceAs (Decidable (_∧_))
def aD(bytes m n:Nat):Prop:=(m+n)*bytes≤140737488355328∧m+n≤140737488355328
instance (b m n:Nat):Decidable (aD b m n):=inferInstanceAs (Decidable (_∧_))
def yW:List X→List X→Option Bool
 |[],[]=>some true
 |.d (.v (.int k m))::xs,.d (.v (.int k' n))::ys=>if k=k' then(yW xs ys).map fun b=>decide (m=n)&&b else none
 |_,_=>none
def X.aggOf:X→Option (List X)
 |.agg cs=>some cs
 |_=>none
def Ec(s:ByteArray):List (List D):=s.data.toList.map fun b=>[.v (.int .u8 b.toNat)]
def D.du:D→D
 |.v x=> .v x
 |_=> .u
def X.du:X→X
 |.d (.r els)=> .d (.r (els.map fun el=>el.map D.du))
 |x=>x
def X.refOf:X→Option (Id×Path)
 |.ref id p=>some (id,p)
 |_=>none
def wV:List D→Bool
 |[.v _]=>true
 |_=>false
def opS(C:Cl)(st:St)(d:Option Nat)(id:Nat):SOp→Option St
 |.mov x=>(rdO st x).map (st.put d)
 |.pick c a b=>(rdB st c).bind fun t=>if t then(rdO st a).map (st.put d) else(rdO st b).map (st.put d)
 |.ari b x y=>(rdI st x).bind fun m=>(rdI st y).bind fun n=>if m.1=n.1 then(zyU b m.1 m.2 n.2).map fun z=>st.put d (.d (.v (.int m.1 z))) else none
 |.cmp b x y=>(rdO st x).bind fun m=>(rdO st y).bind fun n=>(zJo b m n).map fun z=>st.put d (.d (.v (.bool z)))
 |.cmpb b x y=>(rdB st x).bind fun m=>(rdB st y).bind fun n=>(zxT b m n).map fun z=>st.put d (.d (.v (.bool z)))
 |.cat x y=>(rdS st x).bind fun a=>(rdS st y).bind fun b=>if aE a b then some (st.put d (.d (.v (.string (a++b))))) else none
 |.neg x=>(rdI st x).map fun m=>st.put d (.d (.v (.int m.1 (m.1.wrap (0-m.2)))))
 |.not x=>(rdB st x).map fun b=>st.put d (.d (.v (.bool !b)))
 |.conv k x=>(rdI st x).map fun m=>st.put d (.d (.v (.int k (k.wrap m.2))))
 |.rune x=>(rdI st x).map fun m=>st.put d (.d (.v (.string (Utf8.encode m.2))))
 |.bos x=>(rdS st x).bind fun s=>if aD 1 0 s.size then some (st.put d (.d (.r (Ec s)))) else none
 |.idxb _ x y=>(rdS st x).bind fun s=>(rdI st y).bind fun m=>if m.1= .u8 then some (st.put d (.d (.v (.int .i64 (Lib.indexByte s.data.toList m.2.toNat.toUInt8))))) else none
 |.sob x=>(rdO st x).bind fun a=>(Ak st.heap a).bind fun ns=>if ns.isEmpty then none else some (st.put d (.d (.v (.string (zwI ns)))))
 |.fld off n x=>(rdO st x).bind fun a=>match a with
  |.agg cs=>(zzV off n cs).map (st.put d)
  |_=>none
 |.faddr off x=>(rdO st x).bind fun a=>(zO off a).map (st.put d)
 |.ixa sz x i=>(rdO st x).bind fun a=>(rdI st i).bind fun n=>(Po st.heap sz n.2 a).map (st.put d)
 |.ixs x i=>(rdS st x).bind fun s=>(rdI st i).bind fun n=>if 0≤n.2 then(s[n.2.toNat]?).map fun b=>st.put d (.d (.v (.int .u8 b.toNat))) else none
 |.load n x=>(rdO st x).bind fun a=>(oN st.heap (n.getD 1) a).bind fun cs=>(uK n cs).map (st.put d)
 |.store n x y=>(rdO st x).bind fun a=>(rdO st y).bind fun b=>(if 10000≤n then qY st n x a b else sT st n a b.cells).map fun s=>s.lose d
 |.box n x=>(rdO st x).bind fun a=>(iZ st.heap a.cells).bind fun b=>if b.1.length=n then
   some ((st.with (upd b.2 (st.fr,id) (some (.s n [b.1])))).put d (.ptr (st.fr,id) [] 0 0)) else none
 |.mm mx x y=>(rdI st x).bind fun m=>(rdI st y).bind fun n=>if m.1=n.1 then some (st.put d (.d (.v (.int m.1 (if mx then(if m.2<n.2 then n.2 else m.2) else(if n.2<m.2 then n.2 else m.2)))))) else none
 |.eqa ng k x y=>(rdO st x).bind fun a=>(rdO st y).bind fun b=>(a.aggOf).bind fun cs=>(b.aggOf).bind fun ds=>(yW cs ds).bind fun z=>if cs.length=k then some (st.put d (.d (.v (.bool (if ng then !z else z))))) else none
 |.vbox n x=>(rdO st x).bind fun a=>(a.cellsV).bind fun cs=>if cs.length=n then some (st.put d (.vp cs)) else none
 |.alloc zs=>some ((st.with (upd st.heap (st.fr,id) (some (.s zs.length [zs])))).put d (.ptr (st.fr,id) [] 0 0))
 |.build zs parts=>(mS st (zs.map .d) parts).map fun cs=>st.put d (.agg cs)
 |.lit sz parts=>(eS st sz st.heap parts).map fun a=>(st.with (upd a.2 (st.fr,id) (some (.s sz a.1)))).put d (.ref (st.fr,id) [])
 |.mk sz bytes zs n=>(rdI st n).bind fun m=>if aF bytes m.2∧zs.length=sz then
   some ((st.with (upd st.heap (st.fr,id) (some (.s sz (List.replicate m.2.toNat zs))))).put d (.ref (st.fr,id) [])) else none
 |.cutr sz x lo hi=>(rdO st x).bind fun a=>match a with
  |.d (.r els)=>(bN st 0 lo).bind fun l=>(bN st (els.length:Int) hi).bind fun h=>if 0≤l∧l≤h∧h≤(els.length:Int)∧els.all (fun el=>el.length==sz)=true then some (st.put d (.d (.r ((els.take h.toNat).drop l.toNat)))) else none
  |_=>none
 |.cutm sz x lo hi=>(rdO st x).bind fun a=>(bN st 0 lo).bind fun l=>(i7 st.heap sz a).bind fun m=>(bN st (m.1.length:Int) hi).bind fun h =>
   if 0≤l∧l≤h∧h≤(m.1.length:Int)∧(l=0∨l<h) then some ((st.with (upd m.2 (st.fr,id) (some (.s sz ((m.1.take h.toNat).drop l.toNat))))).put d (.ref (st.fr,id) [])) else none
 |.cutS x lo hi=>(rdS st x).bind fun s=>(bN st 0 lo).bind fun l=>(bN st (s.size:Int) hi).bind fun h=>if 0≤l∧l≤h∧h≤(s.size:Int) then some (st.put d (.d (.v (.string (s.extract l.toNat h.toNat))))) else none
 |.clr x=>if d.isSome=true then none else(rdO st x).bind fun a=>(a.refOf).bind fun ip=>(st.heap.row ip.1 ip.2).bind fun r=>if r.1=1∧r.2.all wV=true then(st.heap.put ip.1 ip.2 (.s 1 (List.replicate r.2.length [.v (.bool false)]))).map st.with else none
 |.slen x=>(rdS st x).map fun s=>st.put d (.d (.v (.int .i64 (s.size:Int))))
 |.len x=>(rdO st x).bind fun a=>(Pf st.heap a).map fun (n:Nat)=>st.put d (.d (.v (.int .i64 (n:Int))))
 |.app sz bytes x y=>(rdO st x).bind fun a=>(rdO st y).bind fun b=>(i7 st.heap sz a).bind fun l=>(pD l.2 b).bind fun m =>
   if aD bytes l.1.length m.1.length∧m.1.all (fun el=>el.length==sz) then
    some ((st.with (upd m.2 (st.fr,id) (some (.s sz (l.1++m.1))))).put d (.ref (st.fr,id) [])) else none
 |.fn f caps=>(mF st caps).map fun xs=>st.put d (if xs.isEmpty then .d (.v (.func (.func f) #[] #[])) else .clo f xs)
 |.call f xs=>(mF st xs).bind fun as=>(kV st.heap as).bind fun bs=>(C.iso f bs).bind fun r=>if iY as||r.noR then kP st d id r st.heap else none
 |.callr f xs=>(mF st xs).bind fun as=>(kV st.heap as).bind fun bs=>(C.iso f bs).bind fun r=>if iY as||r.noR then some (st.put d r.frz) else none
 |.callu f xs=>(mF st xs).bind fun as=>(kV st.heap as).bind fun bs=>(C.iso f (bs.map X.du)).bind fun r=>if iY as||r.noR then some (st.put d r.frz) else none
 |.calli f xs=>(rdO st f).bind fun c=>(Et c).bind fun g=>(mF st xs).bind fun as=>(C g.1 (as++g.2) st.heap (st.fr+1)).bind fun r=>kP {st with env:=qJ st.env} d id r.1 r.2
 |.callb f xs bs=>(mF st xs).bind fun as=>(rS st.heap 0 as bs).bind fun m=>(oI m.2.1 m.1 bs).bind fun ys=>(C.give f ys (Cx 0 m.2.2) 1).bind fun r =>
   if (rY m.2.2&&r.1.noP&&(roF as bs||(r.1.noR&&Zg r.2 0 m.2.2)))=true then(Al m.2.1 r.2 0 m.2.2).bind fun h2=>kP {st with env:=rO m.2.2 st.env} d id r.1 h2 else none
 |.ext x i=>(rdO st x).bind fun a=>match a with
  |.tup cs=>(cs[i]?).map (st.put d)
  |_=>none
 |.nck x=>(rdO st x).bind fun a=>(xO a).map (st.put d)
def gX:X→Option (Option Bool)
 |.d (.v (.bool b))=>some (some b)
 |.tup []=>some none
 |_=>none
def itS(C:Cl)(st:St)(id:Nat)(it:SItem):Option St:=match it.g with
 |none=>opS C st it.d id it.o
 |some (s,b)=>((st.env s).bind gX).bind fun c=>if c=some b then opS C st it.d id it.o else some (st.put it.d (.tup []))
def mI(C:Cl)(st:St):Nat→List SItem→Option St
 |i,[]=>some {st with next:=st.next+i}
 |i,it::l=>(itS C st (st.next+i) it).bind fun st'=>mI C st' (i+32) l
noncomputable def reK (st:St) (d:Option Nat) (s2:St):Option Unit:=match d with
 |none=>some ()
 |some d=>open Classical in if s2.env d=st.env d then some () else none
noncomputable def reS (C:Cl) (st:St):List SItem→Option Unit
 |[]=>some ()
 |x::l=>((itS C st 0 x).bind (reK st x.d)).bind fun _=>reS C st l
noncomputable def opsD (C:Cl) (b:Nat):List DItem→St→Option St
 |[],st=>some st
 |y::l,st=>(itS C st (b+32*y.ix) y.it).bind fun s=>(reS C s y.re).bind fun _=>opsD C b l s
def X.elsOf(h:Heap):X→Option (List (List D))
 |.d (.r els)=>some els
 |.ref id p=>(h.row id p).map fun r=>r.2
 |_=>none
def X.rowId:X→Option Id
 |.ref id []=>some id
 |_=>none
def Gk(st:St)(sz:Nat)(els:List (List D))(s:St):Option (Ex×St):=((s.env 2).bind X.rowId).bind fun id=>((s.heap id).bind D.rowOf).bind fun r =>
 if r.1=sz∧(els.isEmpty=true→r.2.isEmpty=true)∧id.1=st.fr∧st.next+64≤id.2∧id.2<s.next then some (.ret,{env:=upd emp 2 (some (.ref id [])),heap:=upd emp id (some (.s r.1 r.2)),fr:=st.fr,next:=s.next}) else none
def jM(st:St)(x:X):St:={env:=upd emp 0 (some x),heap:=st.heap,fr:=st.fr,next:=st.next+32}
def kid(fr:Nat)(m:List (Nat×Nat))(id:Id):Id:=if id.1=fr then(fr,((m.find? fun a=>a.1==id.2).map fun a=>a.2).getD 0) else id
def X.offC(fr:Nat):X→List Nat
 |.ref id _=>if id.1=fr then [id.2] else []
 |.ptr id _ _ _=>if id.1=fr then [id.2] else []
 |_=>[]
def Fh(fr:Nat):List X→List Nat
 |[]=>[]
 |x::xs=>x.offC fr++Fh fr xs
def X.offs(fr:Nat):X→List Nat
 |.agg cs=>Fh fr cs
 |.vp cs=>Fh fr cs
 |.clo _ cs=>Fh fr cs
 |x=>x.offC fr
def X.renC(f:Id→Id):X→X
 |.ref id p=> .ref (f id) p
 |.ptr id q j i=> .ptr (f id) q j i
 |x=>x
def X.ren(f:Id→Id):X→X
 |.agg cs=> .agg (cs.map (X.renC f))
 |.vp cs=> .vp (cs.map (X.renC f))
 |.clo n cs=> .clo n (cs.map (X.renC f))
 |x=>x.renC f
def X.flat:X→Bool
 |.tup _=>false
 |.agg _=>false
 |.vp _=>false
 |.clo _ _=>false
 |_=>true
def X.keeps:X→Bool
 |.tup _=>false
 |.agg cs=>cs.all X.flat
 |.vp cs=>cs.all X.flat
 |.clo _ cs=>cs.all X.flat
 |_=>true
def Im(m:List (Nat×Nat)):List Nat→List (Nat×Nat)
 |[]=>m
 |o::os=>if (m.find? fun a=>a.1==o).isSome then Im m os else Im (m++[(o,m.length)]) os
def fX(st:St)(m:List (Nat×Nat)):List Nat→List (Nat×Nat)
 |[]=>m
 |t::ts=>match st.env t with
  |some x=>if x.keeps then fX st (Im m (x.offs st.fr)) ts else fX st m ts
  |none=>fX st m ts
def m3(st:St)(m:List (Nat×Nat)):List Nat→Env
 |[]=>emp
 |t::ts=>match st.env t with
  |some x=>if x.keeps then upd (m3 st m ts) t (some (x.ren (kid st.fr m))) else m3 st m ts
  |none=>m3 st m ts
def Hx(fr:Nat)(h:Heap):List (Nat×Nat)→Heap
 |[]=>a8 fr h
 |(o,n)::m=>upd (Hx fr h m) (fr,n) (h (fr,o))
def mD(L:List Nat)(st:St):St :=
 {env:=m3 st (fX st [] L) L,heap:=Hx st.fr st.heap (fX st [] L),fr:=st.fr,next:=(fX st [] L).length}
def D.ice:D→D
 |.s _ els=> .r (fzs els)
 |x=>x
def zQ9(id:Id)(st:St):Option D→St
 |some (.s sz els)=>{st with heap:=upd st.heap id (some (.s sz (els.map fun el=>el.map D.ice)))}
 |_=>st
def zQQ(st:St):Option X→St
 |some (.ptr id [] _ _)=>if id.1=0 then zQ9 id st (st.heap id) else st
 |_=>st
def zz5(t:Nat)(st:St):St:=if st.fr=0 then zQQ st (st.env t) else st
def zZ3(t:Nat)(id:Id)(st:St):Option D→St
 |some (.s _ [el])=>{st with env:=upd st.env t (some (.rop (fzl el))),heap:=upd st.heap id none}
 |_=>st
def zZc(t:Nat)(id:Id)(st:St):Option D→St
 |some (.s _ els)=>{st with env:=upd st.env t (some (.d (.r (fzs els)))),heap:=upd st.heap id none}
 |_=>st
def zvM(t:Nat)(st:St):Option X→St
 |some (.ptr id [] 0 0)=>if id.1=0 then zZ3 t id st (st.heap id) else st
 |some (.ref id [])=>if id.1=0 then zZc t id st (st.heap id) else st
 |_=>st
def zz0(t:Nat)(st:St):St:=if st.fr=0 then zvM t st (st.env t) else st
def uN:List Nat→St→St
 |[],st=>mD [] st
 |t::L,st=>if 20000≤t then mD L (zz0 (t-20000) st) else if 10000≤t then mD L (zz5 (t-10000) st) else mD (t::L) st
def Db:List (List D)→Option (List Int)
 |[]=>some []
 |[.v (.int .i64 z)]::els=>(Db els).map fun zs=>z::zs
 |_=>none
def E5(zs:List Int):List (List D):=zs.map fun z=>[.v (.int .i64 z)]
def zWB(r:Nat×List (List D)):Option (List Int):=if r.1=1∧r.2.length≤1000000000 then Db r.2 else none
def T7(zs:List Int)(j:Nat):Bool:=decide (j=0∨zs[j]! ≠ zs[j-1]!)
def Ki(zs:List Int):List Int:=((List.range zs.length).filter (T7 zs)).map fun j=>zs[j]!
def jY(n:Nat)(zs:List Int):List Int:=if n=1 then zs.mergeSort (fun x y=>decide (x≤y)) else Ki zs
def zXJ:Option X→Option X→Bool
 |some (.d (.s _ [])),some (.d (.v (.int .i64 n)))=>decide (0≤n)&&decide (n≤1000000000)
 |_,_=>false
def zxP(st:St):Option (Ex×St):=if zXJ (st.env 0) (st.env 1)=true then some (.ret,{env:=upd emp 0 (some (.ref (st.fr,0) [])),heap:=upd st.heap (st.fr,0) (some (.s 1 [])),fr:=st.fr,next:=st.next}) else none
def libS(n:Nat)(st:St):Option (Ex×St):=if n=3 then zxP st else((st.env 0).bind X.rowId).bind fun id=>(((st.heap id).bind D.rowOf).bind zWB).map fun zs =>
 (.ret,{env:=if n=1 then emp else upd emp 0 (some (.ref (st.fr,0) [])),heap:=upd (upd st.heap id none) (if n=1 then id else(st.fr,0)) (some (.s 1 (E5 (jY n zs)))),fr:=st.fr,next:=st.next})
def jQ:Nat→List X→Env
 |_,[]=>emp
 |i,x::xs=>upd (jQ (i+1) xs) i (some x)
def fT(st:St):List SRes→Option (List X)
 |[]=>some []
 |.t n::rs=>(st.env n).bind fun x=>(fT st rs).map fun xs=>x::xs
 |.c n k::rs=>((st.env n).bind fun a=>(oN st.heap (k.getD 1) a).bind (uK k)).bind fun x=>(fT st rs).map fun xs=>x::xs
mutual
noncomputable def ev (Φ:Nat→Option SFn):Nat→SCode→St→Option (Ex×St)
 |0,_,_=>none
 |k+1,c,st=>match c with
  |.skip=>some (.nor,st)
  |.ops l=>(mI (evC Φ k) st 0 l).map fun s=>(.nor,s)
  |.opsd l=>(opsD (evC Φ k) st.next l st).map fun s=>(.nor,{s with next:=st.next+32*l.length})
  |.clone sz l=>(st.env 0).bind fun x=>(x.elsOf st.heap).bind fun els=>(mI (evC Φ k) (jM st x) 0 l).bind (Gk st sz els)
  |.seq a b=>(ev Φ k a st).bind fun r=>match r.1 with
   |.nor=>ev Φ k b r.2
   |x=>some (x,r.2)
  |.cond o a b=>(rdB st o).bind fun t=>if t then ev Φ k a st else ev Φ k b st
  |.block id a=>(ev Φ k a st).map fun r=>(if r.1= .ext id then .nor else r.1,r.2)
  |.loop L a=>(ev Φ k a (uN L st)).bind fun r=>match r.1 with
   |.nor=>ev Φ k (.loop L a) r.2
   |x=>some (x,r.2)
  |.exit id=>some (.ext id,st)
  |.ret=>some (.ret,st)
  |.keep L=>some (.nor,uN L st)
  |.alt q a b=>if q st=true then ev Φ k a st else ev Φ k b st
  |.lib n=>libS n st
  |.stuck=>none
noncomputable def evC (Φ:Nat→Option SFn):Nat→Cl
 |0=>fun _ _ _ _=>none
 |k+1=>fun f args h fr=>(Φ f).bind fun fn=>if args.length=fn.np then
   (ev Φ k fn.code {env:=jQ 0 args,heap:=h,fr:=fr,next:=0}).bind fun r=>match r.1 with
    |.ext _=>none
    |_=>(fT r.2 fn.res).bind fun xs=>(oY fr r.2.heap xs).map fun b=>(nI b.1,a8 fr b.2)
  else none
end
abbrev iM(d x:Nat):SItem:=⟨some d,none,.mov (.t x)⟩
abbrev iF(d i x:Nat):SItem:=⟨some d,none,.faddr i (.t x)⟩
abbrev iL(d x:Nat):SItem:=⟨some d,none,.load none (.t x)⟩
abbrev iK(d n x:Nat):SItem:=⟨some d,none,.load (some n) (.t x)⟩
abbrev iO(d:Nat)(o:SOp):SItem:=⟨some d,none,o⟩
abbrev iT(d g:Nat)(o:SOp):SItem:=⟨some d,some (g,true),o⟩
abbrev iU(d g:Nat)(o:SOp):SItem:=⟨some d,some (g,false),o⟩
abbrev iN(o:SOp):SItem:=⟨none,none,o⟩
abbrev iE(d:Nat)(b:BinOp)(x:Nat)(n:Int):SItem:=⟨some d,none,.cmp b (.t x) (.c (.int .i64 n))⟩
abbrev iV(d:Nat)(b:BinOp)(x y:Nat):SItem:=⟨some d,none,.cmp b (.t x) (.t y)⟩
abbrev sO(l:List SItem)(c:SCode):SCode:= .seq (.ops l) c
theorem oi{α:Type _}{a b:α}:(some a=some b)=(a=b):=Option.some.injEq a b
theorem la{α:Type _}{a b:List α}:(a++b).length=a.length+b.length:=List.length_append
theorem lc{α:Type _}{a:α}{b:List α}:(a::b).length=b.length+1:=List.length_cons
theorem ln{α:Type _}:([]:List α).length=0:=List.length_nil
theorem lm{α β:Type _}{f:α→β}{a:List α}:(a.map f).length=a.length:=List.length_map f
theorem sa{a b:ByteArray}:(a++b).size=a.size+b.size:=ByteArray.size_append
theorem bE{a b:Bool}:((a&&b)=true)=(a=true∧b=true):=Bool.and_eq_true a b
theorem zqa{α:Type _}{a:α}:[a].length=1:=rfl
theorem zqb{α β:Type _}{a c:α}{b d:β}:((a,b)=(c,d))=(a=c∧b=d):=Prod.mk.injEq a b c d
theorem zqc{α:Type _}{a b c:List α}:a++b++c=a++(b++c):=List.append_assoc a b c
theorem zqd{p:Prop}[Decidable p]:(decide p=true)=p:=decide_eq_true_eq
theorem zqe{α:Type _}{a:List α}:a++[]=a:=List.append_nil a
theorem zqf{α:Type _}{a:List α}:[]++a=a:=rfl
theorem bfa{a:Bool}:(false&&a)=false:=Bool.false_and a
theorem bta{a:Bool}:(true&&a)=a:=Bool.true_and a
theorem bat{a:Bool}:(a&&true)=a:=Bool.and_true a
theorem uH{a:Bool}:(a&&false)=false:=Bool.and_false a
theorem mc{α β:Type _}{f:α→β}{a:α}{b:List α}:(a::b).map f=f a::b.map f:=List.map_cons
theorem mn{α β:Type _}{f:α→β}:[].map f=[]:=List.map_nil
theorem obs{α β:Type _}{a:α}{f:α→Option β}:(some a).bind f=f a:=Option.bind_some a f
theorem oms{α β:Type _}{a:α}{f:α→β}:(some a).map f=some (f a):=Option.map_some a f
abbrev kI(n:Int):O:= .c (.int .i64 n)
abbrev kB(b:Bool):O:= .c (.bool b)
abbrev zI:D:= .v (.int .i64 0)
abbrev zS:D:= .v (.string ⟨#[]⟩)
end Go.Ev
