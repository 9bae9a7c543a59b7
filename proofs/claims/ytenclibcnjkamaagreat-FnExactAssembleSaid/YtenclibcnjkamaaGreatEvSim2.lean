import Derived.Test.YtenclibcnjkamaaGreatEvRow
set_option linter.all false
namespace Go.Ev
def z6U(id:Id)(q:Path)(j i n:Nat)(x:X):Option X:=if x.hit id q j i n then none else some x
theorem zJP(id:Id)(q:Path)(j i n:Nat)(e:Env)(t:Nat):purge id q j i n e t=(e t).bind (z6U id q j i n):=rfl
theorem z9z(id:Id)(q:Path)(j i n:Nat)(x:X):z6U id q j i n x=if x.hit id q j i n then none else some x:=rfl
def z98(L:dX)(x:X):Option X:=if zH x L then none else some x
theorem zZj(L:dX)(e:Env)(t:Nat):tI L e t=(e t).bind (z98 L):=rfl
theorem zJi(L:dX)(x:X):z98 L x=if zH x L then none else some x:=rfl
def z8h(x:X):Option X:=if x.root then some x else none
theorem zxd(e:Env)(t:Nat):tX e t=(e t).bind z8h:=rfl
theorem zJY(x:X):z8h x=if x.root then some x else none:=rfl
variable{C:Cl}{st:St}{d:Option Nat}{id:Nat}
def C0(st:St)(d:Option Nat)(a b:O)(t:Bool):Option St:=if t then(rdO st a).map (st.put d) else(rdO st b).map (st.put d)
theorem zXb(a b:O):C0 st d a b true=(rdO st a).map (st.put d):=rfl
theorem zXj(a b:O):C0 st d a b false=(rdO st b).map (st.put d):=rfl
theorem zYH(x:O):opS C st d id (.mov x)=(rdO st x).map (st.put d):=rfl
theorem zW7(c a b:O):opS C st d id (.pick c a b)=(rdB st c).bind (C0 st d a b):=rfl
def zQT(st:St)(d:Option Nat)(k:IntKind)(z:Int):St:=st.put d (.d (.v (.int k z)))
def zkf(st:St)(d:Option Nat)(z:Bool):St:=st.put d (.d (.v (.bool z)))
def z4F(st:St)(d:Option Nat)(z:ByteArray):St:=st.put d (.d (.v (.string z)))
theorem zYf(k:IntKind)(z:Int):zQT st d k z=st.put d (.d (.v (.int k z))):=rfl
theorem zX3(z:Bool):zkf st d z=st.put d (.d (.v (.bool z))):=rfl
theorem zXV(z:ByteArray):z4F st d z=st.put d (.d (.v (.string z))):=rfl
def zvL(st:St)(d:Option Nat)(b:BinOp)(m n:IntKind×Int):Option St:=if m.1=n.1 then(zZK b m.1 m.2 n.2).map (zQT st d m.1) else none
def z66(st:St)(d:Option Nat)(b:BinOp)(y:O)(m:IntKind×Int):Option St:=(rdI st y).bind (zvL st d b m)
theorem zYV(b:BinOp)(x y:O):opS C st d id (.ari b x y)=(rdI st x).bind (z66 st d b y):=rfl
theorem zYt(b:BinOp)(y:O)(m:IntKind×Int):z66 st d b y m=(rdI st y).bind (zvL st d b m):=rfl
theorem zQo(b:BinOp)(k:IntKind)(m n:Int):zvL st d b (k,m) (k,n)=(zZK b k m n).map (zQT st d k):=by unfold zvL;rw[if_pos rfl]
def zKg(st:St)(d:Option Nat)(b:BinOp)(m n:X):Option St:=(zV6 b m n).map (zkf st d)
def z6x(st:St)(d:Option Nat)(b:BinOp)(y:O)(m:X):Option St:=(rdO st y).bind (zKg st d b m)
theorem z9r(b:BinOp)(x y:O):opS C st d id (.cmp b x y)=(rdO st x).bind (z6x st d b y):=rfl
theorem z9i(b:BinOp)(y:O)(m:X):z6x st d b y m=(rdO st y).bind (zKg st d b m):=rfl
theorem zZL(b:BinOp)(m n:X):zKg st d b m n=(zV6 b m n).map (zkf st d):=rfl
def zkA(st:St)(d:Option Nat)(b:BinOp)(m n:Bool):Option St:=(zVE b m n).map (zkf st d)
def z8r(st:St)(d:Option Nat)(b:BinOp)(y:O)(m:Bool):Option St:=(rdB st y).bind (zkA st d b m)
theorem zVi(b:BinOp)(x y:O):opS C st d id (.cmpb b x y)=(rdB st x).bind (z8r st d b y):=rfl
theorem zJq(b:BinOp)(y:O)(m:Bool):z8r st d b y m=(rdB st y).bind (zkA st d b m):=rfl
theorem zxy(b:BinOp)(m n:Bool):zkA st d b m n=(zVE b m n).map (zkf st d):=rfl
def zQ6(st:St)(d:Option Nat)(a b:ByteArray):Option St:=if aE a b then some (st.put d (.d (.v (.string (a++b))))) else none
def z5X(st:St)(d:Option Nat)(y:O)(a:ByteArray):Option St:=(rdS st y).bind (zQ6 st d a)
theorem zY5(x y:O):opS C st d id (.cat x y)=(rdS st x).bind (z5X st d y):=rfl
theorem zYI(y:O)(a:ByteArray):z5X st d y a=(rdS st y).bind (zQ6 st d a):=rfl
theorem zKS{a b:ByteArray}(h:aE a b):zQ6 st d a b=some (st.put d (.d (.v (.string (a++b))))):=if_pos h
def z5K(st:St)(d:Option Nat)(m:IntKind×Int):St:=st.put d (.d (.v (.int m.1 (m.1.wrap (0-m.2)))))
theorem zYg(x:O):opS C st d id (.neg x)=(rdI st x).map (z5K st d):=rfl
theorem zYC(k:IntKind)(m:Int):z5K st d (k,m)=st.put d (.d (.v (.int k (k.wrap (0-m))))):=rfl
def z6D(st:St)(d:Option Nat)(b:Bool):St:=st.put d (.d (.v (.bool !b)))
theorem zXM(x:O):opS C st d id (.not x)=(rdB st x).map (z6D st d):=rfl
theorem zYR(b:Bool):z6D st d b=st.put d (.d (.v (.bool !b))):=rfl
def z8F(st:St)(d:Option Nat)(k:IntKind)(m:IntKind×Int):St:=st.put d (.d (.v (.int k (k.wrap m.2))))
theorem zVK(k:IntKind)(x:O):opS C st d id (.conv k x)=(rdI st x).map (z8F st d k):=rfl
theorem zKu(k k':IntKind)(m:Int):z8F st d k (k',m)=st.put d (.d (.v (.int k (k.wrap m)))):=rfl
def z8H(st:St)(d:Option Nat)(m:IntKind×Int):St:=st.put d (.d (.v (.string (Utf8.encode m.2))))
theorem zJ3(x:O):opS C st d id (.rune x)=(rdI st x).map (z8H st d):=rfl
theorem zVl(k:IntKind)(m:Int):z8H st d (k,m)=st.put d (.d (.v (.string (Utf8.encode m)))):=rfl
def z5k(st:St)(d:Option Nat)(s:ByteArray):Option St:=if aF 1 0 s.size then some (st.put d (.d (.r (Gs s)))) else none
theorem z9q(x:O):opS C st d id (.bos x)=(rdS st x).bind (z5k st d):=rfl
theorem z9y(s:ByteArray):z5k st d s=if aF 1 0 s.size then some (st.put d (.d (.r (Gs s)))) else none:=rfl
def zqu(st:St)(d:Option Nat)(s:ByteArray)(m:IntKind×Int):Option St:=if m.1= .u8 then some (st.put d (.d (.v (.int .i64 (Lib.indexByte s.data.toList m.2.toNat.toUInt8))))) else none
def z8t(st:St)(d:Option Nat)(y:O)(s:ByteArray):Option St:=(rdI st y).bind (zqu st d s)
theorem zKV(f:Nat)(x y:O):opS C st d id (.idxb f x y)=(rdS st x).bind (z8t st d y):=rfl
theorem zKt(y:O)(s:ByteArray):z8t st d y s=(rdI st y).bind (zqu st d s):=rfl
theorem zxP(s:ByteArray)(n:Int):zqu st d s (.u8,n)=some (st.put d (.d (.v (.int .i64 (Lib.indexByte s.data.toList n.toNat.toUInt8))))):=rfl
def zZW(st:St)(d:Option Nat)(ns:List Int):Option St:=if ns.isEmpty then none else some (st.put d (.d (.v (.string (X4 ns)))))
def z5C(st:St)(d:Option Nat)(a:X):Option St:=(Cj st.heap a).bind (zZW st d)
theorem z9U(x:O):opS C st d id (.sob x)=(rdO st x).bind (z5C st d):=rfl
theorem zXq(a:X):z5C st d a=(Cj st.heap a).bind (zZW st d):=rfl
theorem zZ5(n:Int)(ns:List Int):zZW st d (n::ns)=some (st.put d (.d (.v (.string (X4 (n::ns)))))):=rfl
def z6p(st:St)(d:Option Nat)(off:Nat)(n:Option Nat):X→Option St
 |.agg cs=>(zqG off n cs).map (st.put d)
 |_=>none
theorem zYj(off:Nat)(n:Option Nat)(x:O):opS C st d id (.fld off n x)=(rdO st x).bind (z6p st d off n):=by
 simp only[opS]
 congr 1
theorem zXJ(off:Nat)(n:Option Nat)(cs:List X):z6p st d off n (.agg cs)=(zqG off n cs).map (st.put d):=rfl
def zVT(st:St)(d:Option Nat)(off:Nat)(a:X):Option St:=(Dx off a).map (st.put d)
theorem zyW(off:Nat)(x:O):opS C st d id (.faddr off x)=(rdO st x).bind (zVT st d off):=rfl
theorem zwz(off:Nat)(a:X):zVT st d off a=(Dx off a).map (st.put d):=rfl
def zJ9(st:St)(d:Option Nat)(sz:Nat)(a:X)(n:IntKind×Int):Option St:=(Rq st.heap sz n.2 a).map (st.put d)
def z5R(st:St)(d:Option Nat)(sz:Nat)(i:O)(a:X):Option St:=(rdI st i).bind (zJ9 st d sz a)
theorem z9W(sz:Nat)(x i:O):opS C st d id (.ixa sz x i)=(rdO st x).bind (z5R st d sz i):=rfl
theorem zYJ(sz:Nat)(i:O)(a:X):z5R st d sz i a=(rdI st i).bind (zJ9 st d sz a):=rfl
theorem zKp(sz:Nat)(a:X)(k:IntKind)(n:Int):zJ9 st d sz a (k,n)=(Rq st.heap sz n a).map (st.put d):=rfl
def zYc(st:St)(d:Option Nat)(b:UInt8):St:=st.put d (.d (.v (.int .u8 b.toNat)))
def zWP(st:St)(d:Option Nat)(s:ByteArray)(n:IntKind×Int):Option St:=if 0≤n.2 then(s[n.2.toNat]?).map (zYc st d) else none
def z6z(st:St)(d:Option Nat)(i:O)(s:ByteArray):Option St:=(rdI st i).bind (zWP st d s)
theorem zXz(x i:O):opS C st d id (.ixs x i)=(rdS st x).bind (z6z st d i):=rfl
theorem zYw(i:O)(s:ByteArray):z6z st d i s=(rdI st i).bind (zWP st d s):=rfl
theorem zVd(s:ByteArray)(k:IntKind)(n:Int):zWP st d s (k,n)=if 0≤n then(s[n.toNat]?).map (zYc st d) else none:=rfl
theorem zVS(b:UInt8):zYc st d b=st.put d (.d (.v (.int .u8 b.toNat))):=rfl
def zkX(st:St)(d:Option Nat)(n:Option Nat)(cs:List X):Option St:=(xD n cs).map (st.put d)
def z8E(st:St)(d:Option Nat)(n:Option Nat)(a:X):Option St:=(qG st.heap (n.getD 1) a).bind (zkX st d n)
theorem zJF(n:Option Nat)(x:O):opS C st d id (.load n x)=(rdO st x).bind (z8E st d n):=rfl
theorem zWx(n:Option Nat)(a:X):z8E st d n a=(qG st.heap (n.getD 1) a).bind (zkX st d n):=rfl
theorem zwO(n:Option Nat)(cs:List X):zkX st d n cs=(xD n cs).map (st.put d):=rfl
def zQP(st:St)(id:Id)(q:Path)(j i n:Nat)(el cs:List D)(h:Heap):St:={st with heap:=h,env:=if hZ ((el.drop i).take n)&&hZ cs then st.env else purge id q j i n st.env}
theorem zVa(id:Id)(q:Path)(j i n:Nat)(el cs:List D)(h:Heap):zQP st id q j i n el cs h={st with heap:=h,env:=if hZ ((el.drop i).take n)&&hZ cs then st.env else purge id q j i n st.env}:=rfl
def zJv(st:St)(id:Id)(q:Path)(j i n:Nat)(cs:List D)(h:Heap)(r:Nat×List (List D))(el:List D):Option St:=if i+n≤el.length then(h.put id q (.s r.1 (r.2.set j (setCells el i cs)))).map (zQP st id q j i n el cs) else none
theorem zVW(id:Id)(q:Path)(j i n:Nat)(cs:List D)(h:Heap)(r:Nat×List (List D))(el:List D):zJv st id q j i n cs h r el=if i+n≤el.length then(h.put id q (.s r.1 (r.2.set j (setCells el i cs)))).map (zQP st id q j i n el cs) else none:=rfl
def zJr(st:St)(id:Id)(q:Path)(j i n:Nat)(cs:List D)(h:Heap)(r:Nat×List (List D)):Option St:=(r.2[j]?).bind (zJv st id q j i n cs h r)
theorem zWb(id:Id)(q:Path)(j i n:Nat)(cs:List D)(h:Heap)(m:Nat)(els:List (List D)):zJr st id q j i n cs h (m,els)=(els[j]?).bind (zJv st id q j i n cs h (m,els)):=rfl
def zVX(st:St)(id:Id)(q:Path)(j i n:Nat)(b:List D×Heap):Option St:=if b.1.length=n then(b.2.row id q).bind (zJr st id q j i n b.1 b.2) else none
theorem zVI(id:Id)(q:Path)(j i n:Nat)(cs:List D)(h:Heap):zVX st id q j i n (cs,h)=if cs.length=n then(h.row id q).bind (zJr st id q j i n cs h) else none:=rfl
def Yg(st:St)(n:Nat)(a:X)(cs:List X):Option St:=match a with
 |.ptr id q j i=>(kX st.heap cs).bind (zVX st id q j i n)
 |_=>none
theorem zZo(n:Nat)(a:X)(cs:List X):wR st n a cs=Yg st n a cs:=by
 cases a<;>rfl
theorem zW1(n:Nat)(id:Id)(q:Path)(j i:Nat)(cs:List X):Yg st n (.ptr id q j i) cs=(kX st.heap cs).bind (zVX st id q j i n):=rfl
def zW3(d:Option Nat)(s:St):St:=s.lose d
theorem zK2(s:St):zW3 d s=s.lose d:=rfl
def Xe(st:St)(d:Option Nat)(n:Nat)(x:O)(a b:X):Option St:=(if 10000≤n then s7 st n x a b else Yg st n a b.cells).map (zW3 d)
def zQY(st:St)(d:Option Nat)(n:Nat)(x y:O)(a:X):Option St:=(rdO st y).bind (Xe st d n x a)
theorem zyg(n:Nat)(x y:O):opS C st d id (.store n x y)=(rdO st x).bind (zQY st d n x y):=by
 simp only[opS,zZo]
 rfl
theorem zxm(n:Nat)(x y:O)(a:X):zQY st d n x y a=(rdO st y).bind (Xe st d n x a):=rfl
theorem zkT(n:Nat)(x:O)(a b:X):Xe st d n x a b=(if 10000≤n then s7 st n x a b else Yg st n a b.cells).map (zW3 d):=rfl
theorem zxn(n:Nat)(o:O)(x y:X):s7 st n o x y=if 20000≤n then Yg st (n-20000) x y.dim.cells else vS st (n-10000) o x y:=rfl
theorem zxa(n t:Nat)(i:Id)(cs:List X):vS st n (.t t) (.ptr i [] 0 0) (.agg cs)=if st.fr=0∧cs.length=n then Eh st n t i cs (st.heap i) else none:=rfl
theorem zjo(n t:Nat)(i:Id)(cs:List X)(sz:Nat)(el:List D):Eh st n t i cs (some (.s sz [el]))=if el.length=n then some {env:=upd st.env t (some (.vp cs)),heap:=upd st.heap i none,fr:=st.fr,next:=st.next} else none:=rfl
def zVw(st:St)(d:Option Nat)(id n:Nat)(b:List D×Heap):Option St:=if b.1.length=n then some ((st.with (upd b.2 (st.fr,id) (some (.s n [b.1])))).put d (.ptr (st.fr,id) [] 0 0)) else none
def z6H(st:St)(d:Option Nat)(id n:Nat)(a:X):Option St:=(kX st.heap a.cells).bind (zVw st d id n)
theorem zYP(n:Nat)(x:O):opS C st d id (.box n x)=(rdO st x).bind (z6H st d id n):=rfl
theorem zXe(n:Nat)(a:X):z6H st d id n a=(kX st.heap a.cells).bind (zVw st d id n):=rfl
theorem zJ0(n:Nat)(cs:List D)(h:Heap):zVw st d id n (cs,h)=if cs.length=n then some ((st.with (upd h (st.fr,id) (some (.s n [cs])))).put d (.ptr (st.fr,id) [] 0 0)) else none:=rfl
def zqw(st:St)(d:Option Nat)(n:Nat)(cs:List X):Option St:=if cs.length=n then some (st.put d (.vp cs)) else none
def z8a(st:St)(d:Option Nat)(n:Nat)(a:X):Option St:=(a.cellsV).bind (zqw st d n)
theorem zZM(n:Nat)(x:O):opS C st d id (.vbox n x)=(rdO st x).bind (z8a st d n):=rfl
theorem zKw(n:Nat)(a:X):z8a st d n a=(a.cellsV).bind (zqw st d n):=rfl
theorem zwJ(n:Nat)(cs:List X):zqw st d n cs=if cs.length=n then some (st.put d (.vp cs)) else none:=rfl
def zw4(st:St)(d:Option Nat)(mx:Bool)(m n:IntKind×Int):Option St:=if m.1=n.1 then some (st.put d (.d (.v (.int m.1 (if mx then(if m.2<n.2 then n.2 else m.2) else(if n.2<m.2 then n.2 else m.2)))))) else none
def mmK(st:St)(d:Option Nat)(mx:Bool)(y:O)(m:IntKind×Int):Option St:=(rdI st y).bind (zw4 st d mx m)
theorem z7p(mx:Bool)(x y:O):opS C st d id (.mm mx x y)=(rdI st x).bind (mmK st d mx y):=rfl
theorem z79(mx:Bool)(y:O)(m:IntKind×Int):mmK st d mx y m=(rdI st y).bind (zw4 st d mx m):=rfl
theorem z7S(k:IntKind)(m n:Int):zw4 st d true (k,m) (k,n)=some (zQT st d k (if m<n then n else m)):=by unfold zw4;rw[if_pos rfl];rfl
theorem z8X(k:IntKind)(m n:Int):zw4 st d false (k,m) (k,n)=some (zQT st d k (if n<m then n else m)):=by unfold zw4;rw[if_pos rfl];rfl
def zwc(st:St)(d:Option Nat)(ng:Bool)(k:Nat)(cs:List X)(z:Bool):Option St:=if cs.length=k then some (st.put d (.d (.v (.bool (if ng then !z else z))))) else none
theorem zXl(k:Nat)(cs:List X)(z:Bool):zwc st d true k cs z=if cs.length=k then some (zkf st d !z) else none:=rfl
theorem zY1(k:Nat)(cs:List X)(z:Bool):zwc st d false k cs z=if cs.length=k then some (zkf st d z) else none:=rfl
def zWQ(st:St)(d:Option Nat)(ng:Bool)(k:Nat)(cs ds:List X):Option St:=(An cs ds).bind (zwc st d ng k cs)
theorem zZP(ng:Bool)(k:Nat)(cs ds:List X):zWQ st d ng k cs ds=(An cs ds).bind (zwc st d ng k cs):=rfl
def zWW(st:St)(d:Option Nat)(ng:Bool)(k:Nat)(b:X)(cs:List X):Option St:=(b.aggOf).bind (zWQ st d ng k cs)
theorem zVg(ng:Bool)(k:Nat)(b:X)(cs:List X):zWW st d ng k b cs=(b.aggOf).bind (zWQ st d ng k cs):=rfl
def zQ5(st:St)(d:Option Nat)(ng:Bool)(k:Nat)(a b:X):Option St:=(a.aggOf).bind (zWW st d ng k b)
theorem zQ3(ng:Bool)(k:Nat)(a b:X):zQ5 st d ng k a b=(a.aggOf).bind (zWW st d ng k b):=rfl
def z6V(st:St)(d:Option Nat)(ng:Bool)(k:Nat)(y:O)(a:X):Option St:=(rdO st y).bind (zQ5 st d ng k a)
theorem zYr(ng:Bool)(k:Nat)(x y:O):opS C st d id (.eqa ng k x y)=(rdO st x).bind (z6V st d ng k y):=rfl
theorem zX4(ng:Bool)(k:Nat)(y:O)(a:X):z6V st d ng k y a=(rdO st y).bind (zQ5 st d ng k a):=rfl
theorem zxE(cs:List X):X.aggOf (.agg cs)=some cs:=rfl
def zWe(m n:Int)(b:Bool):Bool:=decide (m=n)&&b
theorem zxY(m n:Int)(b:Bool):zWe m n b=(decide (m=n)&&b):=rfl
theorem zxh:An [] []=some true:=rfl
theorem zkl(k:IntKind)(m n:Int)(cs ds:List X):An (.d (.v (.int k m))::cs) (.d (.v (.int k n))::ds)=(An cs ds).map (zWe m n):=by rw[An,if_pos rfl];rfl
theorem zyL(zs:List D):opS C st d id (.alloc zs)=some ((st.with (upd st.heap (st.fr,id) (some (.s zs.length [zs])))).put d (.ptr (st.fr,id) [] 0 0)):=rfl
def z6o(st:St)(d:Option Nat)(cs:List X):St:=st.put d (.agg cs)
theorem zxO(zs:List D)(ps:List (Nat×Nat×O)):opS C st d id (.build zs ps)=(oQ st (zs.map .d) ps).map (z6o st d):=rfl
theorem zY3(cs:List X):z6o st d cs=st.put d (.agg cs):=rfl
def zq4(st:St)(cs:List X)(off n:Nat)(ps:List (Nat×Nat×O))(us:List X):Option (List X):=if us.length=n∧off+n≤cs.length then oQ st (Oz cs off us) ps else none
def z8y(st:St)(cs:List X)(off n:Nat)(ps:List (Nat×Nat×O))(x:X):Option (List X):=(x.cellsV).bind (zq4 st cs off n ps)
theorem zyG(cs:List X):oQ st cs []=some cs:=rfl
theorem zjR(cs:List X)(off n:Nat)(o:O)(ps:List (Nat×Nat×O)):oQ st cs ((off,n,o)::ps)=(rdO st o).bind (z8y st cs off n ps):=rfl
theorem zYb(cs:List X)(off n:Nat)(ps:List (Nat×Nat×O))(x:X):z8y st cs off n ps x=(x.cellsV).bind (zq4 st cs off n ps):=rfl
theorem zyR(cs:List X)(off n:Nat)(ps:List (Nat×Nat×O))(us:List X):zq4 st cs off n ps us=if us.length=n∧off+n≤cs.length then oQ st (Oz cs off us) ps else none:=rfl
def z6R(st:St)(d:Option Nat)(id sz:Nat)(a:List (List D)×Heap):St:=(st.with (upd a.2 (st.fr,id) (some (.s sz a.1)))).put d (.ref (st.fr,id) [])
theorem zXp(sz:Nat)(ps:List O):opS C st d id (.lit sz ps)=(gL st sz st.heap ps).map (z6R st d id sz):=rfl
theorem z90(sz:Nat)(els:List (List D))(h:Heap):z6R st d id sz (els,h)=(st.with (upd h (st.fr,id) (some (.s sz els)))).put d (.ref (st.fr,id) []):=rfl
def zZY(ds:List D)(b:List (List D)×Heap):List (List D)×Heap:=(ds::b.1,b.2)
theorem zQu(ds:List D)(els:List (List D))(h:Heap):zZY ds (els,h)=(ds::els,h):=rfl
def zJG(st:St)(sz:Nat)(os:List O)(a:List D×Heap):Option (List (List D)×Heap):=if a.1.length=sz then(gL st sz a.2 os).map (zZY a.1) else none
theorem zQp(sz:Nat)(os:List O)(ds:List D)(h:Heap):zJG st sz os (ds,h)=if ds.length=sz then(gL st sz h os).map (zZY ds) else none:=rfl
def z5v(st:St)(sz:Nat)(h:Heap)(os:List O)(x:X):Option (List (List D)×Heap):=(kX h x.cells).bind (zJG st sz os)
theorem zY6(sz:Nat)(h:Heap)(os:List O)(x:X):z5v st sz h os x=(kX h x.cells).bind (zJG st sz os):=rfl
theorem Yj(sz:Nat)(h:Heap):gL st sz h []=some ([],h):=rfl
theorem Xk(sz:Nat)(h:Heap)(o:O)(os:List O):gL st sz h (o::os)=(rdO st o).bind (z5v st sz h os):=rfl
def mkK(st:St)(d:Option Nat)(id sz bytes:Nat)(zs:List D)(m:IntKind×Int):Option St:=if aL bytes m.2∧zs.length=sz then some ((st.with (upd st.heap (st.fr,id) (some (.s sz (List.replicate m.2.toNat zs))))).put d (.ref (st.fr,id) [])) else none
theorem z7D(sz bytes:Nat)(zs:List D)(n:O):opS C st d id (.mk sz bytes zs n)=(rdI st n).bind (mkK st d id sz bytes zs):=rfl
theorem z8W(sz bytes:Nat)(zs:List D)(k:IntKind)(n:Int):mkK st d id sz bytes zs (k,n)=if aL bytes n∧zs.length=sz then some ((st.with (upd st.heap (st.fr,id) (some (.s sz (List.replicate n.toNat zs))))).put d (.ref (st.fr,id) [])) else none:=rfl
def zki(st:St)(d:Option Nat)(sz:Nat)(els:List (List D))(l h:Int):Option St:=if 0≤l∧l≤h∧h≤(els.length:Int)∧els.all (fun el=>el.length==sz)=true then some (st.put d (.d (.r ((els.take h.toNat).drop l.toNat)))) else none
def zjm(st:St)(d:Option Nat)(sz:Nat)(els:List (List D))(hi:Option O)(l:Int):Option St:=(cL st (els.length:Int) hi).bind (zki st d sz els l)
def z8w(st:St)(d:Option Nat)(sz:Nat)(lo hi:Option O):X→Option St
 |.d (.r els)=>(cL st 0 lo).bind (zjm st d sz els hi)
 |_=>none
theorem zVp(sz:Nat)(x:O)(lo hi:Option O):opS C st d id (.cutr sz x lo hi)=(rdO st x).bind (z8w st d sz lo hi):=by
 simp only[opS]
 congr 1
theorem zKJ(sz:Nat)(lo hi:Option O)(els:List (List D)):z8w st d sz lo hi (.d (.r els))=(cL st 0 lo).bind (zjm st d sz els hi):=rfl
theorem zZd(sz:Nat)(els:List (List D))(hi:Option O)(l:Int):zjm st d sz els hi l=(cL st (els.length:Int) hi).bind (zki st d sz els l):=rfl
theorem zyu(sz:Nat)(els:List (List D))(l h:Int):zki st d sz els l h=if 0≤l∧l≤h∧h≤(els.length:Int)∧els.all (fun el=>el.length==sz)=true then some (st.put d (.d (.r ((els.take h.toNat).drop l.toNat)))) else none:=rfl
def zj7(st:St)(d:Option Nat)(id sz:Nat)(l:Int)(els:List (List D))(hp:Heap)(h:Int):Option St:=if 0≤l∧l≤h∧h≤(els.length:Int)∧(l=0∨l<h) then some ((st.with (upd hp (st.fr,id) (some (.s sz ((els.take h.toNat).drop l.toNat))))).put d (.ref (st.fr,id) [])) else none
def zqO(st:St)(d:Option Nat)(id sz:Nat)(hi:Option O)(l:Int)(m:List (List D)×Heap):Option St:=(cL st (m.1.length:Int) hi).bind (zj7 st d id sz l m.1 m.2)
def zkq(st:St)(d:Option Nat)(id sz:Nat)(hi:Option O)(a:X)(l:Int):Option St:=(lA st.heap sz a).bind (zqO st d id sz hi l)
def z8p(st:St)(d:Option Nat)(id sz:Nat)(lo hi:Option O)(a:X):Option St:=(cL st 0 lo).bind (zkq st d id sz hi a)
def zV5(st:St)(id:Id)(p:Path)(r:Nat×List (List D)):Option St:=if r.1=1∧r.2.all Cv=true then(st.heap.put id p (.s 1 (List.replicate r.2.length [.v (.bool false)]))).map st.with else none
def z5T(st:St):X→Option St
 |.ref id p=>(st.heap.row id p).bind (zV5 st id p)
 |_=>none
theorem zXQ(x:O):opS C st none id (.clr x)=(rdO st x).bind (z5T st):=by
 simp only[opS,Option.isSome_none,Bool.false_eq_true,if_false]
 congr 1
 funext a
 cases a<;>rfl
theorem zXB(i:Id)(p:Path):z5T st (.ref i p)=(st.heap.row i p).bind (zV5 st i p):=rfl
theorem zV2(i:Id)(p:Path)(n:Nat)(els:List (List D)):zV5 st i p (n,els)=if n=1∧els.all Cv=true then(st.heap.put i p (.s 1 (List.replicate els.length [.v (.bool false)]))).map st.with else none:=rfl
theorem zKZ(sz:Nat)(x:O)(lo hi:Option O):opS C st d id (.cutm sz x lo hi)=(rdO st x).bind (z8p st d id sz lo hi):=rfl
theorem zWi(sz:Nat)(lo hi:Option O)(a:X):z8p st d id sz lo hi a=(cL st 0 lo).bind (zkq st d id sz hi a):=rfl
theorem zwq(sz:Nat)(hi:Option O)(a:X)(l:Int):zkq st d id sz hi a l=(lA st.heap sz a).bind (zqO st d id sz hi l):=rfl
theorem zxQ(sz:Nat)(hi:Option O)(l:Int)(els:List (List D))(hp:Heap):zqO st d id sz hi l (els,hp)=(cL st (els.length:Int) hi).bind (zj7 st d id sz l els hp):=rfl
theorem zx1(sz:Nat)(l:Int)(els:List (List D))(hp:Heap)(h:Int):zj7 st d id sz l els hp h=if 0≤l∧l≤h∧h≤(els.length:Int)∧(l=0∨l<h) then some ((st.with (upd hp (st.fr,id) (some (.s sz ((els.take h.toNat).drop l.toNat))))).put d (.ref (st.fr,id) [])) else none:=rfl
def zju(st:St)(d:Option Nat)(s:ByteArray)(l h:Int):Option St:=if 0≤l∧l≤h∧h≤(s.size:Int) then some (st.put d (.d (.v (.string (s.extract l.toNat h.toNat))))) else none
def zkU(st:St)(d:Option Nat)(s:ByteArray)(hi:Option O)(l:Int):Option St:=(cL st (s.size:Int) hi).bind (zju st d s l)
def z8D(st:St)(d:Option Nat)(lo hi:Option O)(s:ByteArray):Option St:=(cL st 0 lo).bind (zkU st d s hi)
theorem zQ1(x:O)(lo hi:Option O):opS C st d id (.cutS x lo hi)=(rdS st x).bind (z8D st d lo hi):=rfl
theorem zVz(lo hi:Option O)(s:ByteArray):z8D st d lo hi s=(cL st 0 lo).bind (zkU st d s hi):=rfl
theorem zZr(s:ByteArray)(hi:Option O)(l:Int):zkU st d s hi l=(cL st (s.size:Int) hi).bind (zju st d s l):=rfl
theorem zy1(s:ByteArray)(l h:Int):zju st d s l h=if 0≤l∧l≤h∧h≤(s.size:Int) then some (st.put d (.d (.v (.string (s.extract l.toNat h.toNat))))) else none:=rfl
def zJC(st:St)(d:Option Nat)(n:Nat):St:=st.put d (.d (.v (.int .i64 (n:Int))))
def z6q(st:St)(d:Option Nat)(a:X):Option St:=(Sb st.heap a).map (zJC st d)
theorem zYv(x:O):opS C st d id (.len x)=(rdO st x).bind (z6q st d):=rfl
theorem z9p(a:X):z6q st d a=(Sb st.heap a).map (zJC st d):=rfl
theorem zQE(n:Nat):zJC st d n=st.put d (.d (.v (.int .i64 (n:Int)))):=rfl
def z8j(st:St)(d:Option Nat)(s:ByteArray):St:=st.put d (.d (.v (.int .i64 (s.size:Int))))
theorem zWu(x:O):opS C st d id (.slen x)=(rdS st x).map (z8j st d):=rfl
theorem zVZ(s:ByteArray):z8j st d s=st.put d (.d (.v (.int .i64 (s.size:Int)))):=rfl
def zQK(st:St)(d:Option Nat)(id sz bytes:Nat)(l:List (List D))(m:List (List D)×Heap):Option St:=if aF bytes l.length m.1.length∧m.1.all (fun el=>el.length==sz) then some ((st.with (upd m.2 (st.fr,id) (some (.s sz (l++m.1))))).put d (.ref (st.fr,id) [])) else none
def zVq(st:St)(d:Option Nat)(id sz bytes:Nat)(b:X)(l:List (List D)×Heap):Option St:=(rA l.2 b).bind (zQK st d id sz bytes l.1)
def zJA(st:St)(d:Option Nat)(id sz bytes:Nat)(a b:X):Option St:=(lA st.heap sz a).bind (zVq st d id sz bytes b)
def z6Y(st:St)(d:Option Nat)(id sz bytes:Nat)(y:O)(a:X):Option St:=(rdO st y).bind (zJA st d id sz bytes a)
theorem z9O(sz bytes:Nat)(x y:O):opS C st d id (.app sz bytes x y)=(rdO st x).bind (z6Y st d id sz bytes y):=rfl
theorem zYd(sz bytes:Nat)(y:O)(a:X):z6Y st d id sz bytes y a=(rdO st y).bind (zJA st d id sz bytes a):=rfl
theorem zKK(sz bytes:Nat)(a b:X):zJA st d id sz bytes a b=(lA st.heap sz a).bind (zVq st d id sz bytes b):=rfl
theorem zWC(sz bytes:Nat)(b:X)(l:List (List D))(h:Heap):zVq st d id sz bytes b (l,h)=(rA h b).bind (zQK st d id sz bytes l):=rfl
theorem zJo(sz bytes:Nat)(l m:List (List D))(h:Heap):zQK st d id sz bytes l (m,h)=if aF bytes l.length m.length∧m.all (fun el=>el.length==sz) then some ((st.with (upd h (st.fr,id) (some (.s sz (l++m))))).put d (.ref (st.fr,id) [])) else none:=rfl
def fnK(st:St)(d:Option Nat)(f:Nat)(xs:List X):St:=st.put d (if xs.isEmpty then .d (.v (.func (.func f) #[] #[])) else .clo f xs)
theorem z84(f:Nat)(caps:List O):opS C st d id (.fn f caps)=(oF st caps).map (fnK st d f):=rfl
theorem fnK_eq(f:Nat)(xs:List X):fnK st d f xs=st.put d (if xs.isEmpty then .d (.v (.func (.func f) #[] #[])) else .clo f xs):=rfl
def zvG(st:St)(d:Option Nat)(id:Nat)(h:Heap)(x:X):Option St:=mU st d id x h
theorem zVO(h:Heap)(x:X):zvG st d id h x=if x.ncells≤32 then some ((st.with (x9 h (st.fr,id) x).2).put d (x9 h (st.fr,id) x).1) else none:=rfl
def zj9(st:St)(d:Option Nat)(id:Nat)(as:List X)(r:X):Option St:=if kL as||r.noR then mU st d id r st.heap else none
def zkY(C:Cl)(st:St)(d:Option Nat)(id f:Nat)(as bs:List X):Option St:=(C.iso f bs).bind (zj9 st d id as)
def z8e(C:Cl)(st:St)(d:Option Nat)(id f:Nat)(as:List X):Option St:=(m7 st.heap as).bind (zkY C st d id f as)
theorem zKo(f:Nat)(xs:List O):opS C st d id (.call f xs)=(oF st xs).bind (z8e C st d id f):=rfl
theorem zJS(f:Nat)(as:List X):z8e C st d id f as=(m7 st.heap as).bind (zkY C st d id f as):=rfl
theorem zxL(f:Nat)(as bs:List X):zkY C st d id f as bs=(C.iso f bs).bind (zj9 st d id as):=rfl
theorem zZz(as:List X)(r:X):zj9 st d id as r=if kL as||r.noR then zvG st d id st.heap r else none:=rfl
def Wq(st:St)(d:Option Nat)(as:List X)(r:X):Option St:=if kL as||r.noR then some (st.put d r.frz) else none
def Iu(C:Cl)(st:St)(d:Option Nat)(f:Nat)(as bs:List X):Option St:=(C.iso f bs).bind (Wq st d as)
def zVH(C:Cl)(st:St)(d:Option Nat)(f:Nat)(as:List X):Option St:=(m7 st.heap as).bind (Iu C st d f as)
theorem zyd(f:Nat)(xs:List O):opS C st d id (.callr f xs)=(oF st xs).bind (zVH C st d f):=rfl
def zVm(C:Cl)(st:St)(d:Option Nat)(f:Nat)(as:List X):Option St:=(m7 st.heap as).bind fun bs=>Iu C st d f as (bs.map X.du)
theorem zyN(f:Nat)(xs:List O):opS C st d id (.callu f xs)=(oF st xs).bind (zVm C st d f):=rfl
theorem zy6(f:Nat)(as:List X):zVm C st d f as=(m7 st.heap as).bind fun bs=>Iu C st d f as (bs.map X.du):=rfl
theorem zxw(f:Nat)(as:List X):zVH C st d f as=(m7 st.heap as).bind (Iu C st d f as):=rfl
theorem zky(f:Nat)(as bs:List X):Iu C st d f as bs=(C.iso f bs).bind (Wq st d as):=rfl
theorem zkH(as:List X)(r:X):Wq st d as r=if kL as||r.noR then some (st.put d r.frz) else none:=rfl
def Xl(st:St)(d:Option Nat)(id:Nat)(r:X×Heap):Option St:=mU {st with env:=tX st.env} d id r.1 r.2
def Wm(C:Cl)(st:St)(d:Option Nat)(id:Nat)(g:Nat×List X)(as:List X):Option St:=(C g.1 (as++g.2) st.heap (st.fr+1)).bind (Xl st d id)
def Wn(C:Cl)(st:St)(d:Option Nat)(id:Nat)(xs:List O)(g:Nat×List X):Option St:=(oF st xs).bind (Wm C st d id g)
def zZV(C:Cl)(st:St)(d:Option Nat)(id:Nat)(xs:List O)(c:X):Option St:=(Iw c).bind (Wn C st d id xs)
theorem zxl(f:O)(xs:List O):opS C st d id (.calli f xs)=(rdO st f).bind (zZV C st d id xs):=rfl
theorem zwY(xs:List O)(c:X):zZV C st d id xs c=(Iw c).bind (Wn C st d id xs):=rfl
theorem zqR(xs:List O)(g:Nat×List X):Wn C st d id xs g=(oF st xs).bind (Wm C st d id g):=rfl
theorem zqK(f:Nat)(caps as:List X):Wm C st d id (f,caps) as=(C f (as++caps) st.heap (st.fr+1)).bind (Xl st d id):=rfl
theorem zkW(r:X)(h:Heap):Xl st d id (r,h)=zvG {st with env:=tX st.env} d id h r:=rfl
def Ww(st:St)(d:Option Nat)(id:Nat)(L:dX)(r:X)(h2:Heap):Option St:=mU {st with env:=tI L st.env} d id r h2
def M4(st:St)(d:Option Nat)(id:Nat)(as:List X)(bs:List Bool)(h:Heap)(L:dX)(r:X×Heap):Option St :=
 if (uK L&&r.1.noP&&(roF as bs||(r.1.noR&&zzk r.2 0 L)))=true then(B6 h r.2 0 L).bind (Ww st d id L r.1) else none
def M3(C:Cl)(st:St)(d:Option Nat)(id f:Nat)(as:List X)(bs:List Bool)(h:Heap)(L:dX)(ys:List X):Option St:=(C.give f ys (Fi 0 L) 1).bind (M4 st d id as bs h L)
def z97(a:D×Heap):X×Heap:=(.d a.1,a.2)
theorem zV4(d:D)(h:Heap):z97 (d,h)=(.d d,h):=rfl
theorem zww(h:Heap)(id:Id)(p:Path):E0 h (.ref id p)=(h.take id p).map z97:=rfl
theorem z9Q(h:Heap)(x:D):E0 h (.d x)=some (.d x,h):=rfl
theorem zyc(h:Heap)(x:List X):E0 h (.agg x)=some (.agg x,h):=rfl
theorem zw9(h:Heap)(x:List X):E0 h (.tup x)=some (.tup x,h):=rfl
def zqL(st:St)(d:Option Nat)(id:Nat)(as:List X)(bs:List Bool)(h:Heap)(L:dX)(r:X×Heap):Option St:=(E0 r.2 r.1).bind (M4 st d id as bs h L)
theorem zxu(st:St)(d:Option Nat)(id:Nat)(as:List X)(bs:List Bool)(h:Heap)(L:dX)(r:X)(hB:Heap):zqL st d id as bs h L (r,hB)=(E0 hB r).bind (M4 st d id as bs h L):=rfl
def Vj(C:Cl)(st:St)(d:Option Nat)(id f:Nat)(as:List X)(bs:List Bool)(m:List X×Heap×dX):Option St:=(qD m.2.1 m.1 bs).bind (M3 C st d id f as bs m.2.1 m.2.2)
def zQ7(C:Cl)(st:St)(d:Option Nat)(id f:Nat)(bs:List Bool)(as:List X):Option St:=(t8 st.heap 0 as bs).bind (Vj C st d id f as bs)
theorem zyq(f:Nat)(xs:List O)(bs:List Bool):opS C st d id (.callb f xs bs)=(oF st xs).bind (zQ7 C st d id f bs):=rfl
theorem zZn(f:Nat)(bs:List Bool)(as:List X):zQ7 C st d id f bs as=(t8 st.heap 0 as bs).bind (Vj C st d id f as bs):=rfl
theorem zjH(f:Nat)(as:List X)(bs:List Bool)(xs:List X)(h:Heap)(L:dX):Vj C st d id f as bs (xs,h,L)=(qD h xs bs).bind (M3 C st d id f as bs h L):=rfl
theorem zqh(f:Nat)(as:List X)(bs:List Bool)(h:Heap)(L:dX)(ys:List X):M3 C st d id f as bs h L ys=(C f ys (Fi 0 L) 1).bind (zqL st d id as bs h L):=by unfold M3 Cl.give zqL;rw[Option.bind_assoc]
theorem zqt(as:List X)(bs:List Bool)(h:Heap)(L:dX)(r:X)(hB:Heap):M4 st d id as bs h L (r,hB)=if (uK L&&r.noP&&(roF as bs||(r.noR&&zzk hB 0 L)))=true then(B6 h hB 0 L).bind (Ww st d id L r) else none:=rfl
theorem zkr(L:dX)(r:X)(h2:Heap):Ww st d id L r h2=zvG {st with env:=tI L st.env} d id h2 r:=rfl
def z6w(st:St)(d:Option Nat)(i:Nat):X→Option St
 |.tup cs=>(cs[i]?).map (st.put d)
 |_=>none
theorem zYW(x:O)(i:Nat):opS C st d id (.ext x i)=(rdO st x).bind (z6w st d i):=by
 simp only[opS]
 congr 1
theorem zYn(i:Nat)(cs:List X):z6w st d i (.tup cs)=(cs[i]?).map (st.put d):=rfl
def z6L(st:St)(d:Option Nat)(a:X):Option St:=(zN a).map (st.put d)
theorem z9a(x:O):opS C st d id (.nck x)=(rdO st x).bind (z6L st d):=rfl
theorem zYE(a:X):z6L st d a=(zN a).map (st.put d):=rfl
def z95(r:Nat×List (List D)):X:= .d (.r (fzs r.2))
theorem zWB(sz:Nat)(e:List (List D)):z95 (sz,e)= .d (.r (fzs e)):=rfl
def z5i(a:D×Heap):X×Heap:=(.d a.1,a.2)
theorem z9Z(d:D)(h:Heap):z5i (d,h)=(.d d,h):=rfl
def z8m(a:List X×Heap):X×Heap:=(.agg a.1,a.2)
theorem zJN(d:List X)(h:Heap):z8m (d,h)=(.agg d,h):=rfl
def z7P(y:X)(i:Id)(p:Path)(a:D×Heap):X×Heap×dX:=(y,a.2,[(i,p,a.1)])
theorem z9J(y:X)(i:Id)(p:Path)(d:D)(h:Heap):z7P y i p (d,h)=(y,h,[(i,p,d)]):=rfl
def z8G(a:List X×Heap×dX):X×Heap×dX:=(.agg a.1,a.2)
theorem zVx(d:List X)(h:Heap)(L:dX):z8G (d,h,L)=(.agg d,h,L):=rfl
theorem zwD(c:D):X.cells (.d c)=[(.d c)]:=rfl
theorem zzq(cs:List X):X.cells (.agg cs)=cs:=rfl
theorem zza(cs:List X):X.cells (.tup cs)=[(.tup cs)]:=rfl
theorem Zz(i:Id)(p:Path):X.cells (.ref i p)=[(.ref i p)]:=rfl
theorem Yh(i:Id)(p:Path)(j k:Nat):X.cells (.ptr i p j k)=[(.ptr i p j k)]:=rfl
theorem zzi(ds:List D):X.cells (.rop ds)=[(.rop ds)]:=rfl
theorem zkB(cs:List X):X.cells (.vp cs)=[(.vp cs)]:=rfl
theorem Zo(f:Nat)(cs:List X):X.cells (.clo f cs)=[(.clo f cs)]:=rfl
theorem zqW(c:D):X.cellsV (.d c)=some [(.d c)]:=rfl
theorem V2(cs:List X):X.cellsV (.agg cs)=some cs:=rfl
theorem Xx(cs:List X):X.cellsV (.tup cs)=none:=rfl
theorem Vw(i:Id)(p:Path):X.cellsV (.ref i p)=some [(.ref i p)]:=rfl
theorem W8(i:Id)(p:Path)(j k:Nat):X.cellsV (.ptr i p j k)=some [(.ptr i p j k)]:=rfl
theorem Vy(ds:List D):X.cellsV (.rop ds)=some [(.rop ds)]:=rfl
theorem Zb(cs:List X):X.cellsV (.vp cs)=some [(.vp cs)]:=rfl
theorem Wz(f:Nat)(cs:List X):X.cellsV (.clo f cs)=some [(.clo f cs)]:=rfl
theorem zVo(id:Id)(q:Path)(a b n:Nat)(c:D):X.hitC id q a b n (.d c)=false:=rfl
theorem zqo(id:Id)(q:Path)(a b n:Nat)(cs:List X):X.hitC id q a b n (.agg cs)=true:=rfl
theorem zqC(id:Id)(q:Path)(a b n:Nat)(cs:List X):X.hitC id q a b n (.tup cs)=true:=rfl
theorem zqn(id:Id)(q:Path)(a b n:Nat)(i:Id)(p:Path):X.hitC id q a b n (.ref i p)=(i==id&&Path.under q a b n p):=rfl
theorem zkQ(id:Id)(q:Path)(a b n:Nat)(i:Id)(p:Path)(j k:Nat):X.hitC id q a b n (.ptr i p j k)=(i==id&&Path.under q a b n p):=rfl
theorem zqv(id:Id)(q:Path)(a b n:Nat)(ds:List D):X.hitC id q a b n (.rop ds)=false:=rfl
theorem zx4(id:Id)(q:Path)(a b n:Nat)(cs:List X):X.hitC id q a b n (.vp cs)=true:=rfl
theorem zqp(id:Id)(q:Path)(a b n:Nat)(f:Nat)(cs:List X):X.hitC id q a b n (.clo f cs)=true:=rfl
theorem zXE(id:Id)(q:Path)(a b n:Nat)(c:D):X.hit id q a b n (.d c)=X.hitC id q a b n (.d c):=rfl
theorem zyZ(id:Id)(q:Path)(a b n:Nat)(cs:List X):X.hit id q a b n (.agg cs)=Y0 id q a b n cs:=rfl
theorem zZy(id:Id)(q:Path)(a b n:Nat)(cs:List X):X.hit id q a b n (.tup cs)=true:=rfl
theorem zyK(id:Id)(q:Path)(a b n:Nat)(i:Id)(p:Path):X.hit id q a b n (.ref i p)=X.hitC id q a b n (.ref i p):=rfl
theorem zxs(id:Id)(q:Path)(a b n:Nat)(i:Id)(p:Path)(j k:Nat):X.hit id q a b n (.ptr i p j k)=X.hitC id q a b n (.ptr i p j k):=rfl
theorem zwE(id:Id)(q:Path)(a b n:Nat)(ds:List D):X.hit id q a b n (.rop ds)=X.hitC id q a b n (.rop ds):=rfl
theorem zQd(id:Id)(q:Path)(a b n:Nat)(cs:List X):X.hit id q a b n (.vp cs)=Y0 id q a b n cs:=rfl
theorem zZb(id:Id)(q:Path)(a b n:Nat)(f:Nat)(cs:List X):X.hit id q a b n (.clo f cs)=X.hitC id q a b n (.clo f cs):=rfl
theorem zZB(c:D):X.rootC (.d c)=true:=rfl
theorem zzT(cs:List X):X.rootC (.agg cs)=false:=rfl
theorem zzr(cs:List X):X.rootC (.tup cs)=false:=rfl
theorem Yi(i:Id)(p:Path):X.rootC (.ref i p)=p.isEmpty:=rfl
theorem zzf(i:Id)(p:Path)(j k:Nat):X.rootC (.ptr i p j k)=p.isEmpty:=rfl
theorem zzb(ds:List D):X.rootC (.rop ds)=true:=rfl
theorem zjS(cs:List X):X.rootC (.vp cs)=false:=rfl
theorem Yz(f:Nat)(cs:List X):X.rootC (.clo f cs)=false:=rfl
theorem zKW(c:D):X.root (.d c)=X.rootC (.d c):=rfl
theorem zjs(cs:List X):X.root (.agg cs)=Bf cs:=rfl
theorem zkJ(cs:List X):X.root (.tup cs)=X.rootC (.tup cs):=rfl
theorem zqY(i:Id)(p:Path):X.root (.ref i p)=X.rootC (.ref i p):=rfl
theorem zqJ(i:Id)(p:Path)(j k:Nat):X.root (.ptr i p j k)=X.rootC (.ptr i p j k):=rfl
theorem zkL(ds:List D):X.root (.rop ds)=X.rootC (.rop ds):=rfl
theorem zyw(cs:List X):X.root (.vp cs)=Bf cs:=rfl
theorem zkE(f:Nat)(cs:List X):X.root (.clo f cs)=Bf cs:=rfl
theorem z9E(id:Id)(q:Path)(c:D):X.inC id q (.d c)=false:=rfl
theorem zZC(id:Id)(q:Path)(cs:List X):X.inC id q (.agg cs)=true:=rfl
theorem zwW(id:Id)(q:Path)(cs:List X):X.inC id q (.tup cs)=true:=rfl
theorem zyv(id:Id)(q:Path)(i:Id)(p:Path):X.inC id q (.ref i p)=(decide (i=id)&&q.isPrefixOf p&& !decide (p=q)):=rfl
theorem zZv(id:Id)(q:Path)(i:Id)(p:Path)(j k:Nat):X.inC id q (.ptr i p j k)=(decide (i=id)&&q.isPrefixOf p&& !decide (p=q)):=rfl
theorem zx9(id:Id)(q:Path)(ds:List D):X.inC id q (.rop ds)=false:=rfl
theorem zV1(id:Id)(q:Path)(cs:List X):X.inC id q (.vp cs)=true:=rfl
theorem zy7(id:Id)(q:Path)(f:Nat)(cs:List X):X.inC id q (.clo f cs)=true:=rfl
theorem zXy(id:Id)(q:Path)(c:D):X.inV id q (.d c)=X.inC id q (.d c):=rfl
theorem zxS(id:Id)(q:Path)(cs:List X):X.inV id q (.agg cs)=inL id q cs:=rfl
theorem zZm(id:Id)(q:Path)(cs:List X):X.inV id q (.tup cs)=X.inC id q (.tup cs):=rfl
theorem zwM(id:Id)(q:Path)(i:Id)(p:Path):X.inV id q (.ref i p)=X.inC id q (.ref i p):=rfl
theorem zwS(id:Id)(q:Path)(i:Id)(p:Path)(j k:Nat):X.inV id q (.ptr i p j k)=X.inC id q (.ptr i p j k):=rfl
theorem zyT(id:Id)(q:Path)(ds:List D):X.inV id q (.rop ds)=X.inC id q (.rop ds):=rfl
theorem zVR(id:Id)(q:Path)(cs:List X):X.inV id q (.vp cs)=inL id q cs:=rfl
theorem zwl(id:Id)(q:Path)(f:Nat)(cs:List X):X.inV id q (.clo f cs)=inL id q cs:=rfl
theorem zXh(c:D):X.roC (.d c)=true:=rfl
theorem zx5(cs:List X):X.roC (.agg cs)=false:=rfl
theorem zxT(cs:List X):X.roC (.tup cs)=false:=rfl
theorem zZt(i:Id)(p:Path):X.roC (.ref i p)=false:=rfl
theorem zy9(i:Id)(p:Path)(j k:Nat):X.roC (.ptr i p j k)=false:=rfl
theorem zyS(ds:List D):X.roC (.rop ds)=false:=rfl
theorem zZ8(cs:List X):X.roC (.vp cs)=false:=rfl
theorem zxR(f:Nat)(cs:List X):X.roC (.clo f cs)=false:=rfl
theorem zY9(c:D):X.roV (.d c)=X.roC (.d c):=rfl
theorem zZf(cs:List X):X.roV (.agg cs)=Ij cs:=rfl
theorem zx3(cs:List X):X.roV (.tup cs)=X.roC (.tup cs):=rfl
theorem zws(i:Id)(p:Path):X.roV (.ref i p)=X.roC (.ref i p):=rfl
theorem zZh(i:Id)(p:Path)(j k:Nat):X.roV (.ptr i p j k)=X.roC (.ptr i p j k):=rfl
theorem zxt(ds:List D):X.roV (.rop ds)=X.roC (.rop ds):=rfl
theorem zVJ(cs:List X):X.roV (.vp cs)=X.roC (.vp cs):=rfl
theorem zwH(f:Nat)(cs:List X):X.roV (.clo f cs)=X.roC (.clo f cs):=rfl
theorem zYN(c:D):X.noP (.d c)=X.roV (.d c):=rfl
theorem zx8(cs:List X):X.noP (.agg cs)=X.roV (.agg cs):=rfl
theorem zwy(cs:List X):X.noP (.tup cs)=kL cs:=rfl
theorem zZE(i:Id)(p:Path):X.noP (.ref i p)=X.roV (.ref i p):=rfl
theorem zwx(i:Id)(p:Path)(j k:Nat):X.noP (.ptr i p j k)=X.roV (.ptr i p j k):=rfl
theorem zxr(ds:List D):X.noP (.rop ds)=X.roV (.rop ds):=rfl
theorem zK0(cs:List X):X.noP (.vp cs)=X.roV (.vp cs):=rfl
theorem zyz(f:Nat)(cs:List X):X.noP (.clo f cs)=X.roV (.clo f cs):=rfl
theorem zKh(c:D):X.noRC (.d c)=c.noR:=rfl
theorem zkR(cs:List X):X.noRC (.agg cs)=false:=rfl
theorem zkM(cs:List X):X.noRC (.tup cs)=false:=rfl
theorem zq8(i:Id)(p:Path):X.noRC (.ref i p)=false:=rfl
theorem zqV(i:Id)(p:Path)(j k:Nat):X.noRC (.ptr i p j k)=false:=rfl
theorem zkS(ds:List D):X.noRC (.rop ds)=false:=rfl
theorem zyl(cs:List X):X.noRC (.vp cs)=false:=rfl
theorem zqz(f:Nat)(cs:List X):X.noRC (.clo f cs)=false:=rfl
theorem zW4(c:D):X.noRV (.d c)=X.noRC (.d c):=rfl
theorem zqm(cs:List X):X.noRV (.agg cs)=zKC cs:=rfl
theorem zqP(cs:List X):X.noRV (.tup cs)=X.noRC (.tup cs):=rfl
theorem zkV(i:Id)(p:Path):X.noRV (.ref i p)=X.noRC (.ref i p):=rfl
theorem zku(i:Id)(p:Path)(j k:Nat):X.noRV (.ptr i p j k)=X.noRC (.ptr i p j k):=rfl
theorem zkt(ds:List D):X.noRV (.rop ds)=X.noRC (.rop ds):=rfl
theorem zyY(cs:List X):X.noRV (.vp cs)=X.noRC (.vp cs):=rfl
theorem zjD(f:Nat)(cs:List X):X.noRV (.clo f cs)=X.noRC (.clo f cs):=rfl
theorem z9I(c:D):X.noR (.d c)=X.noRV (.d c):=rfl
theorem zxx(cs:List X):X.noR (.agg cs)=X.noRV (.agg cs):=rfl
theorem zy4(cs:List X):X.noR (.tup cs)=zZq cs:=rfl
theorem zym(i:Id)(p:Path):X.noR (.ref i p)=X.noRV (.ref i p):=rfl
theorem zZH(i:Id)(p:Path)(j k:Nat):X.noR (.ptr i p j k)=X.noRV (.ptr i p j k):=rfl
theorem zw5(ds:List D):X.noR (.rop ds)=X.noRV (.rop ds):=rfl
theorem zQM(cs:List X):X.noR (.vp cs)=X.noRV (.vp cs):=rfl
theorem zZl(f:Nat)(cs:List X):X.noR (.clo f cs)=X.noRV (.clo f cs):=rfl
theorem zwN(x:Value):X.frzC (.d (.v x))=(.d (.v x)):=rfl
theorem zyo(e:List (List D)):X.frzC (.d (.r e))=(.d (.r e)):=rfl
theorem zwV:X.frzC (.d .u)=(.d .u):=rfl
theorem zxB(sz:Nat)(e:List (List D)):X.frzC (.d (.s sz e))= .d (.r (fzs e)):=rfl
theorem zqI(cs:List X):X.frzC (.agg cs)=(.agg cs):=rfl
theorem zjv(cs:List X):X.frzC (.tup cs)=(.tup cs):=rfl
theorem zjz(i:Id)(p:Path):X.frzC (.ref i p)=(.ref i p):=rfl
theorem zjV(i:Id)(p:Path)(j k:Nat):X.frzC (.ptr i p j k)=(.ptr i p j k):=rfl
theorem zkI(ds:List D):X.frzC (.rop ds)=(.rop ds):=rfl
theorem zxZ(cs:List X):X.frzC (.vp cs)=(.vp cs):=rfl
theorem zqX(f:Nat)(cs:List X):X.frzC (.clo f cs)=(.clo f cs):=rfl
theorem zQD(c:D):X.frzV (.d c)=X.frzC (.d c):=rfl
theorem zqM(cs:List X):X.frzV (.agg cs)= .agg (Rx cs):=rfl
theorem zjx(cs:List X):X.frzV (.tup cs)=X.frzC (.tup cs):=rfl
theorem zjM(i:Id)(p:Path):X.frzV (.ref i p)=X.frzC (.ref i p):=rfl
theorem zjQ(i:Id)(p:Path)(j k:Nat):X.frzV (.ptr i p j k)=X.frzC (.ptr i p j k):=rfl
theorem zjy(ds:List D):X.frzV (.rop ds)=X.frzC (.rop ds):=rfl
theorem zwK(cs:List X):X.frzV (.vp cs)=X.frzC (.vp cs):=rfl
theorem zj3(f:Nat)(cs:List X):X.frzV (.clo f cs)=X.frzC (.clo f cs):=rfl
theorem zX8(c:D):X.frz (.d c)=X.frzV (.d c):=rfl
theorem zwU(cs:List X):X.frz (.agg cs)=X.frzV (.agg cs):=rfl
theorem zxF(cs:List X):X.frz (.tup cs)= .tup (Ts cs):=rfl
theorem zw1(i:Id)(p:Path):X.frz (.ref i p)=X.frzV (.ref i p):=rfl
theorem zZe(i:Id)(p:Path)(j k:Nat):X.frz (.ptr i p j k)=X.frzV (.ptr i p j k):=rfl
theorem zyP(ds:List D):X.frz (.rop ds)=X.frzV (.rop ds):=rfl
theorem zWp(cs:List X):X.frz (.vp cs)=X.frzV (.vp cs):=rfl
theorem zxi(f:Nat)(cs:List X):X.frz (.clo f cs)=X.frzV (.clo f cs):=rfl
theorem zJE(c:D):X.flat (.d c)=true:=rfl
theorem zka(cs:List X):X.flat (.agg cs)=false:=rfl
theorem zkj(cs:List X):X.flat (.tup cs)=false:=rfl
theorem zqi(i:Id)(p:Path):X.flat (.ref i p)=true:=rfl
theorem zqx(i:Id)(p:Path)(j k:Nat):X.flat (.ptr i p j k)=true:=rfl
theorem zkF(ds:List D):X.flat (.rop ds)=true:=rfl
theorem zw3(cs:List X):X.flat (.vp cs)=false:=rfl
theorem zke(f:Nat)(cs:List X):X.flat (.clo f cs)=false:=rfl
theorem zwR(c:D):X.keeps (.d c)=true:=rfl
theorem zzM(cs:List X):X.keeps (.agg cs)=cs.all X.flat:=rfl
theorem Yd(cs:List X):X.keeps (.tup cs)=false:=rfl
theorem Ze(i:Id)(p:Path):X.keeps (.ref i p)=true:=rfl
theorem zzA(i:Id)(p:Path)(j k:Nat):X.keeps (.ptr i p j k)=true:=rfl
theorem Zp(ds:List D):X.keeps (.rop ds)=true:=rfl
theorem zkK(cs:List X):X.keeps (.vp cs)=cs.all X.flat:=rfl
theorem Zv(f:Nat)(cs:List X):X.keeps (.clo f cs)=cs.all X.flat:=rfl
theorem zQV(fr:Nat)(c:D):X.offC fr (.d c)=[]:=rfl
theorem zq7(fr:Nat)(cs:List X):X.offC fr (.agg cs)=[]:=rfl
theorem zks(fr:Nat)(cs:List X):X.offC fr (.tup cs)=[]:=rfl
theorem zqk(fr:Nat)(i:Id)(p:Path):X.offC fr (.ref i p)=if i.1=fr then [i.2] else []:=rfl
theorem zjw(fr:Nat)(i:Id)(p:Path)(j k:Nat):X.offC fr (.ptr i p j k)=if i.1=fr then [i.2] else []:=rfl
theorem zqZ(fr:Nat)(ds:List D):X.offC fr (.rop ds)=[]:=rfl
theorem zwL(fr:Nat)(cs:List X):X.offC fr (.vp cs)=[]:=rfl
theorem zqN(fr:Nat)(f:Nat)(cs:List X):X.offC fr (.clo f cs)=[]:=rfl
theorem zJp(fr:Nat)(c:D):X.offs fr (.d c)=X.offC fr (.d c):=rfl
theorem zjL(fr:Nat)(cs:List X):X.offs fr (.agg cs)=Gb fr cs:=rfl
theorem zqS(fr:Nat)(cs:List X):X.offs fr (.tup cs)=X.offC fr (.tup cs):=rfl
theorem zj0(fr:Nat)(i:Id)(p:Path):X.offs fr (.ref i p)=X.offC fr (.ref i p):=rfl
theorem zkk(fr:Nat)(i:Id)(p:Path)(j k:Nat):X.offs fr (.ptr i p j k)=X.offC fr (.ptr i p j k):=rfl
theorem zkx(fr:Nat)(ds:List D):X.offs fr (.rop ds)=X.offC fr (.rop ds):=rfl
theorem zx6(fr:Nat)(cs:List X):X.offs fr (.vp cs)=Gb fr cs:=rfl
theorem zqE(fr:Nat)(f:Nat)(cs:List X):X.offs fr (.clo f cs)=Gb fr cs:=rfl
theorem zJy(g:Id→Id)(c:D):X.renC g (.d c)=(.d c):=rfl
theorem zq3(g:Id→Id)(cs:List X):X.renC g (.agg cs)=(.agg cs):=rfl
theorem zjW(g:Id→Id)(cs:List X):X.renC g (.tup cs)=(.tup cs):=rfl
theorem zkC(g:Id→Id)(i:Id)(p:Path):X.renC g (.ref i p)= .ref (g i) p:=rfl
theorem zj8(g:Id→Id)(i:Id)(p:Path)(j k:Nat):X.renC g (.ptr i p j k)= .ptr (g i) p j k:=rfl
theorem zqD(g:Id→Id)(ds:List D):X.renC g (.rop ds)=(.rop ds):=rfl
theorem zyC(g:Id→Id)(cs:List X):X.renC g (.vp cs)=(.vp cs):=rfl
theorem zk0(g:Id→Id)(f:Nat)(cs:List X):X.renC g (.clo f cs)=(.clo f cs):=rfl
theorem zXk(g:Id→Id)(c:D):X.ren g (.d c)=X.renC g (.d c):=rfl
theorem zxj(g:Id→Id)(cs:List X):X.ren g (.agg cs)= .agg (cs.map (X.renC g)):=rfl
theorem zyf(g:Id→Id)(cs:List X):X.ren g (.tup cs)=X.renC g (.tup cs):=rfl
theorem zZF(g:Id→Id)(i:Id)(p:Path):X.ren g (.ref i p)=X.renC g (.ref i p):=rfl
theorem zwI(g:Id→Id)(i:Id)(p:Path)(j k:Nat):X.ren g (.ptr i p j k)=X.renC g (.ptr i p j k):=rfl
theorem zZp(g:Id→Id)(ds:List D):X.ren g (.rop ds)=X.renC g (.rop ds):=rfl
theorem zKD(g:Id→Id)(cs:List X):X.ren g (.vp cs)= .vp (cs.map (X.renC g)):=rfl
theorem zyH(g:Id→Id)(f:Nat)(cs:List X):X.ren g (.clo f cs)= .clo f (cs.map (X.renC g)):=rfl
theorem zWX(h:Heap)(x:Value):j8 h (.d (.v x))=some (.v x,h):=rfl
theorem zVA(h:Heap)(e:List (List D)):j8 h (.d (.r e))=some (.r e,h):=rfl
theorem zV8(h:Heap)(sz:Nat):j8 h (.d (.s sz []))=some (.s sz [],h):=rfl
theorem zVj(h:Heap):j8 h (.d .u)=some (.u,h):=rfl
theorem zyr(h:Heap)(i:Id)(p:Path):j8 h (.ref i p)=h.take i p:=rfl
theorem zVt(h:Heap)(x:Value):nB h (.d (.v x))=some (.d (.v x)):=rfl
theorem zZT(h:Heap)(e:List (List D)):nB h (.d (.r e))=some (.d (.r e)):=rfl
theorem zZZ(h:Heap)(sz:Nat):nB h (.d (.s sz []))=some (.d (.r [])):=rfl
theorem zVB(h:Heap):nB h (.d .u)=some (.d .u):=rfl
theorem zwZ(h:Heap)(i:Id)(p:Path):nB h (.ref i p)=(h.row i p).map z95:=rfl
theorem z7E(h:Heap)(c:D):Cg h (.d c)=nB h (.d c):=rfl
theorem zK4(h:Heap)(cs:List X):Cg h (.agg cs)=(x6 h cs).map .agg:=rfl
theorem zKN(h:Heap)(cs:List X):Cg h (.tup cs)=nB h (.tup cs):=rfl
theorem zK7(h:Heap)(i:Id)(p:Path):Cg h (.ref i p)=nB h (.ref i p):=rfl
theorem zJ4(h:Heap)(i:Id)(p:Path)(j k:Nat):Cg h (.ptr i p j k)=nB h (.ptr i p j k):=rfl
theorem zK5(h:Heap)(ds:List D):Cg h (.rop ds)=nB h (.rop ds):=rfl
theorem z9f(h:Heap)(cs:List X):Cg h (.vp cs)=nB h (.vp cs):=rfl
theorem zJQ(h:Heap)(f:Nat)(cs:List X):Cg h (.clo f cs)=nB h (.clo f cs):=rfl
theorem zYQ(fr:Nat)(h:Heap)(x:Value):nU fr h (.d (.v x))=some (.d (.v x),h):=rfl
theorem zXK(fr:Nat)(h:Heap)(e:List (List D)):nU fr h (.d (.r e))=some (.d (.r e),h):=rfl
theorem zXt(fr:Nat)(h:Heap)(sz:Nat):nU fr h (.d (.s sz []))=some (.d (.s sz []),h):=rfl
theorem z9e(fr:Nat)(h:Heap):nU fr h (.d .u)=none:=rfl
theorem zKQ(fr:Nat)(h:Heap)(i:Id)(p:Path):nU fr h (.ref i p)=if i.1=fr then(h.take i p).map z5i else some (.ref i p,h):=rfl
theorem zKb(fr:Nat)(h:Heap)(i:Id)(p:Path)(j k:Nat):nU fr h (.ptr i p j k)=if i.1=fr then none else some (.ptr i p j k,h):=rfl
theorem zWa(fr:Nat)(h:Heap)(ds:List D):nU fr h (.rop ds)=some (.rop ds,h):=rfl
theorem z8L(fr:Nat)(h:Heap)(c:D):rI fr h (.d c)=nU fr h (.d c):=rfl
theorem zWD(fr:Nat)(h:Heap)(cs:List X):rI fr h (.agg cs)=(Sx fr h cs).map z8m:=rfl
theorem zZ9(fr:Nat)(h:Heap)(cs:List X):rI fr h (.tup cs)=nU fr h (.tup cs):=rfl
theorem zWJ(fr:Nat)(h:Heap)(i:Id)(p:Path):rI fr h (.ref i p)=nU fr h (.ref i p):=rfl
theorem zVn(fr:Nat)(h:Heap)(i:Id)(p:Path)(j k:Nat):rI fr h (.ptr i p j k)=nU fr h (.ptr i p j k):=rfl
theorem zKd(fr:Nat)(h:Heap)(ds:List D):rI fr h (.rop ds)=nU fr h (.rop ds):=rfl
theorem zYX(fr:Nat)(h:Heap)(cs:List X):rI fr h (.vp cs)=nU fr h (.vp cs):=rfl
theorem zJc(fr:Nat)(h:Heap)(f:Nat)(cs:List X):rI fr h (.clo f cs)=nU fr h (.clo f cs):=rfl
theorem z9g(h:Heap)(id:Id)(x:Value):lE h id (.d (.v x))=((.d (.v x)),h):=rfl
theorem z9V(h:Heap)(id:Id)(e:List (List D)):lE h id (.d (.r e))=((.d (.r e)),h):=rfl
theorem zYD(h:Heap)(id:Id):lE h id (.d .u)=((.d .u),h):=rfl
theorem z9j(h:Heap)(id:Id)(sz:Nat)(e:List (List D)):lE h id (.d (.s sz e))=(.ref id [],upd h id (some (.s sz e))):=rfl
theorem zJf(h:Heap)(id:Id)(cs:List X):lE h id (.agg cs)=((.agg cs),h):=rfl
theorem zWK(h:Heap)(id:Id)(cs:List X):lE h id (.tup cs)=((.tup cs),h):=rfl
theorem zWS(h:Heap)(id:Id)(i:Id)(p:Path):lE h id (.ref i p)=((.ref i p),h):=rfl
theorem zQy(h:Heap)(id:Id)(i:Id)(p:Path)(j k:Nat):lE h id (.ptr i p j k)=((.ptr i p j k),h):=rfl
theorem zQH(h:Heap)(id:Id)(ds:List D):lE h id (.rop ds)=((.rop ds),h):=rfl
theorem zXs(h:Heap)(id:Id)(cs:List X):lE h id (.vp cs)=((.vp cs),h):=rfl
theorem zZ0(h:Heap)(id:Id)(f:Nat)(cs:List X):lE h id (.clo f cs)=((.clo f cs),h):=rfl
theorem z7X(h:Heap)(id:Id)(c:D):oE h id (.d c)=lE h id (.d c):=rfl
theorem zVf(h:Heap)(id:Id)(cs:List X):oE h id (.agg cs)=(.agg (xH h id cs).1,(xH h id cs).2):=rfl
theorem zWk(h:Heap)(id:Id)(cs:List X):oE h id (.tup cs)=lE h id (.tup cs):=rfl
theorem zV9(h:Heap)(id:Id)(i:Id)(p:Path):oE h id (.ref i p)=lE h id (.ref i p):=rfl
theorem zQ0(h:Heap)(id:Id)(i:Id)(p:Path)(j k:Nat):oE h id (.ptr i p j k)=lE h id (.ptr i p j k):=rfl
theorem zQm(h:Heap)(id:Id)(ds:List D):oE h id (.rop ds)=lE h id (.rop ds):=rfl
theorem zYU(h:Heap)(id:Id)(cs:List X):oE h id (.vp cs)=lE h id (.vp cs):=rfl
theorem zWv(h:Heap)(id:Id)(f:Nat)(cs:List X):oE h id (.clo f cs)=lE h id (.clo f cs):=rfl
theorem z7C(h:Heap)(id:Id)(c:D):x9 h id (.d c)=oE h id (.d c):=rfl
theorem zVP(h:Heap)(id:Id)(cs:List X):x9 h id (.agg cs)=oE h id (.agg cs):=rfl
theorem zK1(h:Heap)(id:Id)(cs:List X):x9 h id (.tup cs)=(.tup (xM h id cs).1,(xM h id cs).2):=rfl
theorem zKA(h:Heap)(id:Id)(i:Id)(p:Path):x9 h id (.ref i p)=oE h id (.ref i p):=rfl
theorem zVQ(h:Heap)(id:Id)(i:Id)(p:Path)(j k:Nat):x9 h id (.ptr i p j k)=oE h id (.ptr i p j k):=rfl
theorem zJR(h:Heap)(id:Id)(ds:List D):x9 h id (.rop ds)=oE h id (.rop ds):=rfl
theorem z9u(h:Heap)(id:Id)(cs:List X):x9 h id (.vp cs)=oE h id (.vp cs):=rfl
theorem zJb(h:Heap)(id:Id)(f:Nat)(cs:List X):x9 h id (.clo f cs)=oE h id (.clo f cs):=rfl
theorem zkD(c:D):X.ncells (.d c)=(X.cells (.d c)).length:=rfl
theorem Xb(cs:List X):X.ncells (.agg cs)=(X.cells (.agg cs)).length:=rfl
theorem V7(cs:List X):X.ncells (.tup cs)=(cs.map fun x=>x.cells.length).sum:=rfl
theorem Xm(i:Id)(p:Path):X.ncells (.ref i p)=(X.cells (.ref i p)).length:=rfl
theorem X0(i:Id)(p:Path)(j k:Nat):X.ncells (.ptr i p j k)=(X.cells (.ptr i p j k)).length:=rfl
theorem Vn(ds:List D):X.ncells (.rop ds)=(X.cells (.rop ds)).length:=rfl
theorem zzN(cs:List X):X.ncells (.vp cs)=(X.cells (.vp cs)).length:=rfl
theorem Xu(f:Nat)(cs:List X):X.ncells (.clo f cs)=(X.cells (.clo f cs)).length:=rfl
theorem z9H(h:Heap)(n:Nat)(x:Value):A5 h n (.d (.v x))=some (.d (.v x),h,[]):=rfl
theorem z9C(h:Heap)(n:Nat)(e:List (List D)):A5 h n (.d (.r e))=some (.d (.r e),h,[]):=rfl
theorem zY0(h:Heap)(n:Nat)(sz:Nat):A5 h n (.d (.s sz []))=some (.d (.s sz []),h,[]):=rfl
theorem zXm(h:Heap)(n:Nat):A5 h n (.d .u)=none:=rfl
theorem zJT(h:Heap)(n:Nat)(i:Id)(p:Path):A5 h n (.ref i p)=(h.take i p).map (z7P (.ref (0,n) []) i p):=rfl
theorem zQA(h:Heap)(n:Nat)(i:Id)(p:Path)(j k:Nat):A5 h n (.ptr i p j k)=(h.take i p).map (z7P (.ptr (0,n) [] j k) i p):=rfl
theorem z7R(h:Heap)(n:Nat)(c:D):Md h n (.d c)=A5 h n (.d c):=rfl
theorem zJh(h:Heap)(n:Nat)(cs:List X):Md h n (.agg cs)=(Rm h n cs).map z8G:=rfl
theorem zVL(h:Heap)(n:Nat)(cs:List X):Md h n (.tup cs)=A5 h n (.tup cs):=rfl
theorem zKP(h:Heap)(n:Nat)(i:Id)(p:Path):Md h n (.ref i p)=A5 h n (.ref i p):=rfl
theorem zQb(h:Heap)(n:Nat)(i:Id)(p:Path)(j k:Nat):Md h n (.ptr i p j k)=A5 h n (.ptr i p j k):=rfl
theorem zJx(h:Heap)(n:Nat)(ds:List D):Md h n (.rop ds)=A5 h n (.rop ds):=rfl
theorem zX9(h:Heap)(n:Nat)(cs:List X):Md h n (.vp cs)=A5 h n (.vp cs):=rfl
theorem zQL(h:Heap)(n:Nat)(f:Nat)(cs:List X):Md h n (.clo f cs)=A5 h n (.clo f cs):=rfl
theorem zZ6(x:Value)(cs:List D):hZ (.v x::cs)=hZ cs:=rfl
theorem zQN(sz:Nat)(e:List (List D))(cs:List D):hZ (.s sz e::cs)=false:=rfl
theorem zQs(e:List (List D))(cs:List D):hZ (.r e::cs)=false:=rfl
theorem zKX(cs:List D):hZ (.u::cs)=false:=rfl
theorem zqy:hZ []=true:=rfl
def rQ(x:X)(xs:List X):List X:=x::xs
theorem zJD(x:X)(xs:List X):rQ x xs=x::xs:=rfl
def zjU(x:D)(a:List D×Heap):List D×Heap:=(x::a.1,a.2)
theorem zyF(x:D)(xs:List D)(h:Heap):zjU x (xs,h)=(x::xs,h):=rfl
def Oq(x:X)(a:List X×Heap):List X×Heap:=(x::a.1,a.2)
theorem zyh(x:X)(xs:List X)(h:Heap):Oq x (xs,h)=(x::xs,h):=rfl
theorem zKj(st:St):oF st []=some []:=rfl
def z8u(st:St)(os:List O)(x:X):Option (List X):=(oF st os).map (rQ x)
theorem zwt(st:St)(o:O)(os:List O):oF st (o::os)=(rdO st o).bind (z8u st os):=rfl
theorem zQ9(st:St)(os:List O)(x:X):z8u st os x=(oF st os).map (rQ x):=rfl
theorem zyI(h:Heap):kX h []=some ([],h):=rfl
def zWE(xs:List X)(a:D×Heap):Option (List D×Heap):=(kX a.2 xs).map (zjU a.1)
theorem zkc(h:Heap)(x:X)(xs:List X):kX h (x::xs)=(j8 h x).bind (zWE xs):=rfl
theorem zwF(xs:List X)(d:D)(h:Heap):zWE xs (d,h)=(kX h xs).map (zjU d):=rfl
theorem zQJ(fr:Nat)(h:Heap):Sx fr h []=some ([],h):=rfl
def z8C(fr:Nat)(xs:List X)(a:X×Heap):Option (List X×Heap):=(Sx fr a.2 xs).map (Oq a.1)
theorem zwr(fr:Nat)(h:Heap)(x:X)(xs:List X):Sx fr h (x::xs)=(nU fr h x).bind (z8C fr xs):=rfl
theorem zQa(fr:Nat)(xs:List X)(d:X)(h:Heap):z8C fr xs (d,h)=(Sx fr h xs).map (Oq d):=rfl
theorem zJM(fr:Nat)(h:Heap):qV fr h []=some ([],h):=rfl
def z8v(fr:Nat)(xs:List X)(a:X×Heap):Option (List X×Heap):=(qV fr a.2 xs).map (Oq a.1)
theorem zxb(fr:Nat)(h:Heap)(x:X)(xs:List X):qV fr h (x::xs)=(rI fr h x).bind (z8v fr xs):=rfl
theorem zKB(fr:Nat)(xs:List X)(d:X)(h:Heap):z8v fr xs (d,h)=(qV fr h xs).map (Oq d):=rfl
def z8n(j i:Nat)(r:Nat×List (List D)):Option X:=(r.2[j]?).map fun el=> .rop (fzl (el.drop i))
theorem zZG(h:Heap)(id:Id)(q:Path)(j i:Nat):nB h (.ptr id q j i)=(h.row id q).bind (z8n j i):=rfl
theorem zVh(j i n:Nat)(els:List (List D)):z8n j i (n,els)=(els[j]?).map fun el=> .rop (fzl (el.drop i)):=rfl
theorem zx0(h:Heap):x6 h []=some []:=rfl
def zJw(h:Heap)(xs:List X)(y:X):Option (List X):=(x6 h xs).map (rQ y)
theorem zjp(h:Heap)(x:X)(xs:List X):x6 h (x::xs)=(nB h x).bind (zJw h xs):=rfl
theorem zZu(h:Heap)(xs:List X)(y:X):zJw h xs y=(x6 h xs).map (rQ y):=rfl
theorem zyn(h:Heap):m7 h []=some []:=rfl
def zQU(h:Heap)(xs:List X)(y:X):Option (List X):=(m7 h xs).map (rQ y)
theorem zjZ(h:Heap)(x:X)(xs:List X):m7 h (x::xs)=(Cg h x).bind (zQU h xs):=rfl
theorem zxX(h:Heap)(xs:List X)(y:X):zQU h xs y=(m7 h xs).map (rQ y):=rfl
def zKv(h:Heap)(xs:List X)(bs:List Bool)(y:X):Option (List X):=(qD h xs bs).map (rQ y)
theorem zZi(h:Heap)(bs:List Bool):qD h [] bs=some []:=by unfold qD;rfl
theorem zXT(h:Heap)(x:X)(xs:List X)(bs:List Bool):qD h (x::xs) (true::bs)=(qD h xs bs).map (rQ x):=rfl
theorem zX6(h:Heap)(x:X)(xs:List X)(bs:List Bool):qD h (x::xs) (false::bs)=(Cg h x).bind (zKv h xs bs):=rfl
theorem zxK(h:Heap)(xs:List X)(bs:List Bool)(y:X):zKv h xs bs y=(qD h xs bs).map (rQ y):=rfl
def Py(x:X)(L:dX)(b:List X×Heap×dX):List X×Heap×dX:=(x::b.1,b.2.1,L++b.2.2)
theorem zZc(x:X)(L:dX)(xs:List X)(h:Heap)(M:dX):Py x L (xs,h,M)=(x::xs,h,L++M):=rfl
def z92(k:Nat)(xs:List X)(a:X×Heap×dX):Option (List X×Heap×dX):=(Rm a.2.1 (k+a.2.2.length) xs).map (Py a.1 a.2.2)
theorem zKi(h:Heap)(k:Nat):Rm h k []=some ([],h,[]):=rfl
theorem zZa(h:Heap)(k:Nat)(x:X)(xs:List X):Rm h k (x::xs)=(A5 h k x).bind (z92 k xs):=rfl
theorem zKI(k:Nat)(xs:List X)(y:X)(h:Heap)(L:dX):z92 k xs (y,h,L)=(Rm h (k+L.length) xs).map (Py y L):=rfl
def z8B(k:Nat)(xs:List X)(bs:List Bool)(a:X×Heap×dX):Option (List X×Heap×dX):=(t8 a.2.1 (k+a.2.2.length) xs bs).map (Py a.1 a.2.2)
def zW5(x:X)(c:List X×Heap×dX):List X×Heap×dX:=(x::c.1,c.2.1,c.2.2)
theorem zy0(x:X)(xs:List X)(h:Heap)(L:dX):zW5 x (xs,h,L)=(x::xs,h,L):=rfl
theorem zKk(h:Heap)(k:Nat)(bs:List Bool):t8 h k [] bs=some ([],h,[]):=by unfold t8;rfl
theorem z7y(h:Heap)(k:Nat)(x:X)(xs:List X)(bs:List Bool):t8 h k (x::xs) (true::bs)=(Md h k x).bind (z8B k xs bs):=rfl
theorem z7i(h:Heap)(k:Nat)(x:X)(xs:List X)(bs:List Bool):t8 h k (x::xs) (false::bs)=(t8 h k xs bs).map (zW5 x):=rfl
theorem zWO(k:Nat)(xs:List X)(bs:List Bool)(y:X)(h:Heap)(L:dX):z8B k xs bs (y,h,L)=(t8 h (k+L.length) xs bs).map (Py y L):=rfl
theorem z9A(d:D):D.nav d []=some d:=by unfold D.nav;rfl
def zXS(p:Path)(c:D):Option D:=c.nav p
theorem zXP(p:Path)(c:D):zXS p c=c.nav p:=rfl
def z5U(i:Nat)(p:Path)(el:List D):Option D:=(el[i]?).bind (zXS p)
theorem zY4(i:Nat)(p:Path)(el:List D):z5U i p el=(el[i]?).bind (zXS p):=rfl
theorem z5o(sz:Nat)(els:List (List D))(j i:Nat)(p:Path):D.nav (.s sz els) ((j,i)::p)=(els[j]?).bind (z5U i p):=by rw[D.nav];rfl
theorem z9x(h:Heap)(id:Id)(p:Path):h.nav id p=(h id).bind (zXS p):=rfl
theorem z9P(h:Heap)(id:Id)(p:Path):h.row id p=(h.nav id p).bind D.rowOf:=rfl
def zWc(sz:Nat)(els:List (List D))(j i:Nat)(el:List D)(c:D):D:= .s sz (els.set j (el.set i c))
theorem zKx(sz:Nat)(els:List (List D))(j i:Nat)(el:List D)(c:D):zWc sz els j i el c= .s sz (els.set j (el.set i c)):=rfl
def zKE(sz:Nat)(els:List (List D))(j i:Nat)(p:Path)(x:D)(el:List D)(c:D):Option D:=(c.put p x).map (zWc sz els j i el)
theorem zWG(sz:Nat)(els:List (List D))(j i:Nat)(p:Path)(x:D)(el:List D)(c:D):zKE sz els j i p x el c=(c.put p x).map (zWc sz els j i el):=rfl
def z8A(sz:Nat)(els:List (List D))(j i:Nat)(p:Path)(x:D)(el:List D):Option D:=(el[i]?).bind (zKE sz els j i p x el)
theorem zJZ(sz:Nat)(els:List (List D))(j i:Nat)(p:Path)(x:D)(el:List D):z8A sz els j i p x el=(el[i]?).bind (zKE sz els j i p x el):=rfl
theorem z9N(d x:D):D.put d [] x=some x:=by unfold D.put;rfl
theorem z5f(sz:Nat)(els:List (List D))(j i:Nat)(p:Path)(x:D):D.put (.s sz els) ((j,i)::p) x=(els[j]?).bind (z8A sz els j i p x):=by rw[D.put];rfl
def zqq(h:Heap)(id:Id)(d:D):Heap:=upd h id (some d)
theorem zZx(h:Heap)(id:Id)(d:D):zqq h id d=upd h id (some d):=rfl
def z8d(h:Heap)(id:Id)(p:Path)(x d:D):Option Heap:=(d.put p x).map (zqq h id)
theorem zVM(h:Heap)(id:Id)(p:Path)(x d:D):z8d h id p x d=(d.put p x).map (zqq h id):=rfl
theorem zX1(h:Heap)(id:Id)(p:Path)(x:D):h.put id p x=(h id).bind (z8d h id p x):=rfl
def z8o(h:Heap)(id:Id)(r:Nat×List (List D)):D×Heap:=(.s r.1 r.2,upd h id none)
theorem zJd(h:Heap)(id:Id)(sz:Nat)(els:List (List D)):z8o h id (sz,els)=(.s sz els,upd h id none):=rfl
theorem zxv(h:Heap)(id:Id):h.take id []=(h.row id []).map (z8o h id):=rfl
def zJs(sz:Nat)(els:List (List D))(h:Heap):D×Heap:=(.s sz els,h)
theorem zQO(sz:Nat)(els:List (List D))(h:Heap):zJs sz els h=(.s sz els,h):=rfl
def z8c(h:Heap)(id:Id)(p:Path)(r:Nat×List (List D)):Option (D×Heap):=(h.put id p .u).map (zJs r.1 r.2)
theorem zQl(h:Heap)(id:Id)(p:Path)(sz:Nat)(els:List (List D)):z8c h id p (sz,els)=(h.put id p .u).map (zJs sz els):=rfl
theorem zjr(h:Heap)(id:Id)(c:Nat×Nat)(p:Path):h.take id (c::p)=(h.row id (c::p)).bind (z8c h id (c::p)):=rfl
theorem zZJ(h:Heap)(id:Id)(x:D):h.putb id [] x=some (upd h id (some x)):=rfl
theorem zy3(h:Heap)(id:Id)(c:Nat×Nat)(p:Path)(x:D):h.putb id (c::p) x=h.put id (c::p) x:=rfl
theorem z6u(id:Id)(p:Path)(x:Value):D.own id p (.v x)=some (.d (.v x)):=rfl
theorem z5a(id:Id)(p:Path)(sz:Nat)(e:List (List D)):D.own id p (.s sz e)=some (.ref id p):=rfl
theorem z5l(id:Id)(p:Path)(e:List (List D)):D.own id p (.r e)=some (.d (.r e)):=rfl
theorem z6Q(id:Id)(p:Path):D.own id p .u=some (.d .u):=rfl
theorem zWt(id:Id)(q:Path)(j i:Nat):Gh id q j i []=some []:=by unfold Gh;rfl
def z8z(id:Id)(q:Path)(j i:Nat)(cs:List D)(x:X):Option (List X):=(Gh id q j (i+1) cs).map (rQ x)
theorem zJL(id:Id)(q:Path)(j i:Nat)(cs:List D)(x:X):z8z id q j i cs x=(Gh id q j (i+1) cs).map (rQ x):=rfl
theorem zw7(id:Id)(q:Path)(j i:Nat)(c:D)(cs:List D):Gh id q j i (c::cs)=(c.own id (q++[(j,i)])).bind (z8z id q j i cs):=rfl
theorem z57(x:Value):D.ro (.v x)=some (.d (.v x)):=rfl
theorem z59(sz:Nat)(e:List (List D)):D.ro (.s sz e)=some (.d (.r e)):=rfl
theorem z4f(e:List (List D)):D.ro (.r e)=some (.d (.r e)):=rfl
theorem z4D:D.ro .u=some (.d .u):=rfl
theorem zXa:roL []=some []:=rfl
def z6k(cs:List D)(x:X):Option (List X):=(roL cs).map (rQ x)
theorem zXA(cs:List D)(x:X):z6k cs x=(roL cs).map (rQ x):=rfl
theorem zQw(c:D)(cs:List D):roL (c::cs)=(c.ro).bind (z6k cs):=rfl
theorem zya(h:Heap)(n:Nat)(cs:List D):qG h n (.rop cs)=if n≤cs.length then roL (cs.take n) else none:=rfl
theorem zVe(h:Heap)(n:Nat)(cs:List X):qG h n (.vp cs)=if n≤cs.length then some (cs.take n) else none:=rfl
def ldB(id:Id)(q:Path)(j i n:Nat)(el:List D):Option (List X):=if i+n≤el.length then Gh id q j i ((el.drop i).take n) else none
theorem z7n(id:Id)(q:Path)(j i n:Nat)(el:List D):ldB id q j i n el=if i+n≤el.length then Gh id q j i ((el.drop i).take n) else none:=rfl
def ldA(id:Id)(q:Path)(j i n:Nat)(r:Nat×List (List D)):Option (List X):=(r.2[j]?).bind (ldB id q j i n)
theorem z7v(id:Id)(q:Path)(j i n sz:Nat)(els:List (List D)):ldA id q j i n (sz,els)=(els[j]?).bind (ldB id q j i n):=rfl
theorem zwA(h:Heap)(n:Nat)(id:Id)(q:Path)(j i:Nat):qG h n (.ptr id q j i)=(h.row id q).bind (ldA id q j i n):=rfl
theorem zjB(off:Nat)(id:Id)(q:Path)(j i:Nat):Dx off (.ptr id q j i)=some (.ptr id q j (i+off)):=rfl
theorem zjA(off:Nat)(cs:List D):Dx off (.rop cs)=some (.rop (cs.drop off)):=rfl
theorem zyM(off:Nat)(cs:List X):Dx off (.vp cs)=some (.vp (cs.drop off)):=rfl
def ixB(sz:Nat)(el:List D):Option X:=if el.length=sz then some (.rop el) else none
theorem z6a(sz:Nat)(el:List D):ixB sz el=if el.length=sz then some (.rop el) else none:=rfl
theorem z85(h:Heap)(sz:Nat)(n:Int)(els:List (List D)):Rq h sz n (.d (.r els))=if 0≤n∧n<(els.length:Int) then(els[n.toNat]?).bind (ixB sz) else none:=rfl
def ixC(id:Id)(p:Path)(sz:Nat)(n:Int)(r:Nat×List (List D)):Option X:=if 0≤n∧n<(r.2.length:Int)∧r.1=sz then some (.ptr id p n.toNat 0) else none
theorem z7a(id:Id)(p:Path)(sz:Nat)(n:Int)(m:Nat)(els:List (List D)):ixC id p sz n (m,els)=if 0≤n∧n<(els.length:Int)∧m=sz then some (.ptr id p n.toNat 0) else none:=rfl
theorem zJO(h:Heap)(sz:Nat)(n:Int)(id:Id)(p:Path):Rq h sz n (.ref id p)=(h.row id p).bind (ixC id p sz n):=rfl
theorem z7s(h:Heap)(els:List (List D)):Sb h (.d (.r els))=some els.length:=rfl
theorem z6c(h:Heap)(sz:Nat):Sb h (.d (.s sz []))=some 0:=rfl
def z5g(r:Nat×List (List D)):Nat:=r.2.length
theorem z9w(sz:Nat)(els:List (List D)):z5g (sz,els)=els.length:=rfl
theorem zJK(h:Heap)(id:Id)(p:Path):Sb h (.ref id p)=(h.row id p).map z5g:=rfl
theorem zqs(id:Id)(q:Path)(j i:Nat):zN (.ptr id q j i)=some (.ptr id q j i):=rfl
theorem zqB(cs:List D):zN (.rop cs)=some (.rop cs):=rfl
theorem zxI(cs:List X):zN (.vp cs)=some (.vp cs):=rfl
def idH(h:Heap)(els:List (List D)):List (List D)×Heap:=(els,h)
def z65(a:D×Heap):Option (List (List D)×Heap):=(a.1.rowOf).map fun r=>(r.2,a.2)
theorem zXY(sz:Nat)(els:List (List D))(h:Heap):z65 (.s sz els,h)=some (els,h):=rfl
theorem zQX(h:Heap)(sz:Nat):rA h (.d (.s sz []))=some ([],h):=rfl
theorem zQh(h:Heap)(els:List (List D)):rA h (.d (.r els))=some (els.map fun el=>el.map D.toR,h):=rfl
theorem zqF(h:Heap)(id:Id)(p:Path):rA h (.ref id p)=(h.take id p).bind z65:=rfl
def z8I(sz:Nat)(a:D×Heap):Option (List (List D)×Heap):=(a.1.rowOf).bind fun r=>if r.1=sz then some (r.2,a.2) else none
theorem zVc(sz m:Nat)(els:List (List D))(h:Heap):z8I sz (.s m els,h)=if m=sz then some (els,h) else none:=rfl
theorem zyE(h:Heap)(sz m:Nat):lA h sz (.d (.s m []))=some ([],h):=rfl
theorem zzQ(h:Heap)(sz:Nat)(id:Id)(p:Path):lA h sz (.ref id p)=(h.take id p).bind (z8I sz):=rfl
theorem zyk(st:St):iP st []=some []:=by unfold iP;rfl
def zq6(st:St)(rs:List SRes)(x:X):Option (List X):=(iP st rs).map (rQ x)
theorem zyy(st:St)(rs:List SRes)(x:X):zq6 st rs x=(iP st rs).map (rQ x):=rfl
theorem zX5(st:St)(n:Nat)(rs:List SRes):iP st (.t n::rs)=(st.env n).bind (zq6 st rs):=rfl
def zV0(st:St)(k:Option Nat)(a:X):Option X:=(qG st.heap (k.getD 1) a).bind (xD k)
theorem zyQ(st:St)(k:Option Nat)(a:X):zV0 st k a=(qG st.heap (k.getD 1) a).bind (xD k):=rfl
theorem zXc(st:St)(n:Nat)(k:Option Nat)(rs:List SRes):iP st (.c n k::rs)=((st.env n).bind (zV0 st k)).bind (zq6 st rs):=rfl
def Zm(a:List X×Heap):X:=pN a.1
theorem z9F(x:X)(h:Heap):Zm ([x],h)=x:=rfl
theorem z9M(h:Heap):Zm ([],h)= .tup []:=rfl
theorem zYx(x y:X)(xs:List X)(h:Heap):Zm (x::y::xs,h)= .tup (x::y::xs):=rfl
def Ua(s:St)(xs:List X):Option X:=(qV 0 s.heap xs).map Zm
theorem zQS(s:St)(xs:List X):Ua s xs=(qV 0 s.heap xs).map Zm:=rfl
def X7(fr:Nat)(a:List X×Heap):X×Heap:=(pN a.1,cC fr a.2)
theorem zYl(fr:Nat)(x:X)(h:Heap):X7 fr ([x],h)=(x,cC fr h):=rfl
theorem zYi(fr:Nat)(h:Heap):X7 fr ([],h)=(.tup [],cC fr h):=rfl
theorem z9o(fr:Nat)(x y:X)(xs:List X)(h:Heap):X7 fr (x::y::xs,h)=(.tup (x::y::xs),cC fr h):=rfl
def zzm(s:St)(fr:Nat)(xs:List X):Option (X×Heap):=(qV fr s.heap xs).map (X7 fr)
theorem zVC(s:St)(fr:Nat)(xs:List X):zzm s fr xs=(qV fr s.heap xs).map (X7 fr):=rfl
def z9l(st:St)(m:List (Nat×Nat))(ts:List Nat)(x:X):Bool→List (Nat×Nat)
 |true=>jB st (Mn m (x.offs st.fr)) ts
 |false=>jB st m ts
theorem z7Z(st:St)(m:List (Nat×Nat))(ts:List Nat)(x:X):z9l st m ts x true=jB st (Mn m (x.offs st.fr)) ts:=rfl
theorem z7U(st:St)(m:List (Nat×Nat))(ts:List Nat)(x:X):z9l st m ts x false=jB st m ts:=rfl
def kmK(st:St)(m:List (Nat×Nat))(ts:List Nat):Option X→List (Nat×Nat)
 |some x=>z9l st m ts x x.keeps
 |none=>jB st m ts
theorem zzB(st:St)(m:List (Nat×Nat))(ts:List Nat)(x:X):kmK st m ts (some x)=z9l st m ts x x.keeps:=rfl
theorem zWM(st:St)(m:List (Nat×Nat))(ts:List Nat):kmK st m ts none=jB st m ts:=rfl
theorem zxW(st:St)(m:List (Nat×Nat)):jB st m []=m:=by unfold jB;rfl
theorem zkp(st:St)(m:List (Nat×Nat))(t:Nat)(ts:List Nat):jB st m (t::ts)=kmK st m ts (st.env t):=by
 rw[jB]
 cases st.env t with
 |none=>rfl
 |some x=>simp only[zzB];cases x.keeps<;>rfl
def zXf(st:St)(m:List (Nat×Nat))(t:Nat)(ts:List Nat)(x:X):Bool→Env
 |true=>upd (oZ st m ts) t (some (x.ren (kid st.fr m)))
 |false=>oZ st m ts
theorem z7A(st:St)(m:List (Nat×Nat))(t:Nat)(ts:List Nat)(x:X):zXf st m t ts x true=upd (oZ st m ts) t (some (x.ren (kid st.fr m))):=rfl
theorem z6d(st:St)(m:List (Nat×Nat))(t:Nat)(ts:List Nat)(x:X):zXf st m t ts x false=oZ st m ts:=rfl
def keK(st:St)(m:List (Nat×Nat))(t:Nat)(ts:List Nat):Option X→Env
 |some x=>zXf st m t ts x x.keeps
 |none=>oZ st m ts
theorem Y6(st:St)(m:List (Nat×Nat))(t:Nat)(ts:List Nat)(x:X):keK st m t ts (some x)=zXf st m t ts x x.keeps:=rfl
theorem zWj(st:St)(m:List (Nat×Nat))(t:Nat)(ts:List Nat):keK st m t ts none=oZ st m ts:=rfl
theorem zyD(st:St)(m:List (Nat×Nat)):oZ st m []=emp:=by unfold oZ;rfl
theorem zjO(st:St)(m:List (Nat×Nat))(t:Nat)(ts:List Nat):oZ st m (t::ts)=keK st m t ts (st.env t):=by
 rw[oZ]
 cases st.env t with
 |none=>rfl
 |some x=>simp only[Y6];cases x.keeps<;>rfl
def ksK(st:St)(L:List Nat)(m:List (Nat×Nat)):St:={env:=oZ st m L,heap:=Kn st.fr st.heap m,fr:=st.fr,next:=m.length}
theorem z7f(st:St)(L:List Nat)(m:List (Nat×Nat)):ksK st L m={env:=oZ st m L,heap:=Kn st.fr st.heap m,fr:=st.fr,next:=m.length}:=rfl
theorem zWr(L:List Nat)(st:St):n5 L st=ksK st L (jB st [] L):=rfl
theorem zxf(st:St):w8 [] st=n5 [] st:=rfl
theorem zqA(t:Nat)(L:List Nat)(st:St):w8 (t::L) st=if 20000≤t then n5 L (zko (t-20000) st) else if 10000≤t then n5 L (zjX (t-10000) st) else n5 (t::L) st:=rfl
theorem z9m(t:Nat)(st:St):zko t st=if st.fr=0 then zyt t st (st.env t) else st:=rfl
theorem zQv(t:Nat)(st:St)(a b:Nat):zyt t st (some (.ptr (a,b) [] 0 0))=if a=0 then zWy t (a,b) st (st.heap (a,b)) else st:=rfl
theorem zVN(t:Nat)(st:St)(a b:Nat):zyt t st (some (.ref (a,b) []))=if a=0 then zQn t (a,b) st (st.heap (a,b)) else st:=rfl
theorem z7T(t:Nat)(id:Id)(st:St)(sz:Nat)(els:List (List D)):zQn t id st (some (.s sz els))={env:=upd st.env t (some (.d (.r (fzs els)))),heap:=upd st.heap id none,fr:=st.fr,next:=st.next}:=rfl
theorem z7o(t:Nat)(id:Id)(st:St)(sz:Nat)(el:List D):zWy t id st (some (.s sz [el]))={env:=upd st.env t (some (.rop (fzl el))),heap:=upd st.heap id none,fr:=st.fr,next:=st.next}:=rfl
theorem z9k(cs:List X):X.dim (.agg cs)= .agg (cs.map X.dimC):=rfl
theorem z7d(x:D):X.dimC (.d x)= .d x:=rfl
theorem zQq(id:Id)(p:Path):X.dimC (.ref id p)= .d .u:=rfl
theorem zYu(t:Nat)(st:St):zjX t st=if st.fr=0 then zZ2 st (st.env t) else st:=rfl
theorem zKO(st:St)(a b j i:Nat):zZ2 st (some (.ptr (a,b) [] j i))=if a=0 then zKq (a,b) st (st.heap (a,b)) else st:=rfl
theorem z76(id:Id)(st:St)(sz:Nat)(els:List (List D)):zKq id st (some (.s sz els))={env:=st.env,heap:=upd st.heap id (some (.s sz (els.map fun el=>el.map D.ice))),fr:=st.fr,next:=st.next}:=rfl
theorem z5W(x:Value):D.ice (.v x)= .v x:=rfl
theorem z6A(els:List (List D)):D.ice (.r els)= .r els:=rfl
theorem z6l(sz:Nat)(els:List (List D)):D.ice (.s sz els)= .r (fzs els):=rfl
def zjl(x:X)(b:List X×Heap):List X×Heap:=(x::b.1,b.2)
theorem zJl(x:X)(xs:List X)(h:Heap):zjl x (xs,h)=(x::xs,h):=rfl
def z8i(id:Id)(xs:List X)(a:X×Heap):List X×Heap:=zjl a.1 (xH a.2 (id.1,id.2+1) xs)
theorem zJj(a b:Nat)(xs:List X)(y:X)(h:Heap):z8i (a,b) xs (y,h)=zjl y (xH h (a,b+1) xs):=rfl
theorem zK3(h:Heap)(id:Id):xH h id []=([],h):=rfl
theorem zZs(h:Heap)(id:Id)(x:X)(xs:List X):xH h id (x::xs)=z8i id xs (lE h id x):=rfl
def z93(id:Id)(n:Nat)(xs:List X)(a:X×Heap):List X×Heap:=zjl a.1 (xM a.2 (id.1,id.2+n) xs)
theorem zQI(a b n:Nat)(xs:List X)(y:X)(h:Heap):z93 (a,b) n xs (y,h)=zjl y (xM h (a,b+n) xs):=rfl
theorem zZ1(h:Heap)(id:Id):xM h id []=([],h):=rfl
theorem zxp(h:Heap)(id:Id)(x:X)(xs:List X):xM h id (x::xs)=z93 id x.cells.length xs (oE h id x):=rfl
end Go.Ev
