import Derived.Test.YtcaonmepamlclaaGreatEvRow
set_option linter.all false
namespace Go.Ev
def z2C(id:Id)(q:Path)(j i n:Nat)(x:X):Option X:=if x.hit id q j i n then none else some x
theorem z9d(id:Id)(q:Path)(j i n:Nat)(e:Env)(t:Nat):purge id q j i n e t=(e t).bind (z2C id q j i n):=rfl
theorem z7O(id:Id)(q:Path)(j i n:Nat)(x:X):z2C id q j i n x=if x.hit id q j i n then none else some x:=rfl
def z5X(L:eB)(x:X):Option X:=if Bv x L then none else some x
theorem zQH(L:eB)(e:Env)(t:Nat):vZ L e t=(e t).bind (z5X L):=rfl
theorem zVc(L:eB)(x:X):z5X L x=if Bv x L then none else some x:=rfl
def z4l(x:X):Option X:=if x.root then some x else none
theorem zJL(e:Env)(t:Nat):uL e t=(e t).bind z4l:=rfl
theorem zX7(x:X):z4l x=if x.root then some x else none:=rfl
variable{C:Cl}{st:St}{d:Option Nat}{id:Nat}
def Fc(st:St)(d:Option Nat)(a b:O)(t:Bool):Option St:=if t then(rdO st a).map (st.put d) else(rdO st b).map (st.put d)
theorem z7e(a b:O):Fc st d a b true=(rdO st a).map (st.put d):=rfl
theorem z8U(a b:O):Fc st d a b false=(rdO st b).map (st.put d):=rfl
theorem z82(x:O):opS C st d id (.mov x)=(rdO st x).map (st.put d):=rfl
theorem zYl(c a b:O):opS C st d id (.pick c a b)=(rdB st c).bind (Fc st d a b):=rfl
def zW7(st:St)(d:Option Nat)(k:IntKind)(z:Int):St:=st.put d (.d (.v (.int k z)))
def zxt(st:St)(d:Option Nat)(z:Bool):St:=st.put d (.d (.v (.bool z)))
def z1w(st:St)(d:Option Nat)(z:ByteArray):St:=st.put d (.d (.v (.string z)))
theorem z5p(k:IntKind)(z:Int):zW7 st d k z=st.put d (.d (.v (.int k z))):=rfl
theorem z6p(z:Bool):zxt st d z=st.put d (.d (.v (.bool z))):=rfl
theorem z7S(z:ByteArray):z1w st d z=st.put d (.d (.v (.string z))):=rfl
def zZx(st:St)(d:Option Nat)(b:BinOp)(m n:IntKind×Int):Option St:=if m.1=n.1 then(zVl b m.1 m.2 n.2).map (zW7 st d m.1) else none
def z27(st:St)(d:Option Nat)(b:BinOp)(y:O)(m:IntKind×Int):Option St:=(rdI st y).bind (zZx st d b m)
theorem z6Q(b:BinOp)(x y:O):opS C st d id (.ari b x y)=(rdI st x).bind (z27 st d b y):=rfl
theorem z7v(b:BinOp)(y:O)(m:IntKind×Int):z27 st d b y m=(rdI st y).bind (zZx st d b m):=rfl
theorem zXo(b:BinOp)(k:IntKind)(m n:Int):zZx st d b (k,m) (k,n)=(zVl b k m n).map (zW7 st d k):=by unfold zZx;rw[if_pos rfl]
def zXv(st:St)(d:Option Nat)(b:BinOp)(m n:X):Option St:=(zXd b m n).map (zxt st d)
def z1f(st:St)(d:Option Nat)(b:BinOp)(y:O)(m:X):Option St:=(rdO st y).bind (zXv st d b m)
theorem z7p(b:BinOp)(x y:O):opS C st d id (.cmp b x y)=(rdO st x).bind (z1f st d b y):=rfl
theorem z7L(b:BinOp)(y:O)(m:X):z1f st d b y m=(rdO st y).bind (zXv st d b m):=rfl
theorem zWS(b:BinOp)(m n:X):zXv st d b m n=(zXd b m n).map (zxt st d):=rfl
def zv2(st:St)(d:Option Nat)(b:BinOp)(m n:Bool):Option St:=(z9J b m n).map (zxt st d)
def z4c(st:St)(d:Option Nat)(b:BinOp)(y:O)(m:Bool):Option St:=(rdB st y).bind (zv2 st d b m)
theorem zVm(b:BinOp)(x y:O):opS C st d id (.cmpb b x y)=(rdB st x).bind (z4c st d b y):=rfl
theorem zXe(b:BinOp)(y:O)(m:Bool):z4c st d b y m=(rdB st y).bind (zv2 st d b m):=rfl
theorem zQw(b:BinOp)(m n:Bool):zv2 st d b m n=(z9J b m n).map (zxt st d):=rfl
def z8k(st:St)(d:Option Nat)(a b:ByteArray):Option St:=if aE a b then some (st.put d (.d (.v (.string (a++b))))) else none
def z2G(st:St)(d:Option Nat)(y:O)(a:ByteArray):Option St:=(rdS st y).bind (z8k st d a)
theorem z6L(x y:O):opS C st d id (.cat x y)=(rdS st x).bind (z2G st d y):=rfl
theorem z7P(y:O)(a:ByteArray):z2G st d y a=(rdS st y).bind (z8k st d a):=rfl
theorem zWC{a b:ByteArray}(h:aE a b):z8k st d a b=some (st.put d (.d (.v (.string (a++b))))):=if_pos h
def z1a(st:St)(d:Option Nat)(m:IntKind×Int):St:=st.put d (.d (.v (.int m.1 (m.1.wrap (0-m.2)))))
theorem z67(x:O):opS C st d id (.neg x)=(rdI st x).map (z1a st d):=rfl
theorem z81(k:IntKind)(m:Int):z1a st d (k,m)=st.put d (.d (.v (.int k (k.wrap (0-m))))):=rfl
def z2t(st:St)(d:Option Nat)(b:Bool):St:=st.put d (.d (.v (.bool !b)))
theorem z6c(x:O):opS C st d id (.not x)=(rdB st x).map (z2t st d):=rfl
theorem z5k(b:Bool):z2t st d b=st.put d (.d (.v (.bool !b))):=rfl
def z4i(st:St)(d:Option Nat)(k:IntKind)(m:IntKind×Int):St:=st.put d (.d (.v (.int k (k.wrap m.2))))
theorem z9f(k:IntKind)(x:O):opS C st d id (.conv k x)=(rdI st x).map (z4i st d k):=rfl
theorem z8j(k k':IntKind)(m:Int):z4i st d k (k',m)=st.put d (.d (.v (.int k (k.wrap m)))):=rfl
def z59(st:St)(d:Option Nat)(m:IntKind×Int):St:=st.put d (.d (.v (.string (Utf8.encode m.2))))
theorem z9a(x:O):opS C st d id (.rune x)=(rdI st x).map (z59 st d):=rfl
theorem zYu(k:IntKind)(m:Int):z59 st d (k,m)=st.put d (.d (.v (.string (Utf8.encode m)))):=rfl
def z2w(st:St)(d:Option Nat)(s:ByteArray):Option St:=if aD 1 0 s.size then some (st.put d (.d (.r (Jy s)))) else none
theorem z6C(x:O):opS C st d id (.bos x)=(rdS st x).bind (z2w st d):=rfl
theorem z7D(s:ByteArray):z2w st d s=if aD 1 0 s.size then some (st.put d (.d (.r (Jy s)))) else none:=rfl
def zwE(st:St)(d:Option Nat)(s:ByteArray)(m:IntKind×Int):Option St:=if m.1= .u8 then some (st.put d (.d (.v (.int .i64 (Lib.indexByte s.data.toList m.2.toNat.toUInt8))))) else none
def z4e(st:St)(d:Option Nat)(y:O)(s:ByteArray):Option St:=(rdI st y).bind (zwE st d s)
theorem z98(f:Nat)(x y:O):opS C st d id (.idxb f x y)=(rdS st x).bind (z4e st d y):=rfl
theorem zWA(y:O)(s:ByteArray):z4e st d y s=(rdI st y).bind (zwE st d s):=rfl
theorem zK7(s:ByteArray)(n:Int):zwE st d s (.u8,n)=some (st.put d (.d (.v (.int .i64 (Lib.indexByte s.data.toList n.toNat.toUInt8))))):=rfl
def z92(st:St)(d:Option Nat)(ns:List Int):Option St:=if ns.isEmpty then none else some (st.put d (.d (.v (.string (zJt ns)))))
def z1g(st:St)(d:Option Nat)(a:X):Option St:=(E6 st.heap a).bind (z92 st d)
theorem z6f(x:O):opS C st d id (.sob x)=(rdO st x).bind (z1g st d):=rfl
theorem z6b(a:X):z1g st d a=(E6 st.heap a).bind (z92 st d):=rfl
theorem z9p(n:Int)(ns:List Int):z92 st d (n::ns)=some (st.put d (.d (.v (.string (zJt (n::ns)))))):=rfl
def z25(st:St)(d:Option Nat)(off:Nat)(n:Option Nat):X→Option St
 |.agg cs=>(zxs off n cs).map (st.put d)
 |_=>none
theorem z7g(off:Nat)(n:Option Nat)(x:O):opS C st d id (.fld off n x)=(rdO st x).bind (z25 st d off n):=by
 simp only[opS]
 congr 1
theorem z7K(off:Nat)(n:Option Nat)(cs:List X):z25 st d off n (.agg cs)=(zxs off n cs).map (st.put d):=rfl
def z9u(st:St)(d:Option Nat)(off:Nat)(a:X):Option St:=(Ek off a).map (st.put d)
theorem zQK(off:Nat)(x:O):opS C st d id (.faddr off x)=(rdO st x).bind (z9u st d off):=rfl
theorem zQr(off:Nat)(a:X):z9u st d off a=(Ek off a).map (st.put d):=rfl
def zVu(st:St)(d:Option Nat)(sz:Nat)(a:X)(n:IntKind×Int):Option St:=(Zb st.heap sz n.2 a).map (st.put d)
def z2N(st:St)(d:Option Nat)(sz:Nat)(i:O)(a:X):Option St:=(rdI st i).bind (zVu st d sz a)
theorem z6D(sz:Nat)(x i:O):opS C st d id (.ixa sz x i)=(rdO st x).bind (z2N st d sz i):=rfl
theorem z6K(sz:Nat)(i:O)(a:X):z2N st d sz i a=(rdI st i).bind (zVu st d sz a):=rfl
theorem zYN(sz:Nat)(a:X)(k:IntKind)(n:Int):zVu st d sz a (k,n)=(Zb st.heap sz n a).map (st.put d):=rfl
def zVd(st:St)(d:Option Nat)(b:UInt8):St:=st.put d (.d (.v (.int .u8 b.toNat)))
def zVg(st:St)(d:Option Nat)(s:ByteArray)(n:IntKind×Int):Option St:=if 0≤n.2 then(s[n.2.toNat]?).map (zVd st d) else none
def z2r(st:St)(d:Option Nat)(i:O)(s:ByteArray):Option St:=(rdI st i).bind (zVg st d s)
theorem z74(x i:O):opS C st d id (.ixs x i)=(rdS st x).bind (z2r st d i):=rfl
theorem z7f(i:O)(s:ByteArray):z2r st d i s=(rdI st i).bind (zVg st d s):=rfl
theorem zWd(s:ByteArray)(k:IntKind)(n:Int):zVg st d s (k,n)=if 0≤n then(s[n.toNat]?).map (zVd st d) else none:=rfl
theorem zVi(b:UInt8):zVd st d b=st.put d (.d (.v (.int .u8 b.toNat))):=rfl
def zwd(st:St)(d:Option Nat)(n:Option Nat)(cs:List X):Option St:=(Aw n cs).map (st.put d)
def z5O(st:St)(d:Option Nat)(n:Option Nat)(a:X):Option St:=(rX st.heap (n.getD 1) a).bind (zwd st d n)
theorem zVj(n:Option Nat)(x:O):opS C st d id (.load n x)=(rdO st x).bind (z5O st d n):=rfl
theorem zXH(n:Option Nat)(a:X):z5O st d n a=(rX st.heap (n.getD 1) a).bind (zwd st d n):=rfl
theorem zKC(n:Option Nat)(cs:List X):zwd st d n cs=(Aw n cs).map (st.put d):=rfl
def z9N(st:St)(id:Id)(q:Path)(j i n:Nat)(el cs:List D)(h:Heap):St:={st with heap:=h,env:=if i4 ((el.drop i).take n)&&i4 cs then st.env else purge id q j i n st.env}
theorem z9I(id:Id)(q:Path)(j i n:Nat)(el cs:List D)(h:Heap):z9N st id q j i n el cs h={st with heap:=h,env:=if i4 ((el.drop i).take n)&&i4 cs then st.env else purge id q j i n st.env}:=rfl
def zVp(st:St)(id:Id)(q:Path)(j i n:Nat)(cs:List D)(h:Heap)(r:Nat×List (List D))(el:List D):Option St:=if i+n≤el.length then(h.put id q (.s r.1 (r.2.set j (setCells el i cs)))).map (z9N st id q j i n el cs) else none
theorem z9c(id:Id)(q:Path)(j i n:Nat)(cs:List D)(h:Heap)(r:Nat×List (List D))(el:List D):zVp st id q j i n cs h r el=if i+n≤el.length then(h.put id q (.s r.1 (r.2.set j (setCells el i cs)))).map (z9N st id q j i n el cs) else none:=rfl
def zYn(st:St)(id:Id)(q:Path)(j i n:Nat)(cs:List D)(h:Heap)(r:Nat×List (List D)):Option St:=(r.2[j]?).bind (zVp st id q j i n cs h r)
theorem zYD(id:Id)(q:Path)(j i n:Nat)(cs:List D)(h:Heap)(m:Nat)(els:List (List D)):zYn st id q j i n cs h (m,els)=(els[j]?).bind (zVp st id q j i n cs h (m,els)):=rfl
def z9M(st:St)(id:Id)(q:Path)(j i n:Nat)(b:List D×Heap):Option St:=if b.1.length=n then(b.2.row id q).bind (zYn st id q j i n b.1 b.2) else none
theorem zXa(id:Id)(q:Path)(j i n:Nat)(cs:List D)(h:Heap):z9M st id q j i n (cs,h)=if cs.length=n then(h.row id q).bind (zYn st id q j i n cs h) else none:=rfl
def zZb(st:St)(n:Nat)(a:X)(cs:List X):Option St:=match a with
 |.ptr id q j i=>(lR st.heap cs).bind (z9M st id q j i n)
 |_=>none
theorem zJo(n:Nat)(a:X)(cs:List X):Gk st n a cs=zZb st n a cs:=by
 cases a<;>rfl
theorem zWc(n:Nat)(id:Id)(q:Path)(j i:Nat)(cs:List X):zZb st n (.ptr id q j i) cs=(lR st.heap cs).bind (z9M st id q j i n):=rfl
def zXn(d:Option Nat)(s:St):St:=s.lose d
theorem zWv(s:St):zXn d s=s.lose d:=rfl
def zzV(st:St)(d:Option Nat)(n:Nat)(x:O)(a b:X):Option St:=(if 10000≤n then vV st (n-10000) x a b else zZb st n a b.cells).map (zXn d)
def zVI(st:St)(d:Option Nat)(n:Nat)(x y:O)(a:X):Option St:=(rdO st y).bind (zzV st d n x a)
theorem zQL(n:Nat)(x y:O):opS C st d id (.store n x y)=(rdO st x).bind (zVI st d n x y):=by
 simp only[opS,zJo]
 rfl
theorem zJx(n:Nat)(x y:O)(a:X):zVI st d n x y a=(rdO st y).bind (zzV st d n x a):=rfl
theorem zxF(n:Nat)(x:O)(a b:X):zzV st d n x a b=(if 10000≤n then vV st (n-10000) x a b else zZb st n a b.cells).map (zXn d):=rfl
theorem zKv(n t:Nat)(i:Id)(cs:List X):vV st n (.t t) (.ptr i [] 0 0) (.agg cs)=if st.fr=0∧cs.length=n then Hh st n t i cs (st.heap i) else none:=rfl
theorem zwJ(n t:Nat)(i:Id)(cs:List X)(sz:Nat)(el:List D):Hh st n t i cs (some (.s sz [el]))=if el.length=n then some {env:=upd st.env t (some (.vp cs)),heap:=upd st.heap i none,fr:=st.fr,next:=st.next} else none:=rfl
def zXb(st:St)(d:Option Nat)(id n:Nat)(b:List D×Heap):Option St:=if b.1.length=n then some ((st.with (upd b.2 (st.fr,id) (some (.s n [b.1])))).put d (.ptr (st.fr,id) [] 0 0)) else none
def z1c(st:St)(d:Option Nat)(id n:Nat)(a:X):Option St:=(lR st.heap a.cells).bind (zXb st d id n)
theorem z5q(n:Nat)(x:O):opS C st d id (.box n x)=(rdO st x).bind (z1c st d id n):=rfl
theorem z5g(n:Nat)(a:X):z1c st d id n a=(lR st.heap a.cells).bind (zXb st d id n):=rfl
theorem zXu(n:Nat)(cs:List D)(h:Heap):zXb st d id n (cs,h)=if cs.length=n then some ((st.with (upd h (st.fr,id) (some (.s n [cs])))).put d (.ptr (st.fr,id) [] 0 0)) else none:=rfl
def zy8(st:St)(d:Option Nat)(n:Nat)(cs:List X):Option St:=if cs.length=n then some (st.put d (.vp cs)) else none
def z5Y(st:St)(d:Option Nat)(n:Nat)(a:X):Option St:=(a.cellsV).bind (zy8 st d n)
theorem zXK(n:Nat)(x:O):opS C st d id (.vbox n x)=(rdO st x).bind (z5Y st d n):=rfl
theorem zX8(n:Nat)(a:X):z5Y st d n a=(a.cellsV).bind (zy8 st d n):=rfl
theorem zK2(n:Nat)(cs:List X):zy8 st d n cs=if cs.length=n then some (st.put d (.vp cs)) else none:=rfl
def zQN(st:St)(d:Option Nat)(mx:Bool)(m n:IntKind×Int):Option St:=if m.1=n.1 then some (st.put d (.d (.v (.int m.1 (if mx then(if m.2<n.2 then n.2 else m.2) else(if n.2<m.2 then n.2 else m.2)))))) else none
def mmK(st:St)(d:Option Nat)(mx:Bool)(y:O)(m:IntKind×Int):Option St:=(rdI st y).bind (zQN st d mx m)
theorem z3Y(mx:Bool)(x y:O):opS C st d id (.mm mx x y)=(rdI st x).bind (mmK st d mx y):=rfl
theorem z4F(mx:Bool)(y:O)(m:IntKind×Int):mmK st d mx y m=(rdI st y).bind (zQN st d mx m):=rfl
theorem z49(k:IntKind)(m n:Int):zQN st d true (k,m) (k,n)=some (zW7 st d k (if m<n then n else m)):=by unfold zQN;rw[if_pos rfl];rfl
theorem z3x(k:IntKind)(m n:Int):zQN st d false (k,m) (k,n)=some (zW7 st d k (if n<m then n else m)):=by unfold zQN;rw[if_pos rfl];rfl
def zZz(st:St)(d:Option Nat)(ng:Bool)(k:Nat)(cs:List X)(z:Bool):Option St:=if cs.length=k then some (st.put d (.d (.v (.bool (if ng then !z else z))))) else none
theorem z8z(k:Nat)(cs:List X)(z:Bool):zZz st d true k cs z=if cs.length=k then some (zxt st d !z) else none:=rfl
theorem z77(k:Nat)(cs:List X)(z:Bool):zZz st d false k cs z=if cs.length=k then some (zxt st d z) else none:=rfl
def zX4(st:St)(d:Option Nat)(ng:Bool)(k:Nat)(cs ds:List X):Option St:=(Dr cs ds).bind (zZz st d ng k cs)
theorem zWU(ng:Bool)(k:Nat)(cs ds:List X):zX4 st d ng k cs ds=(Dr cs ds).bind (zZz st d ng k cs):=rfl
def zYv(st:St)(d:Option Nat)(ng:Bool)(k:Nat)(b:X)(cs:List X):Option St:=(b.aggOf).bind (zX4 st d ng k cs)
theorem zVU(ng:Bool)(k:Nat)(b:X)(cs:List X):zYv st d ng k b cs=(b.aggOf).bind (zX4 st d ng k cs):=rfl
def zVC(st:St)(d:Option Nat)(ng:Bool)(k:Nat)(a b:X):Option St:=(a.aggOf).bind (zYv st d ng k b)
theorem zWu(ng:Bool)(k:Nat)(a b:X):zVC st d ng k a b=(a.aggOf).bind (zYv st d ng k b):=rfl
def z2U(st:St)(d:Option Nat)(ng:Bool)(k:Nat)(y:O)(a:X):Option St:=(rdO st y).bind (zVC st d ng k a)
theorem z7B(ng:Bool)(k:Nat)(x y:O):opS C st d id (.eqa ng k x y)=(rdO st x).bind (z2U st d ng k y):=rfl
theorem z73(ng:Bool)(k:Nat)(y:O)(a:X):z2U st d ng k y a=(rdO st y).bind (zVC st d ng k a):=rfl
theorem zK3(cs:List X):X.aggOf (.agg cs)=some cs:=rfl
def z9H(m n:Int)(b:Bool):Bool:=decide (m=n)&&b
theorem zJB(m n:Int)(b:Bool):z9H m n b=(decide (m=n)&&b):=rfl
theorem zZX:Dr [] []=some true:=rfl
theorem zwn(k:IntKind)(m n:Int)(cs ds:List X):Dr (.d (.v (.int k m))::cs) (.d (.v (.int k n))::ds)=(Dr cs ds).map (z9H m n):=by rw[Dr,if_pos rfl];rfl
theorem zQv(zs:List D):opS C st d id (.alloc zs)=some ((st.with (upd st.heap (st.fr,id) (some (.s zs.length [zs])))).put d (.ptr (st.fr,id) [] 0 0)):=rfl
def z1d(st:St)(d:Option Nat)(cs:List X):St:=st.put d (.agg cs)
theorem zQn(zs:List D)(ps:List (Nat×Nat×O)):opS C st d id (.build zs ps)=(pS st (zs.map .d) ps).map (z1d st d):=rfl
theorem z8o(cs:List X):z1d st d cs=st.put d (.agg cs):=rfl
def zwU(st:St)(cs:List X)(off n:Nat)(ps:List (Nat×Nat×O))(us:List X):Option (List X):=if us.length=n∧off+n≤cs.length then pS st (Wo cs off us) ps else none
def z5Q(st:St)(cs:List X)(off n:Nat)(ps:List (Nat×Nat×O))(x:X):Option (List X):=(x.cellsV).bind (zwU st cs off n ps)
theorem zKU(cs:List X):pS st cs []=some cs:=rfl
theorem zv0(cs:List X)(off n:Nat)(o:O)(ps:List (Nat×Nat×O)):pS st cs ((off,n,o)::ps)=(rdO st o).bind (z5Q st cs off n ps):=rfl
theorem zYM(cs:List X)(off n:Nat)(ps:List (Nat×Nat×O))(x:X):z5Q st cs off n ps x=(x.cellsV).bind (zwU st cs off n ps):=rfl
theorem zQZ(cs:List X)(off n:Nat)(ps:List (Nat×Nat×O))(us:List X):zwU st cs off n ps us=if us.length=n∧off+n≤cs.length then pS st (Wo cs off us) ps else none:=rfl
def z2M(st:St)(d:Option Nat)(id sz:Nat)(a:List (List D)×Heap):St:=(st.with (upd a.2 (st.fr,id) (some (.s sz a.1)))).put d (.ref (st.fr,id) [])
theorem z8Y(sz:Nat)(ps:List O):opS C st d id (.lit sz ps)=(hZ st sz st.heap ps).map (z2M st d id sz):=rfl
theorem z8w(sz:Nat)(els:List (List D))(h:Heap):z2M st d id sz (els,h)=(st.with (upd h (st.fr,id) (some (.s sz els)))).put d (.ref (st.fr,id) []):=rfl
def z9i(ds:List D)(b:List (List D)×Heap):List (List D)×Heap:=(ds::b.1,b.2)
theorem zWH(ds:List D)(els:List (List D))(h:Heap):z9i ds (els,h)=(ds::els,h):=rfl
def z9e(st:St)(sz:Nat)(os:List O)(a:List D×Heap):Option (List (List D)×Heap):=if a.1.length=sz then(hZ st sz a.2 os).map (z9i a.1) else none
theorem z9y(sz:Nat)(os:List O)(ds:List D)(h:Heap):z9e st sz os (ds,h)=if ds.length=sz then(hZ st sz h os).map (z9i ds) else none:=rfl
def z2T(st:St)(sz:Nat)(h:Heap)(os:List O)(x:X):Option (List (List D)×Heap):=(lR h x.cells).bind (z9e st sz os)
theorem z5D(sz:Nat)(h:Heap)(os:List O)(x:X):z2T st sz h os x=(lR h x.cells).bind (z9e st sz os):=rfl
theorem zks(sz:Nat)(h:Heap):hZ st sz h []=some ([],h):=rfl
theorem zjd(sz:Nat)(h:Heap)(o:O)(os:List O):hZ st sz h (o::os)=(rdO st o).bind (z2T st sz h os):=rfl
def mkK(st:St)(d:Option Nat)(id sz bytes:Nat)(zs:List D)(m:IntKind×Int):Option St:=if aQ bytes m.2∧zs.length=sz then some ((st.with (upd st.heap (st.fr,id) (some (.s sz (List.replicate m.2.toNat zs))))).put d (.ref (st.fr,id) [])) else none
theorem z4t(sz bytes:Nat)(zs:List D)(n:O):opS C st d id (.mk sz bytes zs n)=(rdI st n).bind (mkK st d id sz bytes zs):=rfl
theorem z3h(sz bytes:Nat)(zs:List D)(k:IntKind)(n:Int):mkK st d id sz bytes zs (k,n)=if aQ bytes n∧zs.length=sz then some ((st.with (upd st.heap (st.fr,id) (some (.s sz (List.replicate n.toNat zs))))).put d (.ref (st.fr,id) [])) else none:=rfl
def zv1(st:St)(d:Option Nat)(sz:Nat)(els:List (List D))(l h:Int):Option St:=if 0≤l∧l≤h∧h≤(els.length:Int)∧els.all (fun el=>el.length==sz)=true then some (st.put d (.d (.r ((els.take h.toNat).drop l.toNat)))) else none
def zwV(st:St)(d:Option Nat)(sz:Nat)(els:List (List D))(hi:Option O)(l:Int):Option St:=(cJ st (els.length:Int) hi).bind (zv1 st d sz els l)
def z4j(st:St)(d:Option Nat)(sz:Nat)(lo hi:Option O):X→Option St
 |.d (.r els)=>(cJ st 0 lo).bind (zwV st d sz els hi)
 |_=>none
theorem zVF(sz:Nat)(x:O)(lo hi:Option O):opS C st d id (.cutr sz x lo hi)=(rdO st x).bind (z4j st d sz lo hi):=by
 simp only[opS]
 congr 1
theorem zYd(sz:Nat)(lo hi:Option O)(els:List (List D)):z4j st d sz lo hi (.d (.r els))=(cJ st 0 lo).bind (zwV st d sz els hi):=rfl
theorem zJp(sz:Nat)(els:List (List D))(hi:Option O)(l:Int):zwV st d sz els hi l=(cJ st (els.length:Int) hi).bind (zv1 st d sz els l):=rfl
theorem zKj(sz:Nat)(els:List (List D))(l h:Int):zv1 st d sz els l h=if 0≤l∧l≤h∧h≤(els.length:Int)∧els.all (fun el=>el.length==sz)=true then some (st.put d (.d (.r ((els.take h.toNat).drop l.toNat)))) else none:=rfl
def zxq(st:St)(d:Option Nat)(id sz:Nat)(l:Int)(els:List (List D))(hp:Heap)(h:Int):Option St:=if 0≤l∧l≤h∧h≤(els.length:Int)∧(l=0∨l<h) then some ((st.with (upd hp (st.fr,id) (some (.s sz ((els.take h.toNat).drop l.toNat))))).put d (.ref (st.fr,id) [])) else none
def zyR(st:St)(d:Option Nat)(id sz:Nat)(hi:Option O)(l:Int)(m:List (List D)×Heap):Option St:=(cJ st (m.1.length:Int) hi).bind (zxq st d id sz l m.1 m.2)
def zwv(st:St)(d:Option Nat)(id sz:Nat)(hi:Option O)(a:X)(l:Int):Option St:=(lW st.heap sz a).bind (zyR st d id sz hi l)
def z54(st:St)(d:Option Nat)(id sz:Nat)(lo hi:Option O)(a:X):Option St:=(cJ st 0 lo).bind (zwv st d id sz hi a)
theorem z9Z(sz:Nat)(x:O)(lo hi:Option O):opS C st d id (.cutm sz x lo hi)=(rdO st x).bind (z54 st d id sz lo hi):=rfl
theorem z9X(sz:Nat)(lo hi:Option O)(a:X):z54 st d id sz lo hi a=(cJ st 0 lo).bind (zwv st d id sz hi a):=rfl
theorem zKW(sz:Nat)(hi:Option O)(a:X)(l:Int):zwv st d id sz hi a l=(lW st.heap sz a).bind (zyR st d id sz hi l):=rfl
theorem zJY(sz:Nat)(hi:Option O)(l:Int)(els:List (List D))(hp:Heap):zyR st d id sz hi l (els,hp)=(cJ st (els.length:Int) hi).bind (zxq st d id sz l els hp):=rfl
theorem zZ0(sz:Nat)(l:Int)(els:List (List D))(hp:Heap)(h:Int):zxq st d id sz l els hp h=if 0≤l∧l≤h∧h≤(els.length:Int)∧(l=0∨l<h) then some ((st.with (upd hp (st.fr,id) (some (.s sz ((els.take h.toNat).drop l.toNat))))).put d (.ref (st.fr,id) [])) else none:=rfl
def zws(st:St)(d:Option Nat)(s:ByteArray)(l h:Int):Option St:=if 0≤l∧l≤h∧h≤(s.size:Int) then some (st.put d (.d (.v (.string (s.extract l.toNat h.toNat))))) else none
def zxo(st:St)(d:Option Nat)(s:ByteArray)(hi:Option O)(l:Int):Option St:=(cJ st (s.size:Int) hi).bind (zws st d s l)
def z5K(st:St)(d:Option Nat)(lo hi:Option O)(s:ByteArray):Option St:=(cJ st 0 lo).bind (zxo st d s hi)
theorem zX5(x:O)(lo hi:Option O):opS C st d id (.cutS x lo hi)=(rdS st x).bind (z5K st d lo hi):=rfl
theorem zWt(lo hi:Option O)(s:ByteArray):z5K st d lo hi s=(cJ st 0 lo).bind (zxo st d s hi):=rfl
theorem zK5(s:ByteArray)(hi:Option O)(l:Int):zxo st d s hi l=(cJ st (s.size:Int) hi).bind (zws st d s l):=rfl
theorem zJ0(s:ByteArray)(l h:Int):zws st d s l h=if 0≤l∧l≤h∧h≤(s.size:Int) then some (st.put d (.d (.v (.string (s.extract l.toNat h.toNat))))) else none:=rfl
def z93(st:St)(d:Option Nat)(n:Nat):St:=st.put d (.d (.v (.int .i64 (n:Int))))
def z2S(st:St)(d:Option Nat)(a:X):Option St:=(Xs st.heap a).map (z93 st d)
theorem z5E(x:O):opS C st d id (.len x)=(rdO st x).bind (z2S st d):=rfl
theorem z83(a:X):z2S st d a=(Xs st.heap a).map (z93 st d):=rfl
theorem z9j(n:Nat):z93 st d n=st.put d (.d (.v (.int .i64 (n:Int)))):=rfl
def z5P(st:St)(d:Option Nat)(s:ByteArray):St:=st.put d (.d (.v (.int .i64 (s.size:Int))))
theorem z9l(x:O):opS C st d id (.slen x)=(rdS st x).map (z5P st d):=rfl
theorem zYU(s:ByteArray):z5P st d s=st.put d (.d (.v (.int .i64 (s.size:Int)))):=rfl
def zXO(st:St)(d:Option Nat)(id sz bytes:Nat)(l:List (List D))(m:List (List D)×Heap):Option St:=if aD bytes l.length m.1.length∧m.1.all (fun el=>el.length==sz) then some ((st.with (upd m.2 (st.fr,id) (some (.s sz (l++m.1))))).put d (.ref (st.fr,id) [])) else none
def zWr(st:St)(d:Option Nat)(id sz bytes:Nat)(b:X)(l:List (List D)×Heap):Option St:=(sU l.2 b).bind (zXO st d id sz bytes l.1)
def zY8(st:St)(d:Option Nat)(id sz bytes:Nat)(a b:X):Option St:=(lW st.heap sz a).bind (zWr st d id sz bytes b)
def z2F(st:St)(d:Option Nat)(id sz bytes:Nat)(y:O)(a:X):Option St:=(rdO st y).bind (zY8 st d id sz bytes a)
theorem z7T(sz bytes:Nat)(x y:O):opS C st d id (.app sz bytes x y)=(rdO st x).bind (z2F st d id sz bytes y):=rfl
theorem z7V(sz bytes:Nat)(y:O)(a:X):z2F st d id sz bytes y a=(rdO st y).bind (zY8 st d id sz bytes a):=rfl
theorem zYR(sz bytes:Nat)(a b:X):zY8 st d id sz bytes a b=(lW st.heap sz a).bind (zWr st d id sz bytes b):=rfl
theorem zYs(sz bytes:Nat)(b:X)(l:List (List D))(h:Heap):zWr st d id sz bytes b (l,h)=(sU h b).bind (zXO st d id sz bytes l):=rfl
theorem zXm(sz bytes:Nat)(l m:List (List D))(h:Heap):zXO st d id sz bytes l (m,h)=if aD bytes l.length m.length∧m.all (fun el=>el.length==sz) then some ((st.with (upd h (st.fr,id) (some (.s sz (l++m))))).put d (.ref (st.fr,id) [])) else none:=rfl
def fnK(st:St)(d:Option Nat)(f:Nat)(xs:List X):St:=st.put d (if xs.isEmpty then .d (.v (.func (.func f) #[] #[])) else .clo f xs)
theorem z4Y(f:Nat)(caps:List O):opS C st d id (.fn f caps)=(p9 st caps).map (fnK st d f):=rfl
theorem fnK_eq(f:Nat)(xs:List X):fnK st d f xs=st.put d (if xs.isEmpty then .d (.v (.func (.func f) #[] #[])) else .clo f xs):=rfl
def zx2(st:St)(d:Option Nat)(id:Nat)(h:Heap)(x:X):Option St:=nK st d id x h
theorem zW1(h:Heap)(x:X):zx2 st d id h x=if x.ncells≤32 then some ((st.with (zV h (st.fr,id) x).2).put d (zV h (st.fr,id) x).1) else none:=rfl
def zvZ(st:St)(d:Option Nat)(id:Nat)(as:List X)(r:X):Option St:=if mD as||r.noR then nK st d id r st.heap else none
def zye(C:Cl)(st:St)(d:Option Nat)(id f:Nat)(as bs:List X):Option St:=(C.iso f bs).bind (zvZ st d id as)
def z50(C:Cl)(st:St)(d:Option Nat)(id f:Nat)(as:List X):Option St:=(qD st.heap as).bind (zye C st d id f as)
theorem zXW(f:Nat)(xs:List O):opS C st d id (.call f xs)=(p9 st xs).bind (z50 C st d id f):=rfl
theorem z8f(f:Nat)(as:List X):z50 C st d id f as=(qD st.heap as).bind (zye C st d id f as):=rfl
theorem zQz(f:Nat)(as bs:List X):zye C st d id f as bs=(C.iso f bs).bind (zvZ st d id as):=rfl
theorem zJk(as:List X)(r:X):zvZ st d id as r=if mD as||r.noR then zx2 st d id st.heap r else none:=rfl
def zj7(st:St)(d:Option Nat)(as:List X)(r:X):Option St:=if mD as||r.noR then some (st.put d r.frz) else none
def zjj(C:Cl)(st:St)(d:Option Nat)(f:Nat)(as bs:List X):Option St:=(C.iso f bs).bind (zj7 st d as)
def z9o(C:Cl)(st:St)(d:Option Nat)(f:Nat)(as:List X):Option St:=(qD st.heap as).bind (zjj C st d f as)
theorem zJG(f:Nat)(xs:List O):opS C st d id (.callr f xs)=(p9 st xs).bind (z9o C st d f):=rfl
theorem zZY(f:Nat)(as:List X):z9o C st d f as=(qD st.heap as).bind (zjj C st d f as):=rfl
theorem zxC(f:Nat)(as bs:List X):zjj C st d f as bs=(C.iso f bs).bind (zj7 st d as):=rfl
theorem zxi(as:List X)(r:X):zj7 st d as r=if mD as||r.noR then some (st.put d r.frz) else none:=rfl
def zjM(st:St)(d:Option Nat)(id:Nat)(r:X×Heap):Option St:=nK {st with env:=uL st.env} d id r.1 r.2
def zzP(C:Cl)(st:St)(d:Option Nat)(id:Nat)(g:Nat×List X)(as:List X):Option St:=(C g.1 (as++g.2) st.heap (st.fr+1)).bind (zjM st d id)
def zzR(C:Cl)(st:St)(d:Option Nat)(id:Nat)(xs:List O)(g:Nat×List X):Option St:=(p9 st xs).bind (zzP C st d id g)
def zVv(C:Cl)(st:St)(d:Option Nat)(id:Nat)(xs:List O)(c:X):Option St:=(Li c).bind (zzR C st d id xs)
theorem zKe(f:O)(xs:List O):opS C st d id (.calli f xs)=(rdO st f).bind (zVv C st d id xs):=rfl
theorem zK6(xs:List O)(c:X):zVv C st d id xs c=(Li c).bind (zzR C st d id xs):=rfl
theorem zwq(xs:List O)(g:Nat×List X):zzR C st d id xs g=(p9 st xs).bind (zzP C st d id g):=rfl
theorem zy6(f:Nat)(caps as:List X):zzP C st d id (f,caps) as=(C f (as++caps) st.heap (st.fr+1)).bind (zjM st d id):=rfl
theorem zw5(r:X)(h:Heap):zjM st d id (r,h)=zx2 {st with env:=uL st.env} d id h r:=rfl
def zjE(st:St)(d:Option Nat)(id:Nat)(L:eB)(r:X)(h2:Heap):Option St:=nK {st with env:=vZ L st.env} d id r h2
def R8(st:St)(d:Option Nat)(id:Nat)(as:List X)(bs:List Bool)(h:Heap)(L:eB)(r:X×Heap):Option St :=
 if (wS L&&r.1.noP&&(roF as bs||(r.1.noR&&zki r.2 0 L)))=true then(E9 h r.2 0 L).bind (zjE st d id L r.1) else none
def Sd(C:Cl)(st:St)(d:Option Nat)(id f:Nat)(as:List X)(bs:List Bool)(h:Heap)(L:eB)(ys:List X):Option St:=(C.give f ys (Ig 0 L) 1).bind (R8 st d id as bs h L)
def z5Z(a:D×Heap):X×Heap:=(.d a.1,a.2)
theorem z8h(d:D)(h:Heap):z5Z (d,h)=(.d d,h):=rfl
theorem zZO(h:Heap)(id:Id)(p:Path):Gd h (.ref id p)=(h.take id p).map z5Z:=rfl
theorem z8B(h:Heap)(x:D):Gd h (.d x)=some (.d x,h):=rfl
theorem zJF(h:Heap)(x:List X):Gd h (.agg x)=some (.agg x,h):=rfl
theorem zKz(h:Heap)(x:List X):Gd h (.tup x)=some (.tup x,h):=rfl
def zxA(st:St)(d:Option Nat)(id:Nat)(as:List X)(bs:List Bool)(h:Heap)(L:eB)(r:X×Heap):Option St:=(Gd r.2 r.1).bind (R8 st d id as bs h L)
theorem zKF(st:St)(d:Option Nat)(id:Nat)(as:List X)(bs:List Bool)(h:Heap)(L:eB)(r:X)(hB:Heap):zxA st d id as bs h L (r,hB)=(Gd hB r).bind (R8 st d id as bs h L):=rfl
def zj5(C:Cl)(st:St)(d:Option Nat)(id f:Nat)(as:List X)(bs:List Bool)(m:List X×Heap×eB):Option St:=(rS m.2.1 m.1 bs).bind (Sd C st d id f as bs m.2.1 m.2.2)
def zWY(C:Cl)(st:St)(d:Option Nat)(id f:Nat)(bs:List Bool)(as:List X):Option St:=(wL st.heap 0 as bs).bind (zj5 C st d id f as bs)
theorem zJ4(f:Nat)(xs:List O)(bs:List Bool):opS C st d id (.callb f xs bs)=(p9 st xs).bind (zWY C st d id f bs):=rfl
theorem zQp(f:Nat)(bs:List Bool)(as:List X):zWY C st d id f bs as=(wL st.heap 0 as bs).bind (zj5 C st d id f as bs):=rfl
theorem zwT(f:Nat)(as:List X)(bs:List Bool)(xs:List X)(h:Heap)(L:eB):zj5 C st d id f as bs (xs,h,L)=(rS h xs bs).bind (Sd C st d id f as bs h L):=rfl
theorem zwk(f:Nat)(as:List X)(bs:List Bool)(h:Heap)(L:eB)(ys:List X):Sd C st d id f as bs h L ys=(C f ys (Ig 0 L) 1).bind (zxA st d id as bs h L):=by unfold Sd Cl.give zxA;rw[Option.bind_assoc]
theorem zwZ(as:List X)(bs:List Bool)(h:Heap)(L:eB)(r:X)(hB:Heap):R8 st d id as bs h L (r,hB)=if (wS L&&r.noP&&(roF as bs||(r.noR&&zki hB 0 L)))=true then(E9 h hB 0 L).bind (zjE st d id L r) else none:=rfl
theorem zwg(L:eB)(r:X)(h2:Heap):zjE st d id L r h2=zx2 {st with env:=vZ L st.env} d id h2 r:=rfl
def z26(st:St)(d:Option Nat)(i:Nat):X→Option St
 |.tup cs=>(cs[i]?).map (st.put d)
 |_=>none
theorem z8X(x:O)(i:Nat):opS C st d id (.ext x i)=(rdO st x).bind (z26 st d i):=by
 simp only[opS]
 congr 1
theorem z7o(i:Nat)(cs:List X):z26 st d i (.tup cs)=(cs[i]?).map (st.put d):=rfl
def z2A(st:St)(d:Option Nat)(a:X):Option St:=(Ch a).map (st.put d)
theorem z8x(x:O):opS C st d id (.nck x)=(rdO st x).bind (z2A st d):=rfl
theorem z6G(a:X):z2A st d a=(Ch a).map (st.put d):=rfl
def z4p(r:Nat×List (List D)):X:= .d (.r (fzs r.2))
theorem z9k(sz:Nat)(e:List (List D)):z4p (sz,e)= .d (.r (fzs e)):=rfl
def z24(a:D×Heap):X×Heap:=(.d a.1,a.2)
theorem z7X(d:D)(h:Heap):z24 (d,h)=(.d d,h):=rfl
def z5T(a:List X×Heap):X×Heap:=(.agg a.1,a.2)
theorem zYJ(d:List X)(h:Heap):z5T (d,h)=(.agg d,h):=rfl
def z4s(y:X)(i:Id)(p:Path)(a:D×Heap):X×Heap×eB:=(y,a.2,[(i,p,a.1)])
theorem z6j(y:X)(i:Id)(p:Path)(d:D)(h:Heap):z4s y i p (d,h)=(y,h,[(i,p,d)]):=rfl
def z53(a:List X×Heap×eB):X×Heap×eB:=(.agg a.1,a.2)
theorem zYG(d:List X)(h:Heap)(L:eB):z53 (d,h,L)=(.agg d,h,L):=rfl
theorem zZL(c:D):X.cells (.d c)=[(.d c)]:=rfl
theorem zvu(cs:List X):X.cells (.agg cs)=cs:=rfl
theorem zvN(cs:List X):X.cells (.tup cs)=[(.tup cs)]:=rfl
theorem zqj(i:Id)(p:Path):X.cells (.ref i p)=[(.ref i p)]:=rfl
theorem zqv(i:Id)(p:Path)(j k:Nat):X.cells (.ptr i p j k)=[(.ptr i p j k)]:=rfl
theorem zvn(ds:List D):X.cells (.rop ds)=[(.rop ds)]:=rfl
theorem zxv(cs:List X):X.cells (.vp cs)=[(.vp cs)]:=rfl
theorem zkZ(f:Nat)(cs:List X):X.cells (.clo f cs)=[(.clo f cs)]:=rfl
theorem zyz(c:D):X.cellsV (.d c)=some [(.d c)]:=rfl
theorem zjY(cs:List X):X.cellsV (.agg cs)=some cs:=rfl
theorem zjp(cs:List X):X.cellsV (.tup cs)=none:=rfl
theorem zz3(i:Id)(p:Path):X.cellsV (.ref i p)=some [(.ref i p)]:=rfl
theorem zju(i:Id)(p:Path)(j k:Nat):X.cellsV (.ptr i p j k)=some [(.ptr i p j k)]:=rfl
theorem zz8(ds:List D):X.cellsV (.rop ds)=some [(.rop ds)]:=rfl
theorem zvh(cs:List X):X.cellsV (.vp cs)=some [(.vp cs)]:=rfl
theorem zjX(f:Nat)(cs:List X):X.cellsV (.clo f cs)=some [(.clo f cs)]:=rfl
theorem zWn(id:Id)(q:Path)(a b n:Nat)(c:D):X.hitC id q a b n (.d c)=false:=rfl
theorem zyx(id:Id)(q:Path)(a b n:Nat)(cs:List X):X.hitC id q a b n (.agg cs)=true:=rfl
theorem zv5(id:Id)(q:Path)(a b n:Nat)(cs:List X):X.hitC id q a b n (.tup cs)=true:=rfl
theorem zwo(id:Id)(q:Path)(a b n:Nat)(i:Id)(p:Path):X.hitC id q a b n (.ref i p)=(i==id&&Path.under q a b n p):=rfl
theorem zwX(id:Id)(q:Path)(a b n:Nat)(i:Id)(p:Path)(j k:Nat):X.hitC id q a b n (.ptr i p j k)=(i==id&&Path.under q a b n p):=rfl
theorem zyh(id:Id)(q:Path)(a b n:Nat)(ds:List D):X.hitC id q a b n (.rop ds)=false:=rfl
theorem zQa(id:Id)(q:Path)(a b n:Nat)(cs:List X):X.hitC id q a b n (.vp cs)=true:=rfl
theorem zwp(id:Id)(q:Path)(a b n:Nat)(f:Nat)(cs:List X):X.hitC id q a b n (.clo f cs)=true:=rfl
theorem z8Q(id:Id)(q:Path)(a b n:Nat)(c:D):X.hit id q a b n (.d c)=X.hitC id q a b n (.d c):=rfl
theorem zJ9(id:Id)(q:Path)(a b n:Nat)(cs:List X):X.hit id q a b n (.agg cs)=zkI id q a b n cs:=rfl
theorem zJQ(id:Id)(q:Path)(a b n:Nat)(cs:List X):X.hit id q a b n (.tup cs)=true:=rfl
theorem zJz(id:Id)(q:Path)(a b n:Nat)(i:Id)(p:Path):X.hit id q a b n (.ref i p)=X.hitC id q a b n (.ref i p):=rfl
theorem zKk(id:Id)(q:Path)(a b n:Nat)(i:Id)(p:Path)(j k:Nat):X.hit id q a b n (.ptr i p j k)=X.hitC id q a b n (.ptr i p j k):=rfl
theorem zQb(id:Id)(q:Path)(a b n:Nat)(ds:List D):X.hit id q a b n (.rop ds)=X.hitC id q a b n (.rop ds):=rfl
theorem z9n(id:Id)(q:Path)(a b n:Nat)(cs:List X):X.hit id q a b n (.vp cs)=zkI id q a b n cs:=rfl
theorem zQU(id:Id)(q:Path)(a b n:Nat)(f:Nat)(cs:List X):X.hit id q a b n (.clo f cs)=X.hitC id q a b n (.clo f cs):=rfl
theorem zKh(c:D):X.rootC (.d c)=true:=rfl
theorem zvT(cs:List X):X.rootC (.agg cs)=false:=rfl
theorem zvc(cs:List X):X.rootC (.tup cs)=false:=rfl
theorem zqC(i:Id)(p:Path):X.rootC (.ref i p)=p.isEmpty:=rfl
theorem zvb(i:Id)(p:Path)(j k:Nat):X.rootC (.ptr i p j k)=p.isEmpty:=rfl
theorem zq8(ds:List D):X.rootC (.rop ds)=true:=rfl
theorem zwu(cs:List X):X.rootC (.vp cs)=false:=rfl
theorem zqe(f:Nat)(cs:List X):X.rootC (.clo f cs)=false:=rfl
theorem zXE(c:D):X.root (.d c)=X.rootC (.d c):=rfl
theorem zwx(cs:List X):X.root (.agg cs)=Iu cs:=rfl
theorem zwP(cs:List X):X.root (.tup cs)=X.rootC (.tup cs):=rfl
theorem zw9(i:Id)(p:Path):X.root (.ref i p)=X.rootC (.ref i p):=rfl
theorem zxh(i:Id)(p:Path)(j k:Nat):X.root (.ptr i p j k)=X.rootC (.ptr i p j k):=rfl
theorem zxp(ds:List D):X.root (.rop ds)=X.rootC (.rop ds):=rfl
theorem zK0(cs:List X):X.root (.vp cs)=Iu cs:=rfl
theorem zwO(f:Nat)(cs:List X):X.root (.clo f cs)=Iu cs:=rfl
theorem z8V(id:Id)(q:Path)(c:D):X.inC id q (.d c)=false:=rfl
theorem zQo(id:Id)(q:Path)(cs:List X):X.inC id q (.agg cs)=true:=rfl
theorem zVa(id:Id)(q:Path)(cs:List X):X.inC id q (.tup cs)=true:=rfl
theorem zQy(id:Id)(q:Path)(i:Id)(p:Path):X.inC id q (.ref i p)=(decide (i=id)&&q.isPrefixOf p&& !decide (p=q)):=rfl
theorem zJh(id:Id)(q:Path)(i:Id)(p:Path)(j k:Nat):X.inC id q (.ptr i p j k)=(decide (i=id)&&q.isPrefixOf p&& !decide (p=q)):=rfl
theorem zKf(id:Id)(q:Path)(ds:List D):X.inC id q (.rop ds)=false:=rfl
theorem zV8(id:Id)(q:Path)(cs:List X):X.inC id q (.vp cs)=true:=rfl
theorem zZ6(id:Id)(q:Path)(f:Nat)(cs:List X):X.inC id q (.clo f cs)=true:=rfl
theorem z7b(id:Id)(q:Path)(c:D):X.inV id q (.d c)=X.inC id q (.d c):=rfl
theorem zJ8(id:Id)(q:Path)(cs:List X):X.inV id q (.agg cs)=inL id q cs:=rfl
theorem zQD(id:Id)(q:Path)(cs:List X):X.inV id q (.tup cs)=X.inC id q (.tup cs):=rfl
theorem zZ4(id:Id)(q:Path)(i:Id)(p:Path):X.inV id q (.ref i p)=X.inC id q (.ref i p):=rfl
theorem zKa(id:Id)(q:Path)(i:Id)(p:Path)(j k:Nat):X.inV id q (.ptr i p j k)=X.inC id q (.ptr i p j k):=rfl
theorem zQ5(id:Id)(q:Path)(ds:List D):X.inV id q (.rop ds)=X.inC id q (.rop ds):=rfl
theorem zV7(id:Id)(q:Path)(cs:List X):X.inV id q (.vp cs)=inL id q cs:=rfl
theorem zZ7(id:Id)(q:Path)(f:Nat)(cs:List X):X.inV id q (.clo f cs)=inL id q cs:=rfl
theorem z86(c:D):X.roC (.d c)=true:=rfl
theorem zQG(cs:List X):X.roC (.agg cs)=false:=rfl
theorem zZQ(cs:List X):X.roC (.tup cs)=false:=rfl
theorem zQO(i:Id)(p:Path):X.roC (.ref i p)=false:=rfl
theorem zJl(i:Id)(p:Path)(j k:Nat):X.roC (.ptr i p j k)=false:=rfl
theorem zQF(ds:List D):X.roC (.rop ds)=false:=rfl
theorem z9r(cs:List X):X.roC (.vp cs)=false:=rfl
theorem zZW(f:Nat)(cs:List X):X.roC (.clo f cs)=false:=rfl
theorem z6z(c:D):X.roV (.d c)=X.roC (.d c):=rfl
theorem zJX(cs:List X):X.roV (.agg cs)=L9 cs:=rfl
theorem zZ3(cs:List X):X.roV (.tup cs)=X.roC (.tup cs):=rfl
theorem zQ0(i:Id)(p:Path):X.roV (.ref i p)=X.roC (.ref i p):=rfl
theorem zQ1(i:Id)(p:Path)(j k:Nat):X.roV (.ptr i p j k)=X.roC (.ptr i p j k):=rfl
theorem zJO(ds:List D):X.roV (.rop ds)=X.roC (.rop ds):=rfl
theorem zWi(cs:List X):X.roV (.vp cs)=X.roC (.vp cs):=rfl
theorem zZR(f:Nat)(cs:List X):X.roV (.clo f cs)=X.roC (.clo f cs):=rfl
theorem z6Z(c:D):X.noP (.d c)=X.roV (.d c):=rfl
theorem zQu(cs:List X):X.noP (.agg cs)=X.roV (.agg cs):=rfl
theorem zJZ(cs:List X):X.noP (.tup cs)=mD cs:=rfl
theorem zKA(i:Id)(p:Path):X.noP (.ref i p)=X.roV (.ref i p):=rfl
theorem zKo(i:Id)(p:Path)(j k:Nat):X.noP (.ptr i p j k)=X.roV (.ptr i p j k):=rfl
theorem zKR(ds:List D):X.noP (.rop ds)=X.roV (.rop ds):=rfl
theorem z9A(cs:List X):X.noP (.vp cs)=X.roV (.vp cs):=rfl
theorem zZ2(f:Nat)(cs:List X):X.noP (.clo f cs)=X.roV (.clo f cs):=rfl
theorem zXj(c:D):X.noRC (.d c)=c.noR:=rfl
theorem zyr(cs:List X):X.noRC (.agg cs)=false:=rfl
theorem zyd(cs:List X):X.noRC (.tup cs)=false:=rfl
theorem zxk(i:Id)(p:Path):X.noRC (.ref i p)=false:=rfl
theorem zwC(i:Id)(p:Path)(j k:Nat):X.noRC (.ptr i p j k)=false:=rfl
theorem zyE(ds:List D):X.noRC (.rop ds)=false:=rfl
theorem zJH(cs:List X):X.noRC (.vp cs)=false:=rfl
theorem zyy(f:Nat)(cs:List X):X.noRC (.clo f cs)=false:=rfl
theorem zYw(c:D):X.noRV (.d c)=X.noRC (.d c):=rfl
theorem zya(cs:List X):X.noRV (.agg cs)=zYI cs:=rfl
theorem zyH(cs:List X):X.noRV (.tup cs)=X.noRC (.tup cs):=rfl
theorem zwM(i:Id)(p:Path):X.noRV (.ref i p)=X.noRC (.ref i p):=rfl
theorem zw0(i:Id)(p:Path)(j k:Nat):X.noRV (.ptr i p j k)=X.noRC (.ptr i p j k):=rfl
theorem zyS(ds:List D):X.noRV (.rop ds)=X.noRC (.rop ds):=rfl
theorem zJf(cs:List X):X.noRV (.vp cs)=X.noRC (.vp cs):=rfl
theorem zxu(f:Nat)(cs:List X):X.noRV (.clo f cs)=X.noRC (.clo f cs):=rfl
theorem z7C(c:D):X.noR (.d c)=X.noRV (.d c):=rfl
theorem zZI(cs:List X):X.noR (.agg cs)=X.noRV (.agg cs):=rfl
theorem zQ9(cs:List X):X.noR (.tup cs)=zKm cs:=rfl
theorem zKX(i:Id)(p:Path):X.noR (.ref i p)=X.noRV (.ref i p):=rfl
theorem zJs(i:Id)(p:Path)(j k:Nat):X.noR (.ptr i p j k)=X.noRV (.ptr i p j k):=rfl
theorem zQW(ds:List D):X.noR (.rop ds)=X.noRV (.rop ds):=rfl
theorem zXQ(cs:List X):X.noR (.vp cs)=X.noRV (.vp cs):=rfl
theorem zJU(f:Nat)(cs:List X):X.noR (.clo f cs)=X.noRV (.clo f cs):=rfl
theorem zQf(x:Value):X.frzC (.d (.v x))=(.d (.v x)):=rfl
theorem zKd(e:List (List D)):X.frzC (.d (.r e))=(.d (.r e)):=rfl
theorem zZU:X.frzC (.d .u)=(.d .u):=rfl
theorem zQQ(sz:Nat)(e:List (List D)):X.frzC (.d (.s sz e))= .d (.r (fzs e)):=rfl
theorem zwW(cs:List X):X.frzC (.agg cs)=(.agg cs):=rfl
theorem zxn(cs:List X):X.frzC (.tup cs)=(.tup cs):=rfl
theorem zyk(i:Id)(p:Path):X.frzC (.ref i p)=(.ref i p):=rfl
theorem zxc(i:Id)(p:Path)(j k:Nat):X.frzC (.ptr i p j k)=(.ptr i p j k):=rfl
theorem zyA(ds:List D):X.frzC (.rop ds)=(.rop ds):=rfl
theorem zJe(cs:List X):X.frzC (.vp cs)=(.vp cs):=rfl
theorem zy7(f:Nat)(cs:List X):X.frzC (.clo f cs)=(.clo f cs):=rfl
theorem zWR(c:D):X.frzV (.d c)=X.frzC (.d c):=rfl
theorem zxe(cs:List X):X.frzV (.agg cs)= .agg (Y0 cs):=rfl
theorem zwK(cs:List X):X.frzV (.tup cs)=X.frzC (.tup cs):=rfl
theorem zwB(i:Id)(p:Path):X.frzV (.ref i p)=X.frzC (.ref i p):=rfl
theorem zy4(i:Id)(p:Path)(j k:Nat):X.frzV (.ptr i p j k)=X.frzC (.ptr i p j k):=rfl
theorem zxj(ds:List D):X.frzV (.rop ds)=X.frzC (.rop ds):=rfl
theorem zJc(cs:List X):X.frzV (.vp cs)=X.frzC (.vp cs):=rfl
theorem zy2(f:Nat)(cs:List X):X.frzV (.clo f cs)=X.frzC (.clo f cs):=rfl
theorem z65(c:D):X.frz (.d c)=X.frzV (.d c):=rfl
theorem zKM(cs:List X):X.frz (.agg cs)=X.frzV (.agg cs):=rfl
theorem zJn(cs:List X):X.frz (.tup cs)= .tup (Yw cs):=rfl
theorem zJ7(i:Id)(p:Path):X.frz (.ref i p)=X.frzV (.ref i p):=rfl
theorem zQC(i:Id)(p:Path)(j k:Nat):X.frz (.ptr i p j k)=X.frzV (.ptr i p j k):=rfl
theorem zJa(ds:List D):X.frz (.rop ds)=X.frzV (.rop ds):=rfl
theorem z9F(cs:List X):X.frz (.vp cs)=X.frzV (.vp cs):=rfl
theorem zZ8(f:Nat)(cs:List X):X.frz (.clo f cs)=X.frzV (.clo f cs):=rfl
theorem zYB(c:D):X.flat (.d c)=true:=rfl
theorem zyJ(cs:List X):X.flat (.agg cs)=false:=rfl
theorem zwF(cs:List X):X.flat (.tup cs)=false:=rfl
theorem zwI(i:Id)(p:Path):X.flat (.ref i p)=true:=rfl
theorem zwi(i:Id)(p:Path)(j k:Nat):X.flat (.ptr i p j k)=true:=rfl
theorem zyB(ds:List D):X.flat (.rop ds)=true:=rfl
theorem zKH(cs:List X):X.flat (.vp cs)=false:=rfl
theorem zv9(f:Nat)(cs:List X):X.flat (.clo f cs)=false:=rfl
theorem zJb(c:D):X.keeps (.d c)=true:=rfl
theorem zk4(cs:List X):X.keeps (.agg cs)=cs.all X.flat:=rfl
theorem zvJ(cs:List X):X.keeps (.tup cs)=false:=rfl
theorem zqU(i:Id)(p:Path):X.keeps (.ref i p)=true:=rfl
theorem zvG(i:Id)(p:Path)(j k:Nat):X.keeps (.ptr i p j k)=true:=rfl
theorem zqY(ds:List D):X.keeps (.rop ds)=true:=rfl
theorem zyl(cs:List X):X.keeps (.vp cs)=cs.all X.flat:=rfl
theorem zqR(f:Nat)(cs:List X):X.keeps (.clo f cs)=cs.all X.flat:=rfl
theorem zWM(fr:Nat)(c:D):X.offC fr (.d c)=[]:=rfl
theorem zwe(fr:Nat)(cs:List X):X.offC fr (.agg cs)=[]:=rfl
theorem zxm(fr:Nat)(cs:List X):X.offC fr (.tup cs)=[]:=rfl
theorem zw8(fr:Nat)(i:Id)(p:Path):X.offC fr (.ref i p)=if i.1=fr then [i.2] else []:=rfl
theorem zwH(fr:Nat)(i:Id)(p:Path)(j k:Nat):X.offC fr (.ptr i p j k)=if i.1=fr then [i.2] else []:=rfl
theorem zwS(fr:Nat)(ds:List D):X.offC fr (.rop ds)=[]:=rfl
theorem zKD(fr:Nat)(cs:List X):X.offC fr (.vp cs)=[]:=rfl
theorem zwl(fr:Nat)(f:Nat)(cs:List X):X.offC fr (.clo f cs)=[]:=rfl
theorem zXD(fr:Nat)(c:D):X.offs fr (.d c)=X.offC fr (.d c):=rfl
theorem zww(fr:Nat)(cs:List X):X.offs fr (.agg cs)=Kw fr cs:=rfl
theorem zyw(fr:Nat)(cs:List X):X.offs fr (.tup cs)=X.offC fr (.tup cs):=rfl
theorem zxD(fr:Nat)(i:Id)(p:Path):X.offs fr (.ref i p)=X.offC fr (.ref i p):=rfl
theorem zwR(fr:Nat)(i:Id)(p:Path)(j k:Nat):X.offs fr (.ptr i p j k)=X.offC fr (.ptr i p j k):=rfl
theorem zxd(fr:Nat)(ds:List D):X.offs fr (.rop ds)=X.offC fr (.rop ds):=rfl
theorem zQS(fr:Nat)(cs:List X):X.offs fr (.vp cs)=Kw fr cs:=rfl
theorem zvX(fr:Nat)(f:Nat)(cs:List X):X.offs fr (.clo f cs)=Kw fr cs:=rfl
theorem zWF(g:Id→Id)(c:D):X.renC g (.d c)=(.d c):=rfl
theorem zyU(g:Id→Id)(cs:List X):X.renC g (.agg cs)=(.agg cs):=rfl
theorem zwt(g:Id→Id)(cs:List X):X.renC g (.tup cs)=(.tup cs):=rfl
theorem zy3(g:Id→Id)(i:Id)(p:Path):X.renC g (.ref i p)= .ref (g i) p:=rfl
theorem zyT(g:Id→Id)(i:Id)(p:Path)(j k:Nat):X.renC g (.ptr i p j k)= .ptr (g i) p j k:=rfl
theorem zxl(g:Id→Id)(ds:List D):X.renC g (.rop ds)=(.rop ds):=rfl
theorem zJK(g:Id→Id)(cs:List X):X.renC g (.vp cs)=(.vp cs):=rfl
theorem zyu(g:Id→Id)(f:Nat)(cs:List X):X.renC g (.clo f cs)=(.clo f cs):=rfl
theorem z5e(g:Id→Id)(c:D):X.ren g (.d c)=X.renC g (.d c):=rfl
theorem zQA(g:Id→Id)(cs:List X):X.ren g (.agg cs)= .agg (cs.map (X.renC g)):=rfl
theorem zKy(g:Id→Id)(cs:List X):X.ren g (.tup cs)=X.renC g (.tup cs):=rfl
theorem zJC(g:Id→Id)(i:Id)(p:Path):X.ren g (.ref i p)=X.renC g (.ref i p):=rfl
theorem zQg(g:Id→Id)(i:Id)(p:Path)(j k:Nat):X.ren g (.ptr i p j k)=X.renC g (.ptr i p j k):=rfl
theorem zQP(g:Id→Id)(ds:List D):X.ren g (.rop ds)=X.renC g (.rop ds):=rfl
theorem zWh(g:Id→Id)(cs:List X):X.ren g (.vp cs)= .vp (cs.map (X.renC g)):=rfl
theorem zJW(g:Id→Id)(f:Nat)(cs:List X):X.ren g (.clo f cs)= .clo f (cs.map (X.renC g)):=rfl
theorem zWB(h:Heap)(x:Value):kP h (.d (.v x))=some (.v x,h):=rfl
theorem zVP(h:Heap)(e:List (List D)):kP h (.d (.r e))=some (.r e,h):=rfl
theorem z90(h:Heap)(sz:Nat):kP h (.d (.s sz []))=some (.s sz [],h):=rfl
theorem zYb(h:Heap):kP h (.d .u)=none:=rfl
theorem zKp(h:Heap)(i:Id)(p:Path):kP h (.ref i p)=h.take i p:=rfl
theorem zYS(h:Heap)(x:Value):oQ h (.d (.v x))=some (.d (.v x)):=rfl
theorem zXr(h:Heap)(e:List (List D)):oQ h (.d (.r e))=some (.d (.r e)):=rfl
theorem zV3(h:Heap)(sz:Nat):oQ h (.d (.s sz []))=some (.d (.r [])):=rfl
theorem zYt(h:Heap):oQ h (.d .u)=none:=rfl
theorem zJD(h:Heap)(i:Id)(p:Path):oQ h (.ref i p)=(h.row i p).map z4p:=rfl
theorem z3s(h:Heap)(c:D):Er h (.d c)=oQ h (.d c):=rfl
theorem zWE(h:Heap)(cs:List X):Er h (.agg cs)=(An h cs).map .agg:=rfl
theorem zY2(h:Heap)(cs:List X):Er h (.tup cs)=oQ h (.tup cs):=rfl
theorem z9O(h:Heap)(i:Id)(p:Path):Er h (.ref i p)=oQ h (.ref i p):=rfl
theorem z9t(h:Heap)(i:Id)(p:Path)(j k:Nat):Er h (.ptr i p j k)=oQ h (.ptr i p j k):=rfl
theorem zWZ(h:Heap)(ds:List D):Er h (.rop ds)=oQ h (.rop ds):=rfl
theorem z89(h:Heap)(cs:List X):Er h (.vp cs)=oQ h (.vp cs):=rfl
theorem zYm(h:Heap)(f:Nat)(cs:List X):Er h (.clo f cs)=oQ h (.clo f cs):=rfl
theorem z6Y(fr:Nat)(h:Heap)(x:Value):pD fr h (.d (.v x))=some (.d (.v x),h):=rfl
theorem z5G(fr:Nat)(h:Heap)(e:List (List D)):pD fr h (.d (.r e))=some (.d (.r e),h):=rfl
theorem z8O(fr:Nat)(h:Heap)(sz:Nat):pD fr h (.d (.s sz []))=some (.d (.s sz []),h):=rfl
theorem z8F(fr:Nat)(h:Heap):pD fr h (.d .u)=none:=rfl
theorem zVn(fr:Nat)(h:Heap)(i:Id)(p:Path):pD fr h (.ref i p)=if i.1=fr then(h.take i p).map z24 else some (.ref i p,h):=rfl
theorem z99(fr:Nat)(h:Heap)(i:Id)(p:Path)(j k:Nat):pD fr h (.ptr i p j k)=if i.1=fr then none else some (.ptr i p j k,h):=rfl
theorem z3k(fr:Nat)(h:Heap)(c:D):tU fr h (.d c)=pD fr h (.d c):=rfl
theorem z91(fr:Nat)(h:Heap)(cs:List X):tU fr h (.agg cs)=(Yn fr h cs).map z5T:=rfl
theorem zXA(fr:Nat)(h:Heap)(cs:List X):tU fr h (.tup cs)=pD fr h (.tup cs):=rfl
theorem zWN(fr:Nat)(h:Heap)(i:Id)(p:Path):tU fr h (.ref i p)=pD fr h (.ref i p):=rfl
theorem zYf(fr:Nat)(h:Heap)(i:Id)(p:Path)(j k:Nat):tU fr h (.ptr i p j k)=pD fr h (.ptr i p j k):=rfl
theorem z9z(fr:Nat)(h:Heap)(ds:List D):tU fr h (.rop ds)=pD fr h (.rop ds):=rfl
theorem z78(fr:Nat)(h:Heap)(cs:List X):tU fr h (.vp cs)=pD fr h (.vp cs):=rfl
theorem zVt(fr:Nat)(h:Heap)(f:Nat)(cs:List X):tU fr h (.clo f cs)=pD fr h (.clo f cs):=rfl
theorem z5i(h:Heap)(id:Id)(x:Value):l8 h id (.d (.v x))=((.d (.v x)),h):=rfl
theorem z6d(h:Heap)(id:Id)(e:List (List D)):l8 h id (.d (.r e))=((.d (.r e)),h):=rfl
theorem z8R(h:Heap)(id:Id):l8 h id (.d .u)=((.d .u),h):=rfl
theorem z5t(h:Heap)(id:Id)(sz:Nat)(e:List (List D)):l8 h id (.d (.s sz e))=(.ref id [],upd h id (some (.s sz e))):=rfl
theorem zXV(h:Heap)(id:Id)(cs:List X):l8 h id (.agg cs)=((.agg cs),h):=rfl
theorem zXT(h:Heap)(id:Id)(cs:List X):l8 h id (.tup cs)=((.tup cs),h):=rfl
theorem zVD(h:Heap)(id:Id)(i:Id)(p:Path):l8 h id (.ref i p)=((.ref i p),h):=rfl
theorem zV6(h:Heap)(id:Id)(i:Id)(p:Path)(j k:Nat):l8 h id (.ptr i p j k)=((.ptr i p j k),h):=rfl
theorem zV4(h:Heap)(id:Id)(ds:List D):l8 h id (.rop ds)=((.rop ds),h):=rfl
theorem z6l(h:Heap)(id:Id)(cs:List X):l8 h id (.vp cs)=((.vp cs),h):=rfl
theorem zYi(h:Heap)(id:Id)(f:Nat)(cs:List X):l8 h id (.clo f cs)=((.clo f cs),h):=rfl
theorem z3v(h:Heap)(id:Id)(c:D):pC h id (.d c)=l8 h id (.d c):=rfl
theorem zWD(h:Heap)(id:Id)(cs:List X):pC h id (.agg cs)=(.agg (zU h id cs).1,(zU h id cs).2):=rfl
theorem zXy(h:Heap)(id:Id)(cs:List X):pC h id (.tup cs)=l8 h id (.tup cs):=rfl
theorem zWW(h:Heap)(id:Id)(i:Id)(p:Path):pC h id (.ref i p)=l8 h id (.ref i p):=rfl
theorem zVh(h:Heap)(id:Id)(i:Id)(p:Path)(j k:Nat):pC h id (.ptr i p j k)=l8 h id (.ptr i p j k):=rfl
theorem zYZ(h:Heap)(id:Id)(ds:List D):pC h id (.rop ds)=l8 h id (.rop ds):=rfl
theorem z7l(h:Heap)(id:Id)(cs:List X):pC h id (.vp cs)=l8 h id (.vp cs):=rfl
theorem zVZ(h:Heap)(id:Id)(f:Nat)(cs:List X):pC h id (.clo f cs)=l8 h id (.clo f cs):=rfl
theorem z2c(h:Heap)(id:Id)(c:D):zV h id (.d c)=pC h id (.d c):=rfl
theorem zWe(h:Heap)(id:Id)(cs:List X):zV h id (.agg cs)=pC h id (.agg cs):=rfl
theorem z9B(h:Heap)(id:Id)(cs:List X):zV h id (.tup cs)=(.tup (Av h id cs).1,(Av h id cs).2):=rfl
theorem zV5(h:Heap)(id:Id)(i:Id)(p:Path):zV h id (.ref i p)=pC h id (.ref i p):=rfl
theorem zXh(h:Heap)(id:Id)(i:Id)(p:Path)(j k:Nat):zV h id (.ptr i p j k)=pC h id (.ptr i p j k):=rfl
theorem z9K(h:Heap)(id:Id)(ds:List D):zV h id (.rop ds)=pC h id (.rop ds):=rfl
theorem z5c(h:Heap)(id:Id)(cs:List X):zV h id (.vp cs)=pC h id (.vp cs):=rfl
theorem zXs(h:Heap)(id:Id)(f:Nat)(cs:List X):zV h id (.clo f cs)=pC h id (.clo f cs):=rfl
theorem zwm(c:D):X.ncells (.d c)=(X.cells (.d c)).length:=rfl
theorem zzJ(cs:List X):X.ncells (.agg cs)=(X.cells (.agg cs)).length:=rfl
theorem zjN(cs:List X):X.ncells (.tup cs)=(cs.map fun x=>x.cells.length).sum:=rfl
theorem zjZ(i:Id)(p:Path):X.ncells (.ref i p)=(X.cells (.ref i p)).length:=rfl
theorem zjb(i:Id)(p:Path)(j k:Nat):X.ncells (.ptr i p j k)=(X.cells (.ptr i p j k)).length:=rfl
theorem zz5(ds:List D):X.ncells (.rop ds)=(X.cells (.rop ds)).length:=rfl
theorem zkD(cs:List X):X.ncells (.vp cs)=(X.cells (.vp cs)).length:=rfl
theorem zjh(f:Nat)(cs:List X):X.ncells (.clo f cs)=(X.cells (.clo f cs)).length:=rfl
theorem z5n(h:Heap)(n:Nat)(x:Value):Ed h n (.d (.v x))=some (.d (.v x),h,[]):=rfl
theorem z7a(h:Heap)(n:Nat)(e:List (List D)):Ed h n (.d (.r e))=some (.d (.r e),h,[]):=rfl
theorem z7W(h:Heap)(n:Nat)(sz:Nat):Ed h n (.d (.s sz []))=some (.d (.s sz []),h,[]):=rfl
theorem z8G(h:Heap)(n:Nat):Ed h n (.d .u)=none:=rfl
theorem zXx(h:Heap)(n:Nat)(i:Id)(p:Path):Ed h n (.ref i p)=(h.take i p).map (z4s (.ref (0,n) []) i p):=rfl
theorem z8g(h:Heap)(n:Nat)(i:Id)(p:Path)(j k:Nat):Ed h n (.ptr i p j k)=(h.take i p).map (z4s (.ptr (0,n) [] j k) i p):=rfl
theorem z3E(h:Heap)(n:Nat)(c:D):Q1 h n (.d c)=Ed h n (.d c):=rfl
theorem zVE(h:Heap)(n:Nat)(cs:List X):Q1 h n (.agg cs)=(Xq h n cs).map z53:=rfl
theorem z9S(h:Heap)(n:Nat)(cs:List X):Q1 h n (.tup cs)=Ed h n (.tup cs):=rfl
theorem z9T(h:Heap)(n:Nat)(i:Id)(p:Path):Q1 h n (.ref i p)=Ed h n (.ref i p):=rfl
theorem z95(h:Heap)(n:Nat)(i:Id)(p:Path)(j k:Nat):Q1 h n (.ptr i p j k)=Ed h n (.ptr i p j k):=rfl
theorem zW9(h:Heap)(n:Nat)(ds:List D):Q1 h n (.rop ds)=Ed h n (.rop ds):=rfl
theorem z88(h:Heap)(n:Nat)(cs:List X):Q1 h n (.vp cs)=Ed h n (.vp cs):=rfl
theorem zVw(h:Heap)(n:Nat)(f:Nat)(cs:List X):Q1 h n (.clo f cs)=Ed h n (.clo f cs):=rfl
theorem zYc(x:Value)(cs:List D):i4 (.v x::cs)=i4 cs:=rfl
theorem zY7(sz:Nat)(e:List (List D))(cs:List D):i4 (.s sz e::cs)=false:=rfl
theorem zXi(e:List (List D))(cs:List D):i4 (.r e::cs)=false:=rfl
theorem zWg(cs:List D):i4 (.u::cs)=false:=rfl
theorem zyc:i4 []=true:=rfl
def tN(x:X)(xs:List X):List X:=x::xs
theorem zXz(x:X)(xs:List X):tN x xs=x::xs:=rfl
def zwh(x:D)(a:List D×Heap):List D×Heap:=(x::a.1,a.2)
theorem zKs(x:D)(xs:List D)(h:Heap):zwh x (xs,h)=(x::xs,h):=rfl
def V3(x:X)(a:List X×Heap):List X×Heap:=(x::a.1,a.2)
theorem zK9(x:X)(xs:List X)(h:Heap):V3 x (xs,h)=(x::xs,h):=rfl
theorem zXl(st:St):p9 st []=some []:=rfl
def z5W(st:St)(os:List O)(x:X):Option (List X):=(p9 st os).map (tN x)
theorem zQm(st:St)(o:O)(os:List O):p9 st (o::os)=(rdO st o).bind (z5W st os):=rfl
theorem z9q(st:St)(os:List O)(x:X):z5W st os x=(p9 st os).map (tN x):=rfl
theorem zQJ(h:Heap):lR h []=some ([],h):=rfl
def zXP(xs:List X)(a:D×Heap):Option (List D×Heap):=(lR a.2 xs).map (zwh a.1)
theorem zxz(h:Heap)(x:X)(xs:List X):lR h (x::xs)=(kP h x).bind (zXP xs):=rfl
theorem zJi(xs:List X)(d:D)(h:Heap):zXP xs (d,h)=(lR h xs).map (zwh d):=rfl
theorem zVQ(fr:Nat)(h:Heap):Yn fr h []=some ([],h):=rfl
def z4k(fr:Nat)(xs:List X)(a:X×Heap):Option (List X×Heap):=(Yn fr a.2 xs).map (V3 a.1)
theorem zK4(fr:Nat)(h:Heap)(x:X)(xs:List X):Yn fr h (x::xs)=(pD fr h x).bind (z4k fr xs):=rfl
theorem zX6(fr:Nat)(xs:List X)(d:X)(h:Heap):z4k fr xs (d,h)=(Yn fr h xs).map (V3 d):=rfl
theorem zWx(fr:Nat)(h:Heap):tQ fr h []=some ([],h):=rfl
def z57(fr:Nat)(xs:List X)(a:X×Heap):Option (List X×Heap):=(tQ fr a.2 xs).map (V3 a.1)
theorem zKJ(fr:Nat)(h:Heap)(x:X)(xs:List X):tQ fr h (x::xs)=(tU fr h x).bind (z57 fr xs):=rfl
theorem zVJ(fr:Nat)(xs:List X)(d:X)(h:Heap):z57 fr xs (d,h)=(tQ fr h xs).map (V3 d):=rfl
theorem zJN(h:Heap):An h []=some []:=rfl
def z9G(h:Heap)(xs:List X)(y:X):Option (List X):=(An h xs).map (tN y)
theorem zw1(h:Heap)(x:X)(xs:List X):An h (x::xs)=(oQ h x).bind (z9G h xs):=rfl
theorem zZ1(h:Heap)(xs:List X)(y:X):z9G h xs y=(An h xs).map (tN y):=rfl
theorem zQM(h:Heap):qD h []=some []:=rfl
def zYx(h:Heap)(xs:List X)(y:X):Option (List X):=(qD h xs).map (tN y)
theorem zyo(h:Heap)(x:X)(xs:List X):qD h (x::xs)=(Er h x).bind (zYx h xs):=rfl
theorem zJ6(h:Heap)(xs:List X)(y:X):zYx h xs y=(qD h xs).map (tN y):=rfl
def zXX(h:Heap)(xs:List X)(bs:List Bool)(y:X):Option (List X):=(rS h xs bs).map (tN y)
theorem zKP(h:Heap)(bs:List Bool):rS h [] bs=some []:=by unfold rS;rfl
theorem z8N(h:Heap)(x:X)(xs:List X)(bs:List Bool):rS h (x::xs) (true::bs)=(rS h xs bs).map (tN x):=rfl
theorem z64(h:Heap)(x:X)(xs:List X)(bs:List Bool):rS h (x::xs) (false::bs)=(Er h x).bind (zXX h xs bs):=rfl
theorem zQe(h:Heap)(xs:List X)(bs:List Bool)(y:X):zXX h xs bs y=(rS h xs bs).map (tN y):=rfl
def Th(x:X)(L:eB)(b:List X×Heap×eB):List X×Heap×eB:=(x::b.1,b.2.1,L++b.2.2)
theorem zKc(x:X)(L:eB)(xs:List X)(h:Heap)(M:eB):Th x L (xs,h,M)=(x::xs,h,L++M):=rfl
def z5R(k:Nat)(xs:List X)(a:X×Heap×eB):Option (List X×Heap×eB):=(Xq a.2.1 (k+a.2.2.length) xs).map (Th a.1 a.2.2)
theorem zYL(h:Heap)(k:Nat):Xq h k []=some ([],h,[]):=rfl
theorem zJ1(h:Heap)(k:Nat)(x:X)(xs:List X):Xq h k (x::xs)=(Ed h k x).bind (z5R k xs):=rfl
theorem zXJ(k:Nat)(xs:List X)(y:X)(h:Heap)(L:eB):z5R k xs (y,h,L)=(Xq h (k+L.length) xs).map (Th y L):=rfl
def z4g(k:Nat)(xs:List X)(bs:List Bool)(a:X×Heap×eB):Option (List X×Heap×eB):=(wL a.2.1 (k+a.2.2.length) xs bs).map (Th a.1 a.2.2)
def zWl(x:X)(c:List X×Heap×eB):List X×Heap×eB:=(x::c.1,c.2.1,c.2.2)
theorem zQx(x:X)(xs:List X)(h:Heap)(L:eB):zWl x (xs,h,L)=(x::xs,h,L):=rfl
theorem zWq(h:Heap)(k:Nat)(bs:List Bool):wL h k [] bs=some ([],h,[]):=by unfold wL;rfl
theorem z39(h:Heap)(k:Nat)(x:X)(xs:List X)(bs:List Bool):wL h k (x::xs) (true::bs)=(Q1 h k x).bind (z4g k xs bs):=rfl
theorem z3d(h:Heap)(k:Nat)(x:X)(xs:List X)(bs:List Bool):wL h k (x::xs) (false::bs)=(wL h k xs bs).map (zWl x):=rfl
theorem zWb(k:Nat)(xs:List X)(bs:List Bool)(y:X)(h:Heap)(L:eB):z4g k xs bs (y,h,L)=(wL h (k+L.length) xs bs).map (Th y L):=rfl
theorem z63(d:D):D.nav d []=some d:=by unfold D.nav;rfl
def z5j(p:Path)(c:D):Option D:=c.nav p
theorem z6v(p:Path)(c:D):z5j p c=c.nav p:=rfl
def z2R(i:Nat)(p:Path)(el:List D):Option D:=(el[i]?).bind (z5j p)
theorem z6S(i:Nat)(p:Path)(el:List D):z2R i p el=(el[i]?).bind (z5j p):=rfl
theorem z1i(sz:Nat)(els:List (List D))(j i:Nat)(p:Path):D.nav (.s sz els) ((j,i)::p)=(els[j]?).bind (z2R i p):=by rw[D.nav];rfl
theorem z6a(h:Heap)(id:Id)(p:Path):h.nav id p=(h id).bind (z5j p):=rfl
theorem z6N(h:Heap)(id:Id)(p:Path):h.row id p=(h.nav id p).bind D.rowOf:=rfl
def zVS(sz:Nat)(els:List (List D))(j i:Nat)(el:List D)(c:D):D:= .s sz (els.set j (el.set i c))
theorem zWK(sz:Nat)(els:List (List D))(j i:Nat)(el:List D)(c:D):zVS sz els j i el c= .s sz (els.set j (el.set i c)):=rfl
def zX3(sz:Nat)(els:List (List D))(j i:Nat)(p:Path)(x:D)(el:List D)(c:D):Option D:=(c.put p x).map (zVS sz els j i el)
theorem zXS(sz:Nat)(els:List (List D))(j i:Nat)(p:Path)(x:D)(el:List D)(c:D):zX3 sz els j i p x el c=(c.put p x).map (zVS sz els j i el):=rfl
def z58(sz:Nat)(els:List (List D))(j i:Nat)(p:Path)(x:D)(el:List D):Option D:=(el[i]?).bind (zX3 sz els j i p x el)
theorem zVL(sz:Nat)(els:List (List D))(j i:Nat)(p:Path)(x:D)(el:List D):z58 sz els j i p x el=(el[i]?).bind (zX3 sz els j i p x el):=rfl
theorem z8l(d x:D):D.put d [] x=some x:=by unfold D.put;rfl
theorem z1j(sz:Nat)(els:List (List D))(j i:Nat)(p:Path)(x:D):D.put (.s sz els) ((j,i)::p) x=(els[j]?).bind (z58 sz els j i p x):=by rw[D.put];rfl
def zyF(h:Heap)(id:Id)(d:D):Heap:=upd h id (some d)
theorem zKS(h:Heap)(id:Id)(d:D):zyF h id d=upd h id (some d):=rfl
def z4n(h:Heap)(id:Id)(p:Path)(x d:D):Option Heap:=(d.put p x).map (zyF h id)
theorem zXf(h:Heap)(id:Id)(p:Path)(x d:D):z4n h id p x d=(d.put p x).map (zyF h id):=rfl
theorem z6T(h:Heap)(id:Id)(p:Path)(x:D):h.put id p x=(h id).bind (z4n h id p x):=rfl
def z52(h:Heap)(id:Id)(r:Nat×List (List D)):D×Heap:=(.s r.1 r.2,upd h id none)
theorem zW3(h:Heap)(id:Id)(sz:Nat)(els:List (List D)):z52 h id (sz,els)=(.s sz els,upd h id none):=rfl
theorem zKG(h:Heap)(id:Id):h.take id []=(h.row id []).map (z52 h id):=rfl
def z9s(sz:Nat)(els:List (List D))(h:Heap):D×Heap:=(.s sz els,h)
theorem zVB(sz:Nat)(els:List (List D))(h:Heap):z9s sz els h=(.s sz els,h):=rfl
def z4m(h:Heap)(id:Id)(p:Path)(r:Nat×List (List D)):Option (D×Heap):=(h.put id p .u).map (z9s r.1 r.2)
theorem zXw(h:Heap)(id:Id)(p:Path)(sz:Nat)(els:List (List D)):z4m h id p (sz,els)=(h.put id p .u).map (z9s sz els):=rfl
theorem zyj(h:Heap)(id:Id)(c:Nat×Nat)(p:Path):h.take id (c::p)=(h.row id (c::p)).bind (z4m h id (c::p)):=rfl
theorem zXC(h:Heap)(id:Id)(x:D):h.putb id [] x=some (upd h id (some x)):=rfl
theorem zZH(h:Heap)(id:Id)(c:Nat×Nat)(p:Path)(x:D):h.putb id (c::p) x=h.put id (c::p) x:=rfl
theorem z2Y(id:Id)(p:Path)(x:Value):D.own id p (.v x)=some (.d (.v x)):=rfl
theorem z2u(id:Id)(p:Path)(sz:Nat)(e:List (List D)):D.own id p (.s sz e)=some (.ref id p):=rfl
theorem z22(id:Id)(p:Path)(e:List (List D)):D.own id p (.r e)=some (.d (.r e)):=rfl
theorem z2D(id:Id)(p:Path):D.own id p .u=none:=rfl
theorem zWp(id:Id)(q:Path)(j i:Nat):J9 id q j i []=some []:=by unfold J9;rfl
def z5S(id:Id)(q:Path)(j i:Nat)(cs:List D)(x:X):Option (List X):=(J9 id q j (i+1) cs).map (tN x)
theorem zY4(id:Id)(q:Path)(j i:Nat)(cs:List D)(x:X):z5S id q j i cs x=(J9 id q j (i+1) cs).map (tN x):=rfl
theorem zZ9(id:Id)(q:Path)(j i:Nat)(c:D)(cs:List D):J9 id q j i (c::cs)=(c.own id (q++[(j,i)])).bind (z5S id q j i cs):=rfl
theorem z1q(x:Value):D.ro (.v x)=some (.d (.v x)):=rfl
theorem z1E(sz:Nat)(e:List (List D)):D.ro (.s sz e)=some (.d (.r e)):=rfl
theorem z1t(e:List (List D)):D.ro (.r e)=some (.d (.r e)):=rfl
theorem z1s:D.ro .u=none:=rfl
theorem z7u:roL []=some []:=rfl
def z2L(cs:List D)(x:X):Option (List X):=(roL cs).map (tN x)
theorem z8q(cs:List D)(x:X):z2L cs x=(roL cs).map (tN x):=rfl
theorem zYg(c:D)(cs:List D):roL (c::cs)=(c.ro).bind (z2L cs):=rfl
theorem zZM(h:Heap)(n:Nat)(cs:List D):rX h n (.rop cs)=if n≤cs.length then roL (cs.take n) else none:=rfl
theorem zVy(h:Heap)(n:Nat)(cs:List X):rX h n (.vp cs)=if n≤cs.length then some (cs.take n) else none:=rfl
def ldB(id:Id)(q:Path)(j i n:Nat)(el:List D):Option (List X):=if i+n≤el.length then J9 id q j i ((el.drop i).take n) else none
theorem z33(id:Id)(q:Path)(j i n:Nat)(el:List D):ldB id q j i n el=if i+n≤el.length then J9 id q j i ((el.drop i).take n) else none:=rfl
def ldA(id:Id)(q:Path)(j i n:Nat)(r:Nat×List (List D)):Option (List X):=(r.2[j]?).bind (ldB id q j i n)
theorem z41(id:Id)(q:Path)(j i n sz:Nat)(els:List (List D)):ldA id q j i n (sz,els)=(els[j]?).bind (ldB id q j i n):=rfl
theorem zJ5(h:Heap)(n:Nat)(id:Id)(q:Path)(j i:Nat):rX h n (.ptr id q j i)=(h.row id q).bind (ldA id q j i n):=rfl
theorem zxE(off:Nat)(id:Id)(q:Path)(j i:Nat):Ek off (.ptr id q j i)=some (.ptr id q j (i+off)):=rfl
theorem zwG(off:Nat)(cs:List D):Ek off (.rop cs)=some (.rop (cs.drop off)):=rfl
theorem zKw(off:Nat)(cs:List X):Ek off (.vp cs)=some (.vp (cs.drop off)):=rfl
def ixB(sz:Nat)(el:List D):Option X:=if el.length=sz then some (.rop el) else none
theorem z4X(sz:Nat)(el:List D):ixB sz el=if el.length=sz then some (.rop el) else none:=rfl
theorem z4R(h:Heap)(sz:Nat)(n:Int)(els:List (List D)):Zb h sz n (.d (.r els))=if 0≤n∧n<(els.length:Int) then(els[n.toNat]?).bind (ixB sz) else none:=rfl
def ixC(id:Id)(p:Path)(sz:Nat)(n:Int)(r:Nat×List (List D)):Option X:=if 0≤n∧n<(r.2.length:Int)∧r.1=sz then some (.ptr id p n.toNat 0) else none
theorem z3w(id:Id)(p:Path)(sz:Nat)(n:Int)(m:Nat)(els:List (List D)):ixC id p sz n (m,els)=if 0≤n∧n<(els.length:Int)∧m=sz then some (.ptr id p n.toNat 0) else none:=rfl
theorem z94(h:Heap)(sz:Nat)(n:Int)(id:Id)(p:Path):Zb h sz n (.ref id p)=(h.row id p).bind (ixC id p sz n):=rfl
theorem z3K(h:Heap)(els:List (List D)):Xs h (.d (.r els))=some els.length:=rfl
theorem z4I(h:Heap)(sz:Nat):Xs h (.d (.s sz []))=some 0:=rfl
def z23(r:Nat×List (List D)):Nat:=r.2.length
theorem z69(sz:Nat)(els:List (List D)):z23 (sz,els)=els.length:=rfl
theorem zYa(h:Heap)(id:Id)(p:Path):Xs h (.ref id p)=(h.row id p).map z23:=rfl
theorem zyK(id:Id)(q:Path)(j i:Nat):Ch (.ptr id q j i)=some (.ptr id q j i):=rfl
theorem zxy(cs:List D):Ch (.rop cs)=some (.rop cs):=rfl
theorem zJw(cs:List X):Ch (.vp cs)=some (.vp cs):=rfl
def idH(h:Heap)(els:List (List D)):List (List D)×Heap:=(els,h)
def z1k(a:D×Heap):Option (List (List D)×Heap):=(a.1.rowOf).map fun r=>(r.2,a.2)
theorem z7Q(sz:Nat)(els:List (List D))(h:Heap):z1k (.s sz els,h)=some (els,h):=rfl
theorem zYT(h:Heap)(sz:Nat):sU h (.d (.s sz []))=some ([],h):=rfl
theorem zYr(h:Heap)(els:List (List D)):sU h (.d (.r els))=some (els.map fun el=>el.map D.toR,h):=rfl
theorem zyg(h:Heap)(id:Id)(p:Path):sU h (.ref id p)=(h.take id p).bind z1k:=rfl
def z4d(sz:Nat)(a:D×Heap):Option (List (List D)×Heap):=(a.1.rowOf).bind fun r=>if r.1=sz then some (r.2,a.2) else none
theorem z8e(sz m:Nat)(els:List (List D))(h:Heap):z4d sz (.s m els,h)=if m=sz then some (els,h) else none:=rfl
theorem zKg(h:Heap)(sz m:Nat):lW h sz (.d (.s m []))=some ([],h):=rfl
theorem zvq(h:Heap)(sz:Nat)(id:Id)(p:Path):lW h sz (.ref id p)=(h.take id p).bind (z4d sz):=rfl
theorem zJP(st:St):kR st []=some []:=by unfold kR;rfl
def zyv(st:St)(rs:List SRes)(x:X):Option (List X):=(kR st rs).map (tN x)
theorem zQY(st:St)(rs:List SRes)(x:X):zyv st rs x=(kR st rs).map (tN x):=rfl
theorem z8p(st:St)(n:Nat)(rs:List SRes):kR st (.t n::rs)=(st.env n).bind (zyv st rs):=rfl
def zVR(st:St)(k:Option Nat)(a:X):Option X:=(rX st.heap (k.getD 1) a).bind (Aw k)
theorem zQ3(st:St)(k:Option Nat)(a:X):zVR st k a=(rX st.heap (k.getD 1) a).bind (Aw k):=rfl
theorem z7H(st:St)(n:Nat)(k:Option Nat)(rs:List SRes):kR st (.c n k::rs)=((st.env n).bind (zVR st k)).bind (zyv st rs):=rfl
def zq0(a:List X×Heap):X:=sI a.1
theorem z7k(x:X)(h:Heap):zq0 ([x],h)=x:=rfl
theorem z5o(h:Heap):zq0 ([],h)= .tup []:=rfl
theorem z7m(x y:X)(xs:List X)(h:Heap):zq0 (x::y::xs,h)= .tup (x::y::xs):=rfl
def Z5(s:St)(xs:List X):Option X:=(tQ 0 s.heap xs).map zq0
theorem zY6(s:St)(xs:List X):Z5 s xs=(tQ 0 s.heap xs).map zq0:=rfl
def zkA(fr:Nat)(a:List X×Heap):X×Heap:=(sI a.1,bS fr a.2)
theorem z6u(fr:Nat)(x:X)(h:Heap):zkA fr ([x],h)=(x,bS fr h):=rfl
theorem z7M(fr:Nat)(h:Heap):zkA fr ([],h)=(.tup [],bS fr h):=rfl
theorem z5A(fr:Nat)(x y:X)(xs:List X)(h:Heap):zkA fr (x::y::xs,h)=(.tup (x::y::xs),bS fr h):=rfl
def zqL(s:St)(fr:Nat)(xs:List X):Option (X×Heap):=(tQ fr s.heap xs).map (zkA fr)
theorem z9Q(s:St)(fr:Nat)(xs:List X):zqL s fr xs=(tQ fr s.heap xs).map (zkA fr):=rfl
def z5z(st:St)(m:List (Nat×Nat))(ts:List Nat)(x:X):Bool→List (Nat×Nat)
 |true=>jV st (Qz m (x.offs st.fr)) ts
 |false=>jV st m ts
theorem z3V(st:St)(m:List (Nat×Nat))(ts:List Nat)(x:X):z5z st m ts x true=jV st (Qz m (x.offs st.fr)) ts:=rfl
theorem z4u(st:St)(m:List (Nat×Nat))(ts:List Nat)(x:X):z5z st m ts x false=jV st m ts:=rfl
def kmK(st:St)(m:List (Nat×Nat))(ts:List Nat):Option X→List (Nat×Nat)
 |some x=>z5z st m ts x x.keeps
 |none=>jV st m ts
theorem zkw(st:St)(m:List (Nat×Nat))(ts:List Nat)(x:X):kmK st m ts (some x)=z5z st m ts x x.keeps:=rfl
theorem z97(st:St)(m:List (Nat×Nat))(ts:List Nat):kmK st m ts none=jV st m ts:=rfl
theorem zQ2(st:St)(m:List (Nat×Nat)):jV st m []=m:=by unfold jV;rfl
theorem zyn(st:St)(m:List (Nat×Nat))(t:Nat)(ts:List Nat):jV st m (t::ts)=kmK st m ts (st.env t):=by
 rw[jV]
 cases st.env t with
 |none=>rfl
 |some x=>simp only[zkw];cases x.keeps<;>rfl
def z72(st:St)(m:List (Nat×Nat))(t:Nat)(ts:List Nat)(x:X):Bool→Env
 |true=>upd (pI st m ts) t (some (x.ren (kid st.fr m)))
 |false=>pI st m ts
theorem z44(st:St)(m:List (Nat×Nat))(t:Nat)(ts:List Nat)(x:X):z72 st m t ts x true=upd (pI st m ts) t (some (x.ren (kid st.fr m))):=rfl
theorem z3q(st:St)(m:List (Nat×Nat))(t:Nat)(ts:List Nat)(x:X):z72 st m t ts x false=pI st m ts:=rfl
def keK(st:St)(m:List (Nat×Nat))(t:Nat)(ts:List Nat):Option X→Env
 |some x=>z72 st m t ts x x.keeps
 |none=>pI st m ts
theorem zvt(st:St)(m:List (Nat×Nat))(t:Nat)(ts:List Nat)(x:X):keK st m t ts (some x)=z72 st m t ts x x.keeps:=rfl
theorem zXk(st:St)(m:List (Nat×Nat))(t:Nat)(ts:List Nat):keK st m t ts none=pI st m ts:=rfl
theorem zQ8(st:St)(m:List (Nat×Nat)):pI st m []=emp:=by unfold pI;rfl
theorem zyX(st:St)(m:List (Nat×Nat))(t:Nat)(ts:List Nat):pI st m (t::ts)=keK st m t ts (st.env t):=by
 rw[pI]
 cases st.env t with
 |none=>rfl
 |some x=>simp only[zvt];cases x.keeps<;>rfl
def ksK(st:St)(L:List Nat)(m:List (Nat×Nat)):St:={env:=pI st m L,heap:=Pc st.fr st.heap m,fr:=st.fr,next:=m.length}
theorem z2n(st:St)(L:List Nat)(m:List (Nat×Nat)):ksK st L m={env:=pI st m L,heap:=Pc st.fr st.heap m,fr:=st.fr,next:=m.length}:=rfl
theorem zVe(L:List Nat)(st:St):rR L st=ksK st L (jV st [] L):=rfl
theorem zQ4(st:St):Ai [] st=rR [] st:=rfl
theorem zwY(t:Nat)(L:List Nat)(st:St):Ai (t::L) st=if 10000≤t then rR L (zv3 (t-10000) st) else rR (t::L) st:=rfl
theorem z7J(t:Nat)(st:St):zv3 t st=if st.fr=0 then zV9 st (st.env t) else st:=rfl
theorem zVr(st:St)(a b j i:Nat):zV9 st (some (.ptr (a,b) [] j i))=if a=0 then zWw (a,b) st (st.heap (a,b)) else st:=rfl
theorem z2a(id:Id)(st:St)(sz:Nat)(els:List (List D)):zWw id st (some (.s sz els))={env:=st.env,heap:=upd st.heap id (some (.s sz (els.map fun el=>el.map D.ice))),fr:=st.fr,next:=st.next}:=rfl
theorem z28(x:Value):D.ice (.v x)= .v x:=rfl
theorem z2O(els:List (List D)):D.ice (.r els)= .r els:=rfl
theorem z2W(sz:Nat)(els:List (List D)):D.ice (.s sz els)= .r (fzs els):=rfl
def zqu(x:X)(b:List X×Heap):List X×Heap:=(x::b.1,b.2)
theorem zYF(x:X)(xs:List X)(h:Heap):zqu x (xs,h)=(x::xs,h):=rfl
def z51(id:Id)(xs:List X)(a:X×Heap):List X×Heap:=zqu a.1 (zU a.2 (id.1,id.2+1) xs)
theorem z9V(a b:Nat)(xs:List X)(y:X)(h:Heap):z51 (a,b) xs (y,h)=zqu y (zU h (a,b+1) xs):=rfl
theorem zXB(h:Heap)(id:Id):zU h id []=([],h):=rfl
theorem zJE(h:Heap)(id:Id)(x:X)(xs:List X):zU h id (x::xs)=z51 id xs (l8 h id x):=rfl
def z5V(id:Id)(n:Nat)(xs:List X)(a:X×Heap):List X×Heap:=zqu a.1 (Av a.2 (id.1,id.2+n) xs)
theorem zWQ(a b n:Nat)(xs:List X)(y:X)(h:Heap):z5V (a,b) n xs (y,h)=zqu y (Av h (a,b+n) xs):=rfl
theorem zW6(h:Heap)(id:Id):Av h id []=([],h):=rfl
theorem zKt(h:Heap)(id:Id)(x:X)(xs:List X):Av h id (x::xs)=z5V id x.cells.length xs (pC h id x):=rfl
end Go.Ev
