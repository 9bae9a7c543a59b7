import Derived.Test.YtenclibcnjkamaaGreatEvRow
set_option linter.all false
namespace Go.Ev
def z8b(id:Id)(q:Path)(j i n:Nat)(x:X):Option X:=if x.hit id q j i n then none else some x
theorem zZ9(id:Id)(q:Path)(j i n:Nat)(e:Env)(t:Nat):purge id q j i n e t=(e t).bind (z8b id q j i n):=rfl
theorem zWH(id:Id)(q:Path)(j i n:Nat)(x:X):z8b id q j i n x=if x.hit id q j i n then none else some x:=rfl
def zYD(L:dT)(x:X):Option X:=if wL x L then none else some x
theorem zkj(L:dT)(e:Env)(t:Nat):sD L e t=(e t).bind (zYD L):=rfl
theorem zZl(L:dT)(x:X):zYD L x=if wL x L then none else some x:=rfl
def zYT(x:X):Option X:=if x.root then some x else none
theorem zkW(e:Env)(t:Nat):rD e t=(e t).bind zYT:=rfl
theorem zxP(x:X):zYT x=if x.root then some x else none:=rfl
variable{C:Cl}{st:St}{d:Option Nat}{id:Nat}
def y4(st:St)(d:Option Nat)(a b:O)(t:Bool):Option St:=if t then(rdO st a).map (st.put d) else(rdO st b).map (st.put d)
theorem zVs(a b:O):y4 st d a b true=(rdO st a).map (st.put d):=rfl
theorem zKG(a b:O):y4 st d a b false=(rdO st b).map (st.put d):=rfl
theorem zK7(x:O):opS C st d id (.mov x)=(rdO st x).map (st.put d):=rfl
theorem zy0(c a b:O):opS C st d id (.pick c a b)=(rdB st c).bind (y4 st d a b):=rfl
def zJ4(st:St)(d:Option Nat)(k:IntKind)(z:Int):St:=st.put d (.d (.v (.int k z)))
def zzZ(st:St)(d:Option Nat)(z:Bool):St:=st.put d (.d (.v (.bool z)))
def z7q(st:St)(d:Option Nat)(z:ByteArray):St:=st.put d (.d (.v (.string z)))
theorem zVF(k:IntKind)(z:Int):zJ4 st d k z=st.put d (.d (.v (.int k z))):=rfl
theorem zVt(z:Bool):zzZ st d z=st.put d (.d (.v (.bool z))):=rfl
theorem zVo(z:ByteArray):z7q st d z=st.put d (.d (.v (.string z))):=rfl
def zjZ(st:St)(d:Option Nat)(b:BinOp)(m n:IntKind×Int):Option St:=if m.1=n.1 then(zym b m.1 m.2 n.2).map (zJ4 st d m.1) else none
def z95(st:St)(d:Option Nat)(b:BinOp)(y:O)(m:IntKind×Int):Option St:=(rdI st y).bind (zjZ st d b m)
theorem zVv(b:BinOp)(x y:O):opS C st d id (.ari b x y)=(rdI st x).bind (z95 st d b y):=rfl
theorem zVA(b:BinOp)(y:O)(m:IntKind×Int):z95 st d b y m=(rdI st y).bind (zjZ st d b m):=rfl
theorem zJa(b:BinOp)(k:IntKind)(m n:Int):zjZ st d b (k,m) (k,n)=(zym b k m n).map (zJ4 st d k):=by unfold zjZ;rw[if_pos rfl]
def zZT(st:St)(d:Option Nat)(b:BinOp)(m n:X):Option St:=(zxb b m n).map (zzZ st d)
def z8X(st:St)(d:Option Nat)(b:BinOp)(y:O)(m:X):Option St:=(rdO st y).bind (zZT st d b m)
theorem zVI(b:BinOp)(x y:O):opS C st d id (.cmp b x y)=(rdO st x).bind (z8X st d b y):=rfl
theorem zWm(b:BinOp)(y:O)(m:X):z8X st d b y m=(rdO st y).bind (zZT st d b m):=rfl
theorem zKa(b:BinOp)(m n:X):zZT st d b m n=(zxb b m n).map (zzZ st d):=rfl
def Zr(st:St)(d:Option Nat)(b:BinOp)(m n:Bool):Option St:=(zJm b m n).map (zzZ st d)
def zYq(st:St)(d:Option Nat)(b:BinOp)(y:O)(m:Bool):Option St:=(rdB st y).bind (Zr st d b m)
theorem zQA(b:BinOp)(x y:O):opS C st d id (.cmpb b x y)=(rdB st x).bind (zYq st d b y):=rfl
theorem zZR(b:BinOp)(y:O)(m:Bool):zYq st d b y m=(rdB st y).bind (Zr st d b m):=rfl
theorem zqO(b:BinOp)(m n:Bool):Zr st d b m n=(zJm b m n).map (zzZ st d):=rfl
def zJ7(st:St)(d:Option Nat)(a b:ByteArray):Option St:=if aE a b then some (st.put d (.d (.v (.string (a++b))))) else none
def z8M(st:St)(d:Option Nat)(y:O)(a:ByteArray):Option St:=(rdS st y).bind (zJ7 st d a)
theorem zK3(x y:O):opS C st d id (.cat x y)=(rdS st x).bind (z8M st d y):=rfl
theorem zVU(y:O)(a:ByteArray):z8M st d y a=(rdS st y).bind (zJ7 st d a):=rfl
theorem zyo{a b:ByteArray}(h:aE a b):zJ7 st d a b=some (st.put d (.d (.v (.string (a++b))))):=if_pos h
def z8Q(st:St)(d:Option Nat)(m:IntKind×Int):St:=st.put d (.d (.v (.int m.1 (m.1.wrap (0-m.2)))))
theorem zVN(x:O):opS C st d id (.neg x)=(rdI st x).map (z8Q st d):=rfl
theorem zVZ(k:IntKind)(m:Int):z8Q st d (k,m)=st.put d (.d (.v (.int k (k.wrap (0-m))))):=rfl
def z7d(st:St)(d:Option Nat)(b:Bool):St:=st.put d (.d (.v (.bool !b)))
theorem zKC(x:O):opS C st d id (.not x)=(rdB st x).map (z7d st d):=rfl
theorem zYg(b:Bool):z7d st d b=st.put d (.d (.v (.bool !b))):=rfl
def zYU(st:St)(d:Option Nat)(k:IntKind)(m:IntKind×Int):St:=st.put d (.d (.v (.int k (k.wrap m.2))))
theorem zQe(k:IntKind)(x:O):opS C st d id (.conv k x)=(rdI st x).map (zYU st d k):=rfl
theorem zQQ(k k':IntKind)(m:Int):zYU st d k (k',m)=st.put d (.d (.v (.int k (k.wrap m)))):=rfl
def zYK(st:St)(d:Option Nat)(m:IntKind×Int):St:=st.put d (.d (.v (.string (Utf8.encode m.2))))
theorem zQu(x:O):opS C st d id (.rune x)=(rdI st x).map (zYK st d):=rfl
theorem zJM(k:IntKind)(m:Int):zYK st d (k,m)=st.put d (.d (.v (.string (Utf8.encode m)))):=rfl
def z8y(st:St)(d:Option Nat)(s:ByteArray):Option St:=if aF 1 0 s.size then some (st.put d (.d (.r (Dg s)))) else none
theorem zWk(x:O):opS C st d id (.bos x)=(rdS st x).bind (z8y st d):=rfl
theorem zKy(s:ByteArray):z8y st d s=if aF 1 0 s.size then some (st.put d (.d (.r (Dg s)))) else none:=rfl
def Z6(st:St)(d:Option Nat)(s:ByteArray)(m:IntKind×Int):Option St:=if m.1= .u8 then some (st.put d (.d (.v (.int .i64 (Lib.indexByte s.data.toList m.2.toNat.toUInt8))))) else none
def zYJ(st:St)(d:Option Nat)(y:O)(s:ByteArray):Option St:=(rdI st y).bind (Z6 st d s)
theorem zKo(f:Nat)(x y:O):opS C st d id (.idxb f x y)=(rdS st x).bind (zYJ st d y):=rfl
theorem zy1(y:O)(s:ByteArray):zYJ st d y s=(rdI st y).bind (Z6 st d s):=rfl
theorem zvF(s:ByteArray)(n:Int):Z6 st d s (.u8,n)=some (st.put d (.d (.v (.int .i64 (Lib.indexByte s.data.toList n.toNat.toUInt8))))):=rfl
def zyu(st:St)(d:Option Nat)(ns:List Int):Option St:=if ns.isEmpty then none else some (st.put d (.d (.v (.string (U4 ns)))))
def z8R(st:St)(d:Option Nat)(a:X):Option St:=(zM st.heap a).bind (zyu st d)
theorem zWa(x:O):opS C st d id (.sob x)=(rdO st x).bind (z8R st d):=rfl
theorem zWs(a:X):z8R st d a=(zM st.heap a).bind (zyu st d):=rfl
theorem zJP(n:Int)(ns:List Int):zyu st d (n::ns)=some (st.put d (.d (.v (.string (U4 (n::ns)))))):=rfl
def z7b(st:St)(d:Option Nat)(off:Nat)(n:Option Nat):X→Option St
 |.agg cs=>(zzH off n cs).map (st.put d)
 |_=>none
theorem zKN(off:Nat)(n:Option Nat)(x:O):opS C st d id (.fld off n x)=(rdO st x).bind (z7b st d off n):=by
 simp only[opS]
 congr 1
theorem zWv(off:Nat)(n:Option Nat)(cs:List X):z7b st d off n (.agg cs)=(zzH off n cs).map (st.put d):=rfl
def zZK(st:St)(d:Option Nat)(off:Nat)(a:X):Option St:=(Bf off a).map (st.put d)
theorem zwS(off:Nat)(x:O):opS C st d id (.faddr off x)=(rdO st x).bind (zZK st d off):=rfl
theorem zwm(off:Nat)(a:X):zZK st d off a=(Bf off a).map (st.put d):=rfl
def zZG(st:St)(d:Option Nat)(sz:Nat)(a:X)(n:IntKind×Int):Option St:=(N8 st.heap sz n.2 a).map (st.put d)
def z8l(st:St)(d:Option Nat)(sz:Nat)(i:O)(a:X):Option St:=(rdI st i).bind (zZG st d sz a)
theorem zVD(sz:Nat)(x i:O):opS C st d id (.ixa sz x i)=(rdO st x).bind (z8l st d sz i):=rfl
theorem zKZ(sz:Nat)(i:O)(a:X):z8l st d sz i a=(rdI st i).bind (zZG st d sz a):=rfl
theorem zZJ(sz:Nat)(a:X)(k:IntKind)(n:Int):zZG st d sz a (k,n)=(N8 st.heap sz n a).map (st.put d):=rfl
def zxa(st:St)(d:Option Nat)(b:UInt8):St:=st.put d (.d (.v (.int .u8 b.toNat)))
def zx2(st:St)(d:Option Nat)(s:ByteArray)(n:IntKind×Int):Option St:=if 0≤n.2 then(s[n.2.toNat]?).map (zxa st d) else none
def z8A(st:St)(d:Option Nat)(i:O)(s:ByteArray):Option St:=(rdI st i).bind (zx2 st d s)
theorem zYa(x i:O):opS C st d id (.ixs x i)=(rdS st x).bind (z8A st d i):=rfl
theorem zWx(i:O)(s:ByteArray):z8A st d i s=(rdI st i).bind (zx2 st d s):=rfl
theorem zyq(s:ByteArray)(k:IntKind)(n:Int):zx2 st d s (k,n)=if 0≤n then(s[n.toNat]?).map (zxa st d) else none:=rfl
theorem zxJ(b:UInt8):zxa st d b=st.put d (.d (.v (.int .u8 b.toNat))):=rfl
def zzb(st:St)(d:Option Nat)(n:Option Nat)(cs:List X):Option St:=(wC n cs).map (st.put d)
def zYo(st:St)(d:Option Nat)(n:Option Nat)(a:X):Option St:=(pL st.heap (n.getD 1) a).bind (zzb st d n)
theorem zJN(n:Option Nat)(x:O):opS C st d id (.load n x)=(rdO st x).bind (zYo st d n):=rfl
theorem zQ8(n:Option Nat)(a:X):zYo st d n a=(pL st.heap (n.getD 1) a).bind (zzb st d n):=rfl
theorem zv8(n:Option Nat)(cs:List X):zzb st d n cs=(wC n cs).map (st.put d):=rfl
def zQt(st:St)(id:Id)(q:Path)(j i n:Nat)(el cs:List D)(h:Heap):St:={st with heap:=h,env:=if gT ((el.drop i).take n)&&gT cs then st.env else purge id q j i n st.env}
theorem zxU(id:Id)(q:Path)(j i n:Nat)(el cs:List D)(h:Heap):zQt st id q j i n el cs h={st with heap:=h,env:=if gT ((el.drop i).take n)&&gT cs then st.env else purge id q j i n st.env}:=rfl
def zyb(st:St)(id:Id)(q:Path)(j i n:Nat)(cs:List D)(h:Heap)(r:Nat×List (List D))(el:List D):Option St:=if i+n≤el.length then(h.put id q (.s r.1 (r.2.set j (setCells el i cs)))).map (zQt st id q j i n el cs) else none
theorem zZ3(id:Id)(q:Path)(j i n:Nat)(cs:List D)(h:Heap)(r:Nat×List (List D))(el:List D):zyb st id q j i n cs h r el=if i+n≤el.length then(h.put id q (.s r.1 (r.2.set j (setCells el i cs)))).map (zQt st id q j i n el cs) else none:=rfl
def zy6(st:St)(id:Id)(q:Path)(j i n:Nat)(cs:List D)(h:Heap)(r:Nat×List (List D)):Option St:=(r.2[j]?).bind (zyb st id q j i n cs h r)
theorem zQL(id:Id)(q:Path)(j i n:Nat)(cs:List D)(h:Heap)(m:Nat)(els:List (List D)):zy6 st id q j i n cs h (m,els)=(els[j]?).bind (zyb st id q j i n cs h (m,els)):=rfl
def zyc(st:St)(id:Id)(q:Path)(j i n:Nat)(b:List D×Heap):Option St:=if b.1.length=n then(b.2.row id q).bind (zy6 st id q j i n b.1 b.2) else none
theorem zJ3(id:Id)(q:Path)(j i n:Nat)(cs:List D)(h:Heap):zyc st id q j i n (cs,h)=if cs.length=n then(h.row id q).bind (zy6 st id q j i n cs h) else none:=rfl
def Vz(st:St)(n:Nat)(a:X)(cs:List X):Option St:=match a with
 |.ptr id q j i=>(kE st.heap cs).bind (zyc st id q j i n)
 |_=>none
theorem zwo(n:Nat)(a:X)(cs:List X):u4 st n a cs=Vz st n a cs:=by
 cases a<;>rfl
theorem zJS(n:Nat)(id:Id)(q:Path)(j i:Nat)(cs:List X):Vz st n (.ptr id q j i) cs=(kE st.heap cs).bind (zyc st id q j i n):=rfl
def zxH(d:Option Nat)(s:St):St:=s.lose d
theorem zJi(s:St):zxH d s=s.lose d:=rfl
def Sj(st:St)(d:Option Nat)(n:Nat)(x:O)(a b:X):Option St:=(if 10000≤n then rM st n x a b else Vz st n a b.cells).map (zxH d)
def zZW(st:St)(d:Option Nat)(n:Nat)(x y:O)(a:X):Option St:=(rdO st y).bind (Sj st d n x a)
theorem zkv(n:Nat)(x y:O):opS C st d id (.store n x y)=(rdO st x).bind (zZW st d n x y):=by
 simp only[opS,zwo]
 rfl
theorem zwF(n:Nat)(x y:O)(a:X):zZW st d n x y a=(rdO st y).bind (Sj st d n x a):=rfl
theorem Zl(n:Nat)(x:O)(a b:X):Sj st d n x a b=(if 10000≤n then rM st n x a b else Vz st n a b.cells).map (zxH d):=rfl
theorem zkX(n:Nat)(o:O)(x y:X):rM st n o x y=if 20000≤n then Vz st (n-20000) x y.dim.cells else uP st (n-10000) o x y:=rfl
theorem zwc(n t:Nat)(i:Id)(cs:List X):uP st n (.t t) (.ptr i [] 0 0) (.agg cs)=if st.fr=0∧cs.length=n then Bx st n t i cs (st.heap i) else none:=rfl
theorem zzo(n t:Nat)(i:Id)(cs:List X)(sz:Nat)(el:List D):Bx st n t i cs (some (.s sz [el]))=if el.length=n then some {env:=upd st.env t (some (.vp cs)),heap:=upd st.heap i none,fr:=st.fr,next:=st.next} else none:=rfl
def zQD(st:St)(d:Option Nat)(id n:Nat)(b:List D×Heap):Option St:=if b.1.length=n then some ((st.with (upd b.2 (st.fr,id) (some (.s n [b.1])))).put d (.ptr (st.fr,id) [] 0 0)) else none
def z8I(st:St)(d:Option Nat)(id n:Nat)(a:X):Option St:=(kE st.heap a.cells).bind (zQD st d id n)
theorem zYf(n:Nat)(x:O):opS C st d id (.box n x)=(rdO st x).bind (z8I st d id n):=rfl
theorem zK9(n:Nat)(a:X):z8I st d id n a=(kE st.heap a.cells).bind (zQD st d id n):=rfl
theorem zJk(n:Nat)(cs:List D)(h:Heap):zQD st d id n (cs,h)=if cs.length=n then some ((st.with (upd h (st.fr,id) (some (.s n [cs])))).put d (.ptr (st.fr,id) [] 0 0)) else none:=rfl
def Yy(st:St)(d:Option Nat)(n:Nat)(cs:List X):Option St:=if cs.length=n then some (st.put d (.vp cs)) else none
def zYn(st:St)(d:Option Nat)(n:Nat)(a:X):Option St:=(a.cellsV).bind (Yy st d n)
theorem zxu(n:Nat)(x:O):opS C st d id (.vbox n x)=(rdO st x).bind (zYn st d n):=rfl
theorem zJx(n:Nat)(a:X):zYn st d n a=(a.cellsV).bind (Yy st d n):=rfl
theorem zq1(n:Nat)(cs:List X):Yy st d n cs=if cs.length=n then some (st.put d (.vp cs)) else none:=rfl
def zv7(st:St)(d:Option Nat)(mx:Bool)(m n:IntKind×Int):Option St:=if m.1=n.1 then some (st.put d (.d (.v (.int m.1 (if mx then(if m.2<n.2 then n.2 else m.2) else(if n.2<m.2 then n.2 else m.2)))))) else none
def mmK(st:St)(d:Option Nat)(mx:Bool)(y:O)(m:IntKind×Int):Option St:=(rdI st y).bind (zv7 st d mx m)
theorem z9f(mx:Bool)(x y:O):opS C st d id (.mm mx x y)=(rdI st x).bind (mmK st d mx y):=rfl
theorem z9q(mx:Bool)(y:O)(m:IntKind×Int):mmK st d mx y m=(rdI st y).bind (zv7 st d mx m):=rfl
theorem z9l(k:IntKind)(m n:Int):zv7 st d true (k,m) (k,n)=some (zJ4 st d k (if m<n then n else m)):=by unfold zv7;rw[if_pos rfl];rfl
theorem zXS(k:IntKind)(m n:Int):zv7 st d false (k,m) (k,n)=some (zJ4 st d k (if n<m then n else m)):=by unfold zv7;rw[if_pos rfl];rfl
def zqp(st:St)(d:Option Nat)(ng:Bool)(k:Nat)(cs:List X)(z:Bool):Option St:=if cs.length=k then some (st.put d (.d (.v (.bool (if ng then !z else z))))) else none
theorem zWr(k:Nat)(cs:List X)(z:Bool):zqp st d true k cs z=if cs.length=k then some (zzZ st d !z) else none:=rfl
theorem zVz(k:Nat)(cs:List X)(z:Bool):zqp st d false k cs z=if cs.length=k then some (zzZ st d z) else none:=rfl
def zZn(st:St)(d:Option Nat)(ng:Bool)(k:Nat)(cs ds:List X):Option St:=(xW cs ds).bind (zqp st d ng k cs)
theorem zQh(ng:Bool)(k:Nat)(cs ds:List X):zZn st d ng k cs ds=(xW cs ds).bind (zqp st d ng k cs):=rfl
def zy8(st:St)(d:Option Nat)(ng:Bool)(k:Nat)(b:X)(cs:List X):Option St:=(b.aggOf).bind (zZn st d ng k cs)
theorem zZL(ng:Bool)(k:Nat)(b:X)(cs:List X):zy8 st d ng k b cs=(b.aggOf).bind (zZn st d ng k cs):=rfl
def zJ5(st:St)(d:Option Nat)(ng:Bool)(k:Nat)(a b:X):Option St:=(a.aggOf).bind (zy8 st d ng k b)
theorem zQV(ng:Bool)(k:Nat)(a b:X):zJ5 st d ng k a b=(a.aggOf).bind (zy8 st d ng k b):=rfl
def z8n(st:St)(d:Option Nat)(ng:Bool)(k:Nat)(y:O)(a:X):Option St:=(rdO st y).bind (zJ5 st d ng k a)
theorem zW2(ng:Bool)(k:Nat)(x y:O):opS C st d id (.eqa ng k x y)=(rdO st x).bind (z8n st d ng k y):=rfl
theorem zWu(ng:Bool)(k:Nat)(y:O)(a:X):z8n st d ng k y a=(rdO st y).bind (zJ5 st d ng k a):=rfl
theorem zqS(cs:List X):X.aggOf (.agg cs)=some cs:=rfl
def zJZ(m n:Int)(b:Bool):Bool:=decide (m=n)&&b
theorem zkD(m n:Int)(b:Bool):zJZ m n b=(decide (m=n)&&b):=rfl
theorem zqP:xW [] []=some true:=rfl
theorem zja(k:IntKind)(m n:Int)(cs ds:List X):xW (.d (.v (.int k m))::cs) (.d (.v (.int k n))::ds)=(xW cs ds).map (zJZ m n):=by rw[xW,if_pos rfl];rfl
theorem zqX(zs:List D):opS C st d id (.alloc zs)=some ((st.with (upd st.heap (st.fr,id) (some (.s zs.length [zs])))).put d (.ptr (st.fr,id) [] 0 0)):=rfl
def z9Y(st:St)(d:Option Nat)(cs:List X):St:=st.put d (.agg cs)
theorem zqQ(zs:List D)(ps:List (Nat×Nat×O)):opS C st d id (.build zs ps)=(nO st (zs.map .d) ps).map (z9Y st d):=rfl
theorem zV2(cs:List X):z9Y st d cs=st.put d (.agg cs):=rfl
def Zo(st:St)(cs:List X)(off n:Nat)(ps:List (Nat×Nat×O))(us:List X):Option (List X):=if us.length=n∧off+n≤cs.length then nO st (Jw cs off us) ps else none
def zYt(st:St)(cs:List X)(off n:Nat)(ps:List (Nat×Nat×O))(x:X):Option (List X):=(x.cellsV).bind (Zo st cs off n ps)
theorem zqT(cs:List X):nO st cs []=some cs:=rfl
theorem zzE(cs:List X)(off n:Nat)(o:O)(ps:List (Nat×Nat×O)):nO st cs ((off,n,o)::ps)=(rdO st o).bind (zYt st cs off n ps):=rfl
theorem zZI(cs:List X)(off n:Nat)(ps:List (Nat×Nat×O))(x:X):zYt st cs off n ps x=(x.cellsV).bind (Zo st cs off n ps):=rfl
theorem zvR(cs:List X)(off n:Nat)(ps:List (Nat×Nat×O))(us:List X):Zo st cs off n ps us=if us.length=n∧off+n≤cs.length then nO st (Jw cs off us) ps else none:=rfl
def z9C(st:St)(d:Option Nat)(id sz:Nat)(a:List (List D)×Heap):St:=(st.with (upd a.2 (st.fr,id) (some (.s sz a.1)))).put d (.ref (st.fr,id) [])
theorem zVc(sz:Nat)(ps:List O):opS C st d id (.lit sz ps)=(fZ st sz st.heap ps).map (z9C st d id sz):=rfl
theorem zK0(sz:Nat)(els:List (List D))(h:Heap):z9C st d id sz (els,h)=(st.with (upd h (st.fr,id) (some (.s sz els)))).put d (.ref (st.fr,id) []):=rfl
def zyO(ds:List D)(b:List (List D)×Heap):List (List D)×Heap:=(ds::b.1,b.2)
theorem zQm(ds:List D)(els:List (List D))(h:Heap):zyO ds (els,h)=(ds::els,h):=rfl
def zQy(st:St)(sz:Nat)(os:List O)(a:List D×Heap):Option (List (List D)×Heap):=if a.1.length=sz then(fZ st sz a.2 os).map (zyO a.1) else none
theorem zZ6(sz:Nat)(os:List O)(ds:List D)(h:Heap):zQy st sz os (ds,h)=if ds.length=sz then(fZ st sz h os).map (zyO ds) else none:=rfl
def z82(st:St)(sz:Nat)(h:Heap)(os:List O)(x:X):Option (List (List D)×Heap):=(kE h x.cells).bind (zQy st sz os)
theorem zVl(sz:Nat)(h:Heap)(os:List O)(x:X):z82 st sz h os x=(kE h x.cells).bind (zQy st sz os):=rfl
theorem X3(sz:Nat)(h:Heap):fZ st sz h []=some ([],h):=rfl
theorem Sy(sz:Nat)(h:Heap)(o:O)(os:List O):fZ st sz h (o::os)=(rdO st o).bind (z82 st sz h os):=rfl
def mkK(st:St)(d:Option Nat)(id sz bytes:Nat)(zs:List D)(m:IntKind×Int):Option St:=if aM bytes m.2∧zs.length=sz then some ((st.with (upd st.heap (st.fr,id) (some (.s sz (List.replicate m.2.toNat zs))))).put d (.ref (st.fr,id) [])) else none
theorem z9k(sz bytes:Nat)(zs:List D)(n:O):opS C st d id (.mk sz bytes zs n)=(rdI st n).bind (mkK st d id sz bytes zs):=rfl
theorem zXd(sz bytes:Nat)(zs:List D)(k:IntKind)(n:Int):mkK st d id sz bytes zs (k,n)=if aM bytes n∧zs.length=sz then some ((st.with (upd st.heap (st.fr,id) (some (.s sz (List.replicate n.toNat zs))))).put d (.ref (st.fr,id) [])) else none:=rfl
def Yh(st:St)(d:Option Nat)(sz:Nat)(els:List (List D))(l h:Int):Option St:=if 0≤l∧l≤h∧h≤(els.length:Int)∧els.all (fun el=>el.length==sz)=true then some (st.put d (.d (.r ((els.take h.toNat).drop l.toNat)))) else none
def Yb(st:St)(d:Option Nat)(sz:Nat)(els:List (List D))(hi:Option O)(l:Int):Option St:=(cH st (els.length:Int) hi).bind (Yh st d sz els l)
def zYY(st:St)(d:Option Nat)(sz:Nat)(lo hi:Option O):X→Option St
 |.d (.r els)=>(cH st 0 lo).bind (Yb st d sz els hi)
 |_=>none
theorem zxF(sz:Nat)(x:O)(lo hi:Option O):opS C st d id (.cutr sz x lo hi)=(rdO st x).bind (zYY st d sz lo hi):=by
 simp only[opS]
 congr 1
theorem zxh(sz:Nat)(lo hi:Option O)(els:List (List D)):zYY st d sz lo hi (.d (.r els))=(cH st 0 lo).bind (Yb st d sz els hi):=rfl
theorem zkh(sz:Nat)(els:List (List D))(hi:Option O)(l:Int):Yb st d sz els hi l=(cH st (els.length:Int) hi).bind (Yh st d sz els l):=rfl
theorem zvV(sz:Nat)(els:List (List D))(l h:Int):Yh st d sz els l h=if 0≤l∧l≤h∧h≤(els.length:Int)∧els.all (fun el=>el.length==sz)=true then some (st.put d (.d (.r ((els.take h.toNat).drop l.toNat)))) else none:=rfl
def zzO(st:St)(d:Option Nat)(id sz:Nat)(l:Int)(els:List (List D))(hp:Heap)(h:Int):Option St:=if 0≤l∧l≤h∧h≤(els.length:Int)∧(l=0∨l<h) then some ((st.with (upd hp (st.fr,id) (some (.s sz ((els.take h.toNat).drop l.toNat))))).put d (.ref (st.fr,id) [])) else none
def zjs(st:St)(d:Option Nat)(id sz:Nat)(hi:Option O)(l:Int)(m:List (List D)×Heap):Option St:=(cH st (m.1.length:Int) hi).bind (zzO st d id sz l m.1 m.2)
def Y1(st:St)(d:Option Nat)(id sz:Nat)(hi:Option O)(a:X)(l:Int):Option St:=(kL st.heap sz a).bind (zjs st d id sz hi l)
def zYH(st:St)(d:Option Nat)(id sz:Nat)(lo hi:Option O)(a:X):Option St:=(cH st 0 lo).bind (Y1 st d id sz hi a)
def zyh(st:St)(id:Id)(p:Path)(r:Nat×List (List D)):Option St:=if r.1=1∧r.2.all yS=true then(st.heap.put id p (.s 1 (List.replicate r.2.length [.v (.bool false)]))).map st.with else none
def z8Y(st:St):X→Option St
 |.ref id p=>(st.heap.row id p).bind (zyh st id p)
 |_=>none
theorem zVS(x:O):opS C st none id (.clr x)=(rdO st x).bind (z8Y st):=by
 simp only[opS,Option.isSome_none,Bool.false_eq_true,if_false]
 congr 1
 funext a
 cases a<;>rfl
theorem zKT(i:Id)(p:Path):z8Y st (.ref i p)=(st.heap.row i p).bind (zyh st i p):=rfl
theorem zQp(i:Id)(p:Path)(n:Nat)(els:List (List D)):zyh st i p (n,els)=if n=1∧els.all yS=true then(st.heap.put i p (.s 1 (List.replicate els.length [.v (.bool false)]))).map st.with else none:=rfl
theorem zxK(sz:Nat)(x:O)(lo hi:Option O):opS C st d id (.cutm sz x lo hi)=(rdO st x).bind (zYH st d id sz lo hi):=rfl
theorem zKt(sz:Nat)(lo hi:Option O)(a:X):zYH st d id sz lo hi a=(cH st 0 lo).bind (Y1 st d id sz hi a):=rfl
theorem zvx(sz:Nat)(hi:Option O)(a:X)(l:Int):Y1 st d id sz hi a l=(kL st.heap sz a).bind (zjs st d id sz hi l):=rfl
theorem zkJ(sz:Nat)(hi:Option O)(l:Int)(els:List (List D))(hp:Heap):zjs st d id sz hi l (els,hp)=(cH st (els.length:Int) hi).bind (zzO st d id sz l els hp):=rfl
theorem zvQ(sz:Nat)(l:Int)(els:List (List D))(hp:Heap)(h:Int):zzO st d id sz l els hp h=if 0≤l∧l≤h∧h≤(els.length:Int)∧(l=0∨l<h) then some ((st.with (upd hp (st.fr,id) (some (.s sz ((els.take h.toNat).drop l.toNat))))).put d (.ref (st.fr,id) [])) else none:=rfl
def zzi(st:St)(d:Option Nat)(s:ByteArray)(l h:Int):Option St:=if 0≤l∧l≤h∧h≤(s.size:Int) then some (st.put d (.d (.v (.string (s.extract l.toNat h.toNat))))) else none
def Zm(st:St)(d:Option Nat)(s:ByteArray)(hi:Option O)(l:Int):Option St:=(cH st (s.size:Int) hi).bind (zzi st d s l)
def zYs(st:St)(d:Option Nat)(lo hi:Option O)(s:ByteArray):Option St:=(cH st 0 lo).bind (Zm st d s hi)
theorem zZz(x:O)(lo hi:Option O):opS C st d id (.cutS x lo hi)=(rdS st x).bind (zYs st d lo hi):=rfl
theorem zJQ(lo hi:Option O)(s:ByteArray):zYs st d lo hi s=(cH st 0 lo).bind (Zm st d s hi):=rfl
theorem zvW(s:ByteArray)(hi:Option O)(l:Int):Zm st d s hi l=(cH st (s.size:Int) hi).bind (zzi st d s l):=rfl
theorem zwd(s:ByteArray)(l h:Int):zzi st d s l h=if 0≤l∧l≤h∧h≤(s.size:Int) then some (st.put d (.d (.v (.string (s.extract l.toNat h.toNat))))) else none:=rfl
def zyB(st:St)(d:Option Nat)(n:Nat):St:=st.put d (.d (.v (.int .i64 (n:Int))))
def z8E(st:St)(d:Option Nat)(a:X):Option St:=(N9 st.heap a).map (zyB st d)
theorem zWA(x:O):opS C st d id (.len x)=(rdO st x).bind (z8E st d):=rfl
theorem zKw(a:X):z8E st d a=(N9 st.heap a).map (zyB st d):=rfl
theorem zy2(n:Nat):zyB st d n=st.put d (.d (.v (.int .i64 (n:Int)))):=rfl
def zYF(st:St)(d:Option Nat)(s:ByteArray):St:=st.put d (.d (.v (.int .i64 (s.size:Int))))
theorem zJe(x:O):opS C st d id (.slen x)=(rdS st x).map (zYF st d):=rfl
theorem zZZ(s:ByteArray):zYF st d s=st.put d (.d (.v (.int .i64 (s.size:Int)))):=rfl
def zQU(st:St)(d:Option Nat)(id sz bytes:Nat)(l:List (List D))(m:List (List D)×Heap):Option St:=if aF bytes l.length m.1.length∧m.1.all (fun el=>el.length==sz) then some ((st.with (upd m.2 (st.fr,id) (some (.s sz (l++m.1))))).put d (.ref (st.fr,id) [])) else none
def zxG(st:St)(d:Option Nat)(id sz bytes:Nat)(b:X)(l:List (List D)×Heap):Option St:=(qC l.2 b).bind (zQU st d id sz bytes l.1)
def zQl(st:St)(d:Option Nat)(id sz bytes:Nat)(a b:X):Option St:=(kL st.heap sz a).bind (zxG st d id sz bytes b)
def z8u(st:St)(d:Option Nat)(id sz bytes:Nat)(y:O)(a:X):Option St:=(rdO st y).bind (zQl st d id sz bytes a)
theorem zWT(sz bytes:Nat)(x y:O):opS C st d id (.app sz bytes x y)=(rdO st x).bind (z8u st d id sz bytes y):=rfl
theorem zWw(sz bytes:Nat)(y:O)(a:X):z8u st d id sz bytes y a=(rdO st y).bind (zQl st d id sz bytes a):=rfl
theorem zJO(sz bytes:Nat)(a b:X):zQl st d id sz bytes a b=(kL st.heap sz a).bind (zxG st d id sz bytes b):=rfl
theorem zQ9(sz bytes:Nat)(b:X)(l:List (List D))(h:Heap):zxG st d id sz bytes b (l,h)=(qC h b).bind (zQU st d id sz bytes l):=rfl
theorem zya(sz bytes:Nat)(l m:List (List D))(h:Heap):zQU st d id sz bytes l (m,h)=if aF bytes l.length m.length∧m.all (fun el=>el.length==sz) then some ((st.with (upd h (st.fr,id) (some (.s sz (l++m))))).put d (.ref (st.fr,id) [])) else none:=rfl
def fnK(st:St)(d:Option Nat)(f:Nat)(xs:List X):St:=st.put d (if xs.isEmpty then .d (.v (.func (.func f) #[] #[])) else .clo f xs)
theorem zXg(f:Nat)(caps:List O):opS C st d id (.fn f caps)=(oC st caps).map (fnK st d f):=rfl
theorem fnK_eq(f:Nat)(xs:List X):fnK st d f xs=st.put d (if xs.isEmpty then .d (.v (.func (.func f) #[] #[])) else .clo f xs):=rfl
def zqH(st:St)(d:Option Nat)(id:Nat)(h:Heap)(x:X):Option St:=lX st d id x h
theorem zyZ(h:Heap)(x:X):zqH st d id h x=if x.ncells≤32 then some ((st.with (v7 h (st.fr,id) x).2).put d (v7 h (st.fr,id) x).1) else none:=rfl
def Y8(st:St)(d:Option Nat)(id:Nat)(as:List X)(r:X):Option St:=if kO as||r.noR then lX st d id r st.heap else none
def zzs(C:Cl)(st:St)(d:Option Nat)(id f:Nat)(as bs:List X):Option St:=(C.iso f bs).bind (Y8 st d id as)
def zYC(C:Cl)(st:St)(d:Option Nat)(id f:Nat)(as:List X):Option St:=(oD st.heap as).bind (zzs C st d id f as)
theorem zxg(f:Nat)(xs:List O):opS C st d id (.call f xs)=(oC st xs).bind (zYC C st d id f):=rfl
theorem zJX(f:Nat)(as:List X):zYC C st d id f as=(oD st.heap as).bind (zzs C st d id f as):=rfl
theorem zq9(f:Nat)(as bs:List X):zzs C st d id f as bs=(C.iso f bs).bind (Y8 st d id as):=rfl
theorem zkg(as:List X)(r:X):Y8 st d id as r=if kO as||r.noR then zqH st d id st.heap r else none:=rfl
def Rx(st:St)(d:Option Nat)(as:List X)(r:X):Option St:=if kO as||r.noR then some (st.put d r.frz) else none
def Sa(C:Cl)(st:St)(d:Option Nat)(f:Nat)(as bs:List X):Option St:=(C.iso f bs).bind (Rx st d as)
def zZV(C:Cl)(st:St)(d:Option Nat)(f:Nat)(as:List X):Option St:=(oD st.heap as).bind (Sa C st d f as)
theorem zkb(f:Nat)(xs:List O):opS C st d id (.callr f xs)=(oC st xs).bind (zZV C st d f):=rfl
theorem zwi(f:Nat)(as:List X):zZV C st d f as=(oD st.heap as).bind (Sa C st d f as):=rfl
theorem zzg(f:Nat)(as bs:List X):Sa C st d f as bs=(C.iso f bs).bind (Rx st d as):=rfl
theorem zzx(as:List X)(r:X):Rx st d as r=if kO as||r.noR then some (st.put d r.frz) else none:=rfl
def Ry(st:St)(d:Option Nat)(id:Nat)(r:X×Heap):Option St:=lX {st with env:=rD st.env} d id r.1 r.2
def Rm(C:Cl)(st:St)(d:Option Nat)(id:Nat)(g:Nat×List X)(as:List X):Option St:=(C g.1 (as++g.2) st.heap (st.fr+1)).bind (Ry st d id)
def Ti(C:Cl)(st:St)(d:Option Nat)(id:Nat)(xs:List O)(g:Nat×List X):Option St:=(oC st xs).bind (Rm C st d id g)
def zyj(C:Cl)(st:St)(d:Option Nat)(id:Nat)(xs:List O)(c:X):Option St:=(E3 c).bind (Ti C st d id xs)
theorem zkQ(f:O)(xs:List O):opS C st d id (.calli f xs)=(rdO st f).bind (zyj C st d id xs):=rfl
theorem zvu(xs:List O)(c:X):zyj C st d id xs c=(E3 c).bind (Ti C st d id xs):=rfl
theorem Yf(xs:List O)(g:Nat×List X):Ti C st d id xs g=(oC st xs).bind (Rm C st d id g):=rfl
theorem zzA(f:Nat)(caps as:List X):Rm C st d id (f,caps) as=(C f (as++caps) st.heap (st.fr+1)).bind (Ry st d id):=rfl
theorem zz6(r:X)(h:Heap):Ry st d id (r,h)=zqH {st with env:=rD st.env} d id h r:=rfl
def Tv(st:St)(d:Option Nat)(id:Nat)(L:dT)(r:X)(h2:Heap):Option St:=lX {st with env:=sD L st.env} d id r h2
def Jb(st:St)(d:Option Nat)(id:Nat)(as:List X)(bs:List Bool)(h:Heap)(L:dT)(r:X×Heap):Option St :=
 if (tI L&&r.1.noP&&(roF as bs||(r.1.noR&&V7 r.2 0 L)))=true then(zN h r.2 0 L).bind (Tv st d id L r.1) else none
def I9(C:Cl)(st:St)(d:Option Nat)(id f:Nat)(as:List X)(bs:List Bool)(h:Heap)(L:dT)(ys:List X):Option St:=(C.give f ys (Cw 0 L) 1).bind (Jb st d id as bs h L)
def zYV(a:D×Heap):X×Heap:=(.d a.1,a.2)
theorem zyN(d:D)(h:Heap):zYV (d,h)=(.d d,h):=rfl
theorem zwL(h:Heap)(id:Id)(p:Path):Cc h (.ref id p)=(h.take id p).map zYV:=rfl
theorem zWg(h:Heap)(x:D):Cc h (.d x)=some (.d x,h):=rfl
theorem zvw(h:Heap)(x:List X):Cc h (.agg x)=some (.agg x,h):=rfl
theorem zvg(h:Heap)(x:List X):Cc h (.tup x)=some (.tup x,h):=rfl
def Zt(st:St)(d:Option Nat)(id:Nat)(as:List X)(bs:List Bool)(h:Heap)(L:dT)(r:X×Heap):Option St:=(Cc r.2 r.1).bind (Jb st d id as bs h L)
theorem zkZ(st:St)(d:Option Nat)(id:Nat)(as:List X)(bs:List Bool)(h:Heap)(L:dT)(r:X)(hB:Heap):Zt st d id as bs h L (r,hB)=(Cc hB r).bind (Jb st d id as bs h L):=rfl
def Tq(C:Cl)(st:St)(d:Option Nat)(id f:Nat)(as:List X)(bs:List Bool)(m:List X×Heap×dT):Option St:=(pI m.2.1 m.1 bs).bind (I9 C st d id f as bs m.2.1 m.2.2)
def zQF(C:Cl)(st:St)(d:Option Nat)(id f:Nat)(bs:List Bool)(as:List X):Option St:=(sR st.heap 0 as bs).bind (Tq C st d id f as bs)
theorem zvA(f:Nat)(xs:List O)(bs:List Bool):opS C st d id (.callb f xs bs)=(oC st xs).bind (zQF C st d id f bs):=rfl
theorem zkm(f:Nat)(bs:List Bool)(as:List X):zQF C st d id f bs as=(sR st.heap 0 as bs).bind (Tq C st d id f as bs):=rfl
theorem Zf(f:Nat)(as:List X)(bs:List Bool)(xs:List X)(h:Heap)(L:dT):Tq C st d id f as bs (xs,h,L)=(pI h xs bs).bind (I9 C st d id f as bs h L):=rfl
theorem zji(f:Nat)(as:List X)(bs:List Bool)(h:Heap)(L:dT)(ys:List X):I9 C st d id f as bs h L ys=(C f ys (Cw 0 L) 1).bind (Zt st d id as bs h L):=by unfold I9 Cl.give Zt;rw[Option.bind_assoc]
theorem zzI(as:List X)(bs:List Bool)(h:Heap)(L:dT)(r:X)(hB:Heap):Jb st d id as bs h L (r,hB)=if (tI L&&r.noP&&(roF as bs||(r.noR&&V7 hB 0 L)))=true then(zN h hB 0 L).bind (Tv st d id L r) else none:=rfl
theorem zjc(L:dT)(r:X)(h2:Heap):Tv st d id L r h2=zqH {st with env:=sD L st.env} d id h2 r:=rfl
def z8x(st:St)(d:Option Nat)(i:Nat):X→Option St
 |.tup cs=>(cs[i]?).map (st.put d)
 |_=>none
theorem zWZ(x:O)(i:Nat):opS C st d id (.ext x i)=(rdO st x).bind (z8x st d i):=by
 simp only[opS]
 congr 1
theorem zVR(i:Nat)(cs:List X):z8x st d i (.tup cs)=(cs[i]?).map (st.put d):=rfl
def z7a(st:St)(d:Option Nat)(a:X):Option St:=(xL a).map (st.put d)
theorem zK2(x:O):opS C st d id (.nck x)=(rdO st x).bind (z7a st d):=rfl
theorem zVw(a:X):z7a st d a=(xL a).map (st.put d):=rfl
def zYX(r:Nat×List (List D)):X:= .d (.r (fzs r.2))
theorem zxz(sz:Nat)(e:List (List D)):zYX (sz,e)= .d (.r (fzs e)):=rfl
def z8r(a:D×Heap):X×Heap:=(.d a.1,a.2)
theorem zVT(d:D)(h:Heap):z8r (d,h)=(.d d,h):=rfl
def zYu(a:List X×Heap):X×Heap:=(.agg a.1,a.2)
theorem zQq(d:List X)(h:Heap):zYu (d,h)=(.agg d,h):=rfl
def zXD(y:X)(i:Id)(p:Path)(a:D×Heap):X×Heap×dT:=(y,a.2,[(i,p,a.1)])
theorem zWI(y:X)(i:Id)(p:Path)(d:D)(h:Heap):zXD y i p (d,h)=(y,h,[(i,p,d)]):=rfl
def zYL(a:List X×Heap×dT):X×Heap×dT:=(.agg a.1,a.2)
theorem zy7(d:List X)(h:Heap)(L:dT):zYL (d,h,L)=(.agg d,h,L):=rfl
theorem zk2(c:D):X.cells (.d c)=[(.d c)]:=rfl
theorem V4(cs:List X):X.cells (.agg cs)=cs:=rfl
theorem Ub(cs:List X):X.cells (.tup cs)=[(.tup cs)]:=rfl
theorem X4(i:Id)(p:Path):X.cells (.ref i p)=[(.ref i p)]:=rfl
theorem Uh(i:Id)(p:Path)(j k:Nat):X.cells (.ptr i p j k)=[(.ptr i p j k)]:=rfl
theorem W7(ds:List D):X.cells (.rop ds)=[(.rop ds)]:=rfl
theorem zjx(cs:List X):X.cells (.vp cs)=[(.vp cs)]:=rfl
theorem W2(f:Nat)(cs:List X):X.cells (.clo f cs)=[(.clo f cs)]:=rfl
theorem Yr(c:D):X.cellsV (.d c)=some [(.d c)]:=rfl
theorem Tn(cs:List X):X.cellsV (.agg cs)=some cs:=rfl
theorem Q7(cs:List X):X.cellsV (.tup cs)=none:=rfl
theorem Td(i:Id)(p:Path):X.cellsV (.ref i p)=some [(.ref i p)]:=rfl
theorem Rz(i:Id)(p:Path)(j k:Nat):X.cellsV (.ptr i p j k)=some [(.ptr i p j k)]:=rfl
theorem Tg(ds:List D):X.cellsV (.rop ds)=some [(.rop ds)]:=rfl
theorem V9(cs:List X):X.cellsV (.vp cs)=some [(.vp cs)]:=rfl
theorem Tr(f:Nat)(cs:List X):X.cellsV (.clo f cs)=some [(.clo f cs)]:=rfl
theorem zJr(id:Id)(q:Path)(a b n:Nat)(c:D):X.hitC id q a b n (.d c)=false:=rfl
theorem zz8(id:Id)(q:Path)(a b n:Nat)(cs:List X):X.hitC id q a b n (.agg cs)=true:=rfl
theorem zjw(id:Id)(q:Path)(a b n:Nat)(cs:List X):X.hitC id q a b n (.tup cs)=true:=rfl
theorem zz5(id:Id)(q:Path)(a b n:Nat)(i:Id)(p:Path):X.hitC id q a b n (.ref i p)=(i==id&&Path.under q a b n p):=rfl
theorem zzC(id:Id)(q:Path)(a b n:Nat)(i:Id)(p:Path)(j k:Nat):X.hitC id q a b n (.ptr i p j k)=(i==id&&Path.under q a b n p):=rfl
theorem zzK(id:Id)(q:Path)(a b n:Nat)(ds:List D):X.hitC id q a b n (.rop ds)=false:=rfl
theorem zw6(id:Id)(q:Path)(a b n:Nat)(cs:List X):X.hitC id q a b n (.vp cs)=true:=rfl
theorem Z8(id:Id)(q:Path)(a b n:Nat)(f:Nat)(cs:List X):X.hitC id q a b n (.clo f cs)=true:=rfl
theorem zKu(id:Id)(q:Path)(a b n:Nat)(c:D):X.hit id q a b n (.d c)=X.hitC id q a b n (.d c):=rfl
theorem zkO(id:Id)(q:Path)(a b n:Nat)(cs:List X):X.hit id q a b n (.agg cs)=Vy id q a b n cs:=rfl
theorem zqM(id:Id)(q:Path)(a b n:Nat)(cs:List X):X.hit id q a b n (.tup cs)=true:=rfl
theorem zk5(id:Id)(q:Path)(a b n:Nat)(i:Id)(p:Path):X.hit id q a b n (.ref i p)=X.hitC id q a b n (.ref i p):=rfl
theorem zvd(id:Id)(q:Path)(a b n:Nat)(i:Id)(p:Path)(j k:Nat):X.hit id q a b n (.ptr i p j k)=X.hitC id q a b n (.ptr i p j k):=rfl
theorem zwb(id:Id)(q:Path)(a b n:Nat)(ds:List D):X.hit id q a b n (.rop ds)=X.hitC id q a b n (.rop ds):=rfl
theorem zKb(id:Id)(q:Path)(a b n:Nat)(cs:List X):X.hit id q a b n (.vp cs)=Vy id q a b n cs:=rfl
theorem zwY(id:Id)(q:Path)(a b n:Nat)(f:Nat)(cs:List X):X.hit id q a b n (.clo f cs)=X.hitC id q a b n (.clo f cs):=rfl
theorem zk3(c:D):X.rootC (.d c)=true:=rfl
theorem Xj(cs:List X):X.rootC (.agg cs)=false:=rfl
theorem Xt(cs:List X):X.rootC (.tup cs)=false:=rfl
theorem Ue(i:Id)(p:Path):X.rootC (.ref i p)=p.isEmpty:=rfl
theorem V6(i:Id)(p:Path)(j k:Nat):X.rootC (.ptr i p j k)=p.isEmpty:=rfl
theorem Uk(ds:List D):X.rootC (.rop ds)=true:=rfl
theorem zzp(cs:List X):X.rootC (.vp cs)=false:=rfl
theorem Ut(f:Nat)(cs:List X):X.rootC (.clo f cs)=false:=rfl
theorem zx1(c:D):X.root (.d c)=X.rootC (.d c):=rfl
theorem zzz(cs:List X):X.root (.agg cs)=Aw cs:=rfl
theorem Y5(cs:List X):X.root (.tup cs)=X.rootC (.tup cs):=rfl
theorem Zz(i:Id)(p:Path):X.root (.ref i p)=X.rootC (.ref i p):=rfl
theorem zzm(i:Id)(p:Path)(j k:Nat):X.root (.ptr i p j k)=X.rootC (.ptr i p j k):=rfl
theorem Za(ds:List D):X.root (.rop ds)=X.rootC (.rop ds):=rfl
theorem zkn(cs:List X):X.root (.vp cs)=Aw cs:=rfl
theorem Ze(f:Nat)(cs:List X):X.root (.clo f cs)=Aw cs:=rfl
theorem zKW(id:Id)(q:Path)(c:D):X.inC id q (.d c)=false:=rfl
theorem zvv(id:Id)(q:Path)(cs:List X):X.inC id q (.agg cs)=true:=rfl
theorem zkB(id:Id)(q:Path)(cs:List X):X.inC id q (.tup cs)=true:=rfl
theorem zwT(id:Id)(q:Path)(i:Id)(p:Path):X.inC id q (.ref i p)=(decide (i=id)&&q.isPrefixOf p&& !decide (p=q)):=rfl
theorem zvI(id:Id)(q:Path)(i:Id)(p:Path)(j k:Nat):X.inC id q (.ptr i p j k)=(decide (i=id)&&q.isPrefixOf p&& !decide (p=q)):=rfl
theorem zwU(id:Id)(q:Path)(ds:List D):X.inC id q (.rop ds)=false:=rfl
theorem zyk(id:Id)(q:Path)(cs:List X):X.inC id q (.vp cs)=true:=rfl
theorem zkd(id:Id)(q:Path)(f:Nat)(cs:List X):X.inC id q (.clo f cs)=true:=rfl
theorem zV8(id:Id)(q:Path)(c:D):X.inV id q (.d c)=X.inC id q (.d c):=rfl
theorem zwe(id:Id)(q:Path)(cs:List X):X.inV id q (.agg cs)=inL id q cs:=rfl
theorem zkU(id:Id)(q:Path)(cs:List X):X.inV id q (.tup cs)=X.inC id q (.tup cs):=rfl
theorem zwQ(id:Id)(q:Path)(i:Id)(p:Path):X.inV id q (.ref i p)=X.inC id q (.ref i p):=rfl
theorem zvO(id:Id)(q:Path)(i:Id)(p:Path)(j k:Nat):X.inV id q (.ptr i p j k)=X.inC id q (.ptr i p j k):=rfl
theorem zv5(id:Id)(q:Path)(ds:List D):X.inV id q (.rop ds)=X.inC id q (.rop ds):=rfl
theorem zyX(id:Id)(q:Path)(cs:List X):X.inV id q (.vp cs)=inL id q cs:=rfl
theorem zvb(id:Id)(q:Path)(f:Nat)(cs:List X):X.inV id q (.clo f cs)=inL id q cs:=rfl
theorem zV9(c:D):X.roC (.d c)=true:=rfl
theorem zwk(cs:List X):X.roC (.agg cs)=false:=rfl
theorem zku(cs:List X):X.roC (.tup cs)=false:=rfl
theorem zkf(i:Id)(p:Path):X.roC (.ref i p)=false:=rfl
theorem zq2(i:Id)(p:Path)(j k:Nat):X.roC (.ptr i p j k)=false:=rfl
theorem zwD(ds:List D):X.roC (.rop ds)=false:=rfl
theorem zxX(cs:List X):X.roC (.vp cs)=false:=rfl
theorem zwH(f:Nat)(cs:List X):X.roC (.clo f cs)=false:=rfl
theorem zVH(c:D):X.roV (.d c)=X.roC (.d c):=rfl
theorem zws(cs:List X):X.roV (.agg cs)=Eo cs:=rfl
theorem zk8(cs:List X):X.roV (.tup cs)=X.roC (.tup cs):=rfl
theorem zvL(i:Id)(p:Path):X.roV (.ref i p)=X.roC (.ref i p):=rfl
theorem zv3(i:Id)(p:Path)(j k:Nat):X.roV (.ptr i p j k)=X.roC (.ptr i p j k):=rfl
theorem zq8(ds:List D):X.roV (.rop ds)=X.roC (.rop ds):=rfl
theorem zZs(cs:List X):X.roV (.vp cs)=X.roC (.vp cs):=rfl
theorem zkt(f:Nat)(cs:List X):X.roV (.clo f cs)=X.roC (.clo f cs):=rfl
theorem zWL(c:D):X.noP (.d c)=X.roV (.d c):=rfl
theorem zv0(cs:List X):X.noP (.agg cs)=X.roV (.agg cs):=rfl
theorem zkL(cs:List X):X.noP (.tup cs)=kO cs:=rfl
theorem zkS(i:Id)(p:Path):X.noP (.ref i p)=X.roV (.ref i p):=rfl
theorem zvl(i:Id)(p:Path)(j k:Nat):X.noP (.ptr i p j k)=X.roV (.ptr i p j k):=rfl
theorem zw8(ds:List D):X.noP (.rop ds)=X.roV (.rop ds):=rfl
theorem zxE(cs:List X):X.noP (.vp cs)=X.roV (.vp cs):=rfl
theorem zka(f:Nat)(cs:List X):X.noP (.clo f cs)=X.roV (.clo f cs):=rfl
theorem zJD(c:D):X.noRC (.d c)=c.noR:=rfl
theorem Yw(cs:List X):X.noRC (.agg cs)=false:=rfl
theorem Yv(cs:List X):X.noRC (.tup cs)=false:=rfl
theorem zju(i:Id)(p:Path):X.noRC (.ref i p)=false:=rfl
theorem Yc(i:Id)(p:Path)(j k:Nat):X.noRC (.ptr i p j k)=false:=rfl
theorem Yu(ds:List D):X.noRC (.rop ds)=false:=rfl
theorem zqV(cs:List X):X.noRC (.vp cs)=false:=rfl
theorem Yq(f:Nat)(cs:List X):X.noRC (.clo f cs)=false:=rfl
theorem zQH(c:D):X.noRV (.d c)=X.noRC (.d c):=rfl
theorem Zy(cs:List X):X.noRV (.agg cs)=zxc cs:=rfl
theorem Yg(cs:List X):X.noRV (.tup cs)=X.noRC (.tup cs):=rfl
theorem Z1(i:Id)(p:Path):X.noRV (.ref i p)=X.noRC (.ref i p):=rfl
theorem Yz(i:Id)(p:Path)(j k:Nat):X.noRV (.ptr i p j k)=X.noRC (.ptr i p j k):=rfl
theorem zze(ds:List D):X.noRV (.rop ds)=X.noRC (.rop ds):=rfl
theorem zq4(cs:List X):X.noRV (.vp cs)=X.noRC (.vp cs):=rfl
theorem zz4(f:Nat)(cs:List X):X.noRV (.clo f cs)=X.noRC (.clo f cs):=rfl
theorem zKO(c:D):X.noR (.d c)=X.noRV (.d c):=rfl
theorem zve(cs:List X):X.noR (.agg cs)=X.noRV (.agg cs):=rfl
theorem zkM(cs:List X):X.noR (.tup cs)=zwK cs:=rfl
theorem zwM(i:Id)(p:Path):X.noR (.ref i p)=X.noRV (.ref i p):=rfl
theorem zkT(i:Id)(p:Path)(j k:Nat):X.noR (.ptr i p j k)=X.noRV (.ptr i p j k):=rfl
theorem zwP(ds:List D):X.noR (.rop ds)=X.noRV (.rop ds):=rfl
theorem zJu(cs:List X):X.noR (.vp cs)=X.noRV (.vp cs):=rfl
theorem zwW(f:Nat)(cs:List X):X.noR (.clo f cs)=X.noRV (.clo f cs):=rfl
theorem zvZ(x:Value):X.frzC (.d (.v x))=(.d (.v x)):=rfl
theorem zqU(e:List (List D)):X.frzC (.d (.r e))=(.d (.r e)):=rfl
theorem zv6:X.frzC (.d .u)=(.d .u):=rfl
theorem zwr(sz:Nat)(e:List (List D)):X.frzC (.d (.s sz e))= .d (.r (fzs e)):=rfl
theorem zjl(cs:List X):X.frzC (.agg cs)=(.agg cs):=rfl
theorem Zu(cs:List X):X.frzC (.tup cs)=(.tup cs):=rfl
theorem zz3(i:Id)(p:Path):X.frzC (.ref i p)=(.ref i p):=rfl
theorem zzq(i:Id)(p:Path)(j k:Nat):X.frzC (.ptr i p j k)=(.ptr i p j k):=rfl
theorem zjo(ds:List D):X.frzC (.rop ds)=(.rop ds):=rfl
theorem zwu(cs:List X):X.frzC (.vp cs)=(.vp cs):=rfl
theorem Zs(f:Nat)(cs:List X):X.frzC (.clo f cs)=(.clo f cs):=rfl
theorem zZF(c:D):X.frzV (.d c)=X.frzC (.d c):=rfl
theorem zjh(cs:List X):X.frzV (.agg cs)= .agg (O6 cs):=rfl
theorem zzU(cs:List X):X.frzV (.tup cs)=X.frzC (.tup cs):=rfl
theorem Yp(i:Id)(p:Path):X.frzV (.ref i p)=X.frzC (.ref i p):=rfl
theorem Zw(i:Id)(p:Path)(j k:Nat):X.frzV (.ptr i p j k)=X.frzC (.ptr i p j k):=rfl
theorem zje(ds:List D):X.frzV (.rop ds)=X.frzC (.rop ds):=rfl
theorem zw1(cs:List X):X.frzV (.vp cs)=X.frzC (.vp cs):=rfl
theorem zjy(f:Nat)(cs:List X):X.frzV (.clo f cs)=X.frzC (.clo f cs):=rfl
theorem zVJ(c:D):X.frz (.d c)=X.frzV (.d c):=rfl
theorem zwA(cs:List X):X.frz (.agg cs)=X.frzV (.agg cs):=rfl
theorem zkp(cs:List X):X.frz (.tup cs)= .tup (Oj cs):=rfl
theorem zkR(i:Id)(p:Path):X.frz (.ref i p)=X.frzV (.ref i p):=rfl
theorem zvU(i:Id)(p:Path)(j k:Nat):X.frz (.ptr i p j k)=X.frzV (.ptr i p j k):=rfl
theorem zw0(ds:List D):X.frz (.rop ds)=X.frzV (.rop ds):=rfl
theorem zQr(cs:List X):X.frz (.vp cs)=X.frzV (.vp cs):=rfl
theorem zkE(f:Nat)(cs:List X):X.frz (.clo f cs)=X.frzV (.clo f cs):=rfl
theorem zZx(c:D):X.flat (.d c)=true:=rfl
theorem Zq(cs:List X):X.flat (.agg cs)=false:=rfl
theorem zzl(cs:List X):X.flat (.tup cs)=false:=rfl
theorem Z7(i:Id)(p:Path):X.flat (.ref i p)=true:=rfl
theorem Z3(i:Id)(p:Path)(j k:Nat):X.flat (.ptr i p j k)=true:=rfl
theorem zzB(ds:List D):X.flat (.rop ds)=true:=rfl
theorem zwq(cs:List X):X.flat (.vp cs)=false:=rfl
theorem Y4(f:Nat)(cs:List X):X.flat (.clo f cs)=false:=rfl
theorem zkP(c:D):X.keeps (.d c)=true:=rfl
theorem Xl(cs:List X):X.keeps (.agg cs)=cs.all X.flat:=rfl
theorem V3(cs:List X):X.keeps (.tup cs)=false:=rfl
theorem W9(i:Id)(p:Path):X.keeps (.ref i p)=true:=rfl
theorem Xm(i:Id)(p:Path)(j k:Nat):X.keeps (.ptr i p j k)=true:=rfl
theorem X8(ds:List D):X.keeps (.rop ds)=true:=rfl
theorem zzw(cs:List X):X.keeps (.vp cs)=cs.all X.flat:=rfl
theorem Wf(f:Nat)(cs:List X):X.keeps (.clo f cs)=cs.all X.flat:=rfl
theorem zyQ(fr:Nat)(c:D):X.offC fr (.d c)=[]:=rfl
theorem Yx(fr:Nat)(cs:List X):X.offC fr (.agg cs)=[]:=rfl
theorem zzj(fr:Nat)(cs:List X):X.offC fr (.tup cs)=[]:=rfl
theorem zjq(fr:Nat)(i:Id)(p:Path):X.offC fr (.ref i p)=if i.1=fr then [i.2] else []:=rfl
theorem Yl(fr:Nat)(i:Id)(p:Path)(j k:Nat):X.offC fr (.ptr i p j k)=if i.1=fr then [i.2] else []:=rfl
theorem zzL(fr:Nat)(ds:List D):X.offC fr (.rop ds)=[]:=rfl
theorem zkk(fr:Nat)(cs:List X):X.offC fr (.vp cs)=[]:=rfl
theorem zjp(fr:Nat)(f:Nat)(cs:List X):X.offC fr (.clo f cs)=[]:=rfl
theorem zQK(fr:Nat)(c:D):X.offs fr (.d c)=X.offC fr (.d c):=rfl
theorem zjn(fr:Nat)(cs:List X):X.offs fr (.agg cs)=Dc fr cs:=rfl
theorem Y9(fr:Nat)(cs:List X):X.offs fr (.tup cs)=X.offC fr (.tup cs):=rfl
theorem zjd(fr:Nat)(i:Id)(p:Path):X.offs fr (.ref i p)=X.offC fr (.ref i p):=rfl
theorem zzX(fr:Nat)(i:Id)(p:Path)(j k:Nat):X.offs fr (.ptr i p j k)=X.offC fr (.ptr i p j k):=rfl
theorem Z5(fr:Nat)(ds:List D):X.offs fr (.rop ds)=X.offC fr (.rop ds):=rfl
theorem zv9(fr:Nat)(cs:List X):X.offs fr (.vp cs)=Dc fr cs:=rfl
theorem zjk(fr:Nat)(f:Nat)(cs:List X):X.offs fr (.clo f cs)=Dc fr cs:=rfl
theorem zxr(g:Id→Id)(c:D):X.renC g (.d c)=(.d c):=rfl
theorem zzc(g:Id→Id)(cs:List X):X.renC g (.agg cs)=(.agg cs):=rfl
theorem zzV(g:Id→Id)(cs:List X):X.renC g (.tup cs)=(.tup cs):=rfl
theorem zjv(g:Id→Id)(i:Id)(p:Path):X.renC g (.ref i p)= .ref (g i) p:=rfl
theorem zzM(g:Id→Id)(i:Id)(p:Path)(j k:Nat):X.renC g (.ptr i p j k)= .ptr (g i) p j k:=rfl
theorem zzS(g:Id→Id)(ds:List D):X.renC g (.rop ds)=(.rop ds):=rfl
theorem zwx(g:Id→Id)(cs:List X):X.renC g (.vp cs)=(.vp cs):=rfl
theorem Yd(g:Id→Id)(f:Nat)(cs:List X):X.renC g (.clo f cs)=(.clo f cs):=rfl
theorem zW7(g:Id→Id)(c:D):X.ren g (.d c)=X.renC g (.d c):=rfl
theorem zvf(g:Id→Id)(cs:List X):X.ren g (.agg cs)= .agg (cs.map (X.renC g)):=rfl
theorem zw7(g:Id→Id)(cs:List X):X.ren g (.tup cs)=X.renC g (.tup cs):=rfl
theorem zvk(g:Id→Id)(i:Id)(p:Path):X.ren g (.ref i p)=X.renC g (.ref i p):=rfl
theorem zq5(g:Id→Id)(i:Id)(p:Path)(j k:Nat):X.ren g (.ptr i p j k)=X.renC g (.ptr i p j k):=rfl
theorem zkY(g:Id→Id)(ds:List D):X.ren g (.rop ds)=X.renC g (.rop ds):=rfl
theorem zKi(g:Id→Id)(cs:List X):X.ren g (.vp cs)= .vp (cs.map (X.renC g)):=rfl
theorem zv4(g:Id→Id)(f:Nat)(cs:List X):X.ren g (.clo f cs)= .clo f (cs.map (X.renC g)):=rfl
theorem zJI(h:Heap)(x:Value):jR h (.d (.v x))=some (.v x,h):=rfl
theorem zxm(h:Heap)(e:List (List D)):jR h (.d (.r e))=some (.r e,h):=rfl
theorem zxv(h:Heap)(sz:Nat):jR h (.d (.s sz []))=some (.s sz [],h):=rfl
theorem zQR(h:Heap):jR h (.d .u)=some (.u,h):=rfl
theorem zwn(h:Heap)(i:Id)(p:Path):jR h (.ref i p)=h.take i p:=rfl
theorem zxy(h:Heap)(x:Value):l8 h (.d (.v x))=some (.d (.v x)):=rfl
theorem zQT(h:Heap)(e:List (List D)):l8 h (.d (.r e))=some (.d (.r e)):=rfl
theorem zJW(h:Heap)(sz:Nat):l8 h (.d (.s sz []))=some (.d (.r [])):=rfl
theorem zyr(h:Heap):l8 h (.d .u)=none:=rfl
theorem zww(h:Heap)(i:Id)(p:Path):l8 h (.ref i p)=(h.row i p).map zYX:=rfl
theorem zXo(h:Heap)(c:D):yQ h (.d c)=l8 h (.d c):=rfl
theorem zQW(h:Heap)(cs:List X):yQ h (.agg cs)=(vU h cs).map .agg:=rfl
theorem zQw(h:Heap)(cs:List X):yQ h (.tup cs)=l8 h (.tup cs):=rfl
theorem zJE(h:Heap)(i:Id)(p:Path):yQ h (.ref i p)=l8 h (.ref i p):=rfl
theorem zZk(h:Heap)(i:Id)(p:Path)(j k:Nat):yQ h (.ptr i p j k)=l8 h (.ptr i p j k):=rfl
theorem zxM(h:Heap)(ds:List D):yQ h (.rop ds)=l8 h (.rop ds):=rfl
theorem zVk(h:Heap)(cs:List X):yQ h (.vp cs)=l8 h (.vp cs):=rfl
theorem zZA(h:Heap)(f:Nat)(cs:List X):yQ h (.clo f cs)=l8 h (.clo f cs):=rfl
theorem zV7(fr:Nat)(h:Heap)(x:Value):m4 fr h (.d (.v x))=some (.d (.v x),h):=rfl
theorem zV5(fr:Nat)(h:Heap)(e:List (List D)):m4 fr h (.d (.r e))=some (.d (.r e),h):=rfl
theorem zWq(fr:Nat)(h:Heap)(sz:Nat):m4 fr h (.d (.s sz []))=some (.d (.s sz []),h):=rfl
theorem zWo(fr:Nat)(h:Heap):m4 fr h (.d .u)=none:=rfl
theorem zJo(fr:Nat)(h:Heap)(i:Id)(p:Path):m4 fr h (.ref i p)=if i.1=fr then(h.take i p).map z8r else some (.ref i p,h):=rfl
theorem zKp(fr:Nat)(h:Heap)(i:Id)(p:Path)(j k:Nat):m4 fr h (.ptr i p j k)=if i.1=fr then none else some (.ptr i p j k,h):=rfl
theorem zyw(fr:Nat)(h:Heap)(ds:List D):m4 fr h (.rop ds)=some (.rop ds,h):=rfl
theorem z9x(fr:Nat)(h:Heap)(c:D):pZ fr h (.d c)=m4 fr h (.d c):=rfl
theorem zxt(fr:Nat)(h:Heap)(cs:List X):pZ fr h (.agg cs)=(Pf fr h cs).map zYu:=rfl
theorem zye(fr:Nat)(h:Heap)(cs:List X):pZ fr h (.tup cs)=m4 fr h (.tup cs):=rfl
theorem zJC(fr:Nat)(h:Heap)(i:Id)(p:Path):pZ fr h (.ref i p)=m4 fr h (.ref i p):=rfl
theorem zyR(fr:Nat)(h:Heap)(i:Id)(p:Path)(j k:Nat):pZ fr h (.ptr i p j k)=m4 fr h (.ptr i p j k):=rfl
theorem zyM(fr:Nat)(h:Heap)(ds:List D):pZ fr h (.rop ds)=m4 fr h (.rop ds):=rfl
theorem zKz(fr:Nat)(h:Heap)(cs:List X):pZ fr h (.vp cs)=m4 fr h (.vp cs):=rfl
theorem zQG(fr:Nat)(h:Heap)(f:Nat)(cs:List X):pZ fr h (.clo f cs)=m4 fr h (.clo f cs):=rfl
theorem zK1(h:Heap)(id:Id)(x:Value):kY h id (.d (.v x))=((.d (.v x)),h):=rfl
theorem zKX(h:Heap)(id:Id)(e:List (List D)):kY h id (.d (.r e))=((.d (.r e)),h):=rfl
theorem zVg(h:Heap)(id:Id):kY h id (.d .u)=((.d .u),h):=rfl
theorem zV6(h:Heap)(id:Id)(sz:Nat)(e:List (List D)):kY h id (.d (.s sz e))=(.ref id [],upd h id (some (.s sz e))):=rfl
theorem zyn(h:Heap)(id:Id)(cs:List X):kY h id (.agg cs)=((.agg cs),h):=rfl
theorem zQS(h:Heap)(id:Id)(cs:List X):kY h id (.tup cs)=((.tup cs),h):=rfl
theorem zQd(h:Heap)(id:Id)(i:Id)(p:Path):kY h id (.ref i p)=((.ref i p),h):=rfl
theorem zKj(h:Heap)(id:Id)(i:Id)(p:Path)(j k:Nat):kY h id (.ptr i p j k)=((.ptr i p j k),h):=rfl
theorem zJY(h:Heap)(id:Id)(ds:List D):kY h id (.rop ds)=((.rop ds),h):=rfl
theorem zVn(h:Heap)(id:Id)(cs:List X):kY h id (.vp cs)=((.vp cs),h):=rfl
theorem zyv(h:Heap)(id:Id)(f:Nat)(cs:List X):kY h id (.clo f cs)=((.clo f cs),h):=rfl
theorem z9u(h:Heap)(id:Id)(c:D):nH h id (.d c)=kY h id (.d c):=rfl
theorem zKh(h:Heap)(id:Id)(cs:List X):nH h id (.agg cs)=(.agg (vM h id cs).1,(vM h id cs).2):=rfl
theorem zQg(h:Heap)(id:Id)(cs:List X):nH h id (.tup cs)=kY h id (.tup cs):=rfl
theorem zKe(h:Heap)(id:Id)(i:Id)(p:Path):nH h id (.ref i p)=kY h id (.ref i p):=rfl
theorem zyp(h:Heap)(id:Id)(i:Id)(p:Path)(j k:Nat):nH h id (.ptr i p j k)=kY h id (.ptr i p j k):=rfl
theorem zyz(h:Heap)(id:Id)(ds:List D):nH h id (.rop ds)=kY h id (.rop ds):=rfl
theorem zK5(h:Heap)(id:Id)(cs:List X):nH h id (.vp cs)=kY h id (.vp cs):=rfl
theorem zZh(h:Heap)(id:Id)(f:Nat)(cs:List X):nH h id (.clo f cs)=kY h id (.clo f cs):=rfl
theorem zXw(h:Heap)(id:Id)(c:D):v7 h id (.d c)=nH h id (.d c):=rfl
theorem zZS(h:Heap)(id:Id)(cs:List X):v7 h id (.agg cs)=nH h id (.agg cs):=rfl
theorem zQ6(h:Heap)(id:Id)(cs:List X):v7 h id (.tup cs)=(.tup (vY h id cs).1,(vY h id cs).2):=rfl
theorem zy3(h:Heap)(id:Id)(i:Id)(p:Path):v7 h id (.ref i p)=nH h id (.ref i p):=rfl
theorem zQ2(h:Heap)(id:Id)(i:Id)(p:Path)(j k:Nat):v7 h id (.ptr i p j k)=nH h id (.ptr i p j k):=rfl
theorem zJg(h:Heap)(id:Id)(ds:List D):v7 h id (.rop ds)=nH h id (.rop ds):=rfl
theorem zWe(h:Heap)(id:Id)(cs:List X):v7 h id (.vp cs)=nH h id (.vp cs):=rfl
theorem zxp(h:Heap)(id:Id)(f:Nat)(cs:List X):v7 h id (.clo f cs)=nH h id (.clo f cs):=rfl
theorem zzt(c:D):X.ncells (.d c)=(X.cells (.d c)).length:=rfl
theorem Rl(cs:List X):X.ncells (.agg cs)=(X.cells (.agg cs)).length:=rfl
theorem Tp(cs:List X):X.ncells (.tup cs)=(cs.map fun x=>x.cells.length).sum:=rfl
theorem Rq(i:Id)(p:Path):X.ncells (.ref i p)=(X.cells (.ref i p)).length:=rfl
theorem Sz(i:Id)(p:Path)(j k:Nat):X.ncells (.ptr i p j k)=(X.cells (.ptr i p j k)).length:=rfl
theorem Tj(ds:List D):X.ncells (.rop ds)=(X.cells (.rop ds)).length:=rfl
theorem Uy(cs:List X):X.ncells (.vp cs)=(X.cells (.vp cs)).length:=rfl
theorem Rc(f:Nat)(cs:List X):X.ncells (.clo f cs)=(X.cells (.clo f cs)).length:=rfl
theorem zVd(h:Heap)(n:Nat)(x:Value):yM h n (.d (.v x))=some (.d (.v x),h,[]):=rfl
theorem zKR(h:Heap)(n:Nat)(e:List (List D)):yM h n (.d (.r e))=some (.d (.r e),h,[]):=rfl
theorem zWG(h:Heap)(n:Nat)(sz:Nat):yM h n (.d (.s sz []))=some (.d (.s sz []),h,[]):=rfl
theorem zYd(h:Heap)(n:Nat):yM h n (.d .u)=none:=rfl
theorem zZU(h:Heap)(n:Nat)(i:Id)(p:Path):yM h n (.ref i p)=(h.take i p).map (zXD (.ref (0,n) []) i p):=rfl
theorem zZ2(h:Heap)(n:Nat)(i:Id)(p:Path)(j k:Nat):yM h n (.ptr i p j k)=(h.take i p).map (zXD (.ptr (0,n) [] j k) i p):=rfl
theorem zX5(h:Heap)(n:Nat)(c:D):H6 h n (.d c)=yM h n (.d c):=rfl
theorem zJz(h:Heap)(n:Nat)(cs:List X):H6 h n (.agg cs)=(Ol h n cs).map zYL:=rfl
theorem zyy(h:Heap)(n:Nat)(cs:List X):H6 h n (.tup cs)=yM h n (.tup cs):=rfl
theorem zZv(h:Heap)(n:Nat)(i:Id)(p:Path):H6 h n (.ref i p)=yM h n (.ref i p):=rfl
theorem zxB(h:Heap)(n:Nat)(i:Id)(p:Path)(j k:Nat):H6 h n (.ptr i p j k)=yM h n (.ptr i p j k):=rfl
theorem zyx(h:Heap)(n:Nat)(ds:List D):H6 h n (.rop ds)=yM h n (.rop ds):=rfl
theorem zYe(h:Heap)(n:Nat)(cs:List X):H6 h n (.vp cs)=yM h n (.vp cs):=rfl
theorem zQ4(h:Heap)(n:Nat)(f:Nat)(cs:List X):H6 h n (.clo f cs)=yM h n (.clo f cs):=rfl
theorem zJK(x:Value)(cs:List D):gT (.v x::cs)=gT cs:=rfl
theorem zZ4(sz:Nat)(e:List (List D))(cs:List D):gT (.s sz e::cs)=false:=rfl
theorem zxj(e:List (List D))(cs:List D):gT (.r e::cs)=false:=rfl
theorem zKg(cs:List D):gT (.u::cs)=false:=rfl
theorem zjm:gT []=true:=rfl
def qK(x:X)(xs:List X):List X:=x::xs
theorem zQx(x:X)(xs:List X):qK x xs=x::xs:=rfl
def Ym(x:D)(a:List D×Heap):List D×Heap:=(x::a.1,a.2)
theorem zwf(x:D)(xs:List D)(h:Heap):Ym x (xs,h)=(x::xs,h):=rfl
def Mr(x:X)(a:List X×Heap):List X×Heap:=(x::a.1,a.2)
theorem zwl(x:X)(xs:List X)(h:Heap):Mr x (xs,h)=(x::xs,h):=rfl
theorem zZo(st:St):oC st []=some []:=rfl
def zYv(st:St)(os:List O)(x:X):Option (List X):=(oC st os).map (qK x)
theorem zwZ(st:St)(o:O)(os:List O):oC st (o::os)=(rdO st o).bind (zYv st os):=rfl
theorem zQX(st:St)(os:List O)(x:X):zYv st os x=(oC st os).map (qK x):=rfl
theorem zvm(h:Heap):kE h []=some ([],h):=rfl
def zxl(xs:List X)(a:D×Heap):Option (List D×Heap):=(kE a.2 xs).map (Ym a.1)
theorem Y2(h:Heap)(x:X)(xs:List X):kE h (x::xs)=(jR h x).bind (zxl xs):=rfl
theorem zkz(xs:List X)(d:D)(h:Heap):zxl xs (d,h)=(kE h xs).map (Ym d):=rfl
theorem zQo(fr:Nat)(h:Heap):Pf fr h []=some ([],h):=rfl
def zYG(fr:Nat)(xs:List X)(a:X×Heap):Option (List X×Heap):=(Pf fr a.2 xs).map (Mr a.1)
theorem zkC(fr:Nat)(h:Heap)(x:X)(xs:List X):Pf fr h (x::xs)=(m4 fr h x).bind (zYG fr xs):=rfl
theorem zKs(fr:Nat)(xs:List X)(d:X)(h:Heap):zYG fr xs (d,h)=(Pf fr h xs).map (Mr d):=rfl
theorem zQM(fr:Nat)(h:Heap):pY fr h []=some ([],h):=rfl
def zYx(fr:Nat)(xs:List X)(a:X×Heap):Option (List X×Heap):=(pY fr a.2 xs).map (Mr a.1)
theorem zwO(fr:Nat)(h:Heap)(x:X)(xs:List X):pY fr h (x::xs)=(pZ fr h x).bind (zYx fr xs):=rfl
theorem zJb(fr:Nat)(xs:List X)(d:X)(h:Heap):zYx fr xs (d,h)=(pY fr h xs).map (Mr d):=rfl
def zYP(j i:Nat)(r:Nat×List (List D)):Option X:=(r.2[j]?).map fun el=> .rop (fzl (el.drop i))
theorem zq3(h:Heap)(id:Id)(q:Path)(j i:Nat):l8 h (.ptr id q j i)=(h.row id q).bind (zYP j i):=rfl
theorem zyU(j i n:Nat)(els:List (List D)):zYP j i (n,els)=(els[j]?).map fun el=> .rop (fzl (el.drop i)):=rfl
theorem zvj(h:Heap):vU h []=some []:=rfl
def zxW(h:Heap)(xs:List X)(y:X):Option (List X):=(vU h xs).map (qK y)
theorem zzu(h:Heap)(x:X)(xs:List X):vU h (x::xs)=(l8 h x).bind (zxW h xs):=rfl
theorem zvT(h:Heap)(xs:List X)(y:X):zxW h xs y=(vU h xs).map (qK y):=rfl
theorem zwh(h:Heap):oD h []=some []:=rfl
def zZY(h:Heap)(xs:List X)(y:X):Option (List X):=(oD h xs).map (qK y)
theorem Yn(h:Heap)(x:X)(xs:List X):oD h (x::xs)=(yQ h x).bind (zZY h xs):=rfl
theorem zw4(h:Heap)(xs:List X)(y:X):zZY h xs y=(oD h xs).map (qK y):=rfl
def zZy(h:Heap)(xs:List X)(bs:List Bool)(y:X):Option (List X):=(pI h xs bs).map (qK y)
theorem zkH(h:Heap)(bs:List Bool):pI h [] bs=some []:=by unfold pI;rfl
theorem zYc(h:Heap)(x:X)(xs:List X)(bs:List Bool):pI h (x::xs) (true::bs)=(pI h xs bs).map (qK x):=rfl
theorem zWc(h:Heap)(x:X)(xs:List X)(bs:List Bool):pI h (x::xs) (false::bs)=(yQ h x).bind (zZy h xs bs):=rfl
theorem zwJ(h:Heap)(xs:List X)(bs:List Bool)(y:X):zZy h xs bs y=(pI h xs bs).map (qK y):=rfl
def Kw(x:X)(L:dT)(b:List X×Heap×dT):List X×Heap×dT:=(x::b.1,b.2.1,L++b.2.2)
theorem zvG(x:X)(L:dT)(xs:List X)(h:Heap)(M:dT):Kw x L (xs,h,M)=(x::xs,h,L++M):=rfl
def zYm(k:Nat)(xs:List X)(a:X×Heap×dT):Option (List X×Heap×dT):=(Ol a.2.1 (k+a.2.2.length) xs).map (Kw a.1 a.2.2)
theorem zJA(h:Heap)(k:Nat):Ol h k []=some ([],h,[]):=rfl
theorem zko(h:Heap)(k:Nat)(x:X)(xs:List X):Ol h k (x::xs)=(yM h k x).bind (zYm k xs):=rfl
theorem zJG(k:Nat)(xs:List X)(y:X)(h:Heap)(L:dT):zYm k xs (y,h,L)=(Ol h (k+L.length) xs).map (Kw y L):=rfl
def zYk(k:Nat)(xs:List X)(bs:List Bool)(a:X×Heap×dT):Option (List X×Heap×dT):=(sR a.2.1 (k+a.2.2.length) xs bs).map (Kw a.1 a.2.2)
def zQ3(x:X)(c:List X×Heap×dT):List X×Heap×dT:=(x::c.1,c.2.1,c.2.2)
theorem zwt(x:X)(xs:List X)(h:Heap)(L:dT):zQ3 x (xs,h,L)=(x::xs,h,L):=rfl
theorem zJ1(h:Heap)(k:Nat)(bs:List Bool):sR h k [] bs=some ([],h,[]):=by unfold sR;rfl
theorem zXK(h:Heap)(k:Nat)(x:X)(xs:List X)(bs:List Bool):sR h k (x::xs) (true::bs)=(H6 h k x).bind (zYk k xs bs):=rfl
theorem z9h(h:Heap)(k:Nat)(x:X)(xs:List X)(bs:List Bool):sR h k (x::xs) (false::bs)=(sR h k xs bs).map (zQ3 x):=rfl
theorem zQB(k:Nat)(xs:List X)(bs:List Bool)(y:X)(h:Heap)(L:dT):zYk k xs bs (y,h,L)=(sR h (k+L.length) xs bs).map (Kw y L):=rfl
theorem zK4(d:D):D.nav d []=some d:=by unfold D.nav;rfl
def zWM(p:Path)(c:D):Option D:=c.nav p
theorem zKV(p:Path)(c:D):zWM p c=c.nav p:=rfl
def z9O(i:Nat)(p:Path)(el:List D):Option D:=(el[i]?).bind (zWM p)
theorem zWU(i:Nat)(p:Path)(el:List D):z9O i p el=(el[i]?).bind (zWM p):=rfl
theorem z7e(sz:Nat)(els:List (List D))(j i:Nat)(p:Path):D.nav (.s sz els) ((j,i)::p)=(els[j]?).bind (z9O i p):=by rw[D.nav];rfl
theorem zVe(h:Heap)(id:Id)(p:Path):h.nav id p=(h id).bind (zWM p):=rfl
theorem zKA(h:Heap)(id:Id)(p:Path):h.row id p=(h.nav id p).bind D.rowOf:=rfl
def zZ1(sz:Nat)(els:List (List D))(j i:Nat)(el:List D)(c:D):D:= .s sz (els.set j (el.set i c))
theorem zZc(sz:Nat)(els:List (List D))(j i:Nat)(el:List D)(c:D):zZ1 sz els j i el c= .s sz (els.set j (el.set i c)):=rfl
def zZD(sz:Nat)(els:List (List D))(j i:Nat)(p:Path)(x:D)(el:List D)(c:D):Option D:=(c.put p x).map (zZ1 sz els j i el)
theorem zx0(sz:Nat)(els:List (List D))(j i:Nat)(p:Path)(x:D)(el:List D)(c:D):zZD sz els j i p x el c=(c.put p x).map (zZ1 sz els j i el):=rfl
def zYB(sz:Nat)(els:List (List D))(j i:Nat)(p:Path)(x:D)(el:List D):Option D:=(el[i]?).bind (zZD sz els j i p x el)
theorem zxn(sz:Nat)(els:List (List D))(j i:Nat)(p:Path)(x:D)(el:List D):zYB sz els j i p x el=(el[i]?).bind (zZD sz els j i p x el):=rfl
theorem zWW(d x:D):D.put d [] x=some x:=by unfold D.put;rfl
theorem z8D(sz:Nat)(els:List (List D))(j i:Nat)(p:Path)(x:D):D.put (.s sz els) ((j,i)::p) x=(els[j]?).bind (zYB sz els j i p x):=by rw[D.put];rfl
def zz0(h:Heap)(id:Id)(d:D):Heap:=upd h id (some d)
theorem zva(h:Heap)(id:Id)(d:D):zz0 h id d=upd h id (some d):=rfl
def zYp(h:Heap)(id:Id)(p:Path)(x d:D):Option Heap:=(d.put p x).map (zz0 h id)
theorem zZd(h:Heap)(id:Id)(p:Path)(x d:D):zYp h id p x d=(d.put p x).map (zz0 h id):=rfl
theorem zYb(h:Heap)(id:Id)(p:Path)(x:D):h.put id p x=(h id).bind (zYp h id p x):=rfl
def zYS(h:Heap)(id:Id)(r:Nat×List (List D)):D×Heap:=(.s r.1 r.2,upd h id none)
theorem zKd(h:Heap)(id:Id)(sz:Nat)(els:List (List D)):zYS h id (sz,els)=(.s sz els,upd h id none):=rfl
theorem zk4(h:Heap)(id:Id):h.take id []=(h.row id []).map (zYS h id):=rfl
def zyS(sz:Nat)(els:List (List D))(h:Heap):D×Heap:=(.s sz els,h)
theorem zZm(sz:Nat)(els:List (List D))(h:Heap):zyS sz els h=(.s sz els,h):=rfl
def zYM(h:Heap)(id:Id)(p:Path)(r:Nat×List (List D)):Option (D×Heap):=(h.put id p .u).map (zyS r.1 r.2)
theorem zJc(h:Heap)(id:Id)(p:Path)(sz:Nat)(els:List (List D)):zYM h id p (sz,els)=(h.put id p .u).map (zyS sz els):=rfl
theorem zzJ(h:Heap)(id:Id)(c:Nat×Nat)(p:Path):h.take id (c::p)=(h.row id (c::p)).bind (zYM h id (c::p)):=rfl
theorem zQs(h:Heap)(id:Id)(x:D):h.putb id [] x=some (upd h id (some x)):=rfl
theorem zvp(h:Heap)(id:Id)(c:Nat×Nat)(p:Path)(x:D):h.putb id (c::p) x=h.put id (c::p) x:=rfl
theorem z8j(id:Id)(p:Path)(x:Value):D.own id p (.v x)=some (.d (.v x)):=rfl
theorem z98(id:Id)(p:Path)(sz:Nat)(e:List (List D)):D.own id p (.s sz e)=some (.ref id p):=rfl
theorem z9N(id:Id)(p:Path)(e:List (List D)):D.own id p (.r e)=some (.d (.r e)):=rfl
theorem z9L(id:Id)(p:Path):D.own id p .u=some (.d .u):=rfl
theorem zZr(id:Id)(q:Path)(j i:Nat):D2 id q j i []=some []:=by unfold D2;rfl
def zYO(id:Id)(q:Path)(j i:Nat)(cs:List D)(x:X):Option (List X):=(D2 id q j (i+1) cs).map (qK x)
theorem zw9(id:Id)(q:Path)(j i:Nat)(cs:List D)(x:X):zYO id q j i cs x=(D2 id q j (i+1) cs).map (qK x):=rfl
theorem zkx(id:Id)(q:Path)(j i:Nat)(c:D)(cs:List D):D2 id q j i (c::cs)=(c.own id (q++[(j,i)])).bind (zYO id q j i cs):=rfl
theorem z7N(x:Value):D.ro (.v x)=some (.d (.v x)):=rfl
theorem z7G(sz:Nat)(e:List (List D)):D.ro (.s sz e)=some (.d (.r e)):=rfl
theorem z7n(e:List (List D)):D.ro (.r e)=some (.d (.r e)):=rfl
theorem z7T:D.ro .u=some (.d .u):=rfl
theorem zVV:roL []=some []:=rfl
def z9K(cs:List D)(x:X):Option (List X):=(roL cs).map (qK x)
theorem zKB(cs:List D)(x:X):z9K cs x=(roL cs).map (qK x):=rfl
theorem zxA(c:D)(cs:List D):roL (c::cs)=(c.ro).bind (z9K cs):=rfl
theorem zwR(h:Heap)(n:Nat)(cs:List D):pL h n (.rop cs)=if n≤cs.length then roL (cs.take n) else none:=rfl
theorem zyE(h:Heap)(n:Nat)(cs:List X):pL h n (.vp cs)=if n≤cs.length then some (cs.take n) else none:=rfl
def ldB(id:Id)(q:Path)(j i n:Nat)(el:List D):Option (List X):=if i+n≤el.length then D2 id q j i ((el.drop i).take n) else none
theorem zX3(id:Id)(q:Path)(j i n:Nat)(el:List D):ldB id q j i n el=if i+n≤el.length then D2 id q j i ((el.drop i).take n) else none:=rfl
def ldA(id:Id)(q:Path)(j i n:Nat)(r:Nat×List (List D)):Option (List X):=(r.2[j]?).bind (ldB id q j i n)
theorem zXr(id:Id)(q:Path)(j i n sz:Nat)(els:List (List D)):ldA id q j i n (sz,els)=(els[j]?).bind (ldB id q j i n):=rfl
theorem zkq(h:Heap)(n:Nat)(id:Id)(q:Path)(j i:Nat):pL h n (.ptr id q j i)=(h.row id q).bind (ldA id q j i n):=rfl
theorem zjb(off:Nat)(id:Id)(q:Path)(j i:Nat):Bf off (.ptr id q j i)=some (.ptr id q j (i+off)):=rfl
theorem zzd(off:Nat)(cs:List D):Bf off (.rop cs)=some (.rop (cs.drop off)):=rfl
theorem zkw(off:Nat)(cs:List X):Bf off (.vp cs)=some (.vp (cs.drop off)):=rfl
def ixB(sz:Nat)(el:List D):Option X:=if el.length=sz then some (.rop el) else none
theorem zXA(sz:Nat)(el:List D):ixB sz el=if el.length=sz then some (.rop el) else none:=rfl
theorem zX4(h:Heap)(sz:Nat)(n:Int)(els:List (List D)):N8 h sz n (.d (.r els))=if 0≤n∧n<(els.length:Int) then(els[n.toNat]?).bind (ixB sz) else none:=rfl
def ixC(id:Id)(p:Path)(sz:Nat)(n:Int)(r:Nat×List (List D)):Option X:=if 0≤n∧n<(r.2.length:Int)∧r.1=sz then some (.ptr id p n.toNat 0) else none
theorem zXk(id:Id)(p:Path)(sz:Nat)(n:Int)(m:Nat)(els:List (List D)):ixC id p sz n (m,els)=if 0≤n∧n<(els.length:Int)∧m=sz then some (.ptr id p n.toNat 0) else none:=rfl
theorem zJB(h:Heap)(sz:Nat)(n:Int)(id:Id)(p:Path):N8 h sz n (.ref id p)=(h.row id p).bind (ixC id p sz n):=rfl
theorem zXa(h:Heap)(els:List (List D)):N9 h (.d (.r els))=some els.length:=rfl
theorem z9e(h:Heap)(sz:Nat):N9 h (.d (.s sz []))=some 0:=rfl
def z87(r:Nat×List (List D)):Nat:=r.2.length
theorem zV3(sz:Nat)(els:List (List D)):z87 (sz,els)=els.length:=rfl
theorem zZt(h:Heap)(id:Id)(p:Path):N9 h (.ref id p)=(h.row id p).map z87:=rfl
theorem zz9(id:Id)(q:Path)(j i:Nat):xL (.ptr id q j i)=some (.ptr id q j i):=rfl
theorem Z4(cs:List D):xL (.rop cs)=some (.rop cs):=rfl
theorem zk0(cs:List X):xL (.vp cs)=some (.vp cs):=rfl
def idH(h:Heap)(els:List (List D)):List (List D)×Heap:=(els,h)
def z8N(a:D×Heap):Option (List (List D)×Heap):=(a.1.rowOf).map fun r=>(r.2,a.2)
theorem zWX(sz:Nat)(els:List (List D))(h:Heap):z8N (.s sz els,h)=some (els,h):=rfl
theorem zys(h:Heap)(sz:Nat):qC h (.d (.s sz []))=some ([],h):=rfl
theorem zxw(h:Heap)(els:List (List D)):qC h (.d (.r els))=some (els.map fun el=>el.map D.toR,h):=rfl
theorem zzQ(h:Heap)(id:Id)(p:Path):qC h (.ref id p)=(h.take id p).bind z8N:=rfl
def zYR(sz:Nat)(a:D×Heap):Option (List (List D)×Heap):=(a.1.rowOf).bind fun r=>if r.1=sz then some (r.2,a.2) else none
theorem zZE(sz m:Nat)(els:List (List D))(h:Heap):zYR sz (.s m els,h)=if m=sz then some (els,h) else none:=rfl
theorem zvs(h:Heap)(sz m:Nat):kL h sz (.d (.s m []))=some ([],h):=rfl
theorem Wu(h:Heap)(sz:Nat)(id:Id)(p:Path):kL h sz (.ref id p)=(h.take id p).bind (zYR sz):=rfl
theorem zki(st:St):hZ st []=some []:=by unfold hZ;rfl
def Y7(st:St)(rs:List SRes)(x:X):Option (List X):=(hZ st rs).map (qK x)
theorem zvc(st:St)(rs:List SRes)(x:X):Y7 st rs x=(hZ st rs).map (qK x):=rfl
theorem zVX(st:St)(n:Nat)(rs:List SRes):hZ st (.t n::rs)=(st.env n).bind (Y7 st rs):=rfl
def zyF(st:St)(k:Option Nat)(a:X):Option X:=(pL st.heap (k.getD 1) a).bind (wC k)
theorem zvy(st:St)(k:Option Nat)(a:X):zyF st k a=(pL st.heap (k.getD 1) a).bind (wC k):=rfl
theorem zW0(st:St)(n:Nat)(k:Option Nat)(rs:List SRes):hZ st (.c n k::rs)=((st.env n).bind (zyF st k)).bind (Y7 st rs):=rfl
def Vd(a:List X×Heap):X:=oM a.1
theorem zVC(x:X)(h:Heap):Vd ([x],h)=x:=rfl
theorem zVm(h:Heap):Vd ([],h)= .tup []:=rfl
theorem zVy(x y:X)(xs:List X)(h:Heap):Vd (x::y::xs,h)= .tup (x::y::xs):=rfl
def Py(s:St)(xs:List X):Option X:=(pY 0 s.heap xs).map Vd
theorem zQ5(s:St)(xs:List X):Py s xs=(pY 0 s.heap xs).map Vd:=rfl
def Uf(fr:Nat)(a:List X×Heap):X×Heap:=(oM a.1,cB fr a.2)
theorem zVL(fr:Nat)(x:X)(h:Heap):Uf fr ([x],h)=(x,cB fr h):=rfl
theorem zWt(fr:Nat)(h:Heap):Uf fr ([],h)=(.tup [],cB fr h):=rfl
theorem zKM(fr:Nat)(x y:X)(xs:List X)(h:Heap):Uf fr (x::y::xs,h)=(.tup (x::y::xs),cB fr h):=rfl
def Vg(s:St)(fr:Nat)(xs:List X):Option (X×Heap):=(pY fr s.heap xs).map (Uf fr)
theorem zQk(s:St)(fr:Nat)(xs:List X):Vg s fr xs=(pY fr s.heap xs).map (Uf fr):=rfl
def zWN(st:St)(m:List (Nat×Nat))(ts:List Nat)(x:X):Bool→List (Nat×Nat)
 |true=>iG st (Ij m (x.offs st.fr)) ts
 |false=>iG st m ts
theorem zY2(st:St)(m:List (Nat×Nat))(ts:List Nat)(x:X):zWN st m ts x true=iG st (Ij m (x.offs st.fr)) ts:=rfl
theorem z9i(st:St)(m:List (Nat×Nat))(ts:List Nat)(x:X):zWN st m ts x false=iG st m ts:=rfl
def kmK(st:St)(m:List (Nat×Nat))(ts:List Nat):Option X→List (Nat×Nat)
 |some x=>zWN st m ts x x.keeps
 |none=>iG st m ts
theorem V0(st:St)(m:List (Nat×Nat))(ts:List Nat)(x:X):kmK st m ts (some x)=zWN st m ts x x.keeps:=rfl
theorem zxN(st:St)(m:List (Nat×Nat))(ts:List Nat):kmK st m ts none=iG st m ts:=rfl
theorem zkG(st:St)(m:List (Nat×Nat)):iG st m []=m:=by unfold iG;rfl
theorem zzy(st:St)(m:List (Nat×Nat))(t:Nat)(ts:List Nat):iG st m (t::ts)=kmK st m ts (st.env t):=by
 rw[iG]
 cases st.env t with
 |none=>rfl
 |some x=>simp only[V0];cases x.keeps<;>rfl
def zWJ(st:St)(m:List (Nat×Nat))(t:Nat)(ts:List Nat)(x:X):Bool→Env
 |true=>upd (nR st m ts) t (some (x.ren (kid st.fr m)))
 |false=>nR st m ts
theorem zXW(st:St)(m:List (Nat×Nat))(t:Nat)(ts:List Nat)(x:X):zWJ st m t ts x true=upd (nR st m ts) t (some (x.ren (kid st.fr m))):=rfl
theorem zXG(st:St)(m:List (Nat×Nat))(t:Nat)(ts:List Nat)(x:X):zWJ st m t ts x false=nR st m ts:=rfl
def keK(st:St)(m:List (Nat×Nat))(t:Nat)(ts:List Nat):Option X→Env
 |some x=>zWJ st m t ts x x.keeps
 |none=>nR st m ts
theorem X9(st:St)(m:List (Nat×Nat))(t:Nat)(ts:List Nat)(x:X):keK st m t ts (some x)=zWJ st m t ts x x.keeps:=rfl
theorem zZC(st:St)(m:List (Nat×Nat))(t:Nat)(ts:List Nat):keK st m t ts none=nR st m ts:=rfl
theorem zke(st:St)(m:List (Nat×Nat)):nR st m []=emp:=by unfold nR;rfl
theorem Zn(st:St)(m:List (Nat×Nat))(t:Nat)(ts:List Nat):nR st m (t::ts)=keK st m t ts (st.env t):=by
 rw[nR]
 cases st.env t with
 |none=>rfl
 |some x=>simp only[X9];cases x.keeps<;>rfl
def ksK(st:St)(L:List Nat)(m:List (Nat×Nat)):St:={env:=nR st m L,heap:=Hs st.fr st.heap m,fr:=st.fr,next:=m.length}
theorem zXq(st:St)(L:List Nat)(m:List (Nat×Nat)):ksK st L m={env:=nR st m L,heap:=Hs st.fr st.heap m,fr:=st.fr,next:=m.length}:=rfl
theorem zZi(L:List Nat)(st:St):nB L st=ksK st L (iG st [] L):=rfl
theorem zwv(st:St):vK [] st=nB [] st:=rfl
theorem zzN(t:Nat)(L:List Nat)(st:St):vK (t::L) st=if 20000≤t then nB L (zzG (t-20000) st) else if 10000≤t then nB L (zz1 (t-10000) st) else nB (t::L) st:=rfl
theorem zVP(t:Nat)(st:St):zzG t st=if st.fr=0 then zvE t st (st.env t) else st:=rfl
theorem zJ6(t:Nat)(st:St)(a b:Nat):zvE t st (some (.ptr (a,b) [] 0 0))=if a=0 then zx4 t (a,b) st (st.heap (a,b)) else st:=rfl
theorem zxs(t:Nat)(st:St)(a b:Nat):zvE t st (some (.ref (a,b) []))=if a=0 then zJj t (a,b) st (st.heap (a,b)) else st:=rfl
theorem zXx(t:Nat)(id:Id)(st:St)(sz:Nat)(els:List (List D)):zJj t id st (some (.s sz els))={env:=upd st.env t (some (.d (.r (fzs els)))),heap:=upd st.heap id none,fr:=st.fr,next:=st.next}:=rfl
theorem z9n(t:Nat)(id:Id)(st:St)(sz:Nat)(el:List D):zx4 t id st (some (.s sz [el]))={env:=upd st.env t (some (.rop (fzl el))),heap:=upd st.heap id none,fr:=st.fr,next:=st.next}:=rfl
theorem zWh(cs:List X):X.dim (.agg cs)= .agg (cs.map X.dimC):=rfl
theorem z9r(x:D):X.dimC (.d x)= .d x:=rfl
theorem zZB(id:Id)(p:Path):X.dimC (.ref id p)= .d .u:=rfl
theorem zWb(t:Nat)(st:St):zz1 t st=if st.fr=0 then zJ2 st (st.env t) else st:=rfl
theorem zZb(st:St)(a b j i:Nat):zJ2 st (some (.ptr (a,b) [] j i))=if a=0 then zJU (a,b) st (st.heap (a,b)) else st:=rfl
theorem zXE(id:Id)(st:St)(sz:Nat)(els:List (List D)):zJU id st (some (.s sz els))={env:=st.env,heap:=upd st.heap id (some (.s sz (els.map fun el=>el.map D.ice))),fr:=st.fr,next:=st.next}:=rfl
theorem z9D(x:Value):D.ice (.v x)= .v x:=rfl
theorem z9S(els:List (List D)):D.ice (.r els)= .r els:=rfl
theorem z8z(sz:Nat)(els:List (List D)):D.ice (.s sz els)= .r (fzs els):=rfl
def Ui(x:X)(b:List X×Heap):List X×Heap:=(x::b.1,b.2)
theorem zyL(x:X)(xs:List X)(h:Heap):Ui x (xs,h)=(x::xs,h):=rfl
def zYy(id:Id)(xs:List X)(a:X×Heap):List X×Heap:=Ui a.1 (vM a.2 (id.1,id.2+1) xs)
theorem zy9(a b:Nat)(xs:List X)(y:X)(h:Heap):zYy (a,b) xs (y,h)=Ui y (vM h (a,b+1) xs):=rfl
theorem zZM(h:Heap)(id:Id):vM h id []=([],h):=rfl
theorem zwN(h:Heap)(id:Id)(x:X)(xs:List X):vM h id (x::xs)=zYy id xs (kY h id x):=rfl
def zYN(id:Id)(n:Nat)(xs:List X)(a:X×Heap):List X×Heap:=Ui a.1 (vY a.2 (id.1,id.2+n) xs)
theorem zxY(a b n:Nat)(xs:List X)(y:X)(h:Heap):zYN (a,b) n xs (y,h)=Ui y (vY h (a,b+n) xs):=rfl
theorem zQz(h:Heap)(id:Id):vY h id []=([],h):=rfl
theorem zks(h:Heap)(id:Id)(x:X)(xs:List X):vY h id (x::xs)=zYN id x.cells.length xs (nH h id x):=rfl
end Go.Ev
