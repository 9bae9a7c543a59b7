import Derived.Test.YtenclibcnjkamaaGreatEvRow
set_option linter.all false
namespace Go.Ev
def z6c(id:Id)(q:Path)(j i n:Nat)(x:X):Option X:=if x.hit id q j i n then none else some x
theorem zx6(id:Id)(q:Path)(j i n:Nat)(e:Env)(t:Nat):purge id q j i n e t=(e t).bind (z6c id q j i n):=rfl
theorem zWz(id:Id)(q:Path)(j i n:Nat)(x:X):z6c id q j i n x=if x.hit id q j i n then none else some x:=rfl
def zXW(L:dA)(x:X):Option X:=if wF x L then none else some x
theorem zvc(L:dA)(e:Env)(t:Nat):rO L e t=(e t).bind (zXW L):=rfl
theorem zxa(L:dA)(x:X):zXW L x=if wF x L then none else some x:=rfl
def z9o(x:X):Option X:=if x.root then some x else none
theorem zky(e:Env)(t:Nat):qJ e t=(e t).bind z9o:=rfl
theorem zZo(x:X):z9o x=if x.root then some x else none:=rfl
variable{C:Cl}{st:St}{d:Option Nat}{id:Nat}
def Ad(st:St)(d:Option Nat)(a b:O)(t:Bool):Option St:=if t then(rdO st a).map (st.put d) else(rdO st b).map (st.put d)
theorem zVZ(a b:O):Ad st d a b true=(rdO st a).map (st.put d):=rfl
theorem zW3(a b:O):Ad st d a b false=(rdO st b).map (st.put d):=rfl
theorem zXk(x:O):opS C st d id (.mov x)=(rdO st x).map (st.put d):=rfl
theorem zyY(c a b:O):opS C st d id (.pick c a b)=(rdB st c).bind (Ad st d a b):=rfl
def zQT(st:St)(d:Option Nat)(k:IntKind)(z:Int):St:=st.put d (.d (.v (.int k z)))
def zzU(st:St)(d:Option Nat)(z:Bool):St:=st.put d (.d (.v (.bool z)))
def z6y(st:St)(d:Option Nat)(z:ByteArray):St:=st.put d (.d (.v (.string z)))
theorem zXw(k:IntKind)(z:Int):zQT st d k z=st.put d (.d (.v (.int k z))):=rfl
theorem zWF(z:Bool):zzU st d z=st.put d (.d (.v (.bool z))):=rfl
theorem zWQ(z:ByteArray):z6y st d z=st.put d (.d (.v (.string z))):=rfl
def zqP(st:St)(d:Option Nat)(b:BinOp)(m n:IntKind×Int):Option St:=if m.1=n.1 then(zyU b m.1 m.2 n.2).map (zQT st d m.1) else none
def z74(st:St)(d:Option Nat)(b:BinOp)(y:O)(m:IntKind×Int):Option St:=(rdI st y).bind (zqP st d b m)
theorem zV5(b:BinOp)(x y:O):opS C st d id (.ari b x y)=(rdI st x).bind (z74 st d b y):=rfl
theorem zYe(b:BinOp)(y:O)(m:IntKind×Int):z74 st d b y m=(rdI st y).bind (zqP st d b m):=rfl
theorem zx8(b:BinOp)(k:IntKind)(m n:Int):zqP st d b (k,m) (k,n)=(zyU b k m n).map (zQT st d k):=by unfold zqP;rw[if_pos rfl]
def zxU(st:St)(d:Option Nat)(b:BinOp)(m n:X):Option St:=(zJo b m n).map (zzU st d)
def z77(st:St)(d:Option Nat)(b:BinOp)(y:O)(m:X):Option St:=(rdO st y).bind (zxU st d b m)
theorem zWj(b:BinOp)(x y:O):opS C st d id (.cmp b x y)=(rdO st x).bind (z77 st d b y):=rfl
theorem zYi(b:BinOp)(y:O)(m:X):z77 st d b y m=(rdO st y).bind (zxU st d b m):=rfl
theorem zQ1(b:BinOp)(m n:X):zxU st d b m n=(zJo b m n).map (zzU st d):=rfl
def zzq(st:St)(d:Option Nat)(b:BinOp)(m n:Bool):Option St:=(zxT b m n).map (zzU st d)
def z9h(st:St)(d:Option Nat)(b:BinOp)(y:O)(m:Bool):Option St:=(rdB st y).bind (zzq st d b m)
theorem zKZ(b:BinOp)(x y:O):opS C st d id (.cmpb b x y)=(rdB st x).bind (z9h st d b y):=rfl
theorem zQq(b:BinOp)(y:O)(m:Bool):z9h st d b y m=(rdB st y).bind (zzq st d b m):=rfl
theorem zwj(b:BinOp)(m n:Bool):zzq st d b m n=(zxT b m n).map (zzU st d):=rfl
def zK6(st:St)(d:Option Nat)(a b:ByteArray):Option St:=if aE a b then some (st.put d (.d (.v (.string (a++b))))) else none
def z7s(st:St)(d:Option Nat)(y:O)(a:ByteArray):Option St:=(rdS st y).bind (zK6 st d a)
theorem zYH(x y:O):opS C st d id (.cat x y)=(rdS st x).bind (z7s st d y):=rfl
theorem zV9(y:O)(a:ByteArray):z7s st d y a=(rdS st y).bind (zK6 st d a):=rfl
theorem zJH{a b:ByteArray}(h:aE a b):zK6 st d a b=some (st.put d (.d (.v (.string (a++b))))):=if_pos h
def z6m(st:St)(d:Option Nat)(m:IntKind×Int):St:=st.put d (.d (.v (.int m.1 (m.1.wrap (0-m.2)))))
theorem zY7(x:O):opS C st d id (.neg x)=(rdI st x).map (z6m st d):=rfl
theorem zXv(k:IntKind)(m:Int):z6m st d (k,m)=st.put d (.d (.v (.int k (k.wrap (0-m))))):=rfl
def z7L(st:St)(d:Option Nat)(b:Bool):St:=st.put d (.d (.v (.bool !b)))
theorem zWn(x:O):opS C st d id (.not x)=(rdB st x).map (z7L st d):=rfl
theorem zYG(b:Bool):z7L st d b=st.put d (.d (.v (.bool !b))):=rfl
def z9v(st:St)(d:Option Nat)(k:IntKind)(m:IntKind×Int):St:=st.put d (.d (.v (.int k (k.wrap m.2))))
theorem zVp(k:IntKind)(x:O):opS C st d id (.conv k x)=(rdI st x).map (z9v st d k):=rfl
theorem zKv(k k':IntKind)(m:Int):z9v st d k (k',m)=st.put d (.d (.v (.int k (k.wrap m)))):=rfl
def zX5(st:St)(d:Option Nat)(m:IntKind×Int):St:=st.put d (.d (.v (.string (Utf8.encode m.2))))
theorem zK0(x:O):opS C st d id (.rune x)=(rdI st x).map (zX5 st d):=rfl
theorem zVj(k:IntKind)(m:Int):zX5 st d (k,m)=st.put d (.d (.v (.string (Utf8.encode m)))):=rfl
def z7H(st:St)(d:Option Nat)(s:ByteArray):Option St:=if aD 1 0 s.size then some (st.put d (.d (.r (Ec s)))) else none
theorem zV1(x:O):opS C st d id (.bos x)=(rdS st x).bind (z7H st d):=rfl
theorem zWW(s:ByteArray):z7H st d s=if aD 1 0 s.size then some (st.put d (.d (.r (Ec s)))) else none:=rfl
def zz4(st:St)(d:Option Nat)(s:ByteArray)(m:IntKind×Int):Option St:=if m.1= .u8 then some (st.put d (.d (.v (.int .i64 (Lib.indexByte s.data.toList m.2.toNat.toUInt8))))) else none
def zXP(st:St)(d:Option Nat)(y:O)(s:ByteArray):Option St:=(rdI st y).bind (zz4 st d s)
theorem zxH(f:Nat)(x y:O):opS C st d id (.idxb f x y)=(rdS st x).bind (zXP st d y):=rfl
theorem zQN(y:O)(s:ByteArray):zXP st d y s=(rdI st y).bind (zz4 st d s):=rfl
theorem zwd(s:ByteArray)(n:Int):zz4 st d s (.u8,n)=some (st.put d (.d (.v (.int .i64 (Lib.indexByte s.data.toList n.toNat.toUInt8))))):=rfl
def zJk(st:St)(d:Option Nat)(ns:List Int):Option St:=if ns.isEmpty then none else some (st.put d (.d (.v (.string (zwI ns)))))
def z7U(st:St)(d:Option Nat)(a:X):Option St:=(Ak st.heap a).bind (zJk st d)
theorem zWZ(x:O):opS C st d id (.sob x)=(rdO st x).bind (z7U st d):=rfl
theorem zYq(a:X):z7U st d a=(Ak st.heap a).bind (zJk st d):=rfl
theorem zJV(n:Int)(ns:List Int):zJk st d (n::ns)=some (st.put d (.d (.v (.string (zwI (n::ns)))))):=rfl
def z7P(st:St)(d:Option Nat)(off:Nat)(n:Option Nat):X→Option St
 |.agg cs=>(zzV off n cs).map (st.put d)
 |_=>none
theorem zXI(off:Nat)(n:Option Nat)(x:O):opS C st d id (.fld off n x)=(rdO st x).bind (z7P st d off n):=by
 simp only[opS]
 congr 1
theorem zYd(off:Nat)(n:Option Nat)(cs:List X):z7P st d off n (.agg cs)=(zzV off n cs).map (st.put d):=rfl
def zxO(st:St)(d:Option Nat)(off:Nat)(a:X):Option St:=(zO off a).map (st.put d)
theorem zvm(off:Nat)(x:O):opS C st d id (.faddr off x)=(rdO st x).bind (zxO st d off):=rfl
theorem zvI(off:Nat)(a:X):zxO st d off a=(zO off a).map (st.put d):=rfl
def zxX(st:St)(d:Option Nat)(sz:Nat)(a:X)(n:IntKind×Int):Option St:=(Po st.heap sz n.2 a).map (st.put d)
def z7M(st:St)(d:Option Nat)(sz:Nat)(i:O)(a:X):Option St:=(rdI st i).bind (zxX st d sz a)
theorem zXE(sz:Nat)(x i:O):opS C st d id (.ixa sz x i)=(rdO st x).bind (z7M st d sz i):=rfl
theorem zYn(sz:Nat)(i:O)(a:X):z7M st d sz i a=(rdI st i).bind (zxX st d sz a):=rfl
theorem zJn(sz:Nat)(a:X)(k:IntKind)(n:Int):zxX st d sz a (k,n)=(Po st.heap sz n a).map (st.put d):=rfl
def zZH(st:St)(d:Option Nat)(b:UInt8):St:=st.put d (.d (.v (.int .u8 b.toNat)))
def zJ4(st:St)(d:Option Nat)(s:ByteArray)(n:IntKind×Int):Option St:=if 0≤n.2 then(s[n.2.toNat]?).map (zZH st d) else none
def z7Z(st:St)(d:Option Nat)(i:O)(s:ByteArray):Option St:=(rdI st i).bind (zJ4 st d s)
theorem zYk(x i:O):opS C st d id (.ixs x i)=(rdS st x).bind (z7Z st d i):=rfl
theorem zVN(i:O)(s:ByteArray):z7Z st d i s=(rdI st i).bind (zJ4 st d s):=rfl
theorem zQM(s:ByteArray)(k:IntKind)(n:Int):zJ4 st d s (k,n)=if 0≤n then(s[n.toNat]?).map (zZH st d) else none:=rfl
theorem zxD(b:UInt8):zZH st d b=st.put d (.d (.v (.int .u8 b.toNat))):=rfl
def zj2(st:St)(d:Option Nat)(n:Option Nat)(cs:List X):Option St:=(uK n cs).map (st.put d)
def z9e(st:St)(d:Option Nat)(n:Option Nat)(a:X):Option St:=(oN st.heap (n.getD 1) a).bind (zj2 st d n)
theorem zVb(n:Option Nat)(x:O):opS C st d id (.load n x)=(rdO st x).bind (z9e st d n):=rfl
theorem zJ5(n:Option Nat)(a:X):z9e st d n a=(oN st.heap (n.getD 1) a).bind (zj2 st d n):=rfl
theorem zyk(n:Option Nat)(cs:List X):zj2 st d n cs=(uK n cs).map (st.put d):=rfl
def zQ5(st:St)(id:Id)(q:Path)(j i n:Nat)(el cs:List D)(h:Heap):St:={st with heap:=h,env:=if fJ ((el.drop i).take n)&&fJ cs then st.env else purge id q j i n st.env}
theorem zK4(id:Id)(q:Path)(j i n:Nat)(el cs:List D)(h:Heap):zQ5 st id q j i n el cs h={st with heap:=h,env:=if fJ ((el.drop i).take n)&&fJ cs then st.env else purge id q j i n st.env}:=rfl
def zy8(st:St)(id:Id)(q:Path)(j i n:Nat)(cs:List D)(h:Heap)(r:Nat×List (List D))(el:List D):Option St:=if i+n≤el.length then(h.put id q (.s r.1 (r.2.set j (setCells el i cs)))).map (zQ5 st id q j i n el cs) else none
theorem zQy(id:Id)(q:Path)(j i n:Nat)(cs:List D)(h:Heap)(r:Nat×List (List D))(el:List D):zy8 st id q j i n cs h r el=if i+n≤el.length then(h.put id q (.s r.1 (r.2.set j (setCells el i cs)))).map (zQ5 st id q j i n el cs) else none:=rfl
def zKU(st:St)(id:Id)(q:Path)(j i n:Nat)(cs:List D)(h:Heap)(r:Nat×List (List D)):Option St:=(r.2[j]?).bind (zy8 st id q j i n cs h r)
theorem zxL(id:Id)(q:Path)(j i n:Nat)(cs:List D)(h:Heap)(m:Nat)(els:List (List D)):zKU st id q j i n cs h (m,els)=(els[j]?).bind (zy8 st id q j i n cs h (m,els)):=rfl
def zZV(st:St)(id:Id)(q:Path)(j i n:Nat)(b:List D×Heap):Option St:=if b.1.length=n then(b.2.row id q).bind (zKU st id q j i n b.1 b.2) else none
theorem zJy(id:Id)(q:Path)(j i n:Nat)(cs:List D)(h:Heap):zZV st id q j i n (cs,h)=if cs.length=n then(h.row id q).bind (zKU st id q j i n cs h) else none:=rfl
def Xm(st:St)(n:Nat)(a:X)(cs:List X):Option St:=match a with
 |.ptr id q j i=>(iZ st.heap cs).bind (zZV st id q j i n)
 |_=>none
theorem zyv(n:Nat)(a:X)(cs:List X):sT st n a cs=Xm st n a cs:=by
 cases a<;>rfl
theorem zZz(n:Nat)(id:Id)(q:Path)(j i:Nat)(cs:List X):Xm st n (.ptr id q j i) cs=(iZ st.heap cs).bind (zZV st id q j i n):=rfl
def zZW(d:Option Nat)(s:St):St:=s.lose d
theorem zVi(s:St):zZW d s=s.lose d:=rfl
def Sv(st:St)(d:Option Nat)(n:Nat)(x:O)(a b:X):Option St:=(if 10000≤n then qY st n x a b else Xm st n a b.cells).map (zZW d)
def zZ0(st:St)(d:Option Nat)(n:Nat)(x y:O)(a:X):Option St:=(rdO st y).bind (Sv st d n x a)
theorem zvF(n:Nat)(x y:O):opS C st d id (.store n x y)=(rdO st x).bind (zZ0 st d n x y):=by
 simp only[opS,zyv]
 rfl
theorem zvR(n:Nat)(x y:O)(a:X):zZ0 st d n x y a=(rdO st y).bind (Sv st d n x a):=rfl
theorem zze(n:Nat)(x:O)(a b:X):Sv st d n x a b=(if 10000≤n then qY st n x a b else Xm st n a b.cells).map (zZW d):=rfl
theorem zv7(n:Nat)(o:O)(x y:X):qY st n o x y=if 20000≤n then Xm st (n-20000) x y.dim.cells else uA st (n-10000) o x y:=rfl
theorem zvb(n t:Nat)(i:Id)(cs:List X):uA st n (.t t) (.ptr i [] 0 0) (.agg cs)=if st.fr=0∧cs.length=n then Ch st n t i cs (st.heap i) else none:=rfl
theorem zzc(n t:Nat)(i:Id)(cs:List X)(sz:Nat)(el:List D):Ch st n t i cs (some (.s sz [el]))=if el.length=n then some {env:=upd st.env t (some (.vp cs)),heap:=upd st.heap i none,fr:=st.fr,next:=st.next} else none:=rfl
def zQZ(st:St)(d:Option Nat)(id n:Nat)(b:List D×Heap):Option St:=if b.1.length=n then some ((st.with (upd b.2 (st.fr,id) (some (.s n [b.1])))).put d (.ptr (st.fr,id) [] 0 0)) else none
def z7v(st:St)(d:Option Nat)(id n:Nat)(a:X):Option St:=(iZ st.heap a.cells).bind (zQZ st d id n)
theorem zYv(n:Nat)(x:O):opS C st d id (.box n x)=(rdO st x).bind (z7v st d id n):=rfl
theorem zWu(n:Nat)(a:X):z7v st d id n a=(iZ st.heap a.cells).bind (zQZ st d id n):=rfl
theorem zJb(n:Nat)(cs:List D)(h:Heap):zQZ st d id n (cs,h)=if cs.length=n then some ((st.with (upd h (st.fr,id) (some (.s n [cs])))).put d (.ptr (st.fr,id) [] 0 0)) else none:=rfl
def zj3(st:St)(d:Option Nat)(n:Nat)(cs:List X):Option St:=if cs.length=n then some (st.put d (.vp cs)) else none
def zX4(st:St)(d:Option Nat)(n:Nat)(a:X):Option St:=(a.cellsV).bind (zj3 st d n)
theorem zVy(n:Nat)(x:O):opS C st d id (.vbox n x)=(rdO st x).bind (zX4 st d n):=rfl
theorem zxZ(n:Nat)(a:X):zX4 st d n a=(a.cellsV).bind (zj3 st d n):=rfl
theorem zkD(n:Nat)(cs:List X):zj3 st d n cs=if cs.length=n then some (st.put d (.vp cs)) else none:=rfl
def zwg(st:St)(d:Option Nat)(mx:Bool)(m n:IntKind×Int):Option St:=if m.1=n.1 then some (st.put d (.d (.v (.int m.1 (if mx then(if m.2<n.2 then n.2 else m.2) else(if n.2<m.2 then n.2 else m.2)))))) else none
def mmK(st:St)(d:Option Nat)(mx:Bool)(y:O)(m:IntKind×Int):Option St:=(rdI st y).bind (zwg st d mx m)
theorem z8q(mx:Bool)(x y:O):opS C st d id (.mm mx x y)=(rdI st x).bind (mmK st d mx y):=rfl
theorem z8S(mx:Bool)(y:O)(m:IntKind×Int):mmK st d mx y m=(rdI st y).bind (zwg st d mx m):=rfl
theorem z8P(k:IntKind)(m n:Int):zwg st d true (k,m) (k,n)=some (zQT st d k (if m<n then n else m)):=by unfold zwg;rw[if_pos rfl];rfl
theorem z9W(k:IntKind)(m n:Int):zwg st d false (k,m) (k,n)=some (zQT st d k (if n<m then n else m)):=by unfold zwg;rw[if_pos rfl];rfl
def zqG(st:St)(d:Option Nat)(ng:Bool)(k:Nat)(cs:List X)(z:Bool):Option St:=if cs.length=k then some (st.put d (.d (.v (.bool (if ng then !z else z))))) else none
theorem zV0(k:Nat)(cs:List X)(z:Bool):zqG st d true k cs z=if cs.length=k then some (zzU st d !z) else none:=rfl
theorem zWp(k:Nat)(cs:List X)(z:Bool):zqG st d false k cs z=if cs.length=k then some (zzU st d z) else none:=rfl
def zKE(st:St)(d:Option Nat)(ng:Bool)(k:Nat)(cs ds:List X):Option St:=(yW cs ds).bind (zqG st d ng k cs)
theorem zZS(ng:Bool)(k:Nat)(cs ds:List X):zKE st d ng k cs ds=(yW cs ds).bind (zqG st d ng k cs):=rfl
def zJ3(st:St)(d:Option Nat)(ng:Bool)(k:Nat)(b:X)(cs:List X):Option St:=(b.aggOf).bind (zKE st d ng k cs)
theorem zQn(ng:Bool)(k:Nat)(b:X)(cs:List X):zJ3 st d ng k b cs=(b.aggOf).bind (zKE st d ng k cs):=rfl
def zZi(st:St)(d:Option Nat)(ng:Bool)(k:Nat)(a b:X):Option St:=(a.aggOf).bind (zJ3 st d ng k b)
theorem zQm(ng:Bool)(k:Nat)(a b:X):zZi st d ng k a b=(a.aggOf).bind (zJ3 st d ng k b):=rfl
def z7D(st:St)(d:Option Nat)(ng:Bool)(k:Nat)(y:O)(a:X):Option St:=(rdO st y).bind (zZi st d ng k a)
theorem zXh(ng:Bool)(k:Nat)(x y:O):opS C st d id (.eqa ng k x y)=(rdO st x).bind (z7D st d ng k y):=rfl
theorem zYY(ng:Bool)(k:Nat)(y:O)(a:X):z7D st d ng k y a=(rdO st y).bind (zZi st d ng k a):=rfl
theorem zyE(cs:List X):X.aggOf (.agg cs)=some cs:=rfl
def zZg(m n:Int)(b:Bool):Bool:=decide (m=n)&&b
theorem zwR(m n:Int)(b:Bool):zZg m n b=(decide (m=n)&&b):=rfl
theorem zvl:yW [] []=some true:=rfl
theorem zzT(k:IntKind)(m n:Int)(cs ds:List X):yW (.d (.v (.int k m))::cs) (.d (.v (.int k n))::ds)=(yW cs ds).map (zZg m n):=by rw[yW,if_pos rfl];rfl
theorem zwq(zs:List D):opS C st d id (.alloc zs)=some ((st.with (upd st.heap (st.fr,id) (some (.s zs.length [zs])))).put d (.ptr (st.fr,id) [] 0 0)):=rfl
def z6i(st:St)(d:Option Nat)(cs:List X):St:=st.put d (.agg cs)
theorem zvg(zs:List D)(ps:List (Nat×Nat×O)):opS C st d id (.build zs ps)=(mS st (zs.map .d) ps).map (z6i st d):=rfl
theorem zYo(cs:List X):z6i st d cs=st.put d (.agg cs):=rfl
def Zt(st:St)(cs:List X)(off n:Nat)(ps:List (Nat×Nat×O))(us:List X):Option (List X):=if us.length=n∧off+n≤cs.length then mS st (Lg cs off us) ps else none
def zXO(st:St)(cs:List X)(off n:Nat)(ps:List (Nat×Nat×O))(x:X):Option (List X):=(x.cellsV).bind (Zt st cs off n ps)
theorem zk6(cs:List X):mS st cs []=some cs:=rfl
theorem zjJ(cs:List X)(off n:Nat)(o:O)(ps:List (Nat×Nat×O)):mS st cs ((off,n,o)::ps)=(rdO st o).bind (zXO st cs off n ps):=rfl
theorem zxx(cs:List X)(off n:Nat)(ps:List (Nat×Nat×O))(x:X):zXO st cs off n ps x=(x.cellsV).bind (Zt st cs off n ps):=rfl
theorem zkz(cs:List X)(off n:Nat)(ps:List (Nat×Nat×O))(us:List X):Zt st cs off n ps us=if us.length=n∧off+n≤cs.length then mS st (Lg cs off us) ps else none:=rfl
def z7r(st:St)(d:Option Nat)(id sz:Nat)(a:List (List D)×Heap):St:=(st.with (upd a.2 (st.fr,id) (some (.s sz a.1)))).put d (.ref (st.fr,id) [])
theorem zWq(sz:Nat)(ps:List O):opS C st d id (.lit sz ps)=(eS st sz st.heap ps).map (z7r st d id sz):=rfl
theorem zYF(sz:Nat)(els:List (List D))(h:Heap):z7r st d id sz (els,h)=(st.with (upd h (st.fr,id) (some (.s sz els)))).put d (.ref (st.fr,id) []):=rfl
def zKs(ds:List D)(b:List (List D)×Heap):List (List D)×Heap:=(ds::b.1,b.2)
theorem zyT(ds:List D)(els:List (List D))(h:Heap):zKs ds (els,h)=(ds::els,h):=rfl
def zJZ(st:St)(sz:Nat)(os:List O)(a:List D×Heap):Option (List (List D)×Heap):=if a.1.length=sz then(eS st sz a.2 os).map (zKs a.1) else none
theorem zJe(sz:Nat)(os:List O)(ds:List D)(h:Heap):zJZ st sz os (ds,h)=if ds.length=sz then(eS st sz h os).map (zKs ds) else none:=rfl
def z79(st:St)(sz:Nat)(h:Heap)(os:List O)(x:X):Option (List (List D)×Heap):=(iZ h x.cells).bind (zJZ st sz os)
theorem zVY(sz:Nat)(h:Heap)(os:List O)(x:X):z79 st sz h os x=(iZ h x.cells).bind (zJZ st sz os):=rfl
theorem U6(sz:Nat)(h:Heap):eS st sz h []=some ([],h):=rfl
theorem Ta(sz:Nat)(h:Heap)(o:O)(os:List O):eS st sz h (o::os)=(rdO st o).bind (z79 st sz h os):=rfl
def mkK(st:St)(d:Option Nat)(id sz bytes:Nat)(zs:List D)(m:IntKind×Int):Option St:=if aF bytes m.2∧zs.length=sz then some ((st.with (upd st.heap (st.fr,id) (some (.s sz (List.replicate m.2.toNat zs))))).put d (.ref (st.fr,id) [])) else none
theorem z8G(sz bytes:Nat)(zs:List D)(n:O):opS C st d id (.mk sz bytes zs n)=(rdI st n).bind (mkK st d id sz bytes zs):=rfl
theorem z8g(sz bytes:Nat)(zs:List D)(k:IntKind)(n:Int):mkK st d id sz bytes zs (k,n)=if aF bytes n∧zs.length=sz then some ((st.with (upd st.heap (st.fr,id) (some (.s sz (List.replicate n.toNat zs))))).put d (.ref (st.fr,id) [])) else none:=rfl
def zji(st:St)(d:Option Nat)(sz:Nat)(els:List (List D))(l h:Int):Option St:=if 0≤l∧l≤h∧h≤(els.length:Int)∧els.all (fun el=>el.length==sz)=true then some (st.put d (.d (.r ((els.take h.toNat).drop l.toNat)))) else none
def Zj(st:St)(d:Option Nat)(sz:Nat)(els:List (List D))(hi:Option O)(l:Int):Option St:=(bN st (els.length:Int) hi).bind (zji st d sz els l)
def zXR(st:St)(d:Option Nat)(sz:Nat)(lo hi:Option O):X→Option St
 |.d (.r els)=>(bN st 0 lo).bind (Zj st d sz els hi)
 |_=>none
theorem zQV(sz:Nat)(x:O)(lo hi:Option O):opS C st d id (.cutr sz x lo hi)=(rdO st x).bind (zXR st d sz lo hi):=by
 simp only[opS]
 congr 1
theorem zx5(sz:Nat)(lo hi:Option O)(els:List (List D)):zXR st d sz lo hi (.d (.r els))=(bN st 0 lo).bind (Zj st d sz els hi):=rfl
theorem zwa(sz:Nat)(els:List (List D))(hi:Option O)(l:Int):Zj st d sz els hi l=(bN st (els.length:Int) hi).bind (zji st d sz els l):=rfl
theorem zvJ(sz:Nat)(els:List (List D))(l h:Int):zji st d sz els l h=if 0≤l∧l≤h∧h≤(els.length:Int)∧els.all (fun el=>el.length==sz)=true then some (st.put d (.d (.r ((els.take h.toNat).drop l.toNat)))) else none:=rfl
def Zn(st:St)(d:Option Nat)(id sz:Nat)(l:Int)(els:List (List D))(hp:Heap)(h:Int):Option St:=if 0≤l∧l≤h∧h≤(els.length:Int)∧(l=0∨l<h) then some ((st.with (upd hp (st.fr,id) (some (.s sz ((els.take h.toNat).drop l.toNat))))).put d (.ref (st.fr,id) [])) else none
def Z9(st:St)(d:Option Nat)(id sz:Nat)(hi:Option O)(l:Int)(m:List (List D)×Heap):Option St:=(bN st (m.1.length:Int) hi).bind (Zn st d id sz l m.1 m.2)
def zjv(st:St)(d:Option Nat)(id sz:Nat)(hi:Option O)(a:X)(l:Int):Option St:=(i7 st.heap sz a).bind (Z9 st d id sz hi l)
def zXS(st:St)(d:Option Nat)(id sz:Nat)(lo hi:Option O)(a:X):Option St:=(bN st 0 lo).bind (zjv st d id sz hi a)
def zKC(st:St)(id:Id)(p:Path)(r:Nat×List (List D)):Option St:=if r.1=1∧r.2.all wV=true then(st.heap.put id p (.s 1 (List.replicate r.2.length [.v (.bool false)]))).map st.with else none
def z6j(st:St):X→Option St
 |.ref id p=>(st.heap.row id p).bind (zKC st id p)
 |_=>none
theorem zYw(x:O):opS C st none id (.clr x)=(rdO st x).bind (z6j st):=by
 simp only[opS,Option.isSome_none,Bool.false_eq_true,if_false]
 congr 1
 funext a
 cases a<;>rfl
theorem zXB(i:Id)(p:Path):z6j st (.ref i p)=(st.heap.row i p).bind (zKC st i p):=rfl
theorem zQE(i:Id)(p:Path)(n:Nat)(els:List (List D)):zKC st i p (n,els)=if n=1∧els.all wV=true then(st.heap.put i p (.s 1 (List.replicate els.length [.v (.bool false)]))).map st.with else none:=rfl
theorem zQH(sz:Nat)(x:O)(lo hi:Option O):opS C st d id (.cutm sz x lo hi)=(rdO st x).bind (zXS st d id sz lo hi):=rfl
theorem zxy(sz:Nat)(lo hi:Option O)(a:X):zXS st d id sz lo hi a=(bN st 0 lo).bind (zjv st d id sz hi a):=rfl
theorem zk8(sz:Nat)(hi:Option O)(a:X)(l:Int):zjv st d id sz hi a l=(i7 st.heap sz a).bind (Z9 st d id sz hi l):=rfl
theorem zvE(sz:Nat)(hi:Option O)(l:Int)(els:List (List D))(hp:Heap):Z9 st d id sz hi l (els,hp)=(bN st (els.length:Int) hi).bind (Zn st d id sz l els hp):=rfl
theorem zkN(sz:Nat)(l:Int)(els:List (List D))(hp:Heap)(h:Int):Zn st d id sz l els hp h=if 0≤l∧l≤h∧h≤(els.length:Int)∧(l=0∨l<h) then some ((st.with (upd hp (st.fr,id) (some (.s sz ((els.take h.toNat).drop l.toNat))))).put d (.ref (st.fr,id) [])) else none:=rfl
def zj4(st:St)(d:Option Nat)(s:ByteArray)(l h:Int):Option St:=if 0≤l∧l≤h∧h≤(s.size:Int) then some (st.put d (.d (.v (.string (s.extract l.toNat h.toNat))))) else none
def zzX(st:St)(d:Option Nat)(s:ByteArray)(hi:Option O)(l:Int):Option St:=(bN st (s.size:Int) hi).bind (zj4 st d s l)
def zX2(st:St)(d:Option Nat)(lo hi:Option O)(s:ByteArray):Option St:=(bN st 0 lo).bind (zzX st d s hi)
theorem zJd(x:O)(lo hi:Option O):opS C st d id (.cutS x lo hi)=(rdS st x).bind (zX2 st d lo hi):=rfl
theorem zxS(lo hi:Option O)(s:ByteArray):zX2 st d lo hi s=(bN st 0 lo).bind (zzX st d s hi):=rfl
theorem zvo(s:ByteArray)(hi:Option O)(l:Int):zzX st d s hi l=(bN st (s.size:Int) hi).bind (zj4 st d s l):=rfl
theorem zyt(s:ByteArray)(l h:Int):zj4 st d s l h=if 0≤l∧l≤h∧h≤(s.size:Int) then some (st.put d (.d (.v (.string (s.extract l.toNat h.toNat))))) else none:=rfl
def zVK(st:St)(d:Option Nat)(n:Nat):St:=st.put d (.d (.v (.int .i64 (n:Int))))
def z7p(st:St)(d:Option Nat)(a:X):Option St:=(Pf st.heap a).map (zVK st d)
theorem zWw(x:O):opS C st d id (.len x)=(rdO st x).bind (z7p st d):=rfl
theorem zYO(a:X):z7p st d a=(Pf st.heap a).map (zVK st d):=rfl
theorem zJm(n:Nat):zVK st d n=st.put d (.d (.v (.int .i64 (n:Int)))):=rfl
def zX0(st:St)(d:Option Nat)(s:ByteArray):St:=st.put d (.d (.v (.int .i64 (s.size:Int))))
theorem zQ4(x:O):opS C st d id (.slen x)=(rdS st x).map (zX0 st d):=rfl
theorem zZe(s:ByteArray):zX0 st d s=st.put d (.d (.v (.int .i64 (s.size:Int)))):=rfl
def zZJ(st:St)(d:Option Nat)(id sz bytes:Nat)(l:List (List D))(m:List (List D)×Heap):Option St:=if aD bytes l.length m.1.length∧m.1.all (fun el=>el.length==sz) then some ((st.with (upd m.2 (st.fr,id) (some (.s sz (l++m.1))))).put d (.ref (st.fr,id) [])) else none
def zQO(st:St)(d:Option Nat)(id sz bytes:Nat)(b:X)(l:List (List D)×Heap):Option St:=(pD l.2 b).bind (zZJ st d id sz bytes l.1)
def zQs(st:St)(d:Option Nat)(id sz bytes:Nat)(a b:X):Option St:=(i7 st.heap sz a).bind (zQO st d id sz bytes b)
def z73(st:St)(d:Option Nat)(id sz bytes:Nat)(y:O)(a:X):Option St:=(rdO st y).bind (zQs st d id sz bytes a)
theorem zWU(sz bytes:Nat)(x y:O):opS C st d id (.app sz bytes x y)=(rdO st x).bind (z73 st d id sz bytes y):=rfl
theorem zWE(sz bytes:Nat)(y:O)(a:X):z73 st d id sz bytes y a=(rdO st y).bind (zQs st d id sz bytes a):=rfl
theorem zyV(sz bytes:Nat)(a b:X):zQs st d id sz bytes a b=(i7 st.heap sz a).bind (zQO st d id sz bytes b):=rfl
theorem zZl(sz bytes:Nat)(b:X)(l:List (List D))(h:Heap):zQO st d id sz bytes b (l,h)=(pD h b).bind (zZJ st d id sz bytes l):=rfl
theorem zQG(sz bytes:Nat)(l m:List (List D))(h:Heap):zZJ st d id sz bytes l (m,h)=if aD bytes l.length m.length∧m.all (fun el=>el.length==sz) then some ((st.with (upd h (st.fr,id) (some (.s sz (l++m))))).put d (.ref (st.fr,id) [])) else none:=rfl
def fnK(st:St)(d:Option Nat)(f:Nat)(xs:List X):St:=st.put d (if xs.isEmpty then .d (.v (.func (.func f) #[] #[])) else .clo f xs)
theorem z97(f:Nat)(caps:List O):opS C st d id (.fn f caps)=(mF st caps).map (fnK st d f):=rfl
theorem fnK_eq(f:Nat)(xs:List X):fnK st d f xs=st.put d (if xs.isEmpty then .d (.v (.func (.func f) #[] #[])) else .clo f xs):=rfl
def zqF(st:St)(d:Option Nat)(id:Nat)(h:Heap)(x:X):Option St:=kP st d id x h
theorem zQh(h:Heap)(x:X):zqF st d id h x=if x.ncells≤32 then some ((st.with (vF h (st.fr,id) x).2).put d (vF h (st.fr,id) x).1) else none:=rfl
def zza(st:St)(d:Option Nat)(id:Nat)(as:List X)(r:X):Option St:=if iY as||r.noR then kP st d id r st.heap else none
def zj1(C:Cl)(st:St)(d:Option Nat)(id f:Nat)(as bs:List X):Option St:=(C.iso f bs).bind (zza st d id as)
def zX8(C:Cl)(st:St)(d:Option Nat)(id f:Nat)(as:List X):Option St:=(kV st.heap as).bind (zj1 C st d id f as)
theorem zVd(f:Nat)(xs:List O):opS C st d id (.call f xs)=(mF st xs).bind (zX8 C st d id f):=rfl
theorem zVA(f:Nat)(as:List X):zX8 C st d id f as=(kV st.heap as).bind (zj1 C st d id f as):=rfl
theorem zk7(f:Nat)(as bs:List X):zj1 C st d id f as bs=(C.iso f bs).bind (zza st d id as):=rfl
theorem zye(as:List X)(r:X):zza st d id as r=if iY as||r.noR then zqF st d id st.heap r else none:=rfl
def Uc(st:St)(d:Option Nat)(as:List X)(r:X):Option St:=if iY as||r.noR then some (st.put d r.frz) else none
def Fb(C:Cl)(st:St)(d:Option Nat)(f:Nat)(as bs:List X):Option St:=(C.iso f bs).bind (Uc st d as)
def zVq(C:Cl)(st:St)(d:Option Nat)(f:Nat)(as:List X):Option St:=(kV st.heap as).bind (Fb C st d f as)
theorem zvO(f:Nat)(xs:List O):opS C st d id (.callr f xs)=(mF st xs).bind (zVq C st d f):=rfl
def zxR(C:Cl)(st:St)(d:Option Nat)(f:Nat)(as:List X):Option St:=(kV st.heap as).bind fun bs=>Fb C st d f as (bs.map X.du)
theorem zyD(f:Nat)(xs:List O):opS C st d id (.callu f xs)=(mF st xs).bind (zxR C st d f):=rfl
theorem zk9(f:Nat)(as:List X):zxR C st d f as=(kV st.heap as).bind fun bs=>Fb C st d f as (bs.map X.du):=rfl
theorem zyd(f:Nat)(as:List X):zVq C st d f as=(kV st.heap as).bind (Fb C st d f as):=rfl
theorem Zp(f:Nat)(as bs:List X):Fb C st d f as bs=(C.iso f bs).bind (Uc st d as):=rfl
theorem zzk(as:List X)(r:X):Uc st d as r=if iY as||r.noR then some (st.put d r.frz) else none:=rfl
def Us(st:St)(d:Option Nat)(id:Nat)(r:X×Heap):Option St:=kP {st with env:=qJ st.env} d id r.1 r.2
def Se(C:Cl)(st:St)(d:Option Nat)(id:Nat)(g:Nat×List X)(as:List X):Option St:=(C g.1 (as++g.2) st.heap (st.fr+1)).bind (Us st d id)
def Rw(C:Cl)(st:St)(d:Option Nat)(id:Nat)(xs:List O)(g:Nat×List X):Option St:=(mF st xs).bind (Se C st d id g)
def zZm(C:Cl)(st:St)(d:Option Nat)(id:Nat)(xs:List O)(c:X):Option St:=(Et c).bind (Rw C st d id xs)
theorem zvY(f:O)(xs:List O):opS C st d id (.calli f xs)=(rdO st f).bind (zZm C st d id xs):=rfl
theorem zv6(xs:List O)(c:X):zZm C st d id xs c=(Et c).bind (Rw C st d id xs):=rfl
theorem zzO(xs:List O)(g:Nat×List X):Rw C st d id xs g=(mF st xs).bind (Se C st d id g):=rfl
theorem zjj(f:Nat)(caps as:List X):Se C st d id (f,caps) as=(C f (as++caps) st.heap (st.fr+1)).bind (Us st d id):=rfl
theorem zqh(r:X)(h:Heap):Us st d id (r,h)=zqF {st with env:=qJ st.env} d id h r:=rfl
def Ul(st:St)(d:Option Nat)(id:Nat)(L:dA)(r:X)(h2:Heap):Option St:=kP {st with env:=rO L st.env} d id r h2
def J3(st:St)(d:Option Nat)(id:Nat)(as:List X)(bs:List Bool)(h:Heap)(L:dA)(r:X×Heap):Option St :=
 if (rY L&&r.1.noP&&(roF as bs||(r.1.noR&&Zg r.2 0 L)))=true then(Al h r.2 0 L).bind (Ul st d id L r.1) else none
def J0(C:Cl)(st:St)(d:Option Nat)(id f:Nat)(as:List X)(bs:List Bool)(h:Heap)(L:dA)(ys:List X):Option St:=(C.give f ys (Cx 0 L) 1).bind (J3 st d id as bs h L)
def z9g(a:D×Heap):X×Heap:=(.d a.1,a.2)
theorem zJ0(d:D)(h:Heap):z9g (d,h)=(.d d,h):=rfl
theorem zkS(h:Heap)(id:Id)(p:Path):Dn h (.ref id p)=(h.take id p).map z9g:=rfl
theorem zYz(h:Heap)(x:D):Dn h (.d x)=some (.d x,h):=rfl
theorem zv1(h:Heap)(x:List X):Dn h (.agg x)=some (.agg x,h):=rfl
theorem zvz(h:Heap)(x:List X):Dn h (.tup x)=some (.tup x,h):=rfl
def zj9(st:St)(d:Option Nat)(id:Nat)(as:List X)(bs:List Bool)(h:Heap)(L:dA)(r:X×Heap):Option St:=(Dn r.2 r.1).bind (J3 st d id as bs h L)
theorem zya(st:St)(d:Option Nat)(id:Nat)(as:List X)(bs:List Bool)(h:Heap)(L:dA)(r:X)(hB:Heap):zj9 st d id as bs h L (r,hB)=(Dn hB r).bind (J3 st d id as bs h L):=rfl
def Sr(C:Cl)(st:St)(d:Option Nat)(id f:Nat)(as:List X)(bs:List Bool)(m:List X×Heap×dA):Option St:=(oI m.2.1 m.1 bs).bind (J0 C st d id f as bs m.2.1 m.2.2)
def zy2(C:Cl)(st:St)(d:Option Nat)(id f:Nat)(bs:List Bool)(as:List X):Option St:=(rS st.heap 0 as bs).bind (Sr C st d id f as bs)
theorem zwD(f:Nat)(xs:List O)(bs:List Bool):opS C st d id (.callb f xs bs)=(mF st xs).bind (zy2 C st d id f bs):=rfl
theorem zyA(f:Nat)(bs:List Bool)(as:List X):zy2 C st d id f bs as=(rS st.heap 0 as bs).bind (Sr C st d id f as bs):=rfl
theorem zj0(f:Nat)(as:List X)(bs:List Bool)(xs:List X)(h:Heap)(L:dA):Sr C st d id f as bs (xs,h,L)=(oI h xs bs).bind (J0 C st d id f as bs h L):=rfl
theorem Zv(f:Nat)(as:List X)(bs:List Bool)(h:Heap)(L:dA)(ys:List X):J0 C st d id f as bs h L ys=(C f ys (Cx 0 L) 1).bind (zj9 st d id as bs h L):=by unfold J0 Cl.give zj9;rw[Option.bind_assoc]
theorem zzf(as:List X)(bs:List Bool)(h:Heap)(L:dA)(r:X)(hB:Heap):J3 st d id as bs h L (r,hB)=if (rY L&&r.noP&&(roF as bs||(r.noR&&Zg hB 0 L)))=true then(Al h hB 0 L).bind (Ul st d id L r) else none:=rfl
theorem Zi(L:dA)(r:X)(h2:Heap):Ul st d id L r h2=zqF {st with env:=rO L st.env} d id h2 r:=rfl
def z7E(st:St)(d:Option Nat)(i:Nat):X→Option St
 |.tup cs=>(cs[i]?).map (st.put d)
 |_=>none
theorem zVT(x:O)(i:Nat):opS C st d id (.ext x i)=(rdO st x).bind (z7E st d i):=by
 simp only[opS]
 congr 1
theorem zYR(i:Nat)(cs:List X):z7E st d i (.tup cs)=(cs[i]?).map (st.put d):=rfl
def z6b(st:St)(d:Option Nat)(a:X):Option St:=(xO a).map (st.put d)
theorem zXC(x:O):opS C st d id (.nck x)=(rdO st x).bind (z6b st d):=rfl
theorem zVX(a:X):z6b st d a=(xO a).map (st.put d):=rfl
def zXM(r:Nat×List (List D)):X:= .d (.r (fzs r.2))
theorem zVe(sz:Nat)(e:List (List D)):zXM (sz,e)= .d (.r (fzs e)):=rfl
def z7o(a:D×Heap):X×Heap:=(.d a.1,a.2)
theorem zYS(d:D)(h:Heap):z7o (d,h)=(.d d,h):=rfl
def z9d(a:List X×Heap):X×Heap:=(.agg a.1,a.2)
theorem zKb(d:List X)(h:Heap):z9d (d,h)=(.agg d,h):=rfl
def z9P(y:X)(i:Id)(p:Path)(a:D×Heap):X×Heap×dA:=(y,a.2,[(i,p,a.1)])
theorem zWc(y:X)(i:Id)(p:Path)(d:D)(h:Heap):z9P y i p (d,h)=(y,h,[(i,p,d)]):=rfl
def z9u(a:List X×Heap×dA):X×Heap×dA:=(.agg a.1,a.2)
theorem zy0(d:List X)(h:Heap)(L:dA):z9u (d,h,L)=(.agg d,h,L):=rfl
theorem zyp(c:D):X.cells (.d c)=[(.d c)]:=rfl
theorem Xk(cs:List X):X.cells (.agg cs)=cs:=rfl
theorem Xt(cs:List X):X.cells (.tup cs)=[(.tup cs)]:=rfl
theorem X2(i:Id)(p:Path):X.cells (.ref i p)=[(.ref i p)]:=rfl
theorem Yl(i:Id)(p:Path)(j k:Nat):X.cells (.ptr i p j k)=[(.ptr i p j k)]:=rfl
theorem Wj(ds:List D):X.cells (.rop ds)=[(.rop ds)]:=rfl
theorem zzL(cs:List X):X.cells (.vp cs)=[(.vp cs)]:=rfl
theorem Vj(f:Nat)(cs:List X):X.cells (.clo f cs)=[(.clo f cs)]:=rfl
theorem zjs(c:D):X.cellsV (.d c)=some [(.d c)]:=rfl
theorem Ru(cs:List X):X.cellsV (.agg cs)=some cs:=rfl
theorem Tg(cs:List X):X.cellsV (.tup cs)=none:=rfl
theorem Uf(i:Id)(p:Path):X.cellsV (.ref i p)=some [(.ref i p)]:=rfl
theorem Tc(i:Id)(p:Path)(j k:Nat):X.cellsV (.ptr i p j k)=some [(.ptr i p j k)]:=rfl
theorem Sx(ds:List D):X.cellsV (.rop ds)=some [(.rop ds)]:=rfl
theorem Vn(cs:List X):X.cellsV (.vp cs)=some [(.vp cs)]:=rfl
theorem S9(f:Nat)(cs:List X):X.cellsV (.clo f cs)=some [(.clo f cs)]:=rfl
theorem zQ8(id:Id)(q:Path)(a b n:Nat)(c:D):X.hitC id q a b n (.d c)=false:=rfl
theorem zzI(id:Id)(q:Path)(a b n:Nat)(cs:List X):X.hitC id q a b n (.agg cs)=true:=rfl
theorem zjN(id:Id)(q:Path)(a b n:Nat)(cs:List X):X.hitC id q a b n (.tup cs)=true:=rfl
theorem zz2(id:Id)(q:Path)(a b n:Nat)(i:Id)(p:Path):X.hitC id q a b n (.ref i p)=(i==id&&Path.under q a b n p):=rfl
theorem zjw(id:Id)(q:Path)(a b n:Nat)(i:Id)(p:Path)(j k:Nat):X.hitC id q a b n (.ptr i p j k)=(i==id&&Path.under q a b n p):=rfl
theorem zzx(id:Id)(q:Path)(a b n:Nat)(ds:List D):X.hitC id q a b n (.rop ds)=false:=rfl
theorem zwc(id:Id)(q:Path)(a b n:Nat)(cs:List X):X.hitC id q a b n (.vp cs)=true:=rfl
theorem zjX(id:Id)(q:Path)(a b n:Nat)(f:Nat)(cs:List X):X.hitC id q a b n (.clo f cs)=true:=rfl
theorem zYM(id:Id)(q:Path)(a b n:Nat)(c:D):X.hit id q a b n (.d c)=X.hitC id q a b n (.d c):=rfl
theorem zkX(id:Id)(q:Path)(a b n:Nat)(cs:List X):X.hit id q a b n (.agg cs)=Wy id q a b n cs:=rfl
theorem zvC(id:Id)(q:Path)(a b n:Nat)(cs:List X):X.hit id q a b n (.tup cs)=true:=rfl
theorem zwk(id:Id)(q:Path)(a b n:Nat)(i:Id)(p:Path):X.hit id q a b n (.ref i p)=X.hitC id q a b n (.ref i p):=rfl
theorem zv8(id:Id)(q:Path)(a b n:Nat)(i:Id)(p:Path)(j k:Nat):X.hit id q a b n (.ptr i p j k)=X.hitC id q a b n (.ptr i p j k):=rfl
theorem zwF(id:Id)(q:Path)(a b n:Nat)(ds:List D):X.hit id q a b n (.rop ds)=X.hitC id q a b n (.rop ds):=rfl
theorem zVv(id:Id)(q:Path)(a b n:Nat)(cs:List X):X.hit id q a b n (.vp cs)=Wy id q a b n cs:=rfl
theorem zvU(id:Id)(q:Path)(a b n:Nat)(f:Nat)(cs:List X):X.hit id q a b n (.clo f cs)=X.hitC id q a b n (.clo f cs):=rfl
theorem zkC(c:D):X.rootC (.d c)=true:=rfl
theorem X0(cs:List X):X.rootC (.agg cs)=false:=rfl
theorem Yi(cs:List X):X.rootC (.tup cs)=false:=rfl
theorem V6(i:Id)(p:Path):X.rootC (.ref i p)=p.isEmpty:=rfl
theorem X5(i:Id)(p:Path)(j k:Nat):X.rootC (.ptr i p j k)=p.isEmpty:=rfl
theorem Wd(ds:List D):X.rootC (.rop ds)=true:=rfl
theorem zzo(cs:List X):X.rootC (.vp cs)=false:=rfl
theorem Xl(f:Nat)(cs:List X):X.rootC (.clo f cs)=false:=rfl
theorem zQu(c:D):X.root (.d c)=X.rootC (.d c):=rfl
theorem zzh(cs:List X):X.root (.agg cs)=C4 cs:=rfl
theorem zjl(cs:List X):X.root (.tup cs)=X.rootC (.tup cs):=rfl
theorem Zs(i:Id)(p:Path):X.root (.ref i p)=X.rootC (.ref i p):=rfl
theorem zje(i:Id)(p:Path)(j k:Nat):X.root (.ptr i p j k)=X.rootC (.ptr i p j k):=rfl
theorem zjW(ds:List D):X.root (.rop ds)=X.rootC (.rop ds):=rfl
theorem zyh(cs:List X):X.root (.vp cs)=C4 cs:=rfl
theorem zzj(f:Nat)(cs:List X):X.root (.clo f cs)=C4 cs:=rfl
theorem zW7(id:Id)(q:Path)(c:D):X.inC id q (.d c)=false:=rfl
theorem zvu(id:Id)(q:Path)(cs:List X):X.inC id q (.agg cs)=true:=rfl
theorem zkT(id:Id)(q:Path)(cs:List X):X.inC id q (.tup cs)=true:=rfl
theorem zwA(id:Id)(q:Path)(i:Id)(p:Path):X.inC id q (.ref i p)=(decide (i=id)&&q.isPrefixOf p&& !decide (p=q)):=rfl
theorem zv9(id:Id)(q:Path)(i:Id)(p:Path)(j k:Nat):X.inC id q (.ptr i p j k)=(decide (i=id)&&q.isPrefixOf p&& !decide (p=q)):=rfl
theorem zwi(id:Id)(q:Path)(ds:List D):X.inC id q (.rop ds)=false:=rfl
theorem zJp(id:Id)(q:Path)(cs:List X):X.inC id q (.vp cs)=true:=rfl
theorem zwT(id:Id)(q:Path)(f:Nat)(cs:List X):X.inC id q (.clo f cs)=true:=rfl
theorem zXF(id:Id)(q:Path)(c:D):X.inV id q (.d c)=X.inC id q (.d c):=rfl
theorem zvq(id:Id)(q:Path)(cs:List X):X.inV id q (.agg cs)=inL id q cs:=rfl
theorem zkV(id:Id)(q:Path)(cs:List X):X.inV id q (.tup cs)=X.inC id q (.tup cs):=rfl
theorem zvP(id:Id)(q:Path)(i:Id)(p:Path):X.inV id q (.ref i p)=X.inC id q (.ref i p):=rfl
theorem zyP(id:Id)(q:Path)(i:Id)(p:Path)(j k:Nat):X.inV id q (.ptr i p j k)=X.inC id q (.ptr i p j k):=rfl
theorem zw2(id:Id)(q:Path)(ds:List D):X.inV id q (.rop ds)=X.inC id q (.rop ds):=rfl
theorem zJY(id:Id)(q:Path)(cs:List X):X.inV id q (.vp cs)=inL id q cs:=rfl
theorem zwP(id:Id)(q:Path)(f:Nat)(cs:List X):X.inV id q (.clo f cs)=inL id q cs:=rfl
theorem zXu(c:D):X.roC (.d c)=true:=rfl
theorem zwN(cs:List X):X.roC (.agg cs)=false:=rfl
theorem zwW(cs:List X):X.roC (.tup cs)=false:=rfl
theorem zk4(i:Id)(p:Path):X.roC (.ref i p)=false:=rfl
theorem zkU(i:Id)(p:Path)(j k:Nat):X.roC (.ptr i p j k)=false:=rfl
theorem zyI(ds:List D):X.roC (.rop ds)=false:=rfl
theorem zQz(cs:List X):X.roC (.vp cs)=false:=rfl
theorem zkK(f:Nat)(cs:List X):X.roC (.clo f cs)=false:=rfl
theorem zV3(c:D):X.roV (.d c)=X.roC (.d c):=rfl
theorem zyb(cs:List X):X.roV (.agg cs)=Fd cs:=rfl
theorem zvd(cs:List X):X.roV (.tup cs)=X.roC (.tup cs):=rfl
theorem zvi(i:Id)(p:Path):X.roV (.ref i p)=X.roC (.ref i p):=rfl
theorem zw6(i:Id)(p:Path)(j k:Nat):X.roV (.ptr i p j k)=X.roC (.ptr i p j k):=rfl
theorem zyc(ds:List D):X.roV (.rop ds)=X.roC (.rop ds):=rfl
theorem zKf(cs:List X):X.roV (.vp cs)=X.roC (.vp cs):=rfl
theorem zwV(f:Nat)(cs:List X):X.roV (.clo f cs)=X.roC (.clo f cs):=rfl
theorem zYf(c:D):X.noP (.d c)=X.roV (.d c):=rfl
theorem zyC(cs:List X):X.noP (.agg cs)=X.roV (.agg cs):=rfl
theorem zkx(cs:List X):X.noP (.tup cs)=iY cs:=rfl
theorem zk1(i:Id)(p:Path):X.noP (.ref i p)=X.roV (.ref i p):=rfl
theorem zvv(i:Id)(p:Path)(j k:Nat):X.noP (.ptr i p j k)=X.roV (.ptr i p j k):=rfl
theorem zw0(ds:List D):X.noP (.rop ds)=X.roV (.rop ds):=rfl
theorem zKj(cs:List X):X.noP (.vp cs)=X.roV (.vp cs):=rfl
theorem zw9(f:Nat)(cs:List X):X.noP (.clo f cs)=X.roV (.clo f cs):=rfl
theorem zJc(c:D):X.noRC (.d c)=c.noR:=rfl
theorem zzB(cs:List X):X.noRC (.agg cs)=false:=rfl
theorem Zr(cs:List X):X.noRC (.tup cs)=false:=rfl
theorem zjK(i:Id)(p:Path):X.noRC (.ref i p)=false:=rfl
theorem Zm(i:Id)(p:Path)(j k:Nat):X.noRC (.ptr i p j k)=false:=rfl
theorem zjo(ds:List D):X.noRC (.rop ds)=false:=rfl
theorem zyO(cs:List X):X.noRC (.vp cs)=false:=rfl
theorem zjR(f:Nat)(cs:List X):X.noRC (.clo f cs)=false:=rfl
theorem zxr(c:D):X.noRV (.d c)=X.noRC (.d c):=rfl
theorem zzJ(cs:List X):X.noRV (.agg cs)=Sg cs:=rfl
theorem zzW(cs:List X):X.noRV (.tup cs)=X.noRC (.tup cs):=rfl
theorem zj6(i:Id)(p:Path):X.noRV (.ref i p)=X.noRC (.ref i p):=rfl
theorem zzQ(i:Id)(p:Path)(j k:Nat):X.noRV (.ptr i p j k)=X.noRC (.ptr i p j k):=rfl
theorem Zu(ds:List D):X.noRV (.rop ds)=X.noRC (.rop ds):=rfl
theorem zvh(cs:List X):X.noRV (.vp cs)=X.noRC (.vp cs):=rfl
theorem zjM(f:Nat)(cs:List X):X.noRV (.clo f cs)=X.noRC (.clo f cs):=rfl
theorem zV6(c:D):X.noR (.d c)=X.noRV (.d c):=rfl
theorem zwl(cs:List X):X.noR (.agg cs)=X.noRV (.agg cs):=rfl
theorem zwQ(cs:List X):X.noR (.tup cs)=zyw cs:=rfl
theorem zwU(i:Id)(p:Path):X.noR (.ref i p)=X.noRV (.ref i p):=rfl
theorem zw4(i:Id)(p:Path)(j k:Nat):X.noR (.ptr i p j k)=X.noRV (.ptr i p j k):=rfl
theorem zyg(ds:List D):X.noR (.rop ds)=X.noRV (.rop ds):=rfl
theorem zKX(cs:List X):X.noR (.vp cs)=X.noRV (.vp cs):=rfl
theorem zkL(f:Nat)(cs:List X):X.noR (.clo f cs)=X.noRV (.clo f cs):=rfl
theorem zwB(x:Value):X.frzC (.d (.v x))=(.d (.v x)):=rfl
theorem zwO(e:List (List D)):X.frzC (.d (.r e))=(.d (.r e)):=rfl
theorem zv3:X.frzC (.d .u)=(.d .u):=rfl
theorem zyG(sz:Nat)(e:List (List D)):X.frzC (.d (.s sz e))= .d (.r (fzs e)):=rfl
theorem zjb(cs:List X):X.frzC (.agg cs)=(.agg cs):=rfl
theorem zjy(cs:List X):X.frzC (.tup cs)=(.tup cs):=rfl
theorem zjV(i:Id)(p:Path):X.frzC (.ref i p)=(.ref i p):=rfl
theorem zj8(i:Id)(p:Path)(j k:Nat):X.frzC (.ptr i p j k)=(.ptr i p j k):=rfl
theorem zz1(ds:List D):X.frzC (.rop ds)=(.rop ds):=rfl
theorem zvp(cs:List X):X.frzC (.vp cs)=(.vp cs):=rfl
theorem zzw(f:Nat)(cs:List X):X.frzC (.clo f cs)=(.clo f cs):=rfl
theorem zZA(c:D):X.frzV (.d c)=X.frzC (.d c):=rfl
theorem zzA(cs:List X):X.frzV (.agg cs)= .agg (y6 cs):=rfl
theorem zjU(cs:List X):X.frzV (.tup cs)=X.frzC (.tup cs):=rfl
theorem zjY(i:Id)(p:Path):X.frzV (.ref i p)=X.frzC (.ref i p):=rfl
theorem zzK(i:Id)(p:Path)(j k:Nat):X.frzV (.ptr i p j k)=X.frzC (.ptr i p j k):=rfl
theorem zjx(ds:List D):X.frzV (.rop ds)=X.frzC (.rop ds):=rfl
theorem zwZ(cs:List X):X.frzV (.vp cs)=X.frzC (.vp cs):=rfl
theorem zjm(f:Nat)(cs:List X):X.frzV (.clo f cs)=X.frzC (.clo f cs):=rfl
theorem zY0(c:D):X.frz (.d c)=X.frzV (.d c):=rfl
theorem zyK(cs:List X):X.frz (.agg cs)=X.frzV (.agg cs):=rfl
theorem zv4(cs:List X):X.frz (.tup cs)= .tup (Py cs):=rfl
theorem zvf(i:Id)(p:Path):X.frz (.ref i p)=X.frzV (.ref i p):=rfl
theorem zyM(i:Id)(p:Path)(j k:Nat):X.frz (.ptr i p j k)=X.frzV (.ptr i p j k):=rfl
theorem zkI(ds:List D):X.frz (.rop ds)=X.frzV (.rop ds):=rfl
theorem zVl(cs:List X):X.frz (.vp cs)=X.frzV (.vp cs):=rfl
theorem zvW(f:Nat)(cs:List X):X.frz (.clo f cs)=X.frzV (.clo f cs):=rfl
theorem zKB(c:D):X.flat (.d c)=true:=rfl
theorem Zk(cs:List X):X.flat (.agg cs)=false:=rfl
theorem Zz(cs:List X):X.flat (.tup cs)=false:=rfl
theorem zjZ(i:Id)(p:Path):X.flat (.ref i p)=true:=rfl
theorem Z6(i:Id)(p:Path)(j k:Nat):X.flat (.ptr i p j k)=true:=rfl
theorem zjF(ds:List D):X.flat (.rop ds)=true:=rfl
theorem zwh(cs:List X):X.flat (.vp cs)=false:=rfl
theorem zja(f:Nat)(cs:List X):X.flat (.clo f cs)=false:=rfl
theorem zyN(c:D):X.keeps (.d c)=true:=rfl
theorem Uy(cs:List X):X.keeps (.agg cs)=cs.all X.flat:=rfl
theorem Wa(cs:List X):X.keeps (.tup cs)=false:=rfl
theorem Vi(i:Id)(p:Path):X.keeps (.ref i p)=true:=rfl
theorem Wz(i:Id)(p:Path)(j k:Nat):X.keeps (.ptr i p j k)=true:=rfl
theorem Zd(ds:List D):X.keeps (.rop ds)=true:=rfl
theorem Zo(cs:List X):X.keeps (.vp cs)=cs.all X.flat:=rfl
theorem Vf(f:Nat)(cs:List X):X.keeps (.clo f cs)=cs.all X.flat:=rfl
theorem zJU(fr:Nat)(c:D):X.offC fr (.d c)=[]:=rfl
theorem zjE(fr:Nat)(cs:List X):X.offC fr (.agg cs)=[]:=rfl
theorem zjO(fr:Nat)(cs:List X):X.offC fr (.tup cs)=[]:=rfl
theorem zjP(fr:Nat)(i:Id)(p:Path):X.offC fr (.ref i p)=if i.1=fr then [i.2] else []:=rfl
theorem zzi(fr:Nat)(i:Id)(p:Path)(j k:Nat):X.offC fr (.ptr i p j k)=if i.1=fr then [i.2] else []:=rfl
theorem zzE(fr:Nat)(ds:List D):X.offC fr (.rop ds)=[]:=rfl
theorem zk5(fr:Nat)(cs:List X):X.offC fr (.vp cs)=[]:=rfl
theorem zzv(fr:Nat)(f:Nat)(cs:List X):X.offC fr (.clo f cs)=[]:=rfl
theorem zJR(fr:Nat)(c:D):X.offs fr (.d c)=X.offC fr (.d c):=rfl
theorem zjd(fr:Nat)(cs:List X):X.offs fr (.agg cs)=Fh fr cs:=rfl
theorem zzC(fr:Nat)(cs:List X):X.offs fr (.tup cs)=X.offC fr (.tup cs):=rfl
theorem Zq(fr:Nat)(i:Id)(p:Path):X.offs fr (.ref i p)=X.offC fr (.ref i p):=rfl
theorem zzr(fr:Nat)(i:Id)(p:Path)(j k:Nat):X.offs fr (.ptr i p j k)=X.offC fr (.ptr i p j k):=rfl
theorem zzH(fr:Nat)(ds:List D):X.offs fr (.rop ds)=X.offC fr (.rop ds):=rfl
theorem zwn(fr:Nat)(cs:List X):X.offs fr (.vp cs)=Fh fr cs:=rfl
theorem zjn(fr:Nat)(f:Nat)(cs:List X):X.offs fr (.clo f cs)=Fh fr cs:=rfl
theorem zxN(g:Id→Id)(c:D):X.renC g (.d c)=(.d c):=rfl
theorem zzp(g:Id→Id)(cs:List X):X.renC g (.agg cs)=(.agg cs):=rfl
theorem zjh(g:Id→Id)(cs:List X):X.renC g (.tup cs)=(.tup cs):=rfl
theorem zz7(g:Id→Id)(i:Id)(p:Path):X.renC g (.ref i p)= .ref (g i) p:=rfl
theorem zzF(g:Id→Id)(i:Id)(p:Path)(j k:Nat):X.renC g (.ptr i p j k)= .ptr (g i) p j k:=rfl
theorem zj7(g:Id→Id)(ds:List D):X.renC g (.rop ds)=(.rop ds):=rfl
theorem zvQ(g:Id→Id)(cs:List X):X.renC g (.vp cs)=(.vp cs):=rfl
theorem zzR(g:Id→Id)(f:Nat)(cs:List X):X.renC g (.clo f cs)=(.clo f cs):=rfl
theorem zY9(g:Id→Id)(c:D):X.ren g (.d c)=X.renC g (.d c):=rfl
theorem zv0(g:Id→Id)(cs:List X):X.ren g (.agg cs)= .agg (cs.map (X.renC g)):=rfl
theorem zwE(g:Id→Id)(cs:List X):X.ren g (.tup cs)=X.renC g (.tup cs):=rfl
theorem zvD(g:Id→Id)(i:Id)(p:Path):X.ren g (.ref i p)=X.renC g (.ref i p):=rfl
theorem zvV(g:Id→Id)(i:Id)(p:Path)(j k:Nat):X.ren g (.ptr i p j k)=X.renC g (.ptr i p j k):=rfl
theorem zvT(g:Id→Id)(ds:List D):X.ren g (.rop ds)=X.renC g (.rop ds):=rfl
theorem zZy(g:Id→Id)(cs:List X):X.ren g (.vp cs)= .vp (cs.map (X.renC g)):=rfl
theorem zkB(g:Id→Id)(f:Nat)(cs:List X):X.ren g (.clo f cs)= .clo f (cs.map (X.renC g)):=rfl
theorem zVJ(h:Heap)(x:Value):iG h (.d (.v x))=some (.v x,h):=rfl
theorem zQS(h:Heap)(e:List (List D)):iG h (.d (.r e))=some (.r e,h):=rfl
theorem zQg(h:Heap)(sz:Nat):iG h (.d (.s sz []))=some (.s sz [],h):=rfl
theorem zVu(h:Heap):iG h (.d .u)=some (.u,h):=rfl
theorem zvB(h:Heap)(i:Id)(p:Path):iG h (.ref i p)=h.take i p:=rfl
theorem zxY(h:Heap)(x:Value):kY h (.d (.v x))=some (.d (.v x)):=rfl
theorem zVB(h:Heap)(e:List (List D)):kY h (.d (.r e))=some (.d (.r e)):=rfl
theorem zQv(h:Heap)(sz:Nat):kY h (.d (.s sz []))=some (.d (.r [])):=rfl
theorem zJq(h:Heap):kY h (.d .u)=some (.d .u):=rfl
theorem zva(h:Heap)(i:Id)(p:Path):kY h (.ref i p)=(h.row i p).map zXM:=rfl
theorem z8O(h:Heap)(c:D):Ag h (.d c)=kY h (.d c):=rfl
theorem zQx(h:Heap)(cs:List X):Ag h (.agg cs)=(uR h cs).map .agg:=rfl
theorem zVw(h:Heap)(cs:List X):Ag h (.tup cs)=kY h (.tup cs):=rfl
theorem zxi(h:Heap)(i:Id)(p:Path):Ag h (.ref i p)=kY h (.ref i p):=rfl
theorem zx0(h:Heap)(i:Id)(p:Path)(j k:Nat):Ag h (.ptr i p j k)=kY h (.ptr i p j k):=rfl
theorem zxK(h:Heap)(ds:List D):Ag h (.rop ds)=kY h (.rop ds):=rfl
theorem zXb(h:Heap)(cs:List X):Ag h (.vp cs)=kY h (.vp cs):=rfl
theorem zQb(h:Heap)(f:Nat)(cs:List X):Ag h (.clo f cs)=kY h (.clo f cs):=rfl
theorem zYc(fr:Nat)(h:Heap)(x:Value):lV fr h (.d (.v x))=some (.d (.v x),h):=rfl
theorem zWD(fr:Nat)(h:Heap)(e:List (List D)):lV fr h (.d (.r e))=some (.d (.r e),h):=rfl
theorem zYQ(fr:Nat)(h:Heap)(sz:Nat):lV fr h (.d (.s sz []))=some (.d (.s sz []),h):=rfl
theorem zY2(fr:Nat)(h:Heap):lV fr h (.d .u)=none:=rfl
theorem zJQ(fr:Nat)(h:Heap)(i:Id)(p:Path):lV fr h (.ref i p)=if i.1=fr then(h.take i p).map z7o else some (.ref i p,h):=rfl
theorem zxM(fr:Nat)(h:Heap)(i:Id)(p:Path)(j k:Nat):lV fr h (.ptr i p j k)=if i.1=fr then none else some (.ptr i p j k,h):=rfl
theorem zKD(fr:Nat)(h:Heap)(ds:List D):lV fr h (.rop ds)=some (.rop ds,h):=rfl
theorem z8X(fr:Nat)(h:Heap)(c:D):oQ fr h (.d c)=lV fr h (.d c):=rfl
theorem zVE(fr:Nat)(h:Heap)(cs:List X):oQ fr h (.agg cs)=(Oc fr h cs).map z9d:=rfl
theorem zJ7(fr:Nat)(h:Heap)(cs:List X):oQ fr h (.tup cs)=lV fr h (.tup cs):=rfl
theorem zVI(fr:Nat)(h:Heap)(i:Id)(p:Path):oQ fr h (.ref i p)=lV fr h (.ref i p):=rfl
theorem zQK(fr:Nat)(h:Heap)(i:Id)(p:Path)(j k:Nat):oQ fr h (.ptr i p j k)=lV fr h (.ptr i p j k):=rfl
theorem zKH(fr:Nat)(h:Heap)(ds:List D):oQ fr h (.rop ds)=lV fr h (.rop ds):=rfl
theorem zYI(fr:Nat)(h:Heap)(cs:List X):oQ fr h (.vp cs)=lV fr h (.vp cs):=rfl
theorem zxz(fr:Nat)(h:Heap)(f:Nat)(cs:List X):oQ fr h (.clo f cs)=lV fr h (.clo f cs):=rfl
theorem zY3(h:Heap)(id:Id)(x:Value):jT h id (.d (.v x))=((.d (.v x)),h):=rfl
theorem zYx(h:Heap)(id:Id)(e:List (List D)):jT h id (.d (.r e))=((.d (.r e)),h):=rfl
theorem zW2(h:Heap)(id:Id):jT h id (.d .u)=((.d .u),h):=rfl
theorem zWh(h:Heap)(id:Id)(sz:Nat)(e:List (List D)):jT h id (.d (.s sz e))=(.ref id [],upd h id (some (.s sz e))):=rfl
theorem zJl(h:Heap)(id:Id)(cs:List X):jT h id (.agg cs)=((.agg cs),h):=rfl
theorem zZZ(h:Heap)(id:Id)(cs:List X):jT h id (.tup cs)=((.tup cs),h):=rfl
theorem zxb(h:Heap)(id:Id)(i:Id)(p:Path):jT h id (.ref i p)=((.ref i p),h):=rfl
theorem zJu(h:Heap)(id:Id)(i:Id)(p:Path)(j k:Nat):jT h id (.ptr i p j k)=((.ptr i p j k),h):=rfl
theorem zJS(h:Heap)(id:Id)(ds:List D):jT h id (.rop ds)=((.rop ds),h):=rfl
theorem zXq(h:Heap)(id:Id)(cs:List X):jT h id (.vp cs)=((.vp cs),h):=rfl
theorem zZY(h:Heap)(id:Id)(f:Nat)(cs:List X):jT h id (.clo f cs)=((.clo f cs),h):=rfl
theorem z8V(h:Heap)(id:Id)(c:D):mG h id (.d c)=jT h id (.d c):=rfl
theorem zZ9(h:Heap)(id:Id)(cs:List X):mG h id (.agg cs)=(.agg (vR h id cs).1,(vR h id cs).2):=rfl
theorem zxw(h:Heap)(id:Id)(cs:List X):mG h id (.tup cs)=jT h id (.tup cs):=rfl
theorem zVG(h:Heap)(id:Id)(i:Id)(p:Path):mG h id (.ref i p)=jT h id (.ref i p):=rfl
theorem zQl(h:Heap)(id:Id)(i:Id)(p:Path)(j k:Nat):mG h id (.ptr i p j k)=jT h id (.ptr i p j k):=rfl
theorem zVg(h:Heap)(id:Id)(ds:List D):mG h id (.rop ds)=jT h id (.rop ds):=rfl
theorem zYC(h:Heap)(id:Id)(cs:List X):mG h id (.vp cs)=jT h id (.vp cs):=rfl
theorem zxq(h:Heap)(id:Id)(f:Nat)(cs:List X):mG h id (.clo f cs)=jT h id (.clo f cs):=rfl
theorem z7f(h:Heap)(id:Id)(c:D):vF h id (.d c)=mG h id (.d c):=rfl
theorem zJA(h:Heap)(id:Id)(cs:List X):vF h id (.agg cs)=mG h id (.agg cs):=rfl
theorem zVn(h:Heap)(id:Id)(cs:List X):vF h id (.tup cs)=(.tup (vC h id cs).1,(vC h id cs).2):=rfl
theorem zVM(h:Heap)(id:Id)(i:Id)(p:Path):vF h id (.ref i p)=mG h id (.ref i p):=rfl
theorem zZp(h:Heap)(id:Id)(i:Id)(p:Path)(j k:Nat):vF h id (.ptr i p j k)=mG h id (.ptr i p j k):=rfl
theorem zQA(h:Heap)(id:Id)(ds:List D):vF h id (.rop ds)=mG h id (.rop ds):=rfl
theorem zWM(h:Heap)(id:Id)(cs:List X):vF h id (.vp cs)=mG h id (.vp cs):=rfl
theorem zKe(h:Heap)(id:Id)(f:Nat)(cs:List X):vF h id (.clo f cs)=mG h id (.clo f cs):=rfl
theorem zz8(c:D):X.ncells (.d c)=(X.cells (.d c)).length:=rfl
theorem Ud(cs:List X):X.ncells (.agg cs)=(X.cells (.agg cs)).length:=rfl
theorem Tn(cs:List X):X.ncells (.tup cs)=(cs.map fun x=>x.cells.length).sum:=rfl
theorem Sw(i:Id)(p:Path):X.ncells (.ref i p)=(X.cells (.ref i p)).length:=rfl
theorem Th(i:Id)(p:Path)(j k:Nat):X.ncells (.ptr i p j k)=(X.cells (.ptr i p j k)).length:=rfl
theorem Ue(ds:List D):X.ncells (.rop ds)=(X.cells (.rop ds)).length:=rfl
theorem Yn(cs:List X):X.ncells (.vp cs)=(X.cells (.vp cs)).length:=rfl
theorem Ur(f:Nat)(cs:List X):X.ncells (.clo f cs)=(X.cells (.clo f cs)).length:=rfl
theorem zXl(h:Heap)(n:Nat)(x:Value):yY h n (.d (.v x))=some (.d (.v x),h,[]):=rfl
theorem zXd(h:Heap)(n:Nat)(e:List (List D)):yY h n (.d (.r e))=some (.d (.r e),h,[]):=rfl
theorem zXD(h:Heap)(n:Nat)(sz:Nat):yY h n (.d (.s sz []))=some (.d (.s sz []),h,[]):=rfl
theorem zXp(h:Heap)(n:Nat):yY h n (.d .u)=none:=rfl
theorem zKi(h:Heap)(n:Nat)(i:Id)(p:Path):yY h n (.ref i p)=(h.take i p).map (z9P (.ref (0,n) []) i p):=rfl
theorem zZu(h:Heap)(n:Nat)(i:Id)(p:Path)(j k:Nat):yY h n (.ptr i p j k)=(h.take i p).map (z9P (.ptr (0,n) [] j k) i p):=rfl
theorem z9y(h:Heap)(n:Nat)(c:D):It h n (.d c)=yY h n (.d c):=rfl
theorem zZK(h:Heap)(n:Nat)(cs:List X):It h n (.agg cs)=(Qh h n cs).map z9u:=rfl
theorem zKI(h:Heap)(n:Nat)(cs:List X):It h n (.tup cs)=yY h n (.tup cs):=rfl
theorem zJw(h:Heap)(n:Nat)(i:Id)(p:Path):It h n (.ref i p)=yY h n (.ref i p):=rfl
theorem zxG(h:Heap)(n:Nat)(i:Id)(p:Path)(j k:Nat):It h n (.ptr i p j k)=yY h n (.ptr i p j k):=rfl
theorem zy3(h:Heap)(n:Nat)(ds:List D):It h n (.rop ds)=yY h n (.rop ds):=rfl
theorem zVP(h:Heap)(n:Nat)(cs:List X):It h n (.vp cs)=yY h n (.vp cs):=rfl
theorem zyW(h:Heap)(n:Nat)(f:Nat)(cs:List X):It h n (.clo f cs)=yY h n (.clo f cs):=rfl
theorem zx3(x:Value)(cs:List D):fJ (.v x::cs)=fJ cs:=rfl
theorem zKa(sz:Nat)(e:List (List D))(cs:List D):fJ (.s sz e::cs)=false:=rfl
theorem zK8(e:List (List D))(cs:List D):fJ (.r e::cs)=false:=rfl
theorem zKK(cs:List D):fJ (.u::cs)=false:=rfl
theorem zjr:fJ []=true:=rfl
def pH(x:X)(xs:List X):List X:=x::xs
theorem zQd(x:X)(xs:List X):pH x xs=x::xs:=rfl
def zzg(x:D)(a:List D×Heap):List D×Heap:=(x::a.1,a.2)
theorem zv2(x:D)(xs:List D)(h:Heap):zzg x (xs,h)=(x::xs,h):=rfl
def Nl(x:X)(a:List X×Heap):List X×Heap:=(x::a.1,a.2)
theorem zyz(x:X)(xs:List X)(h:Heap):Nl x (xs,h)=(x::xs,h):=rfl
theorem zxk(st:St):mF st []=some []:=rfl
def zXK(st:St)(os:List O)(x:X):Option (List X):=(mF st os).map (pH x)
theorem zvs(st:St)(o:O)(os:List O):mF st (o::os)=(rdO st o).bind (zXK st os):=rfl
theorem zZ2(st:St)(os:List O)(x:X):zXK st os x=(mF st os).map (pH x):=rfl
theorem zyn(h:Heap):iZ h []=some ([],h):=rfl
def zKm(xs:List X)(a:D×Heap):Option (List D×Heap):=(iZ a.2 xs).map (zzg a.1)
theorem zzS(h:Heap)(x:X)(xs:List X):iZ h (x::xs)=(iG h x).bind (zKm xs):=rfl
theorem zvZ(xs:List X)(d:D)(h:Heap):zKm xs (d,h)=(iZ h xs).map (zzg d):=rfl
theorem zxu(fr:Nat)(h:Heap):Oc fr h []=some ([],h):=rfl
def zX9(fr:Nat)(xs:List X)(a:X×Heap):Option (List X×Heap):=(Oc fr a.2 xs).map (Nl a.1)
theorem zwG(fr:Nat)(h:Heap)(x:X)(xs:List X):Oc fr h (x::xs)=(lV fr h x).bind (zX9 fr xs):=rfl
theorem zZv(fr:Nat)(xs:List X)(d:X)(h:Heap):zX9 fr xs (d,h)=(Oc fr h xs).map (Nl d):=rfl
theorem zKM(fr:Nat)(h:Heap):oY fr h []=some ([],h):=rfl
def zX6(fr:Nat)(xs:List X)(a:X×Heap):Option (List X×Heap):=(oY fr a.2 xs).map (Nl a.1)
theorem zwt(fr:Nat)(h:Heap)(x:X)(xs:List X):oY fr h (x::xs)=(oQ fr h x).bind (zX6 fr xs):=rfl
theorem zKY(fr:Nat)(xs:List X)(d:X)(h:Heap):zX6 fr xs (d,h)=(oY fr h xs).map (Nl d):=rfl
def z9a(j i:Nat)(r:Nat×List (List D)):Option X:=(r.2[j]?).map fun el=> .rop (fzl (el.drop i))
theorem zwb(h:Heap)(id:Id)(q:Path)(j i:Nat):kY h (.ptr id q j i)=(h.row id q).bind (z9a j i):=rfl
theorem zKw(j i n:Nat)(els:List (List D)):z9a j i (n,els)=(els[j]?).map fun el=> .rop (fzl (el.drop i)):=rfl
theorem zvt(h:Heap):uR h []=some []:=rfl
def zxl(h:Heap)(xs:List X)(y:X):Option (List X):=(uR h xs).map (pH y)
theorem zzm(h:Heap)(x:X)(xs:List X):uR h (x::xs)=(kY h x).bind (zxl h xs):=rfl
theorem zkZ(h:Heap)(xs:List X)(y:X):zxl h xs y=(uR h xs).map (pH y):=rfl
theorem zve(h:Heap):kV h []=some []:=rfl
def zQX(h:Heap)(xs:List X)(y:X):Option (List X):=(kV h xs).map (pH y)
theorem zjp(h:Heap)(x:X)(xs:List X):kV h (x::xs)=(Ag h x).bind (zQX h xs):=rfl
theorem zwy(h:Heap)(xs:List X)(y:X):zQX h xs y=(kV h xs).map (pH y):=rfl
def zy7(h:Heap)(xs:List X)(bs:List Bool)(y:X):Option (List X):=(oI h xs bs).map (pH y)
theorem zwo(h:Heap)(bs:List Bool):oI h [] bs=some []:=by unfold oI;rfl
theorem zXH(h:Heap)(x:X)(xs:List X)(bs:List Bool):oI h (x::xs) (true::bs)=(oI h xs bs).map (pH x):=rfl
theorem zWR(h:Heap)(x:X)(xs:List X)(bs:List Bool):oI h (x::xs) (false::bs)=(Ag h x).bind (zy7 h xs bs):=rfl
theorem zvx(h:Heap)(xs:List X)(bs:List Bool)(y:X):zy7 h xs bs y=(oI h xs bs).map (pH y):=rfl
def Nq(x:X)(L:dA)(b:List X×Heap×dA):List X×Heap×dA:=(x::b.1,b.2.1,L++b.2.2)
theorem zvG(x:X)(L:dA)(xs:List X)(h:Heap)(M:dA):Nq x L (xs,h,M)=(x::xs,h,L++M):=rfl
def z9i(k:Nat)(xs:List X)(a:X×Heap×dA):Option (List X×Heap×dA):=(Qh a.2.1 (k+a.2.2.length) xs).map (Nq a.1 a.2.2)
theorem zQc(h:Heap)(k:Nat):Qh h k []=some ([],h,[]):=rfl
theorem zw5(h:Heap)(k:Nat)(x:X)(xs:List X):Qh h k (x::xs)=(yY h k x).bind (z9i k xs):=rfl
theorem zQk(k:Nat)(xs:List X)(y:X)(h:Heap)(L:dA):z9i k xs (y,h,L)=(Qh h (k+L.length) xs).map (Nq y L):=rfl
def zXQ(k:Nat)(xs:List X)(bs:List Bool)(a:X×Heap×dA):Option (List X×Heap×dA):=(rS a.2.1 (k+a.2.2.length) xs bs).map (Nq a.1 a.2.2)
def zJF(x:X)(c:List X×Heap×dA):List X×Heap×dA:=(x::c.1,c.2.1,c.2.2)
theorem zw8(x:X)(xs:List X)(h:Heap)(L:dA):zJF x (xs,h,L)=(x::xs,h,L):=rfl
theorem zxJ(h:Heap)(k:Nat)(bs:List Bool):rS h k [] bs=some ([],h,[]):=by unfold rS;rfl
theorem z8r(h:Heap)(k:Nat)(x:X)(xs:List X)(bs:List Bool):rS h k (x::xs) (true::bs)=(It h k x).bind (zXQ k xs bs):=rfl
theorem z9T(h:Heap)(k:Nat)(x:X)(xs:List X)(bs:List Bool):rS h k (x::xs) (false::bs)=(rS h k xs bs).map (zJF x):=rfl
theorem zKW(k:Nat)(xs:List X)(bs:List Bool)(y:X)(h:Heap)(L:dA):zXQ k xs bs (y,h,L)=(rS h (k+L.length) xs bs).map (Nq y L):=rfl
theorem zWa(d:D):D.nav d []=some d:=by unfold D.nav;rfl
def zWg(p:Path)(c:D):Option D:=c.nav p
theorem zYN(p:Path)(c:D):zWg p c=c.nav p:=rfl
def z7O(i:Nat)(p:Path)(el:List D):Option D:=(el[i]?).bind (zWg p)
theorem zWd(i:Nat)(p:Path)(el:List D):z7O i p el=(el[i]?).bind (zWg p):=rfl
theorem z7S(sz:Nat)(els:List (List D))(j i:Nat)(p:Path):D.nav (.s sz els) ((j,i)::p)=(els[j]?).bind (z7O i p):=by rw[D.nav];rfl
theorem zWN(h:Heap)(id:Id)(p:Path):h.nav id p=(h id).bind (zWg p):=rfl
theorem zWy(h:Heap)(id:Id)(p:Path):h.row id p=(h.nav id p).bind D.rowOf:=rfl
def zJO(sz:Nat)(els:List (List D))(j i:Nat)(el:List D)(c:D):D:= .s sz (els.set j (el.set i c))
theorem zy1(sz:Nat)(els:List (List D))(j i:Nat)(el:List D)(c:D):zJO sz els j i el c= .s sz (els.set j (el.set i c)):=rfl
def zQJ(sz:Nat)(els:List (List D))(j i:Nat)(p:Path)(x:D)(el:List D)(c:D):Option D:=(c.put p x).map (zJO sz els j i el)
theorem zJj(sz:Nat)(els:List (List D))(j i:Nat)(p:Path)(x:D)(el:List D)(c:D):zQJ sz els j i p x el c=(c.put p x).map (zJO sz els j i el):=rfl
def z9t(sz:Nat)(els:List (List D))(j i:Nat)(p:Path)(x:D)(el:List D):Option D:=(el[i]?).bind (zQJ sz els j i p x el)
theorem zJM(sz:Nat)(els:List (List D))(j i:Nat)(p:Path)(x:D)(el:List D):z9t sz els j i p x el=(el[i]?).bind (zQJ sz els j i p x el):=rfl
theorem zXz(d x:D):D.put d [] x=some x:=by unfold D.put;rfl
theorem z78(sz:Nat)(els:List (List D))(j i:Nat)(p:Path)(x:D):D.put (.s sz els) ((j,i)::p) x=(els[j]?).bind (z9t sz els j i p x):=by rw[D.put];rfl
def zzb(h:Heap)(id:Id)(d:D):Heap:=upd h id (some d)
theorem zvL(h:Heap)(id:Id)(d:D):zzb h id d=upd h id (some d):=rfl
def zXZ(h:Heap)(id:Id)(p:Path)(x d:D):Option Heap:=(d.put p x).map (zzb h id)
theorem zxd(h:Heap)(id:Id)(p:Path)(x d:D):zXZ h id p x d=(d.put p x).map (zzb h id):=rfl
theorem zXt(h:Heap)(id:Id)(p:Path)(x:D):h.put id p x=(h id).bind (zXZ h id p x):=rfl
def z9m(h:Heap)(id:Id)(r:Nat×List (List D)):D×Heap:=(.s r.1 r.2,upd h id none)
theorem zQ7(h:Heap)(id:Id)(sz:Nat)(els:List (List D)):z9m h id (sz,els)=(.s sz els,upd h id none):=rfl
theorem zyB(h:Heap)(id:Id):h.take id []=(h.row id []).map (z9m h id):=rfl
def zQr(sz:Nat)(els:List (List D))(h:Heap):D×Heap:=(.s sz els,h)
theorem zKO(sz:Nat)(els:List (List D))(h:Heap):zQr sz els h=(.s sz els,h):=rfl
def zXU(h:Heap)(id:Id)(p:Path)(r:Nat×List (List D)):Option (D×Heap):=(h.put id p .u).map (zQr r.1 r.2)
theorem zZR(h:Heap)(id:Id)(p:Path)(sz:Nat)(els:List (List D)):zXU h id p (sz,els)=(h.put id p .u).map (zQr sz els):=rfl
theorem zzG(h:Heap)(id:Id)(c:Nat×Nat)(p:Path):h.take id (c::p)=(h.row id (c::p)).bind (zXU h id (c::p)):=rfl
theorem zKV(h:Heap)(id:Id)(x:D):h.putb id [] x=some (upd h id (some x)):=rfl
theorem zyR(h:Heap)(id:Id)(c:Nat×Nat)(p:Path)(x:D):h.putb id (c::p) x=h.put id (c::p) x:=rfl
theorem z7y(id:Id)(p:Path)(x:Value):D.own id p (.v x)=some (.d (.v x)):=rfl
theorem z75(id:Id)(p:Path)(sz:Nat)(e:List (List D)):D.own id p (.s sz e)=some (.ref id p):=rfl
theorem z71(id:Id)(p:Path)(e:List (List D)):D.own id p (.r e)=some (.d (.r e)):=rfl
theorem z7w(id:Id)(p:Path):D.own id p .u=some (.d .u):=rfl
theorem zVo(id:Id)(q:Path)(j i:Nat):D6 id q j i []=some []:=by unfold D6;rfl
def z9s(id:Id)(q:Path)(j i:Nat)(cs:List D)(x:X):Option (List X):=(D6 id q j (i+1) cs).map (pH x)
theorem zJ8(id:Id)(q:Path)(j i:Nat)(cs:List D)(x:X):z9s id q j i cs x=(D6 id q j (i+1) cs).map (pH x):=rfl
theorem zvn(id:Id)(q:Path)(j i:Nat)(c:D)(cs:List D):D6 id q j i (c::cs)=(c.own id (q++[(j,i)])).bind (z9s id q j i cs):=rfl
theorem z6x(x:Value):D.ro (.v x)=some (.d (.v x)):=rfl
theorem z6p(sz:Nat)(e:List (List D)):D.ro (.s sz e)=some (.d (.r e)):=rfl
theorem z6A(e:List (List D)):D.ro (.r e)=some (.d (.r e)):=rfl
theorem z6v:D.ro .u=some (.d .u):=rfl
theorem zXj:roL []=some []:=rfl
def z76(cs:List D)(x:X):Option (List X):=(roL cs).map (pH x)
theorem zVR(cs:List D)(x:X):z76 cs x=(roL cs).map (pH x):=rfl
theorem zQC(c:D)(cs:List D):roL (c::cs)=(c.ro).bind (z76 cs):=rfl
theorem zvX(h:Heap)(n:Nat)(cs:List D):oN h n (.rop cs)=if n≤cs.length then roL (cs.take n) else none:=rfl
theorem zxj(h:Heap)(n:Nat)(cs:List X):oN h n (.vp cs)=if n≤cs.length then some (cs.take n) else none:=rfl
def ldB(id:Id)(q:Path)(j i n:Nat)(el:List D):Option (List X):=if i+n≤el.length then D6 id q j i ((el.drop i).take n) else none
theorem z8z(id:Id)(q:Path)(j i n:Nat)(el:List D):ldB id q j i n el=if i+n≤el.length then D6 id q j i ((el.drop i).take n) else none:=rfl
def ldA(id:Id)(q:Path)(j i n:Nat)(r:Nat×List (List D)):Option (List X):=(r.2[j]?).bind (ldB id q j i n)
theorem z8W(id:Id)(q:Path)(j i n sz:Nat)(els:List (List D)):ldA id q j i n (sz,els)=(els[j]?).bind (ldB id q j i n):=rfl
theorem zwp(h:Heap)(n:Nat)(id:Id)(q:Path)(j i:Nat):oN h n (.ptr id q j i)=(h.row id q).bind (ldA id q j i n):=rfl
theorem zjH(off:Nat)(id:Id)(q:Path)(j i:Nat):zO off (.ptr id q j i)=some (.ptr id q j (i+off)):=rfl
theorem zjz(off:Nat)(cs:List D):zO off (.rop cs)=some (.rop (cs.drop off)):=rfl
theorem zvH(off:Nat)(cs:List X):zO off (.vp cs)=some (.vp (cs.drop off)):=rfl
def ixB(sz:Nat)(el:List D):Option X:=if el.length=sz then some (.rop el) else none
theorem z9J(sz:Nat)(el:List D):ixB sz el=if el.length=sz then some (.rop el) else none:=rfl
theorem z8v(h:Heap)(sz:Nat)(n:Int)(els:List (List D)):Po h sz n (.d (.r els))=if 0≤n∧n<(els.length:Int) then(els[n.toNat]?).bind (ixB sz) else none:=rfl
def ixC(id:Id)(p:Path)(sz:Nat)(n:Int)(r:Nat×List (List D)):Option X:=if 0≤n∧n<(r.2.length:Int)∧r.1=sz then some (.ptr id p n.toNat 0) else none
theorem z9z(id:Id)(p:Path)(sz:Nat)(n:Int)(m:Nat)(els:List (List D)):ixC id p sz n (m,els)=if 0≤n∧n<(els.length:Int)∧m=sz then some (.ptr id p n.toNat 0) else none:=rfl
theorem zxA(h:Heap)(sz:Nat)(n:Int)(id:Id)(p:Path):Po h sz n (.ref id p)=(h.row id p).bind (ixC id p sz n):=rfl
theorem z8J(h:Heap)(els:List (List D)):Pf h (.d (.r els))=some els.length:=rfl
theorem z9V(h:Heap)(sz:Nat):Pf h (.d (.s sz []))=some 0:=rfl
def z7J(r:Nat×List (List D)):Nat:=r.2.length
theorem zXs(sz:Nat)(els:List (List D)):z7J (sz,els)=els.length:=rfl
theorem zx4(h:Heap)(id:Id)(p:Path):Pf h (.ref id p)=(h.row id p).map z7J:=rfl
theorem Z8(id:Id)(q:Path)(j i:Nat):xO (.ptr id q j i)=some (.ptr id q j i):=rfl
theorem zzP(cs:List D):xO (.rop cs)=some (.rop cs):=rfl
theorem zkJ(cs:List X):xO (.vp cs)=some (.vp cs):=rfl
def idH(h:Heap)(els:List (List D)):List (List D)×Heap:=(els,h)
def z7x(a:D×Heap):Option (List (List D)×Heap):=(a.1.rowOf).map fun r=>(r.2,a.2)
theorem zWG(sz:Nat)(els:List (List D))(h:Heap):z7x (.s sz els,h)=some (els,h):=rfl
theorem zZk(h:Heap)(sz:Nat):pD h (.d (.s sz []))=some ([],h):=rfl
theorem zxg(h:Heap)(els:List (List D)):pD h (.d (.r els))=some (els.map fun el=>el.map D.toR,h):=rfl
theorem Zy(h:Heap)(id:Id)(p:Path):pD h (.ref id p)=(h.take id p).bind z7x:=rfl
def z9b(sz:Nat)(a:D×Heap):Option (List (List D)×Heap):=(a.1.rowOf).bind fun r=>if r.1=sz then some (r.2,a.2) else none
theorem zKg(sz m:Nat)(els:List (List D))(h:Heap):z9b sz (.s m els,h)=if m=sz then some (els,h) else none:=rfl
theorem zws(h:Heap)(sz m:Nat):i7 h sz (.d (.s m []))=some ([],h):=rfl
theorem Vw(h:Heap)(sz:Nat)(id:Id)(p:Path):i7 h sz (.ref id p)=(h.take id p).bind (z9b sz):=rfl
theorem zwx(st:St):fT st []=some []:=by unfold fT;rfl
def zjG(st:St)(rs:List SRes)(x:X):Option (List X):=(fT st rs).map (pH x)
theorem zyj(st:St)(rs:List SRes)(x:X):zjG st rs x=(fT st rs).map (pH x):=rfl
theorem zYg(st:St)(n:Nat)(rs:List SRes):fT st (.t n::rs)=(st.env n).bind (zjG st rs):=rfl
def zVF(st:St)(k:Option Nat)(a:X):Option X:=(oN st.heap (k.getD 1) a).bind (uK k)
theorem zyu(st:St)(k:Option Nat)(a:X):zVF st k a=(oN st.heap (k.getD 1) a).bind (uK k):=rfl
theorem zWv(st:St)(n:Nat)(k:Option Nat)(rs:List SRes):fT st (.c n k::rs)=((st.env n).bind (zVF st k)).bind (zjG st rs):=rfl
def Wh(a:List X×Heap):X:=nI a.1
theorem zXc(x:X)(h:Heap):Wh ([x],h)=x:=rfl
theorem zY1(h:Heap):Wh ([],h)= .tup []:=rfl
theorem zVQ(x y:X)(xs:List X)(h:Heap):Wh (x::y::xs,h)= .tup (x::y::xs):=rfl
def Q0(s:St)(xs:List X):Option X:=(oY 0 s.heap xs).map Wh
theorem zVf(s:St)(xs:List X):Q0 s xs=(oY 0 s.heap xs).map Wh:=rfl
def Y0(fr:Nat)(a:List X×Heap):X×Heap:=(nI a.1,a8 fr a.2)
theorem zWS(fr:Nat)(x:X)(h:Heap):Y0 fr ([x],h)=(x,a8 fr h):=rfl
theorem zYp(fr:Nat)(h:Heap):Y0 fr ([],h)=(.tup [],a8 fr h):=rfl
theorem zVU(fr:Nat)(x y:X)(xs:List X)(h:Heap):Y0 fr (x::y::xs,h)=(.tup (x::y::xs),a8 fr h):=rfl
def Xv(s:St)(fr:Nat)(xs:List X):Option (X×Heap):=(oY fr s.heap xs).map (Y0 fr)
theorem zKR(s:St)(fr:Nat)(xs:List X):Xv s fr xs=(oY fr s.heap xs).map (Y0 fr):=rfl
def zYl(st:St)(m:List (Nat×Nat))(ts:List Nat)(x:X):Bool→List (Nat×Nat)
 |true=>fX st (Im m (x.offs st.fr)) ts
 |false=>fX st m ts
theorem z87(st:St)(m:List (Nat×Nat))(ts:List Nat)(x:X):zYl st m ts x true=fX st (Im m (x.offs st.fr)) ts:=rfl
theorem z8m(st:St)(m:List (Nat×Nat))(ts:List Nat)(x:X):zYl st m ts x false=fX st m ts:=rfl
def kmK(st:St)(m:List (Nat×Nat))(ts:List Nat):Option X→List (Nat×Nat)
 |some x=>zYl st m ts x x.keeps
 |none=>fX st m ts
theorem Xa(st:St)(m:List (Nat×Nat))(ts:List Nat)(x:X):kmK st m ts (some x)=zYl st m ts x x.keeps:=rfl
theorem zKS(st:St)(m:List (Nat×Nat))(ts:List Nat):kmK st m ts none=fX st m ts:=rfl
theorem zkQ(st:St)(m:List (Nat×Nat)):fX st m []=m:=by unfold fX;rfl
theorem zjg(st:St)(m:List (Nat×Nat))(t:Nat)(ts:List Nat):fX st m (t::ts)=kmK st m ts (st.env t):=by
 rw[fX]
 cases st.env t with
 |none=>rfl
 |some x=>simp only[Xa];cases x.keeps<;>rfl
def zXg(st:St)(m:List (Nat×Nat))(t:Nat)(ts:List Nat)(x:X):Bool→Env
 |true=>upd (m3 st m ts) t (some (x.ren (kid st.fr m)))
 |false=>m3 st m ts
theorem z8T(st:St)(m:List (Nat×Nat))(t:Nat)(ts:List Nat)(x:X):zXg st m t ts x true=upd (m3 st m ts) t (some (x.ren (kid st.fr m))):=rfl
theorem z93(st:St)(m:List (Nat×Nat))(t:Nat)(ts:List Nat)(x:X):zXg st m t ts x false=m3 st m ts:=rfl
def keK(st:St)(m:List (Nat×Nat))(t:Nat)(ts:List Nat):Option X→Env
 |some x=>zXg st m t ts x x.keeps
 |none=>m3 st m ts
theorem Y6(st:St)(m:List (Nat×Nat))(t:Nat)(ts:List Nat)(x:X):keK st m t ts (some x)=zXg st m t ts x x.keeps:=rfl
theorem zJT(st:St)(m:List (Nat×Nat))(t:Nat)(ts:List Nat):keK st m t ts none=m3 st m ts:=rfl
theorem zkE(st:St)(m:List (Nat×Nat)):m3 st m []=emp:=by unfold m3;rfl
theorem zjq(st:St)(m:List (Nat×Nat))(t:Nat)(ts:List Nat):m3 st m (t::ts)=keK st m t ts (st.env t):=by
 rw[m3]
 cases st.env t with
 |none=>rfl
 |some x=>simp only[Y6];cases x.keeps<;>rfl
def ksK(st:St)(L:List Nat)(m:List (Nat×Nat)):St:={env:=m3 st m L,heap:=Hx st.fr st.heap m,fr:=st.fr,next:=m.length}
theorem z9H(st:St)(L:List Nat)(m:List (Nat×Nat)):ksK st L m={env:=m3 st m L,heap:=Hx st.fr st.heap m,fr:=st.fr,next:=m.length}:=rfl
theorem zJP(L:List Nat)(st:St):mD L st=ksK st L (fX st [] L):=rfl
theorem zvw(st:St):uN [] st=mD [] st:=rfl
theorem Z7(t:Nat)(L:List Nat)(st:St):uN (t::L) st=if 20000≤t then mD L (zz0 (t-20000) st) else if 10000≤t then mD L (zz5 (t-10000) st) else mD (t::L) st:=rfl
theorem zWi(t:Nat)(st:St):zz0 t st=if st.fr=0 then zvM t st (st.env t) else st:=rfl
theorem zZC(t:Nat)(st:St)(a b:Nat):zvM t st (some (.ptr (a,b) [] 0 0))=if a=0 then zZ3 t (a,b) st (st.heap (a,b)) else st:=rfl
theorem zxB(t:Nat)(st:St)(a b:Nat):zvM t st (some (.ref (a,b) []))=if a=0 then zZc t (a,b) st (st.heap (a,b)) else st:=rfl
theorem z9S(t:Nat)(id:Id)(st:St)(sz:Nat)(els:List (List D)):zZc t id st (some (.s sz els))={env:=upd st.env t (some (.d (.r (fzs els)))),heap:=upd st.heap id none,fr:=st.fr,next:=st.next}:=rfl
theorem z9L(t:Nat)(id:Id)(st:St)(sz:Nat)(el:List D):zZ3 t id st (some (.s sz [el]))={env:=upd st.env t (some (.rop (fzl el))),heap:=upd st.heap id none,fr:=st.fr,next:=st.next}:=rfl
theorem zYZ(cs:List X):X.dim (.agg cs)= .agg (cs.map X.dimC):=rfl
theorem z7j(x:D):X.dimC (.d x)= .d x:=rfl
theorem zVh(id:Id)(p:Path):X.dimC (.ref id p)= .d .u:=rfl
theorem zYb(t:Nat)(st:St):zz5 t st=if st.fr=0 then zQQ st (st.env t) else st:=rfl
theorem zK1(st:St)(a b j i:Nat):zQQ st (some (.ptr (a,b) [] j i))=if a=0 then zQ9 (a,b) st (st.heap (a,b)) else st:=rfl
theorem z9D(id:Id)(st:St)(sz:Nat)(els:List (List D)):zQ9 id st (some (.s sz els))={env:=st.env,heap:=upd st.heap id (some (.s sz (els.map fun el=>el.map D.ice))),fr:=st.fr,next:=st.next}:=rfl
theorem z72(x:Value):D.ice (.v x)= .v x:=rfl
theorem z7Q(els:List (List D)):D.ice (.r els)= .r els:=rfl
theorem z7q(sz:Nat)(els:List (List D)):D.ice (.s sz els)= .r (fzs els):=rfl
def We(x:X)(b:List X×Heap):List X×Heap:=(x::b.1,b.2)
theorem zZ4(x:X)(xs:List X)(h:Heap):We x (xs,h)=(x::xs,h):=rfl
def z9l(id:Id)(xs:List X)(a:X×Heap):List X×Heap:=We a.1 (vR a.2 (id.1,id.2+1) xs)
theorem zJK(a b:Nat)(xs:List X)(y:X)(h:Heap):z9l (a,b) xs (y,h)=We y (vR h (a,b+1) xs):=rfl
theorem zJE(h:Heap)(id:Id):vR h id []=([],h):=rfl
theorem zvS(h:Heap)(id:Id)(x:X)(xs:List X):vR h id (x::xs)=z9l id xs (jT h id x):=rfl
def zXL(id:Id)(n:Nat)(xs:List X)(a:X×Heap):List X×Heap:=We a.1 (vC a.2 (id.1,id.2+n) xs)
theorem zJs(a b n:Nat)(xs:List X)(y:X)(h:Heap):zXL (a,b) n xs (y,h)=We y (vC h (a,b+n) xs):=rfl
theorem zKh(h:Heap)(id:Id):vC h id []=([],h):=rfl
theorem zwM(h:Heap)(id:Id)(x:X)(xs:List X):vC h id (x::xs)=zXL id x.cells.length xs (mG h id x):=rfl
end Go.Ev
