import Derived.Test.YtenclibcnjkamaaGreatEvRow
set_option linter.all false
namespace Go.Ev
def z7b(id:Id)(q:Path)(j i n:Nat)(x:X):Option X:=if x.hit id q j i n then none else some x
theorem zxT(id:Id)(q:Path)(j i n:Nat)(e:Env)(t:Nat):purge id q j i n e t=(e t).bind (z7b id q j i n):=rfl
theorem zWI(id:Id)(q:Path)(j i n:Nat)(x:X):z7b id q j i n x=if x.hit id q j i n then none else some x:=rfl
def zYF(L:dS)(x:X):Option X:=if w6 x L then none else some x
theorem zve(L:dS)(e:Env)(t:Nat):rJ L e t=(e t).bind (zYF L):=rfl
theorem zxa(L:dS)(x:X):zYF L x=if w6 x L then none else some x:=rfl
def zYB(x:X):Option X:=if x.root then some x else none
theorem zq5(e:Env)(t:Nat):rZ e t=(e t).bind zYB:=rfl
theorem zJ5(x:X):zYB x=if x.root then some x else none:=rfl
variable{C:Cl}{st:St}{d:Option Nat}{id:Nat}
def Bf(st:St)(d:Option Nat)(a b:O)(t:Bool):Option St:=if t then(rdO st a).map (st.put d) else(rdO st b).map (st.put d)
theorem zWl(a b:O):Bf st d a b true=(rdO st a).map (st.put d):=rfl
theorem zWA(a b:O):Bf st d a b false=(rdO st b).map (st.put d):=rfl
theorem zWS(x:O):opS C st d id (.mov x)=(rdO st x).map (st.put d):=rfl
theorem zxn(c a b:O):opS C st d id (.pick c a b)=(rdB st c).bind (Bf st d a b):=rfl
def zyS(st:St)(d:Option Nat)(k:IntKind)(z:Int):St:=st.put d (.d (.v (.int k z)))
def Yp(st:St)(d:Option Nat)(z:Bool):St:=st.put d (.d (.v (.bool z)))
def z7f(st:St)(d:Option Nat)(z:ByteArray):St:=st.put d (.d (.v (.string z)))
theorem zVN(k:IntKind)(z:Int):zyS st d k z=st.put d (.d (.v (.int k z))):=rfl
theorem zVi(z:Bool):Yp st d z=st.put d (.d (.v (.bool z))):=rfl
theorem zK6(z:ByteArray):z7f st d z=st.put d (.d (.v (.string z))):=rfl
def zj6(st:St)(d:Option Nat)(b:BinOp)(m n:IntKind×Int):Option St:=if m.1=n.1 then(zyb b m.1 m.2 n.2).map (zyS st d m.1) else none
def z8h(st:St)(d:Option Nat)(b:BinOp)(y:O)(m:IntKind×Int):Option St:=(rdI st y).bind (zj6 st d b m)
theorem zK4(b:BinOp)(x y:O):opS C st d id (.ari b x y)=(rdI st x).bind (z8h st d b y):=rfl
theorem zYa(b:BinOp)(y:O)(m:IntKind×Int):z8h st d b y m=(rdI st y).bind (zj6 st d b m):=rfl
theorem zQG(b:BinOp)(k:IntKind)(m n:Int):zj6 st d b (k,m) (k,n)=(zyb b k m n).map (zyS st d k):=by unfold zj6;rw[if_pos rfl]
def zy6(st:St)(d:Option Nat)(b:BinOp)(m n:X):Option St:=(zZS b m n).map (Yp st d)
def z9K(st:St)(d:Option Nat)(b:BinOp)(y:O)(m:X):Option St:=(rdO st y).bind (zy6 st d b m)
theorem zKF(b:BinOp)(x y:O):opS C st d id (.cmp b x y)=(rdO st x).bind (z9K st d b y):=rfl
theorem zKu(b:BinOp)(y:O)(m:X):z9K st d b y m=(rdO st y).bind (zy6 st d b m):=rfl
theorem zQL(b:BinOp)(m n:X):zy6 st d b m n=(zZS b m n).map (Yp st d):=rfl
def Y7(st:St)(d:Option Nat)(b:BinOp)(m n:Bool):Option St:=(zyx b m n).map (Yp st d)
def zYo(st:St)(d:Option Nat)(b:BinOp)(y:O)(m:Bool):Option St:=(rdB st y).bind (Y7 st d b m)
theorem zx3(b:BinOp)(x y:O):opS C st d id (.cmpb b x y)=(rdB st x).bind (zYo st d b y):=rfl
theorem zxo(b:BinOp)(y:O)(m:Bool):zYo st d b y m=(rdB st y).bind (Y7 st d b m):=rfl
theorem zvl(b:BinOp)(m n:Bool):Y7 st d b m n=(zyx b m n).map (Yp st d):=rfl
def zyv(st:St)(d:Option Nat)(a b:ByteArray):Option St:=if aE a b then some (st.put d (.d (.v (.string (a++b))))) else none
def z9R(st:St)(d:Option Nat)(y:O)(a:ByteArray):Option St:=(rdS st y).bind (zyv st d a)
theorem zWw(x y:O):opS C st d id (.cat x y)=(rdS st x).bind (z9R st d y):=rfl
theorem zYc(y:O)(a:ByteArray):z9R st d y a=(rdS st y).bind (zyv st d a):=rfl
theorem zJl{a b:ByteArray}(h:aE a b):zyv st d a b=some (st.put d (.d (.v (.string (a++b))))):=if_pos h
def z90(st:St)(d:Option Nat)(m:IntKind×Int):St:=st.put d (.d (.v (.int m.1 (m.1.wrap (0-m.2)))))
theorem zKG(x:O):opS C st d id (.neg x)=(rdI st x).map (z90 st d):=rfl
theorem zVc(k:IntKind)(m:Int):z90 st d (k,m)=st.put d (.d (.v (.int k (k.wrap (0-m))))):=rfl
def z8Y(st:St)(d:Option Nat)(b:Bool):St:=st.put d (.d (.v (.bool !b)))
theorem zVx(x:O):opS C st d id (.not x)=(rdB st x).map (z8Y st d):=rfl
theorem zKP(b:Bool):z8Y st d b=st.put d (.d (.v (.bool !b))):=rfl
def zYN(st:St)(d:Option Nat)(k:IntKind)(m:IntKind×Int):St:=st.put d (.d (.v (.int k (k.wrap m.2))))
theorem zQ4(k:IntKind)(x:O):opS C st d id (.conv k x)=(rdI st x).map (zYN st d k):=rfl
theorem zxS(k k':IntKind)(m:Int):zYN st d k (k',m)=st.put d (.d (.v (.int k (k.wrap m)))):=rfl
def zYA(st:St)(d:Option Nat)(m:IntKind×Int):St:=st.put d (.d (.v (.string (Utf8.encode m.2))))
theorem zQj(x:O):opS C st d id (.rune x)=(rdI st x).map (zYA st d):=rfl
theorem zZ5(k:IntKind)(m:Int):zYA st d (k,m)=st.put d (.d (.v (.string (Utf8.encode m)))):=rfl
def z95(st:St)(d:Option Nat)(s:ByteArray):Option St:=if aF 1 0 s.size then some (st.put d (.d (.r (Dk s)))) else none
theorem zV6(x:O):opS C st d id (.bos x)=(rdS st x).bind (z95 st d):=rfl
theorem zVs(s:ByteArray):z95 st d s=if aF 1 0 s.size then some (st.put d (.d (.r (Dk s)))) else none:=rfl
def zjf(st:St)(d:Option Nat)(s:ByteArray)(m:IntKind×Int):Option St:=if m.1= .u8 then some (st.put d (.d (.v (.int .i64 (Lib.indexByte s.data.toList m.2.toNat.toUInt8))))) else none
def zYw(st:St)(d:Option Nat)(y:O)(s:ByteArray):Option St:=(rdI st y).bind (zjf st d s)
theorem zKh(f:Nat)(x y:O):opS C st d id (.idxb f x y)=(rdS st x).bind (zYw st d y):=rfl
theorem zJW(y:O)(s:ByteArray):zYw st d y s=(rdI st y).bind (zjf st d s):=rfl
theorem zwG(s:ByteArray)(n:Int):zjf st d s (.u8,n)=some (st.put d (.d (.v (.int .i64 (Lib.indexByte s.data.toList n.toNat.toUInt8))))):=rfl
def zyt(st:St)(d:Option Nat)(ns:List Int):Option St:=if ns.isEmpty then none else some (st.put d (.d (.v (.string (T8 ns)))))
def z8y(st:St)(d:Option Nat)(a:X):Option St:=(A9 st.heap a).bind (zyt st d)
theorem zKM(x:O):opS C st d id (.sob x)=(rdO st x).bind (z8y st d):=rfl
theorem zVu(a:X):z8y st d a=(A9 st.heap a).bind (zyt st d):=rfl
theorem zJ4(n:Int)(ns:List Int):zyt st d (n::ns)=some (st.put d (.d (.v (.string (T8 (n::ns)))))):=rfl
def z9C(st:St)(d:Option Nat)(off:Nat)(n:Option Nat):X→Option St
 |.agg cs=>(zjl off n cs).map (st.put d)
 |_=>none
theorem zVb(off:Nat)(n:Option Nat)(x:O):opS C st d id (.fld off n x)=(rdO st x).bind (z9C st d off n):=by
 simp only[opS]
 congr 1
theorem zKs(off:Nat)(n:Option Nat)(cs:List X):z9C st d off n (.agg cs)=(zjl off n cs).map (st.put d):=rfl
def zQ8(st:St)(d:Option Nat)(off:Nat)(a:X):Option St:=(Ax off a).map (st.put d)
theorem zwX(off:Nat)(x:O):opS C st d id (.faddr off x)=(rdO st x).bind (zQ8 st d off):=rfl
theorem zva(off:Nat)(a:X):zQ8 st d off a=(Ax off a).map (st.put d):=rfl
def zxv(st:St)(d:Option Nat)(sz:Nat)(a:X)(n:IntKind×Int):Option St:=(O8 st.heap sz n.2 a).map (st.put d)
def z9U(st:St)(d:Option Nat)(sz:Nat)(i:O)(a:X):Option St:=(rdI st i).bind (zxv st d sz a)
theorem zWi(sz:Nat)(x i:O):opS C st d id (.ixa sz x i)=(rdO st x).bind (z9U st d sz i):=rfl
theorem zWY(sz:Nat)(i:O)(a:X):z9U st d sz i a=(rdI st i).bind (zxv st d sz a):=rfl
theorem zZe(sz:Nat)(a:X)(k:IntKind)(n:Int):zxv st d sz a (k,n)=(O8 st.heap sz n a).map (st.put d):=rfl
def zJ1(st:St)(d:Option Nat)(b:UInt8):St:=st.put d (.d (.v (.int .u8 b.toNat)))
def zJD(st:St)(d:Option Nat)(s:ByteArray)(n:IntKind×Int):Option St:=if 0≤n.2 then(s[n.2.toNat]?).map (zJ1 st d) else none
def z8k(st:St)(d:Option Nat)(i:O)(s:ByteArray):Option St:=(rdI st i).bind (zJD st d s)
theorem zWB(x i:O):opS C st d id (.ixs x i)=(rdS st x).bind (z8k st d i):=rfl
theorem zYe(i:O)(s:ByteArray):z8k st d i s=(rdI st i).bind (zJD st d s):=rfl
theorem zxU(s:ByteArray)(k:IntKind)(n:Int):zJD st d s (k,n)=if 0≤n then(s[n.toNat]?).map (zJ1 st d) else none:=rfl
theorem zxZ(b:UInt8):zJ1 st d b=st.put d (.d (.v (.int .u8 b.toNat))):=rfl
def Zr(st:St)(d:Option Nat)(n:Option Nat)(cs:List X):Option St:=(vH n cs).map (st.put d)
def zYp(st:St)(d:Option Nat)(n:Option Nat)(a:X):Option St:=(pK st.heap (n.getD 1) a).bind (Zr st d n)
theorem zJR(n:Option Nat)(x:O):opS C st d id (.load n x)=(rdO st x).bind (zYp st d n):=rfl
theorem zy3(n:Option Nat)(a:X):zYp st d n a=(pK st.heap (n.getD 1) a).bind (Zr st d n):=rfl
theorem zka(n:Option Nat)(cs:List X):Zr st d n cs=(vH n cs).map (st.put d):=rfl
def zym(st:St)(id:Id)(q:Path)(j i n:Nat)(el cs:List D)(h:Heap):St:={st with heap:=h,env:=if gS ((el.drop i).take n)&&gS cs then st.env else purge id q j i n st.env}
theorem zZL(id:Id)(q:Path)(j i n:Nat)(el cs:List D)(h:Heap):zym st id q j i n el cs h={st with heap:=h,env:=if gS ((el.drop i).take n)&&gS cs then st.env else purge id q j i n st.env}:=rfl
def zyi(st:St)(id:Id)(q:Path)(j i n:Nat)(cs:List D)(h:Heap)(r:Nat×List (List D))(el:List D):Option St:=if i+n≤el.length then(h.put id q (.s r.1 (r.2.set j (setCells el i cs)))).map (zym st id q j i n el cs) else none
theorem zxL(id:Id)(q:Path)(j i n:Nat)(cs:List D)(h:Heap)(r:Nat×List (List D))(el:List D):zyi st id q j i n cs h r el=if i+n≤el.length then(h.put id q (.s r.1 (r.2.set j (setCells el i cs)))).map (zym st id q j i n el cs) else none:=rfl
def zZt(st:St)(id:Id)(q:Path)(j i n:Nat)(cs:List D)(h:Heap)(r:Nat×List (List D)):Option St:=(r.2[j]?).bind (zyi st id q j i n cs h r)
theorem zyh(id:Id)(q:Path)(j i n:Nat)(cs:List D)(h:Heap)(m:Nat)(els:List (List D)):zZt st id q j i n cs h (m,els)=(els[j]?).bind (zyi st id q j i n cs h (m,els)):=rfl
def zZZ(st:St)(id:Id)(q:Path)(j i n:Nat)(b:List D×Heap):Option St:=if b.1.length=n then(b.2.row id q).bind (zZt st id q j i n b.1 b.2) else none
theorem zZh(id:Id)(q:Path)(j i n:Nat)(cs:List D)(h:Heap):zZZ st id q j i n (cs,h)=if cs.length=n then(h.row id q).bind (zZt st id q j i n cs h) else none:=rfl
def zql(st:St)(n:Nat)(a:X)(cs:List X):Option St:=match a with
 |.ptr id q j i=>(j9 st.heap cs).bind (zZZ st id q j i n)
 |_=>none
theorem zvb(n:Nat)(a:X)(cs:List X):Ar st n a cs=zql st n a cs:=by
 cases a<;>rfl
theorem zKo(n:Nat)(id:Id)(q:Path)(j i:Nat)(cs:List X):zql st n (.ptr id q j i) cs=(j9 st.heap cs).bind (zZZ st id q j i n):=rfl
def zJS(d:Option Nat)(s:St):St:=s.lose d
theorem zKi(s:St):zJS d s=s.lose d:=rfl
def R4(st:St)(d:Option Nat)(n:Nat)(x:O)(a b:X):Option St:=(if 10000≤n then rG st (n-10000) x a b else zql st n a b.cells).map (zJS d)
def zQT(st:St)(d:Option Nat)(n:Nat)(x y:O)(a:X):Option St:=(rdO st y).bind (R4 st d n x a)
theorem zwT(n:Nat)(x y:O):opS C st d id (.store n x y)=(rdO st x).bind (zQT st d n x y):=by
 simp only[opS,zvb]
 rfl
theorem zq7(n:Nat)(x y:O)(a:X):zQT st d n x y a=(rdO st y).bind (R4 st d n x a):=rfl
theorem zjd(n:Nat)(x:O)(a b:X):R4 st d n x a b=(if 10000≤n then rG st (n-10000) x a b else zql st n a b.cells).map (zJS d):=rfl
theorem zv4(n t:Nat)(i:Id)(cs:List X):rG st n (.t t) (.ptr i [] 0 0) (.agg cs)=if st.fr=0∧cs.length=n then Bn st n t i cs (st.heap i) else none:=rfl
theorem zjc(n t:Nat)(i:Id)(cs:List X)(sz:Nat)(el:List D):Bn st n t i cs (some (.s sz [el]))=if el.length=n then some {env:=upd st.env t (some (.vp cs)),heap:=upd st.heap i none,fr:=st.fr,next:=st.next} else none:=rfl
def zxM(st:St)(d:Option Nat)(id n:Nat)(b:List D×Heap):Option St:=if b.1.length=n then some ((st.with (upd b.2 (st.fr,id) (some (.s n [b.1])))).put d (.ptr (st.fr,id) [] 0 0)) else none
def z91(st:St)(d:Option Nat)(id n:Nat)(a:X):Option St:=(j9 st.heap a.cells).bind (zxM st d id n)
theorem zWR(n:Nat)(x:O):opS C st d id (.box n x)=(rdO st x).bind (z91 st d id n):=rfl
theorem zKr(n:Nat)(a:X):z91 st d id n a=(j9 st.heap a.cells).bind (zxM st d id n):=rfl
theorem zy9(n:Nat)(cs:List D)(h:Heap):zxM st d id n (cs,h)=if cs.length=n then some ((st.with (upd h (st.fr,id) (some (.s n [cs])))).put d (.ptr (st.fr,id) [] 0 0)) else none:=rfl
def zzt(st:St)(d:Option Nat)(n:Nat)(cs:List X):Option St:=if cs.length=n then some (st.put d (.vp cs)) else none
def zYl(st:St)(d:Option Nat)(n:Nat)(a:X):Option St:=(a.cellsV).bind (zzt st d n)
theorem zxA(n:Nat)(x:O):opS C st d id (.vbox n x)=(rdO st x).bind (zYl st d n):=rfl
theorem zZH(n:Nat)(a:X):zYl st d n a=(a.cellsV).bind (zzt st d n):=rfl
theorem zkB(n:Nat)(cs:List X):zzt st d n cs=if cs.length=n then some (st.put d (.vp cs)) else none:=rfl
def zkx(st:St)(d:Option Nat)(mx:Bool)(m n:IntKind×Int):Option St:=if m.1=n.1 then some (st.put d (.d (.v (.int m.1 (if mx then(if m.2<n.2 then n.2 else m.2) else(if n.2<m.2 then n.2 else m.2)))))) else none
def mmK(st:St)(d:Option Nat)(mx:Bool)(y:O)(m:IntKind×Int):Option St:=(rdI st y).bind (zkx st d mx m)
theorem zXk(mx:Bool)(x y:O):opS C st d id (.mm mx x y)=(rdI st x).bind (mmK st d mx y):=rfl
theorem zXX(mx:Bool)(y:O)(m:IntKind×Int):mmK st d mx y m=(rdI st y).bind (zkx st d mx m):=rfl
theorem zXC(k:IntKind)(m n:Int):zkx st d true (k,m) (k,n)=some (zyS st d k (if m<n then n else m)):=by unfold zkx;rw[if_pos rfl];rfl
theorem zXm(k:IntKind)(m n:Int):zkx st d false (k,m) (k,n)=some (zyS st d k (if n<m then n else m)):=by unfold zkx;rw[if_pos rfl];rfl
def zqz(st:St)(d:Option Nat)(ng:Bool)(k:Nat)(cs:List X)(z:Bool):Option St:=if cs.length=k then some (st.put d (.d (.v (.bool (if ng then !z else z))))) else none
theorem zWT(k:Nat)(cs:List X)(z:Bool):zqz st d true k cs z=if cs.length=k then some (Yp st d !z) else none:=rfl
theorem zWE(k:Nat)(cs:List X)(z:Bool):zqz st d false k cs z=if cs.length=k then some (Yp st d z) else none:=rfl
def zJg(st:St)(d:Option Nat)(ng:Bool)(k:Nat)(cs ds:List X):Option St:=(xV cs ds).bind (zqz st d ng k cs)
theorem zyk(ng:Bool)(k:Nat)(cs ds:List X):zJg st d ng k cs ds=(xV cs ds).bind (zqz st d ng k cs):=rfl
def zxX(st:St)(d:Option Nat)(ng:Bool)(k:Nat)(b:X)(cs:List X):Option St:=(b.aggOf).bind (zJg st d ng k cs)
theorem zJG(ng:Bool)(k:Nat)(b:X)(cs:List X):zxX st d ng k b cs=(b.aggOf).bind (zJg st d ng k cs):=rfl
def zyw(st:St)(d:Option Nat)(ng:Bool)(k:Nat)(a b:X):Option St:=(a.aggOf).bind (zxX st d ng k b)
theorem zZX(ng:Bool)(k:Nat)(a b:X):zyw st d ng k a b=(a.aggOf).bind (zxX st d ng k b):=rfl
def z8v(st:St)(d:Option Nat)(ng:Bool)(k:Nat)(y:O)(a:X):Option St:=(rdO st y).bind (zyw st d ng k a)
theorem zWb(ng:Bool)(k:Nat)(x y:O):opS C st d id (.eqa ng k x y)=(rdO st x).bind (z8v st d ng k y):=rfl
theorem zKR(ng:Bool)(k:Nat)(y:O)(a:X):z8v st d ng k y a=(rdO st y).bind (zyw st d ng k a):=rfl
theorem zwM(cs:List X):X.aggOf (.agg cs)=some cs:=rfl
def zxF(m n:Int)(b:Bool):Bool:=decide (m=n)&&b
theorem zvt(m n:Int)(b:Bool):zxF m n b=(decide (m=n)&&b):=rfl
theorem zqV:xV [] []=some true:=rfl
theorem zzj(k:IntKind)(m n:Int)(cs ds:List X):xV (.d (.v (.int k m))::cs) (.d (.v (.int k n))::ds)=(xV cs ds).map (zxF m n):=by rw[xV,if_pos rfl];rfl
theorem zvv(zs:List D):opS C st d id (.alloc zs)=some ((st.with (upd st.heap (st.fr,id) (some (.s zs.length [zs])))).put d (.ptr (st.fr,id) [] 0 0)):=rfl
def z8c(st:St)(d:Option Nat)(cs:List X):St:=st.put d (.agg cs)
theorem zvf(zs:List D)(ps:List (Nat×Nat×O)):opS C st d id (.build zs ps)=(nS st (zs.map .d) ps).map (z8c st d):=rfl
theorem zK2(cs:List X):z8c st d cs=st.put d (.agg cs):=rfl
def zzs(st:St)(cs:List X)(off n:Nat)(ps:List (Nat×Nat×O))(us:List X):Option (List X):=if us.length=n∧off+n≤cs.length then nS st (Mq cs off us) ps else none
def zYm(st:St)(cs:List X)(off n:Nat)(ps:List (Nat×Nat×O))(x:X):Option (List X):=(x.cellsV).bind (zzs st cs off n ps)
theorem zki(cs:List X):nS st cs []=some cs:=rfl
theorem Z7(cs:List X)(off n:Nat)(o:O)(ps:List (Nat×Nat×O)):nS st cs ((off,n,o)::ps)=(rdO st o).bind (zYm st cs off n ps):=rfl
theorem zJU(cs:List X)(off n:Nat)(ps:List (Nat×Nat×O))(x:X):zYm st cs off n ps x=(x.cellsV).bind (zzs st cs off n ps):=rfl
theorem zkc(cs:List X)(off n:Nat)(ps:List (Nat×Nat×O))(us:List X):zzs st cs off n ps us=if us.length=n∧off+n≤cs.length then nS st (Mq cs off us) ps else none:=rfl
def z8x(st:St)(d:Option Nat)(id sz:Nat)(a:List (List D)×Heap):St:=(st.with (upd a.2 (st.fr,id) (some (.s sz a.1)))).put d (.ref (st.fr,id) [])
theorem zW9(sz:Nat)(ps:List O):opS C st d id (.lit sz ps)=(fZ st sz st.heap ps).map (z8x st d id sz):=rfl
theorem zWN(sz:Nat)(els:List (List D))(h:Heap):z8x st d id sz (els,h)=(st.with (upd h (st.fr,id) (some (.s sz els)))).put d (.ref (st.fr,id) []):=rfl
def zJJ(ds:List D)(b:List (List D)×Heap):List (List D)×Heap:=(ds::b.1,b.2)
theorem zye(ds:List D)(els:List (List D))(h:Heap):zJJ ds (els,h)=(ds::els,h):=rfl
def zxH(st:St)(sz:Nat)(os:List O)(a:List D×Heap):Option (List (List D)×Heap):=if a.1.length=sz then(fZ st sz a.2 os).map (zJJ a.1) else none
theorem zQ7(sz:Nat)(os:List O)(ds:List D)(h:Heap):zxH st sz os (ds,h)=if ds.length=sz then(fZ st sz h os).map (zJJ ds) else none:=rfl
def z82(st:St)(sz:Nat)(h:Heap)(os:List O)(x:X):Option (List (List D)×Heap):=(j9 h x.cells).bind (zxH st sz os)
theorem zVM(sz:Nat)(h:Heap)(os:List O)(x:X):z82 st sz h os x=(j9 h x.cells).bind (zxH st sz os):=rfl
theorem Ug(sz:Nat)(h:Heap):fZ st sz h []=some ([],h):=rfl
theorem Rx(sz:Nat)(h:Heap)(o:O)(os:List O):fZ st sz h (o::os)=(rdO st o).bind (z82 st sz h os):=rfl
def mkK(st:St)(d:Option Nat)(id sz bytes:Nat)(zs:List D)(m:IntKind×Int):Option St:=if aM bytes m.2∧zs.length=sz then some ((st.with (upd st.heap (st.fr,id) (some (.s sz (List.replicate m.2.toNat zs))))).put d (.ref (st.fr,id) [])) else none
theorem zXc(sz bytes:Nat)(zs:List D)(n:O):opS C st d id (.mk sz bytes zs n)=(rdI st n).bind (mkK st d id sz bytes zs):=rfl
theorem z9l(sz bytes:Nat)(zs:List D)(k:IntKind)(n:Int):mkK st d id sz bytes zs (k,n)=if aM bytes n∧zs.length=sz then some ((st.with (upd st.heap (st.fr,id) (some (.s sz (List.replicate n.toNat zs))))).put d (.ref (st.fr,id) [])) else none:=rfl
def zja(st:St)(d:Option Nat)(sz:Nat)(els:List (List D))(l h:Int):Option St:=if 0≤l∧l≤h∧h≤(els.length:Int)∧els.all (fun el=>el.length==sz)=true then some (st.put d (.d (.r ((els.take h.toNat).drop l.toNat)))) else none
def zzx(st:St)(d:Option Nat)(sz:Nat)(els:List (List D))(hi:Option O)(l:Int):Option St:=(cH st (els.length:Int) hi).bind (zja st d sz els l)
def zYj(st:St)(d:Option Nat)(sz:Nat)(lo hi:Option O):X→Option St
 |.d (.r els)=>(cH st 0 lo).bind (zzx st d sz els hi)
 |_=>none
theorem zZz(sz:Nat)(x:O)(lo hi:Option O):opS C st d id (.cutr sz x lo hi)=(rdO st x).bind (zYj st d sz lo hi):=by
 simp only[opS]
 congr 1
theorem zKc(sz:Nat)(lo hi:Option O)(els:List (List D)):zYj st d sz lo hi (.d (.r els))=(cH st 0 lo).bind (zzx st d sz els hi):=rfl
theorem zv0(sz:Nat)(els:List (List D))(hi:Option O)(l:Int):zzx st d sz els hi l=(cH st (els.length:Int) hi).bind (zja st d sz els l):=rfl
theorem zkN(sz:Nat)(els:List (List D))(l h:Int):zja st d sz els l h=if 0≤l∧l≤h∧h≤(els.length:Int)∧els.all (fun el=>el.length==sz)=true then some (st.put d (.d (.r ((els.take h.toNat).drop l.toNat)))) else none:=rfl
def zzL(st:St)(d:Option Nat)(id sz:Nat)(l:Int)(els:List (List D))(hp:Heap)(h:Int):Option St:=if 0≤l∧l≤h∧h≤(els.length:Int)∧(l=0∨l<h) then some ((st.with (upd hp (st.fr,id) (some (.s sz ((els.take h.toNat).drop l.toNat))))).put d (.ref (st.fr,id) [])) else none
def Zb(st:St)(d:Option Nat)(id sz:Nat)(hi:Option O)(l:Int)(m:List (List D)×Heap):Option St:=(cH st (m.1.length:Int) hi).bind (zzL st d id sz l m.1 m.2)
def zjg(st:St)(d:Option Nat)(id sz:Nat)(hi:Option O)(a:X)(l:Int):Option St:=(kL st.heap sz a).bind (Zb st d id sz hi l)
def zYi(st:St)(d:Option Nat)(id sz:Nat)(lo hi:Option O)(a:X):Option St:=(cH st 0 lo).bind (zjg st d id sz hi a)
def zQq(st:St)(id:Id)(p:Path)(r:Nat×List (List D)):Option St:=if r.1=1∧r.2.all Be=true then(st.heap.put id p (.s 1 (List.replicate r.2.length [.v (.bool false)]))).map st.with else none
def z8z(st:St):X→Option St
 |.ref id p=>(st.heap.row id p).bind (zQq st id p)
 |_=>none
theorem zKy(x:O):opS C st none id (.clr x)=(rdO st x).bind (z8z st):=by
 simp only[opS,Option.isSome_none,Bool.false_eq_true,if_false]
 congr 1
 funext a
 cases a<;>rfl
theorem zVk(i:Id)(p:Path):z8z st (.ref i p)=(st.heap.row i p).bind (zQq st i p):=rfl
theorem zZD(i:Id)(p:Path)(n:Nat)(els:List (List D)):zQq st i p (n,els)=if n=1∧els.all Be=true then(st.heap.put i p (.s 1 (List.replicate els.length [.v (.bool false)]))).map st.with else none:=rfl
theorem zJv(sz:Nat)(x:O)(lo hi:Option O):opS C st d id (.cutm sz x lo hi)=(rdO st x).bind (zYi st d id sz lo hi):=rfl
theorem zyj(sz:Nat)(lo hi:Option O)(a:X):zYi st d id sz lo hi a=(cH st 0 lo).bind (zjg st d id sz hi a):=rfl
theorem zwu(sz:Nat)(hi:Option O)(a:X)(l:Int):zjg st d id sz hi a l=(kL st.heap sz a).bind (Zb st d id sz hi l):=rfl
theorem zvS(sz:Nat)(hi:Option O)(l:Int)(els:List (List D))(hp:Heap):Zb st d id sz hi l (els,hp)=(cH st (els.length:Int) hi).bind (zzL st d id sz l els hp):=rfl
theorem zwr(sz:Nat)(l:Int)(els:List (List D))(hp:Heap)(h:Int):zzL st d id sz l els hp h=if 0≤l∧l≤h∧h≤(els.length:Int)∧(l=0∨l<h) then some ((st.with (upd hp (st.fr,id) (some (.s sz ((els.take h.toNat).drop l.toNat))))).put d (.ref (st.fr,id) [])) else none:=rfl
def Yi(st:St)(d:Option Nat)(s:ByteArray)(l h:Int):Option St:=if 0≤l∧l≤h∧h≤(s.size:Int) then some (st.put d (.d (.v (.string (s.extract l.toNat h.toNat))))) else none
def zzg(st:St)(d:Option Nat)(s:ByteArray)(hi:Option O)(l:Int):Option St:=(cH st (s.size:Int) hi).bind (Yi st d s l)
def zYr(st:St)(d:Option Nat)(lo hi:Option O)(s:ByteArray):Option St:=(cH st 0 lo).bind (zzg st d s hi)
theorem zJP(x:O)(lo hi:Option O):opS C st d id (.cutS x lo hi)=(rdS st x).bind (zYr st d lo hi):=rfl
theorem zyf(lo hi:Option O)(s:ByteArray):zYr st d lo hi s=(cH st 0 lo).bind (zzg st d s hi):=rfl
theorem zvZ(s:ByteArray)(hi:Option O)(l:Int):zzg st d s hi l=(cH st (s.size:Int) hi).bind (Yi st d s l):=rfl
theorem zwK(s:ByteArray)(l h:Int):Yi st d s l h=if 0≤l∧l≤h∧h≤(s.size:Int) then some (st.put d (.d (.v (.string (s.extract l.toNat h.toNat))))) else none:=rfl
def zyH(st:St)(d:Option Nat)(n:Nat):St:=st.put d (.d (.v (.int .i64 (n:Int))))
def z8q(st:St)(d:Option Nat)(a:X):Option St:=(Om st.heap a).map (zyH st d)
theorem zKw(x:O):opS C st d id (.len x)=(rdO st x).bind (z8q st d):=rfl
theorem zKJ(a:X):z8q st d a=(Om st.heap a).map (zyH st d):=rfl
theorem zZm(n:Nat):zyH st d n=st.put d (.d (.v (.int .i64 (n:Int)))):=rfl
def zYG(st:St)(d:Option Nat)(s:ByteArray):St:=st.put d (.d (.v (.int .i64 (s.size:Int))))
theorem zZP(x:O):opS C st d id (.slen x)=(rdS st x).map (zYG st d):=rfl
theorem zJr(s:ByteArray):zYG st d s=st.put d (.d (.v (.int .i64 (s.size:Int)))):=rfl
def zxd(st:St)(d:Option Nat)(id sz bytes:Nat)(l:List (List D))(m:List (List D)×Heap):Option St:=if aF bytes l.length m.1.length∧m.1.all (fun el=>el.length==sz) then some ((st.with (upd m.2 (st.fr,id) (some (.s sz (l++m.1))))).put d (.ref (st.fr,id) [])) else none
def zJY(st:St)(d:Option Nat)(id sz bytes:Nat)(b:X)(l:List (List D)×Heap):Option St:=(pV l.2 b).bind (zxd st d id sz bytes l.1)
def zxE(st:St)(d:Option Nat)(id sz bytes:Nat)(a b:X):Option St:=(kL st.heap sz a).bind (zJY st d id sz bytes b)
def z9V(st:St)(d:Option Nat)(id sz bytes:Nat)(y:O)(a:X):Option St:=(rdO st y).bind (zxE st d id sz bytes a)
theorem zVJ(sz bytes:Nat)(x y:O):opS C st d id (.app sz bytes x y)=(rdO st x).bind (z9V st d id sz bytes y):=rfl
theorem zVZ(sz bytes:Nat)(y:O)(a:X):z9V st d id sz bytes y a=(rdO st y).bind (zxE st d id sz bytes a):=rfl
theorem zZ9(sz bytes:Nat)(a b:X):zxE st d id sz bytes a b=(kL st.heap sz a).bind (zJY st d id sz bytes b):=rfl
theorem zJT(sz bytes:Nat)(b:X)(l:List (List D))(h:Heap):zJY st d id sz bytes b (l,h)=(pV h b).bind (zxd st d id sz bytes l):=rfl
theorem zQg(sz bytes:Nat)(l m:List (List D))(h:Heap):zxd st d id sz bytes l (m,h)=if aF bytes l.length m.length∧m.all (fun el=>el.length==sz) then some ((st.with (upd h (st.fr,id) (some (.s sz (l++m))))).put d (.ref (st.fr,id) [])) else none:=rfl
def fnK(st:St)(d:Option Nat)(f:Nat)(xs:List X):St:=st.put d (if xs.isEmpty then .d (.v (.func (.func f) #[] #[])) else .clo f xs)
theorem zXK(f:Nat)(caps:List O):opS C st d id (.fn f caps)=(n9 st caps).map (fnK st d f):=rfl
theorem fnK_eq(f:Nat)(xs:List X):fnK st d f xs=st.put d (if xs.isEmpty then .d (.v (.func (.func f) #[] #[])) else .clo f xs):=rfl
def zjx(st:St)(d:Option Nat)(id:Nat)(h:Heap)(x:X):Option St:=lW st d id x h
theorem zQS(h:Heap)(x:X):zjx st d id h x=if x.ncells≤32 then some ((st.with (vX h (st.fr,id) x).2).put d (vX h (st.fr,id) x).1) else none:=rfl
def Yr(st:St)(d:Option Nat)(id:Nat)(as:List X)(r:X):Option St:=if kS as||r.noR then lW st d id r st.heap else none
def Yl(C:Cl)(st:St)(d:Option Nat)(id f:Nat)(as bs:List X):Option St:=(C.iso f bs).bind (Yr st d id as)
def zYP(C:Cl)(st:St)(d:Option Nat)(id f:Nat)(as:List X):Option St:=(oE st.heap as).bind (Yl C st d id f as)
theorem zQ2(f:Nat)(xs:List O):opS C st d id (.call f xs)=(n9 st xs).bind (zYP C st d id f):=rfl
theorem zys(f:Nat)(as:List X):zYP C st d id f as=(oE st.heap as).bind (Yl C st d id f as):=rfl
theorem zq2(f:Nat)(as bs:List X):Yl C st d id f as bs=(C.iso f bs).bind (Yr st d id as):=rfl
theorem zkj(as:List X)(r:X):Yr st d id as r=if kS as||r.noR then zjx st d id st.heap r else none:=rfl
def Sj(st:St)(d:Option Nat)(as:List X)(r:X):Option St:=if kS as||r.noR then some (st.put d r.frz) else none
def Sn(C:Cl)(st:St)(d:Option Nat)(f:Nat)(as bs:List X):Option St:=(C.iso f bs).bind (Sj st d as)
def zJ7(C:Cl)(st:St)(d:Option Nat)(f:Nat)(as:List X):Option St:=(oE st.heap as).bind (Sn C st d f as)
theorem zv8(f:Nat)(xs:List O):opS C st d id (.callr f xs)=(n9 st xs).bind (zJ7 C st d f):=rfl
theorem zwm(f:Nat)(as:List X):zJ7 C st d f as=(oE st.heap as).bind (Sn C st d f as):=rfl
theorem zzr(f:Nat)(as bs:List X):Sn C st d f as bs=(C.iso f bs).bind (Sj st d as):=rfl
theorem Zv(as:List X)(r:X):Sj st d as r=if kS as||r.noR then some (st.put d r.frz) else none:=rfl
def Rf(st:St)(d:Option Nat)(id:Nat)(r:X×Heap):Option St:=lW {st with env:=rZ st.env} d id r.1 r.2
def Sb(C:Cl)(st:St)(d:Option Nat)(id:Nat)(g:Nat×List X)(as:List X):Option St:=(C g.1 (as++g.2) st.heap (st.fr+1)).bind (Rf st d id)
def Rk(C:Cl)(st:St)(d:Option Nat)(id:Nat)(xs:List O)(g:Nat×List X):Option St:=(n9 st xs).bind (Sb C st d id g)
def zQW(C:Cl)(st:St)(d:Option Nat)(id:Nat)(xs:List O)(c:X):Option St:=(Ef c).bind (Rk C st d id xs)
theorem zws(f:O)(xs:List O):opS C st d id (.calli f xs)=(rdO st f).bind (zQW C st d id xs):=rfl
theorem zwF(xs:List O)(c:X):zQW C st d id xs c=(Ef c).bind (Rk C st d id xs):=rfl
theorem zzE(xs:List O)(g:Nat×List X):Rk C st d id xs g=(n9 st xs).bind (Sb C st d id g):=rfl
theorem Y3(f:Nat)(caps as:List X):Sb C st d id (f,caps) as=(C f (as++caps) st.heap (st.fr+1)).bind (Rf st d id):=rfl
theorem Zu(r:X)(h:Heap):Rf st d id (r,h)=zjx {st with env:=rZ st.env} d id h r:=rfl
def Q8(st:St)(d:Option Nat)(id:Nat)(L:dS)(r:X)(h2:Heap):Option St:=lW {st with env:=rJ L st.env} d id r h2
def Jb(st:St)(d:Option Nat)(id:Nat)(as:List X)(bs:List Bool)(h:Heap)(L:dS)(r:X×Heap):Option St :=
 if (tF L&&r.1.noP&&(roF as bs||(r.1.noR&&Xj r.2 0 L)))=true then(zO h r.2 0 L).bind (Q8 st d id L r.1) else none
def Jg(C:Cl)(st:St)(d:Option Nat)(id f:Nat)(as:List X)(bs:List Bool)(h:Heap)(L:dS)(ys:List X):Option St:=(C.give f ys (Cg 0 L) 1).bind (Jb st d id as bs h L)
def zYH(a:D×Heap):X×Heap:=(.d a.1,a.2)
theorem zxg(d:D)(h:Heap):zYH (d,h)=(.d d,h):=rfl
theorem zq8(h:Heap)(id:Id)(p:Path):Cx h (.ref id p)=(h.take id p).map zYH:=rfl
theorem zWH(h:Heap)(x:D):Cx h (.d x)=some (.d x,h):=rfl
theorem zkg(h:Heap)(x:List X):Cx h (.agg x)=some (.agg x,h):=rfl
theorem zwq(h:Heap)(x:List X):Cx h (.tup x)=some (.tup x,h):=rfl
def zzW(st:St)(d:Option Nat)(id:Nat)(as:List X)(bs:List Bool)(h:Heap)(L:dS)(r:X×Heap):Option St:=(Cx r.2 r.1).bind (Jb st d id as bs h L)
theorem zwU(st:St)(d:Option Nat)(id:Nat)(as:List X)(bs:List Bool)(h:Heap)(L:dS)(r:X)(hB:Heap):zzW st d id as bs h L (r,hB)=(Cx hB r).bind (Jb st d id as bs h L):=rfl
def Tq(C:Cl)(st:St)(d:Option Nat)(id f:Nat)(as:List X)(bs:List Bool)(m:List X×Heap×dS):Option St:=(pF m.2.1 m.1 bs).bind (Jg C st d id f as bs m.2.1 m.2.2)
def zyU(C:Cl)(st:St)(d:Option Nat)(id f:Nat)(bs:List Bool)(as:List X):Option St:=(sL st.heap 0 as bs).bind (Tq C st d id f as bs)
theorem zkf(f:Nat)(xs:List O)(bs:List Bool):opS C st d id (.callb f xs bs)=(n9 st xs).bind (zyU C st d id f bs):=rfl
theorem zqZ(f:Nat)(bs:List Bool)(as:List X):zyU C st d id f bs as=(sL st.heap 0 as bs).bind (Tq C st d id f as bs):=rfl
theorem Zd(f:Nat)(as:List X)(bs:List Bool)(xs:List X)(h:Heap)(L:dS):Tq C st d id f as bs (xs,h,L)=(pF h xs bs).bind (Jg C st d id f as bs h L):=rfl
theorem Za(f:Nat)(as:List X)(bs:List Bool)(h:Heap)(L:dS)(ys:List X):Jg C st d id f as bs h L ys=(C f ys (Cg 0 L) 1).bind (zzW st d id as bs h L):=by unfold Jg Cl.give zzW;rw[Option.bind_assoc]
theorem zzU(as:List X)(bs:List Bool)(h:Heap)(L:dS)(r:X)(hB:Heap):Jb st d id as bs h L (r,hB)=if (tF L&&r.noP&&(roF as bs||(r.noR&&Xj hB 0 L)))=true then(zO h hB 0 L).bind (Q8 st d id L r) else none:=rfl
theorem Zl(L:dS)(r:X)(h2:Heap):Q8 st d id L r h2=zjx {st with env:=rJ L st.env} d id h2 r:=rfl
def z81(st:St)(d:Option Nat)(i:Nat):X→Option St
 |.tup cs=>(cs[i]?).map (st.put d)
 |_=>none
theorem zKZ(x:O)(i:Nat):opS C st d id (.ext x i)=(rdO st x).bind (z81 st d i):=by
 simp only[opS]
 congr 1
theorem zKY(i:Nat)(cs:List X):z81 st d i (.tup cs)=(cs[i]?).map (st.put d):=rfl
def z8o(st:St)(d:Option Nat)(a:X):Option St:=(wZ a).map (st.put d)
theorem zYb(x:O):opS C st d id (.nck x)=(rdO st x).bind (z8o st d):=rfl
theorem zK1(a:X):z8o st d a=(wZ a).map (st.put d):=rfl
def zYy(r:Nat×List (List D)):X:= .d (.r (fzs r.2))
theorem zZG(sz:Nat)(e:List (List D)):zYy (sz,e)= .d (.r (fzs e)):=rfl
def z9H(a:D×Heap):X×Heap:=(.d a.1,a.2)
theorem zWV(d:D)(h:Heap):z9H (d,h)=(.d d,h):=rfl
def zYv(a:List X×Heap):X×Heap:=(.agg a.1,a.2)
theorem zKg(d:List X)(h:Heap):zYv (d,h)=(.agg d,h):=rfl
def zXx(y:X)(i:Id)(p:Path)(a:D×Heap):X×Heap×dS:=(y,a.2,[(i,p,a.1)])
theorem zKK(y:X)(i:Id)(p:Path)(d:D)(h:Heap):zXx y i p (d,h)=(y,h,[(i,p,d)]):=rfl
def zYL(a:List X×Heap×dS):X×Heap×dS:=(.agg a.1,a.2)
theorem zJt(d:List X)(h:Heap)(L:dS):zYL (d,h,L)=(.agg d,h,L):=rfl
theorem zk3(c:D):X.cells (.d c)=[(.d c)]:=rfl
theorem We(cs:List X):X.cells (.agg cs)=cs:=rfl
theorem Uj(cs:List X):X.cells (.tup cs)=[(.tup cs)]:=rfl
theorem W2(i:Id)(p:Path):X.cells (.ref i p)=[(.ref i p)]:=rfl
theorem Vz(i:Id)(p:Path)(j k:Nat):X.cells (.ptr i p j k)=[(.ptr i p j k)]:=rfl
theorem W6(ds:List D):X.cells (.rop ds)=[(.rop ds)]:=rfl
theorem zzH(cs:List X):X.cells (.vp cs)=[(.vp cs)]:=rfl
theorem Vv(f:Nat)(cs:List X):X.cells (.clo f cs)=[(.clo f cs)]:=rfl
theorem Yy(c:D):X.cellsV (.d c)=some [(.d c)]:=rfl
theorem Sa(cs:List X):X.cellsV (.agg cs)=some cs:=rfl
theorem Ra(cs:List X):X.cellsV (.tup cs)=none:=rfl
theorem Rd(i:Id)(p:Path):X.cellsV (.ref i p)=some [(.ref i p)]:=rfl
theorem Rz(i:Id)(p:Path)(j k:Nat):X.cellsV (.ptr i p j k)=some [(.ptr i p j k)]:=rfl
theorem Sl(ds:List D):X.cellsV (.rop ds)=some [(.rop ds)]:=rfl
theorem U5(cs:List X):X.cellsV (.vp cs)=some [(.vp cs)]:=rfl
theorem Tf(f:Nat)(cs:List X):X.cellsV (.clo f cs)=some [(.clo f cs)]:=rfl
theorem zx8(id:Id)(q:Path)(a b n:Nat)(c:D):X.hitC id q a b n (.d c)=false:=rfl
theorem zzm(id:Id)(q:Path)(a b n:Nat)(cs:List X):X.hitC id q a b n (.agg cs)=true:=rfl
theorem Zk(id:Id)(q:Path)(a b n:Nat)(cs:List X):X.hitC id q a b n (.tup cs)=true:=rfl
theorem Zt(id:Id)(q:Path)(a b n:Nat)(i:Id)(p:Path):X.hitC id q a b n (.ref i p)=(i==id&&Path.under q a b n p):=rfl
theorem Ze(id:Id)(q:Path)(a b n:Nat)(i:Id)(p:Path)(j k:Nat):X.hitC id q a b n (.ptr i p j k)=(i==id&&Path.under q a b n p):=rfl
theorem Ym(id:Id)(q:Path)(a b n:Nat)(ds:List D):X.hitC id q a b n (.rop ds)=false:=rfl
theorem zvs(id:Id)(q:Path)(a b n:Nat)(cs:List X):X.hitC id q a b n (.vp cs)=true:=rfl
theorem zje(id:Id)(q:Path)(a b n:Nat)(f:Nat)(cs:List X):X.hitC id q a b n (.clo f cs)=true:=rfl
theorem zVq(id:Id)(q:Path)(a b n:Nat)(c:D):X.hit id q a b n (.d c)=X.hitC id q a b n (.d c):=rfl
theorem zwx(id:Id)(q:Path)(a b n:Nat)(cs:List X):X.hit id q a b n (.agg cs)=Ui id q a b n cs:=rfl
theorem zvm(id:Id)(q:Path)(a b n:Nat)(cs:List X):X.hit id q a b n (.tup cs)=true:=rfl
theorem zwY(id:Id)(q:Path)(a b n:Nat)(i:Id)(p:Path):X.hit id q a b n (.ref i p)=X.hitC id q a b n (.ref i p):=rfl
theorem zk6(id:Id)(q:Path)(a b n:Nat)(i:Id)(p:Path)(j k:Nat):X.hit id q a b n (.ptr i p j k)=X.hitC id q a b n (.ptr i p j k):=rfl
theorem zqN(id:Id)(q:Path)(a b n:Nat)(ds:List D):X.hit id q a b n (.rop ds)=X.hitC id q a b n (.rop ds):=rfl
theorem zKp(id:Id)(q:Path)(a b n:Nat)(cs:List X):X.hit id q a b n (.vp cs)=Ui id q a b n cs:=rfl
theorem zk7(id:Id)(q:Path)(a b n:Nat)(f:Nat)(cs:List X):X.hit id q a b n (.clo f cs)=X.hitC id q a b n (.clo f cs):=rfl
theorem zvr(c:D):X.rootC (.d c)=true:=rfl
theorem Ul(cs:List X):X.rootC (.agg cs)=false:=rfl
theorem Uu(cs:List X):X.rootC (.tup cs)=false:=rfl
theorem Vn(i:Id)(p:Path):X.rootC (.ref i p)=p.isEmpty:=rfl
theorem Wn(i:Id)(p:Path)(j k:Nat):X.rootC (.ptr i p j k)=p.isEmpty:=rfl
theorem Ue(ds:List D):X.rootC (.rop ds)=true:=rfl
theorem zjr(cs:List X):X.rootC (.vp cs)=false:=rfl
theorem Vm(f:Nat)(cs:List X):X.rootC (.clo f cs)=false:=rfl
theorem zJn(c:D):X.root (.d c)=X.rootC (.d c):=rfl
theorem zz7(cs:List X):X.root (.agg cs)=yZ cs:=rfl
theorem zjs(cs:List X):X.root (.tup cs)=X.rootC (.tup cs):=rfl
theorem Zq(i:Id)(p:Path):X.root (.ref i p)=X.rootC (.ref i p):=rfl
theorem zzc(i:Id)(p:Path)(j k:Nat):X.root (.ptr i p j k)=X.rootC (.ptr i p j k):=rfl
theorem zzJ(ds:List D):X.root (.rop ds)=X.rootC (.rop ds):=rfl
theorem zvT(cs:List X):X.root (.vp cs)=yZ cs:=rfl
theorem Yq(f:Nat)(cs:List X):X.root (.clo f cs)=yZ cs:=rfl
theorem zKC(id:Id)(q:Path)(c:D):X.inC id q (.d c)=false:=rfl
theorem zqR(id:Id)(q:Path)(cs:List X):X.inC id q (.agg cs)=true:=rfl
theorem zwH(id:Id)(q:Path)(cs:List X):X.inC id q (.tup cs)=true:=rfl
theorem zqQ(id:Id)(q:Path)(i:Id)(p:Path):X.inC id q (.ref i p)=(decide (i=id)&&q.isPrefixOf p&& !decide (p=q)):=rfl
theorem zwl(id:Id)(q:Path)(i:Id)(p:Path)(j k:Nat):X.inC id q (.ptr i p j k)=(decide (i=id)&&q.isPrefixOf p&& !decide (p=q)):=rfl
theorem zwP(id:Id)(q:Path)(ds:List D):X.inC id q (.rop ds)=false:=rfl
theorem zJN(id:Id)(q:Path)(cs:List X):X.inC id q (.vp cs)=true:=rfl
theorem zwC(id:Id)(q:Path)(f:Nat)(cs:List X):X.inC id q (.clo f cs)=true:=rfl
theorem zKB(id:Id)(q:Path)(c:D):X.inV id q (.d c)=X.inC id q (.d c):=rfl
theorem zks(id:Id)(q:Path)(cs:List X):X.inV id q (.agg cs)=inL id q cs:=rfl
theorem zvC(id:Id)(q:Path)(cs:List X):X.inV id q (.tup cs)=X.inC id q (.tup cs):=rfl
theorem zkb(id:Id)(q:Path)(i:Id)(p:Path):X.inV id q (.ref i p)=X.inC id q (.ref i p):=rfl
theorem zq3(id:Id)(q:Path)(i:Id)(p:Path)(j k:Nat):X.inV id q (.ptr i p j k)=X.inC id q (.ptr i p j k):=rfl
theorem zkt(id:Id)(q:Path)(ds:List D):X.inV id q (.rop ds)=X.inC id q (.rop ds):=rfl
theorem zQs(id:Id)(q:Path)(cs:List X):X.inV id q (.vp cs)=inL id q cs:=rfl
theorem zkS(id:Id)(q:Path)(f:Nat)(cs:List X):X.inV id q (.clo f cs)=inL id q cs:=rfl
theorem zVV(c:D):X.roC (.d c)=true:=rfl
theorem zwv(cs:List X):X.roC (.agg cs)=false:=rfl
theorem zqY(cs:List X):X.roC (.tup cs)=false:=rfl
theorem zk8(i:Id)(p:Path):X.roC (.ref i p)=false:=rfl
theorem zwN(i:Id)(p:Path)(j k:Nat):X.roC (.ptr i p j k)=false:=rfl
theorem zqO(ds:List D):X.roC (.rop ds)=false:=rfl
theorem zQI(cs:List X):X.roC (.vp cs)=false:=rfl
theorem zko(f:Nat)(cs:List X):X.roC (.clo f cs)=false:=rfl
theorem zV4(c:D):X.roV (.d c)=X.roC (.d c):=rfl
theorem zvd(cs:List X):X.roV (.agg cs)=Fo cs:=rfl
theorem zwy(cs:List X):X.roV (.tup cs)=X.roC (.tup cs):=rfl
theorem zkn(i:Id)(p:Path):X.roV (.ref i p)=X.roC (.ref i p):=rfl
theorem zk5(i:Id)(p:Path)(j k:Nat):X.roV (.ptr i p j k)=X.roC (.ptr i p j k):=rfl
theorem zwg(ds:List D):X.roV (.rop ds)=X.roC (.rop ds):=rfl
theorem zyM(cs:List X):X.roV (.vp cs)=X.roC (.vp cs):=rfl
theorem zwe(f:Nat)(cs:List X):X.roV (.clo f cs)=X.roC (.clo f cs):=rfl
theorem zYd(c:D):X.noP (.d c)=X.roV (.d c):=rfl
theorem zwE(cs:List X):X.noP (.agg cs)=X.roV (.agg cs):=rfl
theorem zq1(cs:List X):X.noP (.tup cs)=kS cs:=rfl
theorem zv7(i:Id)(p:Path):X.noP (.ref i p)=X.roV (.ref i p):=rfl
theorem zvH(i:Id)(p:Path)(j k:Nat):X.noP (.ptr i p j k)=X.roV (.ptr i p j k):=rfl
theorem zvK(ds:List D):X.noP (.rop ds)=X.roV (.rop ds):=rfl
theorem zQM(cs:List X):X.noP (.vp cs)=X.roV (.vp cs):=rfl
theorem zwD(f:Nat)(cs:List X):X.noP (.clo f cs)=X.roV (.clo f cs):=rfl
theorem zxk(c:D):X.noRC (.d c)=c.noR:=rfl
theorem zzi(cs:List X):X.noRC (.agg cs)=false:=rfl
theorem zzy(cs:List X):X.noRC (.tup cs)=false:=rfl
theorem Y1(i:Id)(p:Path):X.noRC (.ref i p)=false:=rfl
theorem Yz(i:Id)(p:Path)(j k:Nat):X.noRC (.ptr i p j k)=false:=rfl
theorem Z3(ds:List D):X.noRC (.rop ds)=false:=rfl
theorem zvu(cs:List X):X.noRC (.vp cs)=false:=rfl
theorem Yk(f:Nat)(cs:List X):X.noRC (.clo f cs)=false:=rfl
theorem zyu(c:D):X.noRV (.d c)=X.noRC (.d c):=rfl
theorem Zp(cs:List X):X.noRV (.agg cs)=zQY cs:=rfl
theorem zzQ(cs:List X):X.noRV (.tup cs)=X.noRC (.tup cs):=rfl
theorem Z8(i:Id)(p:Path):X.noRV (.ref i p)=X.noRC (.ref i p):=rfl
theorem zzh(i:Id)(p:Path)(j k:Nat):X.noRV (.ptr i p j k)=X.noRC (.ptr i p j k):=rfl
theorem Z0(ds:List D):X.noRV (.rop ds)=X.noRC (.rop ds):=rfl
theorem zwk(cs:List X):X.noRV (.vp cs)=X.noRC (.vp cs):=rfl
theorem zzN(f:Nat)(cs:List X):X.noRV (.clo f cs)=X.noRC (.clo f cs):=rfl
theorem zKt(c:D):X.noR (.d c)=X.noRV (.d c):=rfl
theorem zvA(cs:List X):X.noR (.agg cs)=X.noRV (.agg cs):=rfl
theorem zkd(cs:List X):X.noR (.tup cs)=zvX cs:=rfl
theorem zvQ(i:Id)(p:Path):X.noR (.ref i p)=X.noRV (.ref i p):=rfl
theorem zwQ(i:Id)(p:Path)(j k:Nat):X.noR (.ptr i p j k)=X.noRV (.ptr i p j k):=rfl
theorem zvP(ds:List D):X.noR (.rop ds)=X.noRV (.rop ds):=rfl
theorem zyR(cs:List X):X.noR (.vp cs)=X.noRV (.vp cs):=rfl
theorem zv1(f:Nat)(cs:List X):X.noR (.clo f cs)=X.noRV (.clo f cs):=rfl
theorem zkM(x:Value):X.frzC (.d (.v x))=(.d (.v x)):=rfl
theorem zvy(e:List (List D)):X.frzC (.d (.r e))=(.d (.r e)):=rfl
theorem zwJ:X.frzC (.d .u)=(.d .u):=rfl
theorem zkJ(sz:Nat)(e:List (List D)):X.frzC (.d (.s sz e))= .d (.r (fzs e)):=rfl
theorem zzG(cs:List X):X.frzC (.agg cs)=(.agg cs):=rfl
theorem Y5(cs:List X):X.frzC (.tup cs)=(.tup cs):=rfl
theorem zz5(i:Id)(p:Path):X.frzC (.ref i p)=(.ref i p):=rfl
theorem zjj(i:Id)(p:Path)(j k:Nat):X.frzC (.ptr i p j k)=(.ptr i p j k):=rfl
theorem Z2(ds:List D):X.frzC (.rop ds)=(.rop ds):=rfl
theorem zvW(cs:List X):X.frzC (.vp cs)=(.vp cs):=rfl
theorem Zy(f:Nat)(cs:List X):X.frzC (.clo f cs)=(.clo f cs):=rfl
theorem zZr(c:D):X.frzV (.d c)=X.frzC (.d c):=rfl
theorem zzO(cs:List X):X.frzV (.agg cs)= .agg (O5 cs):=rfl
theorem zjq(cs:List X):X.frzV (.tup cs)=X.frzC (.tup cs):=rfl
theorem zzS(i:Id)(p:Path):X.frzV (.ref i p)=X.frzC (.ref i p):=rfl
theorem zjv(i:Id)(p:Path)(j k:Nat):X.frzV (.ptr i p j k)=X.frzC (.ptr i p j k):=rfl
theorem zjt(ds:List D):X.frzV (.rop ds)=X.frzC (.rop ds):=rfl
theorem zww(cs:List X):X.frzV (.vp cs)=X.frzC (.vp cs):=rfl
theorem X6(f:Nat)(cs:List X):X.frzV (.clo f cs)=X.frzC (.clo f cs):=rfl
theorem zKO(c:D):X.frz (.d c)=X.frzV (.d c):=rfl
theorem zq9(cs:List X):X.frz (.agg cs)=X.frzV (.agg cs):=rfl
theorem zkK(cs:List X):X.frz (.tup cs)= .tup (Nb cs):=rfl
theorem zvY(i:Id)(p:Path):X.frz (.ref i p)=X.frzV (.ref i p):=rfl
theorem zw2(i:Id)(p:Path)(j k:Nat):X.frz (.ptr i p j k)=X.frzV (.ptr i p j k):=rfl
theorem zkD(ds:List D):X.frz (.rop ds)=X.frzV (.rop ds):=rfl
theorem zxp(cs:List X):X.frz (.vp cs)=X.frzV (.vp cs):=rfl
theorem zvk(f:Nat)(cs:List X):X.frz (.clo f cs)=X.frzV (.clo f cs):=rfl
theorem zZu(c:D):X.flat (.d c)=true:=rfl
theorem zz3(cs:List X):X.flat (.agg cs)=false:=rfl
theorem Zm(cs:List X):X.flat (.tup cs)=false:=rfl
theorem zzA(i:Id)(p:Path):X.flat (.ref i p)=true:=rfl
theorem Zi(i:Id)(p:Path)(j k:Nat):X.flat (.ptr i p j k)=true:=rfl
theorem Zf(ds:List D):X.flat (.rop ds)=true:=rfl
theorem zkr(cs:List X):X.flat (.vp cs)=false:=rfl
theorem zzT(f:Nat)(cs:List X):X.flat (.clo f cs)=false:=rfl
theorem zvL(c:D):X.keeps (.d c)=true:=rfl
theorem X2(cs:List X):X.keeps (.agg cs)=cs.all X.flat:=rfl
theorem Vt(cs:List X):X.keeps (.tup cs)=false:=rfl
theorem Ut(i:Id)(p:Path):X.keeps (.ref i p)=true:=rfl
theorem Vq(i:Id)(p:Path)(j k:Nat):X.keeps (.ptr i p j k)=true:=rfl
theorem Xq(ds:List D):X.keeps (.rop ds)=true:=rfl
theorem zji(cs:List X):X.keeps (.vp cs)=cs.all X.flat:=rfl
theorem Vo(f:Nat)(cs:List X):X.keeps (.clo f cs)=cs.all X.flat:=rfl
theorem zxG(fr:Nat)(c:D):X.offC fr (.d c)=[]:=rfl
theorem X7(fr:Nat)(cs:List X):X.offC fr (.agg cs)=[]:=rfl
theorem zzn(fr:Nat)(cs:List X):X.offC fr (.tup cs)=[]:=rfl
theorem zzC(fr:Nat)(i:Id)(p:Path):X.offC fr (.ref i p)=if i.1=fr then [i.2] else []:=rfl
theorem zz1(fr:Nat)(i:Id)(p:Path)(j k:Nat):X.offC fr (.ptr i p j k)=if i.1=fr then [i.2] else []:=rfl
theorem zz0(fr:Nat)(ds:List D):X.offC fr (.rop ds)=[]:=rfl
theorem zvU(fr:Nat)(cs:List X):X.offC fr (.vp cs)=[]:=rfl
theorem Zc(fr:Nat)(f:Nat)(cs:List X):X.offC fr (.clo f cs)=[]:=rfl
theorem zxj(fr:Nat)(c:D):X.offs fr (.d c)=X.offC fr (.d c):=rfl
theorem zzX(fr:Nat)(cs:List X):X.offs fr (.agg cs)=Dp fr cs:=rfl
theorem zzk(fr:Nat)(cs:List X):X.offs fr (.tup cs)=X.offC fr (.tup cs):=rfl
theorem Zs(fr:Nat)(i:Id)(p:Path):X.offs fr (.ref i p)=X.offC fr (.ref i p):=rfl
theorem zjb(fr:Nat)(i:Id)(p:Path)(j k:Nat):X.offs fr (.ptr i p j k)=X.offC fr (.ptr i p j k):=rfl
theorem Zh(fr:Nat)(ds:List D):X.offs fr (.rop ds)=X.offC fr (.rop ds):=rfl
theorem zwz(fr:Nat)(cs:List X):X.offs fr (.vp cs)=Dp fr cs:=rfl
theorem zzu(fr:Nat)(f:Nat)(cs:List X):X.offs fr (.clo f cs)=Dp fr cs:=rfl
theorem zQ1(g:Id→Id)(c:D):X.renC g (.d c)=(.d c):=rfl
theorem Yb(g:Id→Id)(cs:List X):X.renC g (.agg cs)=(.agg cs):=rfl
theorem zz6(g:Id→Id)(cs:List X):X.renC g (.tup cs)=(.tup cs):=rfl
theorem zzw(g:Id→Id)(i:Id)(p:Path):X.renC g (.ref i p)= .ref (g i) p:=rfl
theorem Yn(g:Id→Id)(i:Id)(p:Path)(j k:Nat):X.renC g (.ptr i p j k)= .ptr (g i) p j k:=rfl
theorem Z1(g:Id→Id)(ds:List D):X.renC g (.rop ds)=(.rop ds):=rfl
theorem zwi(g:Id→Id)(cs:List X):X.renC g (.vp cs)=(.vp cs):=rfl
theorem Yw(g:Id→Id)(f:Nat)(cs:List X):X.renC g (.clo f cs)=(.clo f cs):=rfl
theorem zWx(g:Id→Id)(c:D):X.ren g (.d c)=X.renC g (.d c):=rfl
theorem zvG(g:Id→Id)(cs:List X):X.ren g (.agg cs)= .agg (cs.map (X.renC g)):=rfl
theorem zwn(g:Id→Id)(cs:List X):X.ren g (.tup cs)=X.renC g (.tup cs):=rfl
theorem zqJ(g:Id→Id)(i:Id)(p:Path):X.ren g (.ref i p)=X.renC g (.ref i p):=rfl
theorem zkk(g:Id→Id)(i:Id)(p:Path)(j k:Nat):X.ren g (.ptr i p j k)=X.renC g (.ptr i p j k):=rfl
theorem zvM(g:Id→Id)(ds:List D):X.ren g (.rop ds)=X.renC g (.rop ds):=rfl
theorem zZo(g:Id→Id)(cs:List X):X.ren g (.vp cs)= .vp (cs.map (X.renC g)):=rfl
theorem zwt(g:Id→Id)(f:Nat)(cs:List X):X.ren g (.clo f cs)= .clo f (cs.map (X.renC g)):=rfl
theorem zZ8(h:Heap)(x:Value):jR h (.d (.v x))=some (.v x,h):=rfl
theorem zyP(h:Heap)(e:List (List D)):jR h (.d (.r e))=some (.r e,h):=rfl
theorem zQP(h:Heap)(sz:Nat):jR h (.d (.s sz []))=some (.s sz [],h):=rfl
theorem zJq(h:Heap):jR h (.d .u)=some (.u,h):=rfl
theorem zvE(h:Heap)(i:Id)(p:Path):jR h (.ref i p)=h.take i p:=rfl
theorem zQQ(h:Heap)(x:Value):l5 h (.d (.v x))=some (.d (.v x)):=rfl
theorem zJE(h:Heap)(e:List (List D)):l5 h (.d (.r e))=some (.d (.r e)):=rfl
theorem zZK(h:Heap)(sz:Nat):l5 h (.d (.s sz []))=some (.d (.r [])):=rfl
theorem zyN(h:Heap):l5 h (.d .u)=none:=rfl
theorem zqT(h:Heap)(i:Id)(p:Path):l5 h (.ref i p)=(h.row i p).map zYy:=rfl
theorem zX3(h:Heap)(c:D):zC h (.d c)=l5 h (.d c):=rfl
theorem zxl(h:Heap)(cs:List X):zC h (.agg cs)=(vT h cs).map .agg:=rfl
theorem zJK(h:Heap)(cs:List X):zC h (.tup cs)=l5 h (.tup cs):=rfl
theorem zKf(h:Heap)(i:Id)(p:Path):zC h (.ref i p)=l5 h (.ref i p):=rfl
theorem zZ3(h:Heap)(i:Id)(p:Path)(j k:Nat):zC h (.ptr i p j k)=l5 h (.ptr i p j k):=rfl
theorem zZx(h:Heap)(ds:List D):zC h (.rop ds)=l5 h (.rop ds):=rfl
theorem zVR(h:Heap)(cs:List X):zC h (.vp cs)=l5 h (.vp cs):=rfl
theorem zxe(h:Heap)(f:Nat)(cs:List X):zC h (.clo f cs)=l5 h (.clo f cs):=rfl
theorem zK8(fr:Nat)(h:Heap)(x:Value):mX fr h (.d (.v x))=some (.d (.v x),h):=rfl
theorem zW7(fr:Nat)(h:Heap)(e:List (List D)):mX fr h (.d (.r e))=some (.d (.r e),h):=rfl
theorem zWG(fr:Nat)(h:Heap)(sz:Nat):mX fr h (.d (.s sz []))=some (.d (.s sz []),h):=rfl
theorem zV3(fr:Nat)(h:Heap):mX fr h (.d .u)=none:=rfl
theorem zxI(fr:Nat)(h:Heap)(i:Id)(p:Path):mX fr h (.ref i p)=if i.1=fr then(h.take i p).map z9H else some (.ref i p,h):=rfl
theorem zw4(fr:Nat)(h:Heap)(i:Id)(p:Path)(j k:Nat):mX fr h (.ptr i p j k)=if i.1=fr then none else some (.ptr i p j k,h):=rfl
theorem zQw(fr:Nat)(h:Heap)(ds:List D):mX fr h (.rop ds)=some (.rop ds,h):=rfl
theorem z9q(fr:Nat)(h:Heap)(c:D):qB fr h (.d c)=mX fr h (.d c):=rfl
theorem zQr(fr:Nat)(h:Heap)(cs:List X):qB fr h (.agg cs)=(Nh fr h cs).map zYv:=rfl
theorem zKl(fr:Nat)(h:Heap)(cs:List X):qB fr h (.tup cs)=mX fr h (.tup cs):=rfl
theorem zxP(fr:Nat)(h:Heap)(i:Id)(p:Path):qB fr h (.ref i p)=mX fr h (.ref i p):=rfl
theorem zZd(fr:Nat)(h:Heap)(i:Id)(p:Path)(j k:Nat):qB fr h (.ptr i p j k)=mX fr h (.ptr i p j k):=rfl
theorem zxu(fr:Nat)(h:Heap)(ds:List D):qB fr h (.rop ds)=mX fr h (.rop ds):=rfl
theorem zVj(fr:Nat)(h:Heap)(cs:List X):qB fr h (.vp cs)=mX fr h (.vp cs):=rfl
theorem zJu(fr:Nat)(h:Heap)(f:Nat)(cs:List X):qB fr h (.clo f cs)=mX fr h (.clo f cs):=rfl
theorem zKV(h:Heap)(id:Id)(x:Value):lB h id (.d (.v x))=((.d (.v x)),h):=rfl
theorem zVt(h:Heap)(id:Id)(e:List (List D)):lB h id (.d (.r e))=((.d (.r e)),h):=rfl
theorem zWu(h:Heap)(id:Id):lB h id (.d .u)=((.d .u),h):=rfl
theorem zWm(h:Heap)(id:Id)(sz:Nat)(e:List (List D)):lB h id (.d (.s sz e))=(.ref id [],upd h id (some (.s sz e))):=rfl
theorem zQ3(h:Heap)(id:Id)(cs:List X):lB h id (.agg cs)=((.agg cs),h):=rfl
theorem zyl(h:Heap)(id:Id)(cs:List X):lB h id (.tup cs)=((.tup cs),h):=rfl
theorem zQf(h:Heap)(id:Id)(i:Id)(p:Path):lB h id (.ref i p)=((.ref i p),h):=rfl
theorem zKj(h:Heap)(id:Id)(i:Id)(p:Path)(j k:Nat):lB h id (.ptr i p j k)=((.ptr i p j k),h):=rfl
theorem zyA(h:Heap)(id:Id)(ds:List D):lB h id (.rop ds)=((.rop ds),h):=rfl
theorem zWy(h:Heap)(id:Id)(cs:List X):lB h id (.vp cs)=((.vp cs),h):=rfl
theorem zya(h:Heap)(id:Id)(f:Nat)(cs:List X):lB h id (.clo f cs)=((.clo f cs),h):=rfl
theorem zY1(h:Heap)(id:Id)(c:D):nF h id (.d c)=lB h id (.d c):=rfl
theorem zy5(h:Heap)(id:Id)(cs:List X):nF h id (.agg cs)=(.agg (vW h id cs).1,(vW h id cs).2):=rfl
theorem zZb(h:Heap)(id:Id)(cs:List X):nF h id (.tup cs)=lB h id (.tup cs):=rfl
theorem zx7(h:Heap)(id:Id)(i:Id)(p:Path):nF h id (.ref i p)=lB h id (.ref i p):=rfl
theorem zx9(h:Heap)(id:Id)(i:Id)(p:Path)(j k:Nat):nF h id (.ptr i p j k)=lB h id (.ptr i p j k):=rfl
theorem zw5(h:Heap)(id:Id)(ds:List D):nF h id (.rop ds)=lB h id (.rop ds):=rfl
theorem zKX(h:Heap)(id:Id)(cs:List X):nF h id (.vp cs)=lB h id (.vp cs):=rfl
theorem zxm(h:Heap)(id:Id)(f:Nat)(cs:List X):nF h id (.clo f cs)=lB h id (.clo f cs):=rfl
theorem zXq(h:Heap)(id:Id)(c:D):vX h id (.d c)=nF h id (.d c):=rfl
theorem zJb(h:Heap)(id:Id)(cs:List X):vX h id (.agg cs)=nF h id (.agg cs):=rfl
theorem zKk(h:Heap)(id:Id)(cs:List X):vX h id (.tup cs)=(.tup (v7 h id cs).1,(v7 h id cs).2):=rfl
theorem zQA(h:Heap)(id:Id)(i:Id)(p:Path):vX h id (.ref i p)=nF h id (.ref i p):=rfl
theorem zyG(h:Heap)(id:Id)(i:Id)(p:Path)(j k:Nat):vX h id (.ptr i p j k)=nF h id (.ptr i p j k):=rfl
theorem zxr(h:Heap)(id:Id)(ds:List D):vX h id (.rop ds)=nF h id (.rop ds):=rfl
theorem zWn(h:Heap)(id:Id)(cs:List X):vX h id (.vp cs)=nF h id (.vp cs):=rfl
theorem zJO(h:Heap)(id:Id)(f:Nat)(cs:List X):vX h id (.clo f cs)=nF h id (.clo f cs):=rfl
theorem zza(c:D):X.ncells (.d c)=(X.cells (.d c)).length:=rfl
theorem So(cs:List X):X.ncells (.agg cs)=(X.cells (.agg cs)).length:=rfl
theorem Q5(cs:List X):X.ncells (.tup cs)=(cs.map fun x=>x.cells.length).sum:=rfl
theorem Tc(i:Id)(p:Path):X.ncells (.ref i p)=(X.cells (.ref i p)).length:=rfl
theorem S4(i:Id)(p:Path)(j k:Nat):X.ncells (.ptr i p j k)=(X.cells (.ptr i p j k)).length:=rfl
theorem Rn(ds:List D):X.ncells (.rop ds)=(X.cells (.rop ds)).length:=rfl
theorem Vs(cs:List X):X.ncells (.vp cs)=(X.cells (.vp cs)).length:=rfl
theorem R9(f:Nat)(cs:List X):X.ncells (.clo f cs)=(X.cells (.clo f cs)).length:=rfl
theorem zV1(h:Heap)(n:Nat)(x:Value):yK h n (.d (.v x))=some (.d (.v x),h,[]):=rfl
theorem zVA(h:Heap)(n:Nat)(e:List (List D)):yK h n (.d (.r e))=some (.d (.r e),h,[]):=rfl
theorem zK5(h:Heap)(n:Nat)(sz:Nat):yK h n (.d (.s sz []))=some (.d (.s sz []),h,[]):=rfl
theorem zWC(h:Heap)(n:Nat):yK h n (.d .u)=none:=rfl
theorem zZ2(h:Heap)(n:Nat)(i:Id)(p:Path):yK h n (.ref i p)=(h.take i p).map (zXx (.ref (0,n) []) i p):=rfl
theorem zQb(h:Heap)(n:Nat)(i:Id)(p:Path)(j k:Nat):yK h n (.ptr i p j k)=(h.take i p).map (zXx (.ptr (0,n) [] j k) i p):=rfl
theorem zXL(h:Heap)(n:Nat)(c:D):H8 h n (.d c)=yK h n (.d c):=rfl
theorem zQ0(h:Heap)(n:Nat)(cs:List X):H8 h n (.agg cs)=(Ni h n cs).map zYL:=rfl
theorem zxN(h:Heap)(n:Nat)(cs:List X):H8 h n (.tup cs)=yK h n (.tup cs):=rfl
theorem zxY(h:Heap)(n:Nat)(i:Id)(p:Path):H8 h n (.ref i p)=yK h n (.ref i p):=rfl
theorem zQN(h:Heap)(n:Nat)(i:Id)(p:Path)(j k:Nat):H8 h n (.ptr i p j k)=yK h n (.ptr i p j k):=rfl
theorem zQt(h:Heap)(n:Nat)(ds:List D):H8 h n (.rop ds)=yK h n (.rop ds):=rfl
theorem zVf(h:Heap)(n:Nat)(cs:List X):H8 h n (.vp cs)=yK h n (.vp cs):=rfl
theorem zZT(h:Heap)(n:Nat)(f:Nat)(cs:List X):H8 h n (.clo f cs)=yK h n (.clo f cs):=rfl
theorem zZR(x:Value)(cs:List D):gS (.v x::cs)=gS cs:=rfl
theorem zx2(sz:Nat)(e:List (List D))(cs:List D):gS (.s sz e::cs)=false:=rfl
theorem zQh(e:List (List D))(cs:List D):gS (.r e::cs)=false:=rfl
theorem zZE(cs:List D):gS (.u::cs)=false:=rfl
theorem zjm:gS []=true:=rfl
def qK(x:X)(xs:List X):List X:=x::xs
theorem zy1(x:X)(xs:List X):qK x xs=x::xs:=rfl
def Ye(x:D)(a:List D×Heap):List D×Heap:=(x::a.1,a.2)
theorem zwo(x:D)(xs:List D)(h:Heap):Ye x (xs,h)=(x::xs,h):=rfl
def Kb(x:X)(a:List X×Heap):List X×Heap:=(x::a.1,a.2)
theorem zkH(x:X)(xs:List X)(h:Heap):Kb x (xs,h)=(x::xs,h):=rfl
theorem zyg(st:St):n9 st []=some []:=rfl
def zYh(st:St)(os:List O)(x:X):Option (List X):=(n9 st os).map (qK x)
theorem zkZ(st:St)(o:O)(os:List O):n9 st (o::os)=(rdO st o).bind (zYh st os):=rfl
theorem zQv(st:St)(os:List O)(x:X):zYh st os x=(n9 st os).map (qK x):=rfl
theorem zvq(h:Heap):j9 h []=some ([],h):=rfl
def zJc(xs:List X)(a:D×Heap):Option (List D×Heap):=(j9 a.2 xs).map (Ye a.1)
theorem zzB(h:Heap)(x:X)(xs:List X):j9 h (x::xs)=(jR h x).bind (zJc xs):=rfl
theorem zk4(xs:List X)(d:D)(h:Heap):zJc xs (d,h)=(j9 h xs).map (Ye d):=rfl
theorem zxw(fr:Nat)(h:Heap):Nh fr h []=some ([],h):=rfl
def zYK(fr:Nat)(xs:List X)(a:X×Heap):Option (List X×Heap):=(Nh fr a.2 xs).map (Kb a.1)
theorem zk1(fr:Nat)(h:Heap)(x:X)(xs:List X):Nh fr h (x::xs)=(mX fr h x).bind (zYK fr xs):=rfl
theorem zxq(fr:Nat)(xs:List X)(d:X)(h:Heap):zYK fr xs (d,h)=(Nh fr h xs).map (Kb d):=rfl
theorem zKn(fr:Nat)(h:Heap):qE fr h []=some ([],h):=rfl
def zYO(fr:Nat)(xs:List X)(a:X×Heap):Option (List X×Heap):=(qE fr a.2 xs).map (Kb a.1)
theorem zvV(fr:Nat)(h:Heap)(x:X)(xs:List X):qE fr h (x::xs)=(qB fr h x).bind (zYO fr xs):=rfl
theorem zJH(fr:Nat)(xs:List X)(d:X)(h:Heap):zYO fr xs (d,h)=(qE fr h xs).map (Kb d):=rfl
def zYQ(j i:Nat)(r:Nat×List (List D)):Option X:=(r.2[j]?).map fun el=> .rop (fzl (el.drop i))
theorem zvp(h:Heap)(id:Id)(q:Path)(j i:Nat):l5 h (.ptr id q j i)=(h.row id q).bind (zYQ j i):=rfl
theorem zxy(j i n:Nat)(els:List (List D)):zYQ j i (n,els)=(els[j]?).map fun el=> .rop (fzl (el.drop i)):=rfl
theorem zkI(h:Heap):vT h []=some []:=rfl
def zZf(h:Heap)(xs:List X)(y:X):Option (List X):=(vT h xs).map (qK y)
theorem zzV(h:Heap)(x:X)(xs:List X):vT h (x::xs)=(l5 h x).bind (zZf h xs):=rfl
theorem zku(h:Heap)(xs:List X)(y:X):zZf h xs y=(vT h xs).map (qK y):=rfl
theorem zqX(h:Heap):oE h []=some []:=rfl
def zyX(h:Heap)(xs:List X)(y:X):Option (List X):=(oE h xs).map (qK y)
theorem Ys(h:Heap)(x:X)(xs:List X):oE h (x::xs)=(zC h x).bind (zyX h xs):=rfl
theorem zk2(h:Heap)(xs:List X)(y:X):zyX h xs y=(oE h xs).map (qK y):=rfl
def zJ2(h:Heap)(xs:List X)(bs:List Bool)(y:X):Option (List X):=(pF h xs bs).map (qK y)
theorem zvo(h:Heap)(bs:List Bool):pF h [] bs=some []:=by unfold pF;rfl
theorem zYg(h:Heap)(x:X)(xs:List X)(bs:List Bool):pF h (x::xs) (true::bs)=(pF h xs bs).map (qK x):=rfl
theorem zV8(h:Heap)(x:X)(xs:List X)(bs:List Bool):pF h (x::xs) (false::bs)=(zC h x).bind (zJ2 h xs bs):=rfl
theorem zvO(h:Heap)(xs:List X)(bs:List Bool)(y:X):zJ2 h xs bs y=(pF h xs bs).map (qK y):=rfl
def Mj(x:X)(L:dS)(b:List X×Heap×dS):List X×Heap×dS:=(x::b.1,b.2.1,L++b.2.2)
theorem zw3(x:X)(L:dS)(xs:List X)(h:Heap)(M:dS):Mj x L (xs,h,M)=(x::xs,h,L++M):=rfl
def zYU(k:Nat)(xs:List X)(a:X×Heap×dS):Option (List X×Heap×dS):=(Ni a.2.1 (k+a.2.2.length) xs).map (Mj a.1 a.2.2)
theorem zQC(h:Heap)(k:Nat):Ni h k []=some ([],h,[]):=rfl
theorem zwp(h:Heap)(k:Nat)(x:X)(xs:List X):Ni h k (x::xs)=(yK h k x).bind (zYU k xs):=rfl
theorem zQD(k:Nat)(xs:List X)(y:X)(h:Heap)(L:dS):zYU k xs (y,h,L)=(Ni h (k+L.length) xs).map (Mj y L):=rfl
def zYM(k:Nat)(xs:List X)(bs:List Bool)(a:X×Heap×dS):Option (List X×Heap×dS):=(sL a.2.1 (k+a.2.2.length) xs bs).map (Mj a.1 a.2.2)
def zZU(x:X)(c:List X×Heap×dS):List X×Heap×dS:=(x::c.1,c.2.1,c.2.2)
theorem zwI(x:X)(xs:List X)(h:Heap)(L:dS):zZU x (xs,h,L)=(x::xs,h,L):=rfl
theorem zQn(h:Heap)(k:Nat)(bs:List Bool):sL h k [] bs=some ([],h,[]):=by unfold sL;rfl
theorem zXv(h:Heap)(k:Nat)(x:X)(xs:List X)(bs:List Bool):sL h k (x::xs) (true::bs)=(H8 h k x).bind (zYM k xs bs):=rfl
theorem zXT(h:Heap)(k:Nat)(x:X)(xs:List X)(bs:List Bool):sL h k (x::xs) (false::bs)=(sL h k xs bs).map (zZU x):=rfl
theorem zxt(k:Nat)(xs:List X)(bs:List Bool)(y:X)(h:Heap)(L:dS):zYM k xs bs (y,h,L)=(sL h (k+L.length) xs bs).map (Mj y L):=rfl
theorem zVK(d:D):D.nav d []=some d:=by unfold D.nav;rfl
def zWo(p:Path)(c:D):Option D:=c.nav p
theorem zWO(p:Path)(c:D):zWo p c=c.nav p:=rfl
def z8W(i:Nat)(p:Path)(el:List D):Option D:=(el[i]?).bind (zWo p)
theorem zKL(i:Nat)(p:Path)(el:List D):z8W i p el=(el[i]?).bind (zWo p):=rfl
theorem z9Q(sz:Nat)(els:List (List D))(j i:Nat)(p:Path):D.nav (.s sz els) ((j,i)::p)=(els[j]?).bind (z8W i p):=by rw[D.nav];rfl
theorem zWg(h:Heap)(id:Id)(p:Path):h.nav id p=(h id).bind (zWo p):=rfl
theorem zKx(h:Heap)(id:Id)(p:Path):h.row id p=(h.nav id p).bind D.rowOf:=rfl
def zyo(sz:Nat)(els:List (List D))(j i:Nat)(el:List D)(c:D):D:= .s sz (els.set j (el.set i c))
theorem zZv(sz:Nat)(els:List (List D))(j i:Nat)(el:List D)(c:D):zyo sz els j i el c= .s sz (els.set j (el.set i c)):=rfl
def zQm(sz:Nat)(els:List (List D))(j i:Nat)(p:Path)(x:D)(el:List D)(c:D):Option D:=(c.put p x).map (zyo sz els j i el)
theorem zQF(sz:Nat)(els:List (List D))(j i:Nat)(p:Path)(x:D)(el:List D)(c:D):zQm sz els j i p x el c=(c.put p x).map (zyo sz els j i el):=rfl
def zYJ(sz:Nat)(els:List (List D))(j i:Nat)(p:Path)(x:D)(el:List D):Option D:=(el[i]?).bind (zQm sz els j i p x el)
theorem zJh(sz:Nat)(els:List (List D))(j i:Nat)(p:Path)(x:D)(el:List D):zYJ sz els j i p x el=(el[i]?).bind (zQm sz els j i p x el):=rfl
theorem zV0(d x:D):D.put d [] x=some x:=by unfold D.put;rfl
theorem z8U(sz:Nat)(els:List (List D))(j i:Nat)(p:Path)(x:D):D.put (.s sz els) ((j,i)::p) x=(els[j]?).bind (zYJ sz els j i p x):=by rw[D.put];rfl
def Y8(h:Heap)(id:Id)(d:D):Heap:=upd h id (some d)
theorem zv2(h:Heap)(id:Id)(d:D):Y8 h id d=upd h id (some d):=rfl
def zYX(h:Heap)(id:Id)(p:Path)(x d:D):Option Heap:=(d.put p x).map (Y8 h id)
theorem zJ6(h:Heap)(id:Id)(p:Path)(x d:D):zYX h id p x d=(d.put p x).map (Y8 h id):=rfl
theorem zVU(h:Heap)(id:Id)(p:Path)(x:D):h.put id p x=(h id).bind (zYX h id p x):=rfl
def zYu(h:Heap)(id:Id)(r:Nat×List (List D)):D×Heap:=(.s r.1 r.2,upd h id none)
theorem zJk(h:Heap)(id:Id)(sz:Nat)(els:List (List D)):zYu h id (sz,els)=(.s sz els,upd h id none):=rfl
theorem zqM(h:Heap)(id:Id):h.take id []=(h.row id []).map (zYu h id):=rfl
def zw7(sz:Nat)(els:List (List D))(h:Heap):D×Heap:=(.s sz els,h)
theorem zZA(sz:Nat)(els:List (List D))(h:Heap):zw7 sz els h=(.s sz els,h):=rfl
def zYR(h:Heap)(id:Id)(p:Path)(r:Nat×List (List D)):Option (D×Heap):=(h.put id p .u).map (zw7 r.1 r.2)
theorem zJa(h:Heap)(id:Id)(p:Path)(sz:Nat)(els:List (List D)):zYR h id p (sz,els)=(h.put id p .u).map (zw7 sz els):=rfl
theorem zjk(h:Heap)(id:Id)(c:Nat×Nat)(p:Path):h.take id (c::p)=(h.row id (c::p)).bind (zYR h id (c::p)):=rfl
theorem zQK(h:Heap)(id:Id)(x:D):h.putb id [] x=some (upd h id (some x)):=rfl
theorem zq6(h:Heap)(id:Id)(c:Nat×Nat)(p:Path)(x:D):h.putb id (c::p) x=h.put id (c::p) x:=rfl
theorem z8M(id:Id)(p:Path)(x:Value):D.own id p (.v x)=some (.d (.v x)):=rfl
theorem z8B(id:Id)(p:Path)(sz:Nat)(e:List (List D)):D.own id p (.s sz e)=some (.ref id p):=rfl
theorem z8w(id:Id)(p:Path)(e:List (List D)):D.own id p (.r e)=some (.d (.r e)):=rfl
theorem z8K(id:Id)(p:Path):D.own id p .u=some (.d .u):=rfl
theorem zyT(id:Id)(q:Path)(j i:Nat):D0 id q j i []=some []:=by unfold D0;rfl
def zYV(id:Id)(q:Path)(j i:Nat)(cs:List D)(x:X):Option (List X):=(D0 id q j (i+1) cs).map (qK x)
theorem zxz(id:Id)(q:Path)(j i:Nat)(cs:List D)(x:X):zYV id q j i cs x=(D0 id q j (i+1) cs).map (qK x):=rfl
theorem zkF(id:Id)(q:Path)(j i:Nat)(c:D)(cs:List D):D0 id q j i (c::cs)=(c.own id (q++[(j,i)])).bind (zYV id q j i cs):=rfl
theorem z7p(x:Value):D.ro (.v x)=some (.d (.v x)):=rfl
theorem z7K(sz:Nat)(e:List (List D)):D.ro (.s sz e)=some (.d (.r e)):=rfl
theorem z7y(e:List (List D)):D.ro (.r e)=some (.d (.r e)):=rfl
theorem z7q:D.ro .u=some (.d .u):=rfl
theorem zVY:roL []=some []:=rfl
def z9D(cs:List D)(x:X):Option (List X):=(roL cs).map (qK x)
theorem zVG(cs:List D)(x:X):z9D cs x=(roL cs).map (qK x):=rfl
theorem zZO(c:D)(cs:List D):roL (c::cs)=(c.ro).bind (z9D cs):=rfl
theorem zv5(h:Heap)(n:Nat)(cs:List D):pK h n (.rop cs)=if n≤cs.length then roL (cs.take n) else none:=rfl
theorem zyD(h:Heap)(n:Nat)(cs:List X):pK h n (.vp cs)=if n≤cs.length then some (cs.take n) else none:=rfl
def ldB(id:Id)(q:Path)(j i n:Nat)(el:List D):Option (List X):=if i+n≤el.length then D0 id q j i ((el.drop i).take n) else none
theorem z9c(id:Id)(q:Path)(j i n:Nat)(el:List D):ldB id q j i n el=if i+n≤el.length then D0 id q j i ((el.drop i).take n) else none:=rfl
def ldA(id:Id)(q:Path)(j i n:Nat)(r:Nat×List (List D)):Option (List X):=(r.2[j]?).bind (ldB id q j i n)
theorem zX6(id:Id)(q:Path)(j i n sz:Nat)(els:List (List D)):ldA id q j i n (sz,els)=(els[j]?).bind (ldB id q j i n):=rfl
theorem zwc(h:Heap)(n:Nat)(id:Id)(q:Path)(j i:Nat):pK h n (.ptr id q j i)=(h.row id q).bind (ldA id q j i n):=rfl
theorem zz9(off:Nat)(id:Id)(q:Path)(j i:Nat):Ax off (.ptr id q j i)=some (.ptr id q j (i+off)):=rfl
theorem zz2(off:Nat)(cs:List D):Ax off (.rop cs)=some (.rop (cs.drop off)):=rfl
theorem zkz(off:Nat)(cs:List X):Ax off (.vp cs)=some (.vp (cs.drop off)):=rfl
def ixB(sz:Nat)(el:List D):Option X:=if el.length=sz then some (.rop el) else none
theorem z9n(sz:Nat)(el:List D):ixB sz el=if el.length=sz then some (.rop el) else none:=rfl
theorem zY5(h:Heap)(sz:Nat)(n:Int)(els:List (List D)):O8 h sz n (.d (.r els))=if 0≤n∧n<(els.length:Int) then(els[n.toNat]?).bind (ixB sz) else none:=rfl
def ixC(id:Id)(p:Path)(sz:Nat)(n:Int)(r:Nat×List (List D)):Option X:=if 0≤n∧n<(r.2.length:Int)∧r.1=sz then some (.ptr id p n.toNat 0) else none
theorem zXu(id:Id)(p:Path)(sz:Nat)(n:Int)(m:Nat)(els:List (List D)):ixC id p sz n (m,els)=if 0≤n∧n<(els.length:Int)∧m=sz then some (.ptr id p n.toNat 0) else none:=rfl
theorem zyz(h:Heap)(sz:Nat)(n:Int)(id:Id)(p:Path):O8 h sz n (.ref id p)=(h.row id p).bind (ixC id p sz n):=rfl
theorem zXR(h:Heap)(els:List (List D)):Om h (.d (.r els))=some els.length:=rfl
theorem zXP(h:Heap)(sz:Nat):Om h (.d (.s sz []))=some 0:=rfl
def z8G(r:Nat×List (List D)):Nat:=r.2.length
theorem zWL(sz:Nat)(els:List (List D)):z8G (sz,els)=els.length:=rfl
theorem zZj(h:Heap)(id:Id)(p:Path):Om h (.ref id p)=(h.row id p).map z8G:=rfl
theorem Yg(id:Id)(q:Path)(j i:Nat):wZ (.ptr id q j i)=some (.ptr id q j i):=rfl
theorem Zx(cs:List D):wZ (.rop cs)=some (.rop cs):=rfl
theorem zkw(cs:List X):wZ (.vp cs)=some (.vp cs):=rfl
def idH(h:Heap)(els:List (List D)):List (List D)×Heap:=(els,h)
def z9A(a:D×Heap):Option (List (List D)×Heap):=(a.1.rowOf).map fun r=>(r.2,a.2)
theorem zKT(sz:Nat)(els:List (List D))(h:Heap):z9A (.s sz els,h)=some (els,h):=rfl
theorem zZk(h:Heap)(sz:Nat):pV h (.d (.s sz []))=some ([],h):=rfl
theorem zJo(h:Heap)(els:List (List D)):pV h (.d (.r els))=some (els.map fun el=>el.map D.toR,h):=rfl
theorem zzP(h:Heap)(id:Id)(p:Path):pV h (.ref id p)=(h.take id p).bind z9A:=rfl
def zYt(sz:Nat)(a:D×Heap):Option (List (List D)×Heap):=(a.1.rowOf).bind fun r=>if r.1=sz then some (r.2,a.2) else none
theorem zyd(sz m:Nat)(els:List (List D))(h:Heap):zYt sz (.s m els,h)=if m=sz then some (els,h) else none:=rfl
theorem zkA(h:Heap)(sz m:Nat):kL h sz (.d (.s m []))=some ([],h):=rfl
theorem Uh(h:Heap)(sz:Nat)(id:Id)(p:Path):kL h sz (.ref id p)=(h.take id p).bind (zYt sz):=rfl
theorem zkT(st:St):iA st []=some []:=by unfold iA;rfl
def zzb(st:St)(rs:List SRes)(x:X):Option (List X):=(iA st rs).map (qK x)
theorem zky(st:St)(rs:List SRes)(x:X):zzb st rs x=(iA st rs).map (qK x):=rfl
theorem zVg(st:St)(n:Nat)(rs:List SRes):iA st (.t n::rs)=(st.env n).bind (zzb st rs):=rfl
def zJm(st:St)(k:Option Nat)(a:X):Option X:=(pK st.heap (k.getD 1) a).bind (vH k)
theorem zvz(st:St)(k:Option Nat)(a:X):zJm st k a=(pK st.heap (k.getD 1) a).bind (vH k):=rfl
theorem zWD(st:St)(n:Nat)(k:Option Nat)(rs:List SRes):iA st (.c n k::rs)=((st.env n).bind (zJm st k)).bind (zzb st rs):=rfl
def Vg(a:List X×Heap):X:=oV a.1
theorem zVL(x:X)(h:Heap):Vg ([x],h)=x:=rfl
theorem zVl(h:Heap):Vg ([],h)= .tup []:=rfl
theorem zVd(x y:X)(xs:List X)(h:Heap):Vg (x::y::xs,h)= .tup (x::y::xs):=rfl
def Qx(s:St)(xs:List X):Option X:=(qE 0 s.heap xs).map Vg
theorem zQU(s:St)(xs:List X):Qx s xs=(qE 0 s.heap xs).map Vg:=rfl
def Wp(fr:Nat)(a:List X×Heap):X×Heap:=(oV a.1,cB fr a.2)
theorem zWM(fr:Nat)(x:X)(h:Heap):Wp fr ([x],h)=(x,cB fr h):=rfl
theorem zYf(fr:Nat)(h:Heap):Wp fr ([],h)=(.tup [],cB fr h):=rfl
theorem zKH(fr:Nat)(x y:X)(xs:List X)(h:Heap):Wp fr (x::y::xs,h)=(.tup (x::y::xs),cB fr h):=rfl
def T3(s:St)(fr:Nat)(xs:List X):Option (X×Heap):=(qE fr s.heap xs).map (Wp fr)
theorem zyI(s:St)(fr:Nat)(xs:List X):T3 s fr xs=(qE fr s.heap xs).map (Wp fr):=rfl
def zWs(st:St)(m:List (Nat×Nat))(ts:List Nat)(x:X):Bool→List (Nat×Nat)
 |true=>iI st (Iu m (x.offs st.fr)) ts
 |false=>iI st m ts
theorem z9h(st:St)(m:List (Nat×Nat))(ts:List Nat)(x:X):zWs st m ts x true=iI st (Iu m (x.offs st.fr)) ts:=rfl
theorem zXV(st:St)(m:List (Nat×Nat))(ts:List Nat)(x:X):zWs st m ts x false=iI st m ts:=rfl
def kmK(st:St)(m:List (Nat×Nat))(ts:List Nat):Option X→List (Nat×Nat)
 |some x=>zWs st m ts x x.keeps
 |none=>iI st m ts
theorem Wk(st:St)(m:List (Nat×Nat))(ts:List Nat)(x:X):kmK st m ts (some x)=zWs st m ts x x.keeps:=rfl
theorem zyV(st:St)(m:List (Nat×Nat))(ts:List Nat):kmK st m ts none=iI st m ts:=rfl
theorem zwZ(st:St)(m:List (Nat×Nat)):iI st m []=m:=by unfold iI;rfl
theorem zjn(st:St)(m:List (Nat×Nat))(t:Nat)(ts:List Nat):iI st m (t::ts)=kmK st m ts (st.env t):=by
 rw[iI]
 cases st.env t with
 |none=>rfl
 |some x=>simp only[Wk];cases x.keeps<;>rfl
def zWW(st:St)(m:List (Nat×Nat))(t:Nat)(ts:List Nat)(x:X):Bool→Env
 |true=>upd (nI st m ts) t (some (x.ren (kid st.fr m)))
 |false=>nI st m ts
theorem zXI(st:St)(m:List (Nat×Nat))(t:Nat)(ts:List Nat)(x:X):zWW st m t ts x true=upd (nI st m ts) t (some (x.ren (kid st.fr m))):=rfl
theorem zXe(st:St)(m:List (Nat×Nat))(t:Nat)(ts:List Nat)(x:X):zWW st m t ts x false=nI st m ts:=rfl
def keK(st:St)(m:List (Nat×Nat))(t:Nat)(ts:List Nat):Option X→Env
 |some x=>zWW st m t ts x x.keeps
 |none=>nI st m ts
theorem Vl(st:St)(m:List (Nat×Nat))(t:Nat)(ts:List Nat)(x:X):keK st m t ts (some x)=zWW st m t ts x x.keeps:=rfl
theorem zx6(st:St)(m:List (Nat×Nat))(t:Nat)(ts:List Nat):keK st m t ts none=nI st m ts:=rfl
theorem zkY(st:St)(m:List (Nat×Nat)):nI st m []=emp:=by unfold nI;rfl
theorem zzf(st:St)(m:List (Nat×Nat))(t:Nat)(ts:List Nat):nI st m (t::ts)=keK st m t ts (st.env t):=by
 rw[nI]
 cases st.env t with
 |none=>rfl
 |some x=>simp only[Vl];cases x.keeps<;>rfl
def ksK(st:St)(L:List Nat)(m:List (Nat×Nat)):St:={env:=nI st m L,heap:=Hv st.fr st.heap m,fr:=st.fr,next:=m.length}
theorem zXp(st:St)(L:List Nat)(m:List (Nat×Nat)):ksK st L m={env:=nI st m L,heap:=Hv st.fr st.heap m,fr:=st.fr,next:=m.length}:=rfl
theorem zZV(L:List Nat)(st:St):nE L st=ksK st L (iI st [] L):=rfl
theorem zvx(st:St):vP [] st=nE [] st:=rfl
theorem zz4(t:Nat)(L:List Nat)(st:St):vP (t::L) st=if 20000≤t then nE L (zju (t-20000) st) else if 10000≤t then nE L (zzI (t-10000) st) else nE (t::L) st:=rfl
theorem zVe(t:Nat)(st:St):zju t st=if st.fr=0 then zvN t st (st.env t) else st:=rfl
theorem zZw(t:Nat)(st:St)(a b:Nat):zvN t st (some (.ptr (a,b) [] 0 0))=if a=0 then zZI t (a,b) st (st.heap (a,b)) else st:=rfl
theorem zJ3(t:Nat)(st:St)(a b:Nat):zvN t st (some (.ref (a,b) []))=if a=0 then zJX t (a,b) st (st.heap (a,b)) else st:=rfl
theorem z9i(t:Nat)(id:Id)(st:St)(sz:Nat)(els:List (List D)):zJX t id st (some (.s sz els))={env:=upd st.env t (some (.d (.r (fzs els)))),heap:=upd st.heap id none,fr:=st.fr,next:=st.next}:=rfl
theorem z9a(t:Nat)(id:Id)(st:St)(sz:Nat)(el:List D):zZI t id st (some (.s sz [el]))={env:=upd st.env t (some (.rop (fzl el))),heap:=upd st.heap id none,fr:=st.fr,next:=st.next}:=rfl
theorem zWa(t:Nat)(st:St):Yc t st={env:=upd st.env t ((st.env t).map X.dim),heap:=st.heap,fr:=st.fr,next:=st.next}:=rfl
theorem zVo(cs:List X):X.dim (.agg cs)= .agg (cs.map X.dimC):=rfl
theorem zXi(x:D):X.dimC (.d x)= .d x:=rfl
theorem zQc(id:Id)(p:Path):X.dimC (.ref id p)= .d .u:=rfl
theorem zWv(t:Nat)(st:St):zzI t st=if st.fr=0 then zxR st (st.env t) else st:=rfl
theorem zJI(st:St)(a b j i:Nat):zxR st (some (.ptr (a,b) [] j i))=if a=0 then zZN (a,b) st (st.heap (a,b)) else st:=rfl
theorem zXs(id:Id)(st:St)(sz:Nat)(els:List (List D)):zZN id st (some (.s sz els))={env:=st.env,heap:=upd st.heap id (some (.s sz (els.map fun el=>el.map D.ice))),fr:=st.fr,next:=st.next}:=rfl
theorem z8f(x:Value):D.ice (.v x)= .v x:=rfl
theorem z8b(els:List (List D)):D.ice (.r els)= .r els:=rfl
theorem z80(sz:Nat)(els:List (List D)):D.ice (.s sz els)= .r (fzs els):=rfl
def W4(x:X)(b:List X×Heap):List X×Heap:=(x::b.1,b.2)
theorem zxK(x:X)(xs:List X)(h:Heap):W4 x (xs,h)=(x::xs,h):=rfl
def zYS(id:Id)(xs:List X)(a:X×Heap):List X×Heap:=W4 a.1 (vW a.2 (id.1,id.2+1) xs)
theorem zxs(a b:Nat)(xs:List X)(y:X)(h:Heap):zYS (a,b) xs (y,h)=W4 y (vW h (a,b+1) xs):=rfl
theorem zQx(h:Heap)(id:Id):vW h id []=([],h):=rfl
theorem zvg(h:Heap)(id:Id)(x:X)(xs:List X):vW h id (x::xs)=zYS id xs (lB h id x):=rfl
def zYI(id:Id)(n:Nat)(xs:List X)(a:X×Heap):List X×Heap:=W4 a.1 (v7 a.2 (id.1,id.2+n) xs)
theorem zxB(a b n:Nat)(xs:List X)(y:X)(h:Heap):zYI (a,b) n xs (y,h)=W4 y (v7 h (a,b+n) xs):=rfl
theorem zyK(h:Heap)(id:Id):v7 h id []=([],h):=rfl
theorem zkV(h:Heap)(id:Id)(x:X)(xs:List X):v7 h id (x::xs)=zYI id x.cells.length xs (nF h id x):=rfl
end Go.Ev
