import Derived.Test.YtenclibcnjkamaaGreatEvRow
set_option linter.all false
namespace Go.Ev
def zWQ(id:Id)(q:Path)(j i n:Nat)(x:X):Option X:=if x.hit id q j i n then none else some x
theorem zyP(id:Id)(q:Path)(j i n:Nat)(e:Env)(t:Nat):purge id q j i n e t=(e t).bind (zWQ id q j i n):=rfl
theorem zZv(id:Id)(q:Path)(j i n:Nat)(x:X):zWQ id q j i n x=if x.hit id q j i n then none else some x:=rfl
def zKc(L:dC)(x:X):Option X:=if tF x L then none else some x
theorem zzf(L:dC)(e:Env)(t:Nat):pJ L e t=(e t).bind (zKc L):=rfl
theorem zkW(L:dC)(x:X):zKc L x=if tF x L then none else some x:=rfl
def zKL(x:X):Option X:=if x.root then some x else none
theorem zqI(e:Env)(t:Nat):oS e t=(e t).bind zKL:=rfl
theorem zwc(x:X):zKL x=if x.root then some x else none:=rfl
variable{C:Cl}{st:St}{d:Option Nat}{id:Nat}
def xE(st:St)(d:Option Nat)(a b:O)(t:Bool):Option St:=if t then(rdO st a).map (st.put d) else(rdO st b).map (st.put d)
theorem zQ8(a b:O):xE st d a b true=(rdO st a).map (st.put d):=rfl
theorem zQr(a b:O):xE st d a b false=(rdO st b).map (st.put d):=rfl
theorem zZ1(x:O):opS C st d id (.mov x)=(rdO st x).map (st.put d):=rfl
theorem zkj(c a b:O):opS C st d id (.pick c a b)=(rdB st c).bind (xE st d a b):=rfl
def zyw(st:St)(d:Option Nat)(k:IntKind)(z:Int):St:=st.put d (.d (.v (.int k z)))
def W1(st:St)(d:Option Nat)(z:Bool):St:=st.put d (.d (.v (.bool z)))
def zYk(st:St)(d:Option Nat)(z:ByteArray):St:=st.put d (.d (.v (.string z)))
theorem zQ2(k:IntKind)(z:Int):zyw st d k z=st.put d (.d (.v (.int k z))):=rfl
theorem zQB(z:Bool):W1 st d z=st.put d (.d (.v (.bool z))):=rfl
theorem zJg(z:ByteArray):zYk st d z=st.put d (.d (.v (.string z))):=rfl
def Yz(st:St)(d:Option Nat)(b:BinOp)(m n:IntKind×Int):Option St:=if m.1=n.1 then(zy7 b m.1 m.2 n.2).map (zyw st d m.1) else none
def zW9(st:St)(d:Option Nat)(b:BinOp)(y:O)(m:IntKind×Int):Option St:=(rdI st y).bind (Yz st d b m)
theorem zJA(b:BinOp)(x y:O):opS C st d id (.ari b x y)=(rdI st x).bind (zW9 st d b y):=rfl
theorem zJ7(b:BinOp)(y:O)(m:IntKind×Int):zW9 st d b y m=(rdI st y).bind (Yz st d b m):=rfl
theorem zyi(b:BinOp)(k:IntKind)(m n:Int):Yz st d b (k,m) (k,n)=(zy7 b k m n).map (zyw st d k):=by unfold Yz;rw[if_pos rfl]
def zZi(st:St)(d:Option Nat)(b:BinOp)(m n:X):Option St:=(zkf b m n).map (W1 st d)
def zWn(st:St)(d:Option Nat)(b:BinOp)(y:O)(m:X):Option St:=(rdO st y).bind (zZi st d b m)
theorem zZr(b:BinOp)(x y:O):opS C st d id (.cmp b x y)=(rdO st x).bind (zWn st d b y):=rfl
theorem zQV(b:BinOp)(y:O)(m:X):zWn st d b y m=(rdO st y).bind (zZi st d b m):=rfl
theorem zkY(b:BinOp)(m n:X):zZi st d b m n=(zkf b m n).map (W1 st d):=rfl
def Uk(st:St)(d:Option Nat)(b:BinOp)(m n:Bool):Option St:=(zwZ b m n).map (W1 st d)
def zKs(st:St)(d:Option Nat)(b:BinOp)(y:O)(m:Bool):Option St:=(rdB st y).bind (Uk st d b m)
theorem zv0(b:BinOp)(x y:O):opS C st d id (.cmpb b x y)=(rdB st x).bind (zKs st d b y):=rfl
theorem zxb(b:BinOp)(y:O)(m:Bool):zKs st d b y m=(rdB st y).bind (Uk st d b m):=rfl
theorem zjc(b:BinOp)(m n:Bool):Uk st d b m n=(zwZ b m n).map (W1 st d):=rfl
def zx6(st:St)(d:Option Nat)(a b:ByteArray):Option St:=if aI a b then some (st.put d (.d (.v (.string (a++b))))) else none
def zW8(st:St)(d:Option Nat)(y:O)(a:ByteArray):Option St:=(rdS st y).bind (zx6 st d a)
theorem zQo(x y:O):opS C st d id (.cat x y)=(rdS st x).bind (zW8 st d y):=rfl
theorem zQy(y:O)(a:ByteArray):zW8 st d y a=(rdS st y).bind (zx6 st d a):=rfl
theorem zkO{a b:ByteArray}(h:aI a b):zx6 st d a b=some (st.put d (.d (.v (.string (a++b))))):=if_pos h
def zWI(st:St)(d:Option Nat)(m:IntKind×Int):St:=st.put d (.d (.v (.int m.1 (m.1.wrap (0-m.2)))))
theorem zJN(x:O):opS C st d id (.neg x)=(rdI st x).map (zWI st d):=rfl
theorem zJc(k:IntKind)(m:Int):zWI st d (k,m)=st.put d (.d (.v (.int k (k.wrap (0-m))))):=rfl
def zWM(st:St)(d:Option Nat)(b:Bool):St:=st.put d (.d (.v (.bool !b)))
theorem zQW(x:O):opS C st d id (.not x)=(rdB st x).map (zWM st d):=rfl
theorem zZB(b:Bool):zWM st d b=st.put d (.d (.v (.bool !b))):=rfl
def zKH(st:St)(d:Option Nat)(k:IntKind)(m:IntKind×Int):St:=st.put d (.d (.v (.int k (k.wrap m.2))))
theorem zvO(k:IntKind)(x:O):opS C st d id (.conv k x)=(rdI st x).map (zKH st d k):=rfl
theorem zvG(k k':IntKind)(m:Int):zKH st d k (k',m)=st.put d (.d (.v (.int k (k.wrap m)))):=rfl
def zKk(st:St)(d:Option Nat)(m:IntKind×Int):St:=st.put d (.d (.v (.string (Utf8.encode m.2))))
theorem zv1(x:O):opS C st d id (.rune x)=(rdI st x).map (zKk st d):=rfl
theorem zyp(k:IntKind)(m:Int):zKk st d (k,m)=st.put d (.d (.v (.string (Utf8.encode m)))):=rfl
def zW2(st:St)(d:Option Nat)(s:ByteArray):Option St:=if aH 1 0 s.size then some (st.put d (.d (.r (zD s)))) else none
theorem zJn(x:O):opS C st d id (.bos x)=(rdS st x).bind (zW2 st d):=rfl
theorem zZO(s:ByteArray):zW2 st d s=if aH 1 0 s.size then some (st.put d (.d (.r (zD s)))) else none:=rfl
def V6(st:St)(d:Option Nat)(s:ByteArray)(m:IntKind×Int):Option St:=if m.1= .u8 then some (st.put d (.d (.v (.int .i64 (Lib.indexByte s.data.toList m.2.toNat.toUInt8))))) else none
def zKm(st:St)(d:Option Nat)(y:O)(s:ByteArray):Option St:=(rdI st y).bind (V6 st d s)
theorem zkN(f:Nat)(x y:O):opS C st d id (.idxb f x y)=(rdS st x).bind (zKm st d y):=rfl
theorem zyV(y:O)(s:ByteArray):zKm st d y s=(rdI st y).bind (V6 st d s):=rfl
theorem zzR(s:ByteArray)(n:Int):V6 st d s (.u8,n)=some (st.put d (.d (.v (.int .i64 (Lib.indexByte s.data.toList n.toNat.toUInt8))))):=rfl
def zyH(st:St)(d:Option Nat)(ns:List Int):Option St:=if ns.isEmpty then none else some (st.put d (.d (.v (.string (zkV ns)))))
def zW6(st:St)(d:Option Nat)(a:X):Option St:=(vX st.heap a).bind (zyH st d)
theorem zJE(x:O):opS C st d id (.sob x)=(rdO st x).bind (zW6 st d):=rfl
theorem zQA(a:X):zW6 st d a=(vX st.heap a).bind (zyH st d):=rfl
theorem zye(n:Int)(ns:List Int):zyH st d (n::ns)=some (st.put d (.d (.v (.string (zkV (n::ns)))))):=rfl
def zWE(st:St)(d:Option Nat)(off:Nat)(n:Option Nat):X→Option St
 |.agg cs=>(Wk off n cs).map (st.put d)
 |_=>none
theorem zQ5(off:Nat)(n:Option Nat)(x:O):opS C st d id (.fld off n x)=(rdO st x).bind (zWE st d off n):=by
 simp only[opS]
 congr 1
theorem zJV(off:Nat)(n:Option Nat)(cs:List X):zWE st d off n (.agg cs)=(Wk off n cs).map (st.put d):=rfl
def zw3(st:St)(d:Option Nat)(off:Nat)(a:X):Option St:=(vC off a).map (st.put d)
theorem Z8(off:Nat)(x:O):opS C st d id (.faddr off x)=(rdO st x).bind (zw3 st d off):=rfl
theorem zzi(off:Nat)(a:X):zw3 st d off a=(vC off a).map (st.put d):=rfl
def zkv(st:St)(d:Option Nat)(sz:Nat)(a:X)(n:IntKind×Int):Option St:=(Jx st.heap sz n.2 a).map (st.put d)
def zWK(st:St)(d:Option Nat)(sz:Nat)(i:O)(a:X):Option St:=(rdI st i).bind (zkv st d sz a)
theorem zQh(sz:Nat)(x i:O):opS C st d id (.ixa sz x i)=(rdO st x).bind (zWK st d sz i):=rfl
theorem zQU(sz:Nat)(i:O)(a:X):zWK st d sz i a=(rdI st i).bind (zkv st d sz a):=rfl
theorem zxz(sz:Nat)(a:X)(k:IntKind)(n:Int):zkv st d sz a (k,n)=(Jx st.heap sz n a).map (st.put d):=rfl
def zw2(st:St)(d:Option Nat)(b:UInt8):St:=st.put d (.d (.v (.int .u8 b.toNat)))
def zwK(st:St)(d:Option Nat)(s:ByteArray)(n:IntKind×Int):Option St:=if 0≤n.2 then(s[n.2.toNat]?).map (zw2 st d) else none
def zW7(st:St)(d:Option Nat)(i:O)(s:ByteArray):Option St:=(rdI st i).bind (zwK st d s)
theorem zJZ(x i:O):opS C st d id (.ixs x i)=(rdS st x).bind (zW7 st d i):=rfl
theorem zQa(i:O)(s:ByteArray):zW7 st d i s=(rdI st i).bind (zwK st d s):=rfl
theorem zxR(s:ByteArray)(k:IntKind)(n:Int):zwK st d s (k,n)=if 0≤n then(s[n.toNat]?).map (zw2 st d) else none:=rfl
theorem zZa(b:UInt8):zw2 st d b=st.put d (.d (.v (.int .u8 b.toNat))):=rfl
def Uv(st:St)(d:Option Nat)(n:Option Nat)(cs:List X):Option St:=(r7 n cs).map (st.put d)
def zKD(st:St)(d:Option Nat)(n:Option Nat)(a:X):Option St:=(m9 st.heap (n.getD 1) a).bind (Uv st d n)
theorem zyq(n:Option Nat)(x:O):opS C st d id (.load n x)=(rdO st x).bind (zKD st d n):=rfl
theorem zyl(n:Option Nat)(a:X):zKD st d n a=(m9 st.heap (n.getD 1) a).bind (Uv st d n):=rfl
theorem zqP(n:Option Nat)(cs:List X):Uv st d n cs=(r7 n cs).map (st.put d):=rfl
def zww(st:St)(id:Id)(q:Path)(j i n:Nat)(el cs:List D)(h:Heap):St:={st with heap:=h,env:=if fT ((el.drop i).take n)&&fT cs then st.env else purge id q j i n st.env}
theorem zZk(id:Id)(q:Path)(j i n:Nat)(el cs:List D)(h:Heap):zww st id q j i n el cs h={st with heap:=h,env:=if fT ((el.drop i).take n)&&fT cs then st.env else purge id q j i n st.env}:=rfl
def zvK(st:St)(id:Id)(q:Path)(j i n:Nat)(cs:List D)(h:Heap)(r:Nat×List (List D))(el:List D):Option St:=if i+n≤el.length then(h.put id q (.s r.1 (r.2.set j (setCells el i cs)))).map (zww st id q j i n el cs) else none
theorem zx5(id:Id)(q:Path)(j i n:Nat)(cs:List D)(h:Heap)(r:Nat×List (List D))(el:List D):zvK st id q j i n cs h r el=if i+n≤el.length then(h.put id q (.s r.1 (r.2.set j (setCells el i cs)))).map (zww st id q j i n el cs) else none:=rfl
def zkL(st:St)(id:Id)(q:Path)(j i n:Nat)(cs:List D)(h:Heap)(r:Nat×List (List D)):Option St:=(r.2[j]?).bind (zvK st id q j i n cs h r)
theorem zw8(id:Id)(q:Path)(j i n:Nat)(cs:List D)(h:Heap)(m:Nat)(els:List (List D)):zkL st id q j i n cs h (m,els)=(els[j]?).bind (zvK st id q j i n cs h (m,els)):=rfl
def zyQ(st:St)(id:Id)(q:Path)(j i n:Nat)(b:List D×Heap):Option St:=if b.1.length=n then(b.2.row id q).bind (zkL st id q j i n b.1 b.2) else none
theorem zkM(id:Id)(q:Path)(j i n:Nat)(cs:List D)(h:Heap):zyQ st id q j i n (cs,h)=if cs.length=n then(h.row id q).bind (zkL st id q j i n cs h) else none:=rfl
def Yj(st:St)(n:Nat)(a:X)(cs:List X):Option St:=match a with
 |.ptr id q j i=>(iX st.heap cs).bind (zyQ st id q j i n)
 |_=>none
theorem zzk(n:Nat)(a:X)(cs:List X):u9 st n a cs=Yj st n a cs:=by
 cases a<;>rfl
theorem zvL(n:Nat)(id:Id)(q:Path)(j i:Nat)(cs:List X):Yj st n (.ptr id q j i) cs=(iX st.heap cs).bind (zyQ st id q j i n):=rfl
def zyZ(d:Option Nat)(s:St):St:=s.lose d
theorem zvC(s:St):zyZ d s=s.lose d:=rfl
def Nk(st:St)(d:Option Nat)(n:Nat)(x:O)(a b:X):Option St:=(if 10000≤n then pI st (n-10000) x a b else Yj st n a b.cells).map (zyZ d)
def zxZ(st:St)(d:Option Nat)(n:Nat)(x y:O)(a:X):Option St:=(rdO st y).bind (Nk st d n x a)
theorem zj5(n:Nat)(x y:O):opS C st d id (.store n x y)=(rdO st x).bind (zxZ st d n x y):=by
 simp only[opS,zzk]
 rfl
theorem zja(n:Nat)(x y:O)(a:X):zxZ st d n x y a=(rdO st y).bind (Nk st d n x a):=rfl
theorem To(n:Nat)(x:O)(a b:X):Nk st d n x a b=(if 10000≤n then pI st (n-10000) x a b else Yj st n a b.cells).map (zyZ d):=rfl
theorem zzG(n t:Nat)(i:Id)(cs:List X):pI st n (.t t) (.ptr i [] 0 0) (.agg cs)=if st.fr=0∧cs.length=n then xN st n t i cs (st.heap i) else none:=rfl
theorem V0(n t:Nat)(i:Id)(cs:List X)(sz:Nat)(el:List D):xN st n t i cs (some (.s sz [el]))=if el.length=n then some {env:=upd st.env t (some (.vp cs)),heap:=upd st.heap i none,fr:=st.fr,next:=st.next} else none:=rfl
def zyv(st:St)(d:Option Nat)(id n:Nat)(b:List D×Heap):Option St:=if b.1.length=n then some ((st.with (upd b.2 (st.fr,id) (some (.s n [b.1])))).put d (.ptr (st.fr,id) [] 0 0)) else none
def zWY(st:St)(d:Option Nat)(id n:Nat)(a:X):Option St:=(iX st.heap a.cells).bind (zyv st d id n)
theorem zJ4(n:Nat)(x:O):opS C st d id (.box n x)=(rdO st x).bind (zWY st d id n):=rfl
theorem zJ2(n:Nat)(a:X):zWY st d id n a=(iX st.heap a.cells).bind (zyv st d id n):=rfl
theorem zkx(n:Nat)(cs:List D)(h:Heap):zyv st d id n (cs,h)=if cs.length=n then some ((st.with (upd h (st.fr,id) (some (.s n [cs])))).put d (.ptr (st.fr,id) [] 0 0)) else none:=rfl
def U7(st:St)(d:Option Nat)(n:Nat)(cs:List X):Option St:=if cs.length=n then some (st.put d (.vp cs)) else none
def zKu(st:St)(d:Option Nat)(n:Nat)(a:X):Option St:=(a.cellsV).bind (U7 st d n)
theorem zkn(n:Nat)(x:O):opS C st d id (.vbox n x)=(rdO st x).bind (zKu st d n):=rfl
theorem zkb(n:Nat)(a:X):zKu st d n a=(a.cellsV).bind (U7 st d n):=rfl
theorem zjX(n:Nat)(cs:List X):U7 st d n cs=if cs.length=n then some (st.put d (.vp cs)) else none:=rfl
def zz9(st:St)(d:Option Nat)(mx:Bool)(m n:IntKind×Int):Option St:=if m.1=n.1 then some (st.put d (.d (.v (.int m.1 (if mx then(if m.2<n.2 then n.2 else m.2) else(if n.2<m.2 then n.2 else m.2)))))) else none
def mmK(st:St)(d:Option Nat)(mx:Bool)(y:O)(m:IntKind×Int):Option St:=(rdI st y).bind (zz9 st d mx m)
theorem zVx(mx:Bool)(x y:O):opS C st d id (.mm mx x y)=(rdI st x).bind (mmK st d mx y):=rfl
theorem zWk(mx:Bool)(y:O)(m:IntKind×Int):mmK st d mx y m=(rdI st y).bind (zz9 st d mx m):=rfl
theorem zVJ(k:IntKind)(m n:Int):zz9 st d true (k,m) (k,n)=some (zyw st d k (if m<n then n else m)):=by unfold zz9;rw[if_pos rfl];rfl
theorem zK1(k:IntKind)(m n:Int):zz9 st d false (k,m) (k,n)=some (zyw st d k (if n<m then n else m)):=by unfold zz9;rw[if_pos rfl];rfl
def Y2(st:St)(d:Option Nat)(ng:Bool)(k:Nat)(cs:List X)(z:Bool):Option St:=if cs.length=k then some (st.put d (.d (.v (.bool (if ng then !z else z))))) else none
theorem zJy(k:Nat)(cs:List X)(z:Bool):Y2 st d true k cs z=if cs.length=k then some (W1 st d !z) else none:=rfl
theorem zJe(k:Nat)(cs:List X)(z:Bool):Y2 st d false k cs z=if cs.length=k then some (W1 st d z) else none:=rfl
def zvY(st:St)(d:Option Nat)(ng:Bool)(k:Nat)(cs ds:List X):Option St:=(uU cs ds).bind (Y2 st d ng k cs)
theorem zxX(ng:Bool)(k:Nat)(cs ds:List X):zvY st d ng k cs ds=(uU cs ds).bind (Y2 st d ng k cs):=rfl
def zy8(st:St)(d:Option Nat)(ng:Bool)(k:Nat)(b:X)(cs:List X):Option St:=(b.aggOf).bind (zvY st d ng k cs)
theorem zke(ng:Bool)(k:Nat)(b:X)(cs:List X):zy8 st d ng k b cs=(b.aggOf).bind (zvY st d ng k cs):=rfl
def zZg(st:St)(d:Option Nat)(ng:Bool)(k:Nat)(a b:X):Option St:=(a.aggOf).bind (zy8 st d ng k b)
theorem zyL(ng:Bool)(k:Nat)(a b:X):zZg st d ng k a b=(a.aggOf).bind (zy8 st d ng k b):=rfl
def zWS(st:St)(d:Option Nat)(ng:Bool)(k:Nat)(y:O)(a:X):Option St:=(rdO st y).bind (zZg st d ng k a)
theorem zJL(ng:Bool)(k:Nat)(x y:O):opS C st d id (.eqa ng k x y)=(rdO st x).bind (zWS st d ng k y):=rfl
theorem zQY(ng:Bool)(k:Nat)(y:O)(a:X):zWS st d ng k y a=(rdO st y).bind (zZg st d ng k a):=rfl
theorem Zp(cs:List X):X.aggOf (.agg cs)=some cs:=rfl
def zwU(m n:Int)(b:Bool):Bool:=decide (m=n)&&b
theorem zqw(m n:Int)(b:Bool):zwU m n b=(decide (m=n)&&b):=rfl
theorem Zz:uU [] []=some true:=rfl
theorem T7(k:IntKind)(m n:Int)(cs ds:List X):uU (.d (.v (.int k m))::cs) (.d (.v (.int k n))::ds)=(uU cs ds).map (zwU m n):=by rw[uU,if_pos rfl];rfl
theorem zz7(zs:List D):opS C st d id (.alloc zs)=some ((st.with (upd st.heap (st.fr,id) (some (.s zs.length [zs])))).put d (.ptr (st.fr,id) [] 0 0)):=rfl
def zWx(st:St)(d:Option Nat)(cs:List X):St:=st.put d (.agg cs)
theorem zzh(zs:List D)(ps:List (Nat×Nat×O)):opS C st d id (.build zs ps)=(lK st (zs.map .d) ps).map (zWx st d):=rfl
theorem zJW(cs:List X):zWx st d cs=st.put d (.agg cs):=rfl
def V2(st:St)(cs:List X)(off n:Nat)(ps:List (Nat×Nat×O))(us:List X):Option (List X):=if us.length=n∧off+n≤cs.length then lK st (Fg cs off us) ps else none
def zKp(st:St)(cs:List X)(off n:Nat)(ps:List (Nat×Nat×O))(x:X):Option (List X):=(x.cellsV).bind (V2 st cs off n ps)
theorem zzS(cs:List X):lK st cs []=some cs:=rfl
theorem Xi(cs:List X)(off n:Nat)(o:O)(ps:List (Nat×Nat×O)):lK st cs ((off,n,o)::ps)=(rdO st o).bind (zKp st cs off n ps):=rfl
theorem zxC(cs:List X)(off n:Nat)(ps:List (Nat×Nat×O))(x:X):zKp st cs off n ps x=(x.cellsV).bind (V2 st cs off n ps):=rfl
theorem zzm(cs:List X)(off n:Nat)(ps:List (Nat×Nat×O))(us:List X):V2 st cs off n ps us=if us.length=n∧off+n≤cs.length then lK st (Fg cs off us) ps else none:=rfl
def zWO(st:St)(d:Option Nat)(id sz:Nat)(a:List (List D)×Heap):St:=(st.with (upd a.2 (st.fr,id) (some (.s sz a.1)))).put d (.ref (st.fr,id) [])
theorem zQN(sz:Nat)(ps:List O):opS C st d id (.lit sz ps)=(eU st sz st.heap ps).map (zWO st d id sz):=rfl
theorem zJD(sz:Nat)(els:List (List D))(h:Heap):zWO st d id sz (els,h)=(st.with (upd h (st.fr,id) (some (.s sz els)))).put d (.ref (st.fr,id) []):=rfl
def zkr(ds:List D)(b:List (List D)×Heap):List (List D)×Heap:=(ds::b.1,b.2)
theorem zk6(ds:List D)(els:List (List D))(h:Heap):zkr ds (els,h)=(ds::els,h):=rfl
def zvh(st:St)(sz:Nat)(os:List O)(a:List D×Heap):Option (List (List D)×Heap):=if a.1.length=sz then(eU st sz a.2 os).map (zkr a.1) else none
theorem zyj(sz:Nat)(os:List O)(ds:List D)(h:Heap):zvh st sz os (ds,h)=if ds.length=sz then(eU st sz h os).map (zkr ds) else none:=rfl
def zWR(st:St)(sz:Nat)(h:Heap)(os:List O)(x:X):Option (List (List D)×Heap):=(iX h x.cells).bind (zvh st sz os)
theorem zJr(sz:Nat)(h:Heap)(os:List O)(x:X):zWR st sz h os x=(iX h x.cells).bind (zvh st sz os):=rfl
theorem Qk(sz:Nat)(h:Heap):eU st sz h []=some ([],h):=rfl
theorem Ny(sz:Nat)(h:Heap)(o:O)(os:List O):eU st sz h (o::os)=(rdO st o).bind (zWR st sz h os):=rfl
def mkK(st:St)(d:Option Nat)(id sz bytes:Nat)(zs:List D)(m:IntKind×Int):Option St:=if aP bytes m.2∧zs.length=sz then some ((st.with (upd st.heap (st.fr,id) (some (.s sz (List.replicate m.2.toNat zs))))).put d (.ref (st.fr,id) [])) else none
theorem zWh(sz bytes:Nat)(zs:List D)(n:O):opS C st d id (.mk sz bytes zs n)=(rdI st n).bind (mkK st d id sz bytes zs):=rfl
theorem zVQ(sz bytes:Nat)(zs:List D)(k:IntKind)(n:Int):mkK st d id sz bytes zs (k,n)=if aP bytes n∧zs.length=sz then some ((st.with (upd st.heap (st.fr,id) (some (.s sz (List.replicate n.toNat zs))))).put d (.ref (st.fr,id) [])) else none:=rfl
def Uq(st:St)(d:Option Nat)(sz:Nat)(els:List (List D))(l h:Int):Option St:=if 0≤l∧l≤h∧h≤(els.length:Int)∧els.all (fun el=>el.length==sz)=true then some (st.put d (.d (.r ((els.take h.toNat).drop l.toNat)))) else none
def Wb(st:St)(d:Option Nat)(sz:Nat)(els:List (List D))(hi:Option O)(l:Int):Option St:=(bV st (els.length:Int) hi).bind (Uq st d sz els l)
def zKx(st:St)(d:Option Nat)(sz:Nat)(lo hi:Option O):X→Option St
 |.d (.r els)=>(bV st 0 lo).bind (Wb st d sz els hi)
 |_=>none
theorem zxS(sz:Nat)(x:O)(lo hi:Option O):opS C st d id (.cutr sz x lo hi)=(rdO st x).bind (zKx st d sz lo hi):=by
 simp only[opS]
 congr 1
theorem zxf(sz:Nat)(lo hi:Option O)(els:List (List D)):zKx st d sz lo hi (.d (.r els))=(bV st 0 lo).bind (Wb st d sz els hi):=rfl
theorem zze(sz:Nat)(els:List (List D))(hi:Option O)(l:Int):Wb st d sz els hi l=(bV st (els.length:Int) hi).bind (Uq st d sz els l):=rfl
theorem zqT(sz:Nat)(els:List (List D))(l h:Int):Uq st d sz els l h=if 0≤l∧l≤h∧h≤(els.length:Int)∧els.all (fun el=>el.length==sz)=true then some (st.put d (.d (.r ((els.take h.toNat).drop l.toNat)))) else none:=rfl
def V4(st:St)(d:Option Nat)(id sz:Nat)(l:Int)(els:List (List D))(hp:Heap)(h:Int):Option St:=if 0≤l∧l≤h∧h≤(els.length:Int)∧(l=0∨l<h) then some ((st.with (upd hp (st.fr,id) (some (.s sz ((els.take h.toNat).drop l.toNat))))).put d (.ref (st.fr,id) [])) else none
def W2(st:St)(d:Option Nat)(id sz:Nat)(hi:Option O)(l:Int)(m:List (List D)×Heap):Option St:=(bV st (m.1.length:Int) hi).bind (V4 st d id sz l m.1 m.2)
def Te(st:St)(d:Option Nat)(id sz:Nat)(hi:Option O)(a:X)(l:Int):Option St:=(iR st.heap sz a).bind (W2 st d id sz hi l)
def zKr(st:St)(d:Option Nat)(id sz:Nat)(lo hi:Option O)(a:X):Option St:=(bV st 0 lo).bind (Te st d id sz hi a)
theorem zyx(sz:Nat)(x:O)(lo hi:Option O):opS C st d id (.cutm sz x lo hi)=(rdO st x).bind (zKr st d id sz lo hi):=rfl
theorem zkI(sz:Nat)(lo hi:Option O)(a:X):zKr st d id sz lo hi a=(bV st 0 lo).bind (Te st d id sz hi a):=rfl
theorem zjQ(sz:Nat)(hi:Option O)(a:X)(l:Int):Te st d id sz hi a l=(iR st.heap sz a).bind (W2 st d id sz hi l):=rfl
theorem zqG(sz:Nat)(hi:Option O)(l:Int)(els:List (List D))(hp:Heap):W2 st d id sz hi l (els,hp)=(bV st (els.length:Int) hi).bind (V4 st d id sz l els hp):=rfl
theorem Zs(sz:Nat)(l:Int)(els:List (List D))(hp:Heap)(h:Int):V4 st d id sz l els hp h=if 0≤l∧l≤h∧h≤(els.length:Int)∧(l=0∨l<h) then some ((st.with (upd hp (st.fr,id) (some (.s sz ((els.take h.toNat).drop l.toNat))))).put d (.ref (st.fr,id) [])) else none:=rfl
def Xe(st:St)(d:Option Nat)(s:ByteArray)(l h:Int):Option St:=if 0≤l∧l≤h∧h≤(s.size:Int) then some (st.put d (.d (.v (.string (s.extract l.toNat h.toNat))))) else none
def Vx(st:St)(d:Option Nat)(s:ByteArray)(hi:Option O)(l:Int):Option St:=(bV st (s.size:Int) hi).bind (Xe st d s l)
def zKn(st:St)(d:Option Nat)(lo hi:Option O)(s:ByteArray):Option St:=(bV st 0 lo).bind (Vx st d s hi)
theorem zk0(x:O)(lo hi:Option O):opS C st d id (.cutS x lo hi)=(rdS st x).bind (zKn st d lo hi):=rfl
theorem zk7(lo hi:Option O)(s:ByteArray):zKn st d lo hi s=(bV st 0 lo).bind (Vx st d s hi):=rfl
theorem zjB(s:ByteArray)(hi:Option O)(l:Int):Vx st d s hi l=(bV st (s.size:Int) hi).bind (Xe st d s l):=rfl
theorem zjf(s:ByteArray)(l h:Int):Xe st d s l h=if 0≤l∧l≤h∧h≤(s.size:Int) then some (st.put d (.d (.v (.string (s.extract l.toNat h.toNat))))) else none:=rfl
def zZc(st:St)(d:Option Nat)(n:Nat):St:=st.put d (.d (.v (.int .i64 (n:Int))))
def zWJ(st:St)(d:Option Nat)(a:X):Option St:=(I3 st.heap a).map (zZc st d)
theorem zQu(x:O):opS C st d id (.len x)=(rdO st x).bind (zWJ st d):=rfl
theorem zZD(a:X):zWJ st d a=(I3 st.heap a).map (zZc st d):=rfl
theorem zv6(n:Nat):zZc st d n=st.put d (.d (.v (.int .i64 (n:Int)))):=rfl
def zKB(st:St)(d:Option Nat)(s:ByteArray):St:=st.put d (.d (.v (.int .i64 (s.size:Int))))
theorem zvj(x:O):opS C st d id (.slen x)=(rdS st x).map (zKB st d):=rfl
theorem zxi(s:ByteArray):zKB st d s=st.put d (.d (.v (.int .i64 (s.size:Int)))):=rfl
def zvs(st:St)(d:Option Nat)(id sz bytes:Nat)(l:List (List D))(m:List (List D)×Heap):Option St:=if aH bytes l.length m.1.length∧m.1.all (fun el=>el.length==sz) then some ((st.with (upd m.2 (st.fr,id) (some (.s sz (l++m.1))))).put d (.ref (st.fr,id) [])) else none
def zxm(st:St)(d:Option Nat)(id sz bytes:Nat)(b:X)(l:List (List D)×Heap):Option St:=(nN l.2 b).bind (zvs st d id sz bytes l.1)
def zy4(st:St)(d:Option Nat)(id sz bytes:Nat)(a b:X):Option St:=(iR st.heap sz a).bind (zxm st d id sz bytes b)
def zWN(st:St)(d:Option Nat)(id sz bytes:Nat)(y:O)(a:X):Option St:=(rdO st y).bind (zy4 st d id sz bytes a)
theorem zZC(sz bytes:Nat)(x y:O):opS C st d id (.app sz bytes x y)=(rdO st x).bind (zWN st d id sz bytes y):=rfl
theorem zZq(sz bytes:Nat)(y:O)(a:X):zWN st d id sz bytes y a=(rdO st y).bind (zy4 st d id sz bytes a):=rfl
theorem zxr(sz bytes:Nat)(a b:X):zy4 st d id sz bytes a b=(iR st.heap sz a).bind (zxm st d id sz bytes b):=rfl
theorem zkm(sz bytes:Nat)(b:X)(l:List (List D))(h:Heap):zxm st d id sz bytes b (l,h)=(nN h b).bind (zvs st d id sz bytes l):=rfl
theorem zwC(sz bytes:Nat)(l m:List (List D))(h:Heap):zvs st d id sz bytes l (m,h)=if aH bytes l.length m.length∧m.all (fun el=>el.length==sz) then some ((st.with (upd h (st.fr,id) (some (.s sz (l++m))))).put d (.ref (st.fr,id) [])) else none:=rfl
def fnK(st:St)(d:Option Nat)(f:Nat)(xs:List X):St:=st.put d (if xs.isEmpty then .d (.v (.func (.func f) #[] #[])) else .clo f xs)
theorem zKP(f:Nat)(caps:List O):opS C st d id (.fn f caps)=(l9 st caps).map (fnK st d f):=rfl
theorem fnK_eq(f:Nat)(xs:List X):fnK st d f xs=st.put d (if xs.isEmpty then .d (.v (.func (.func f) #[] #[])) else .clo f xs):=rfl
def Zc(st:St)(d:Option Nat)(id:Nat)(h:Heap)(x:X):Option St:=j4 st d id x h
theorem zyt(h:Heap)(x:X):Zc st d id h x=if x.ncells≤32 then some ((st.with (sF h (st.fr,id) x).2).put d (sF h (st.fr,id) x).1) else none:=rfl
def W5(st:St)(d:Option Nat)(id:Nat)(as:List X)(r:X):Option St:=if i7 as||r.noR then j4 st d id r st.heap else none
def Tw(C:Cl)(st:St)(d:Option Nat)(id f:Nat)(as bs:List X):Option St:=(C.iso f bs).bind (W5 st d id as)
def zKJ(C:Cl)(st:St)(d:Option Nat)(id f:Nat)(as:List X):Option St:=(mJ st.heap as).bind (Tw C st d id f as)
theorem zvd(f:Nat)(xs:List O):opS C st d id (.call f xs)=(l9 st xs).bind (zKJ C st d id f):=rfl
theorem zZb(f:Nat)(as:List X):zKJ C st d id f as=(mJ st.heap as).bind (Tw C st d id f as):=rfl
theorem Z5(f:Nat)(as bs:List X):Tw C st d id f as bs=(C.iso f bs).bind (W5 st d id as):=rfl
theorem Zw(as:List X)(r:X):W5 st d id as r=if i7 as||r.noR then Zc st d id st.heap r else none:=rfl
def Mn(st:St)(d:Option Nat)(as:List X)(r:X):Option St:=if i7 as||r.noR then some (st.put d r.frz) else none
def Mr(C:Cl)(st:St)(d:Option Nat)(f:Nat)(as bs:List X):Option St:=(C.iso f bs).bind (Mn st d as)
def zka(C:Cl)(st:St)(d:Option Nat)(f:Nat)(as:List X):Option St:=(mJ st.heap as).bind (Mr C st d f as)
theorem zzu(f:Nat)(xs:List O):opS C st d id (.callr f xs)=(l9 st xs).bind (zka C st d f):=rfl
theorem zql(f:Nat)(as:List X):zka C st d f as=(mJ st.heap as).bind (Mr C st d f as):=rfl
theorem Tg(f:Nat)(as bs:List X):Mr C st d f as bs=(C.iso f bs).bind (Mn st d as):=rfl
theorem T4(as:List X)(r:X):Mn st d as r=if i7 as||r.noR then some (st.put d r.frz) else none:=rfl
def Lz(st:St)(d:Option Nat)(id:Nat)(r:X×Heap):Option St:=j4 {st with env:=oS st.env} d id r.1 r.2
def Mw(C:Cl)(st:St)(d:Option Nat)(id:Nat)(g:Nat×List X)(as:List X):Option St:=(C g.1 (as++g.2) st.heap (st.fr+1)).bind (Lz st d id)
def Nc(C:Cl)(st:St)(d:Option Nat)(id:Nat)(xs:List O)(g:Nat×List X):Option St:=(l9 st xs).bind (Mw C st d id g)
def zvJ(C:Cl)(st:St)(d:Option Nat)(id:Nat)(xs:List O)(c:X):Option St:=(Av c).bind (Nc C st d id xs)
theorem zjJ(f:O)(xs:List O):opS C st d id (.calli f xs)=(rdO st f).bind (zvJ C st d id xs):=rfl
theorem zq5(xs:List O)(c:X):zvJ C st d id xs c=(Av c).bind (Nc C st d id xs):=rfl
theorem T8(xs:List O)(g:Nat×List X):Nc C st d id xs g=(l9 st xs).bind (Mw C st d id g):=rfl
theorem V5(f:Nat)(caps as:List X):Mw C st d id (f,caps) as=(C f (as++caps) st.heap (st.fr+1)).bind (Lz st d id):=rfl
theorem Tz(r:X)(h:Heap):Lz st d id (r,h)=Zc {st with env:=oS st.env} d id h r:=rfl
def Nf(st:St)(d:Option Nat)(id:Nat)(L:dC)(r:X)(h2:Heap):Option St:=j4 {st with env:=pJ L st.env} d id r h2
def Em(st:St)(d:Option Nat)(id:Nat)(as:List X)(bs:List Bool)(h:Heap)(L:dC)(r:X×Heap):Option St :=
 if (qB L&&r.1.noP&&(roF as bs||(r.1.noR&&Ro r.2 0 L)))=true then(wZ h r.2 0 L).bind (Nf st d id L r.1) else none
def Ej(C:Cl)(st:St)(d:Option Nat)(id f:Nat)(as:List X)(bs:List Bool)(h:Heap)(L:dC)(ys:List X):Option St:=(C.give f ys (yQ 0 L) 1).bind (Em st d id as bs h L)
def zKv(a:D×Heap):X×Heap:=(.d a.1,a.2)
theorem zx3(d:D)(h:Heap):zKv (d,h)=(.d d,h):=rfl
theorem zqN(h:Heap)(id:Id)(p:Path):yD h (.ref id p)=(h.take id p).map zKv:=rfl
theorem zQs(h:Heap)(x:D):yD h (.d x)=some (.d x,h):=rfl
theorem zjW(h:Heap)(x:List X):yD h (.agg x)=some (.agg x,h):=rfl
theorem zjz(h:Heap)(x:List X):yD h (.tup x)=some (.tup x,h):=rfl
def Wq(st:St)(d:Option Nat)(id:Nat)(as:List X)(bs:List Bool)(h:Heap)(L:dC)(r:X×Heap):Option St:=(yD r.2 r.1).bind (Em st d id as bs h L)
theorem zq3(st:St)(d:Option Nat)(id:Nat)(as:List X)(bs:List Bool)(h:Heap)(L:dC)(r:X)(hB:Heap):Wq st d id as bs h L (r,hB)=(yD hB r).bind (Em st d id as bs h L):=rfl
def Mo(C:Cl)(st:St)(d:Option Nat)(id f:Nat)(as:List X)(bs:List Bool)(m:List X×Heap×dC):Option St:=(nD m.2.1 m.1 bs).bind (Ej C st d id f as bs m.2.1 m.2.2)
def zw6(C:Cl)(st:St)(d:Option Nat)(id f:Nat)(bs:List Bool)(as:List X):Option St:=(pW st.heap 0 as bs).bind (Mo C st d id f as bs)
theorem zj3(f:Nat)(xs:List O)(bs:List Bool):opS C st d id (.callb f xs bs)=(l9 st xs).bind (zw6 C st d id f bs):=rfl
theorem zjj(f:Nat)(bs:List Bool)(as:List X):zw6 C st d id f bs as=(pW st.heap 0 as bs).bind (Mo C st d id f as bs):=rfl
theorem Ug(f:Nat)(as:List X)(bs:List Bool)(xs:List X)(h:Heap)(L:dC):Mo C st d id f as bs (xs,h,L)=(nD h xs bs).bind (Ej C st d id f as bs h L):=rfl
theorem Th(f:Nat)(as:List X)(bs:List Bool)(h:Heap)(L:dC)(ys:List X):Ej C st d id f as bs h L ys=(C f ys (yQ 0 L) 1).bind (Wq st d id as bs h L):=by unfold Ej Cl.give Wq;rw[Option.bind_assoc]
theorem T3(as:List X)(bs:List Bool)(h:Heap)(L:dC)(r:X)(hB:Heap):Em st d id as bs h L (r,hB)=if (qB L&&r.noP&&(roF as bs||(r.noR&&Ro hB 0 L)))=true then(wZ h hB 0 L).bind (Nf st d id L r) else none:=rfl
theorem Xg(L:dC)(r:X)(h2:Heap):Nf st d id L r h2=Zc {st with env:=pJ L st.env} d id h2 r:=rfl
def zWy(st:St)(d:Option Nat)(i:Nat):X→Option St
 |.tup cs=>(cs[i]?).map (st.put d)
 |_=>none
theorem zJh(x:O)(i:Nat):opS C st d id (.ext x i)=(rdO st x).bind (zWy st d i):=by
 simp only[opS]
 congr 1
theorem zZs(i:Nat)(cs:List X):zWy st d i (.tup cs)=(cs[i]?).map (st.put d):=rfl
def zWq(st:St)(d:Option Nat)(a:X):Option St:=(uA a).map (st.put d)
theorem zZZ(x:O):opS C st d id (.nck x)=(rdO st x).bind (zWq st d):=rfl
theorem zJo(a:X):zWq st d a=(uA a).map (st.put d):=rfl
def zKy(r:Nat×List (List D)):X:= .d (.r (fzs r.2))
theorem zwv(sz:Nat)(e:List (List D)):zKy (sz,e)= .d (.r (fzs e)):=rfl
def zWZ(a:D×Heap):X×Heap:=(.d a.1,a.2)
theorem zQE(d:D)(h:Heap):zWZ (d,h)=(.d d,h):=rfl
def zKa(a:List X×Heap):X×Heap:=(.agg a.1,a.2)
theorem zvl(d:List X)(h:Heap):zKa (d,h)=(.agg d,h):=rfl
def zKT(y:X)(i:Id)(p:Path)(a:D×Heap):X×Heap×dC:=(y,a.2,[(i,p,a.1)])
theorem zZ4(y:X)(i:Id)(p:Path)(d:D)(h:Heap):zKT y i p (d,h)=(y,h,[(i,p,d)]):=rfl
def zKE(a:List X×Heap×dC):X×Heap×dC:=(.agg a.1,a.2)
theorem zq9(d:List X)(h:Heap)(L:dC):zKE (d,h,L)=(.agg d,h,L):=rfl
theorem zqE(c:D):X.cells (.d c)=[(.d c)]:=rfl
theorem Qd(cs:List X):X.cells (.agg cs)=cs:=rfl
theorem Pv(cs:List X):X.cells (.tup cs)=[(.tup cs)]:=rfl
theorem Pl(i:Id)(p:Path):X.cells (.ref i p)=[(.ref i p)]:=rfl
theorem Sn(i:Id)(p:Path)(j k:Nat):X.cells (.ptr i p j k)=[(.ptr i p j k)]:=rfl
theorem Qa(ds:List D):X.cells (.rop ds)=[(.rop ds)]:=rfl
theorem Wx(cs:List X):X.cells (.vp cs)=[(.vp cs)]:=rfl
theorem Qm(f:Nat)(cs:List X):X.cells (.clo f cs)=[(.clo f cs)]:=rfl
theorem Wr(c:D):X.cellsV (.d c)=some [(.d c)]:=rfl
theorem Nz(cs:List X):X.cellsV (.agg cs)=some cs:=rfl
theorem L0(cs:List X):X.cellsV (.tup cs)=none:=rfl
theorem N8(i:Id)(p:Path):X.cellsV (.ref i p)=some [(.ref i p)]:=rfl
theorem N9(i:Id)(p:Path)(j k:Nat):X.cellsV (.ptr i p j k)=some [(.ptr i p j k)]:=rfl
theorem Mi(ds:List D):X.cellsV (.rop ds)=some [(.rop ds)]:=rfl
theorem Ov(cs:List X):X.cellsV (.vp cs)=some [(.vp cs)]:=rfl
theorem Mt(f:Nat)(cs:List X):X.cellsV (.clo f cs)=some [(.clo f cs)]:=rfl
theorem zyS(id:Id)(q:Path)(a b n:Nat)(c:D):X.hitC id q a b n (.d c)=false:=rfl
theorem Ub(id:Id)(q:Path)(a b n:Nat)(cs:List X):X.hitC id q a b n (.agg cs)=true:=rfl
theorem Wt(id:Id)(q:Path)(a b n:Nat)(cs:List X):X.hitC id q a b n (.tup cs)=true:=rfl
theorem Ux(id:Id)(q:Path)(a b n:Nat)(i:Id)(p:Path):X.hitC id q a b n (.ref i p)=(i==id&&Path.under q a b n p):=rfl
theorem Vq(id:Id)(q:Path)(a b n:Nat)(i:Id)(p:Path)(j k:Nat):X.hitC id q a b n (.ptr i p j k)=(i==id&&Path.under q a b n p):=rfl
theorem Uy(id:Id)(q:Path)(a b n:Nat)(ds:List D):X.hitC id q a b n (.rop ds)=false:=rfl
theorem zzF(id:Id)(q:Path)(a b n:Nat)(cs:List X):X.hitC id q a b n (.vp cs)=true:=rfl
theorem Tr(id:Id)(q:Path)(a b n:Nat)(f:Nat)(cs:List X):X.hitC id q a b n (.clo f cs)=true:=rfl
theorem zQP(id:Id)(q:Path)(a b n:Nat)(c:D):X.hit id q a b n (.d c)=X.hitC id q a b n (.d c):=rfl
theorem zqZ(id:Id)(q:Path)(a b n:Nat)(cs:List X):X.hit id q a b n (.agg cs)=Pu id q a b n cs:=rfl
theorem zzc(id:Id)(q:Path)(a b n:Nat)(cs:List X):X.hit id q a b n (.tup cs)=true:=rfl
theorem zzb(id:Id)(q:Path)(a b n:Nat)(i:Id)(p:Path):X.hit id q a b n (.ref i p)=X.hitC id q a b n (.ref i p):=rfl
theorem zzl(id:Id)(q:Path)(a b n:Nat)(i:Id)(p:Path)(j k:Nat):X.hit id q a b n (.ptr i p j k)=X.hitC id q a b n (.ptr i p j k):=rfl
theorem zjt(id:Id)(q:Path)(a b n:Nat)(ds:List D):X.hit id q a b n (.rop ds)=X.hitC id q a b n (.rop ds):=rfl
theorem zvN(id:Id)(q:Path)(a b n:Nat)(cs:List X):X.hit id q a b n (.vp cs)=Pu id q a b n cs:=rfl
theorem zzX(id:Id)(q:Path)(a b n:Nat)(f:Nat)(cs:List X):X.hit id q a b n (.clo f cs)=X.hitC id q a b n (.clo f cs):=rfl
theorem zjF(c:D):X.rootC (.d c)=true:=rfl
theorem Qr(cs:List X):X.rootC (.agg cs)=false:=rfl
theorem Pd(cs:List X):X.rootC (.tup cs)=false:=rfl
theorem Q4(i:Id)(p:Path):X.rootC (.ref i p)=p.isEmpty:=rfl
theorem Qb(i:Id)(p:Path)(j k:Nat):X.rootC (.ptr i p j k)=p.isEmpty:=rfl
theorem Pz(ds:List D):X.rootC (.rop ds)=true:=rfl
theorem Vp(cs:List X):X.rootC (.vp cs)=false:=rfl
theorem Oi(f:Nat)(cs:List X):X.rootC (.clo f cs)=false:=rfl
theorem zxW(c:D):X.root (.d c)=X.rootC (.d c):=rfl
theorem Td(cs:List X):X.root (.agg cs)=xK cs:=rfl
theorem T6(cs:List X):X.root (.tup cs)=X.rootC (.tup cs):=rfl
theorem Tk(i:Id)(p:Path):X.root (.ref i p)=X.rootC (.ref i p):=rfl
theorem Vh(i:Id)(p:Path)(j k:Nat):X.root (.ptr i p j k)=X.rootC (.ptr i p j k):=rfl
theorem We(ds:List D):X.root (.rop ds)=X.rootC (.rop ds):=rfl
theorem zz8(cs:List X):X.root (.vp cs)=xK cs:=rfl
theorem W6(f:Nat)(cs:List X):X.root (.clo f cs)=xK cs:=rfl
theorem zZU(id:Id)(q:Path)(c:D):X.inC id q (.d c)=false:=rfl
theorem zjh(id:Id)(q:Path)(cs:List X):X.inC id q (.agg cs)=true:=rfl
theorem Zr(id:Id)(q:Path)(cs:List X):X.inC id q (.tup cs)=true:=rfl
theorem zqg(id:Id)(q:Path)(i:Id)(p:Path):X.inC id q (.ref i p)=(decide (i=id)&&q.isPrefixOf p&& !decide (p=q)):=rfl
theorem zzO(id:Id)(q:Path)(i:Id)(p:Path)(j k:Nat):X.inC id q (.ptr i p j k)=(decide (i=id)&&q.isPrefixOf p&& !decide (p=q)):=rfl
theorem zqy(id:Id)(q:Path)(ds:List D):X.inC id q (.rop ds)=false:=rfl
theorem zxI(id:Id)(q:Path)(cs:List X):X.inC id q (.vp cs)=true:=rfl
theorem zqn(id:Id)(q:Path)(f:Nat)(cs:List X):X.inC id q (.clo f cs)=true:=rfl
theorem zJU(id:Id)(q:Path)(c:D):X.inV id q (.d c)=X.inC id q (.d c):=rfl
theorem zjn(id:Id)(q:Path)(cs:List X):X.inV id q (.agg cs)=inL id q cs:=rfl
theorem zjO(id:Id)(q:Path)(cs:List X):X.inV id q (.tup cs)=X.inC id q (.tup cs):=rfl
theorem zzB(id:Id)(q:Path)(i:Id)(p:Path):X.inV id q (.ref i p)=X.inC id q (.ref i p):=rfl
theorem zqC(id:Id)(q:Path)(i:Id)(p:Path)(j k:Nat):X.inV id q (.ptr i p j k)=X.inC id q (.ptr i p j k):=rfl
theorem zqx(id:Id)(q:Path)(ds:List D):X.inV id q (.rop ds)=X.inC id q (.rop ds):=rfl
theorem zxY(id:Id)(q:Path)(cs:List X):X.inV id q (.vp cs)=inL id q cs:=rfl
theorem zzE(id:Id)(q:Path)(f:Nat)(cs:List X):X.inV id q (.clo f cs)=inL id q cs:=rfl
theorem zQS(c:D):X.roC (.d c)=true:=rfl
theorem zqi(cs:List X):X.roC (.agg cs)=false:=rfl
theorem Zo(cs:List X):X.roC (.tup cs)=false:=rfl
theorem zjG(i:Id)(p:Path):X.roC (.ref i p)=false:=rfl
theorem zj7(i:Id)(p:Path)(j k:Nat):X.roC (.ptr i p j k)=false:=rfl
theorem zjw(ds:List D):X.roC (.rop ds)=false:=rfl
theorem zvo(cs:List X):X.roC (.vp cs)=false:=rfl
theorem zqO(f:Nat)(cs:List X):X.roC (.clo f cs)=false:=rfl
theorem zZJ(c:D):X.roV (.d c)=X.roC (.d c):=rfl
theorem zje(cs:List X):X.roV (.agg cs)=Au cs:=rfl
theorem zzp(cs:List X):X.roV (.tup cs)=X.roC (.tup cs):=rfl
theorem zzr(i:Id)(p:Path):X.roV (.ref i p)=X.roC (.ref i p):=rfl
theorem zjY(i:Id)(p:Path)(j k:Nat):X.roV (.ptr i p j k)=X.roC (.ptr i p j k):=rfl
theorem zqb(ds:List D):X.roV (.rop ds)=X.roC (.rop ds):=rfl
theorem zyO(cs:List X):X.roV (.vp cs)=X.roC (.vp cs):=rfl
theorem zzW(f:Nat)(cs:List X):X.roV (.clo f cs)=X.roC (.clo f cs):=rfl
theorem zZK(c:D):X.noP (.d c)=X.roV (.d c):=rfl
theorem Z9(cs:List X):X.noP (.agg cs)=X.roV (.agg cs):=rfl
theorem zz0(cs:List X):X.noP (.tup cs)=i7 cs:=rfl
theorem zzT(i:Id)(p:Path):X.noP (.ref i p)=X.roV (.ref i p):=rfl
theorem zj9(i:Id)(p:Path)(j k:Nat):X.noP (.ptr i p j k)=X.roV (.ptr i p j k):=rfl
theorem zjq(ds:List D):X.noP (.rop ds)=X.roV (.rop ds):=rfl
theorem zxc(cs:List X):X.noP (.vp cs)=X.roV (.vp cs):=rfl
theorem zqd(f:Nat)(cs:List X):X.noP (.clo f cs)=X.roV (.clo f cs):=rfl
theorem zwa(c:D):X.noRC (.d c)=c.noR:=rfl
theorem Vn(cs:List X):X.noRC (.agg cs)=false:=rfl
theorem Uo(cs:List X):X.noRC (.tup cs)=false:=rfl
theorem W3(i:Id)(p:Path):X.noRC (.ref i p)=false:=rfl
theorem Vm(i:Id)(p:Path)(j k:Nat):X.noRC (.ptr i p j k)=false:=rfl
theorem Tt(ds:List D):X.noRC (.rop ds)=false:=rfl
theorem zzq(cs:List X):X.noRC (.vp cs)=false:=rfl
theorem T5(f:Nat)(cs:List X):X.noRC (.clo f cs)=false:=rfl
theorem zwM(c:D):X.noRV (.d c)=X.noRC (.d c):=rfl
theorem Ws(cs:List X):X.noRV (.agg cs)=zwr cs:=rfl
theorem V7(cs:List X):X.noRV (.tup cs)=X.noRC (.tup cs):=rfl
theorem Vw(i:Id)(p:Path):X.noRV (.ref i p)=X.noRC (.ref i p):=rfl
theorem U5(i:Id)(p:Path)(j k:Nat):X.noRV (.ptr i p j k)=X.noRC (.ptr i p j k):=rfl
theorem Ve(ds:List D):X.noRV (.rop ds)=X.noRC (.rop ds):=rfl
theorem zq6(cs:List X):X.noRV (.vp cs)=X.noRC (.vp cs):=rfl
theorem Wj(f:Nat)(cs:List X):X.noRV (.clo f cs)=X.noRC (.clo f cs):=rfl
theorem zJf(c:D):X.noR (.d c)=X.noRV (.d c):=rfl
theorem Z1(cs:List X):X.noR (.agg cs)=X.noRV (.agg cs):=rfl
theorem zzY(cs:List X):X.noR (.tup cs)=zjs cs:=rfl
theorem Z6(i:Id)(p:Path):X.noR (.ref i p)=X.noRV (.ref i p):=rfl
theorem zzH(i:Id)(p:Path)(j k:Nat):X.noR (.ptr i p j k)=X.noRV (.ptr i p j k):=rfl
theorem zjg(ds:List D):X.noR (.rop ds)=X.noRV (.rop ds):=rfl
theorem zxh(cs:List X):X.noR (.vp cs)=X.noRV (.vp cs):=rfl
theorem zqo(f:Nat)(cs:List X):X.noR (.clo f cs)=X.noRV (.clo f cs):=rfl
theorem zz1(x:Value):X.frzC (.d (.v x))=(.d (.v x)):=rfl
theorem zqq(e:List (List D)):X.frzC (.d (.r e))=(.d (.r e)):=rfl
theorem zzd:X.frzC (.d .u)=(.d .u):=rfl
theorem Z4(sz:Nat)(e:List (List D)):X.frzC (.d (.s sz e))= .d (.r (fzs e)):=rfl
theorem T0(cs:List X):X.frzC (.agg cs)=(.agg cs):=rfl
theorem W8(cs:List X):X.frzC (.tup cs)=(.tup cs):=rfl
theorem Vj(i:Id)(p:Path):X.frzC (.ref i p)=(.ref i p):=rfl
theorem Us(i:Id)(p:Path)(j k:Nat):X.frzC (.ptr i p j k)=(.ptr i p j k):=rfl
theorem Vl(ds:List D):X.frzC (.rop ds)=(.rop ds):=rfl
theorem zqa(cs:List X):X.frzC (.vp cs)=(.vp cs):=rfl
theorem S8(f:Nat)(cs:List X):X.frzC (.clo f cs)=(.clo f cs):=rfl
theorem zxd(c:D):X.frzV (.d c)=X.frzC (.d c):=rfl
theorem Wy(cs:List X):X.frzV (.agg cs)= .agg (Iq cs):=rfl
theorem Vs(cs:List X):X.frzV (.tup cs)=X.frzC (.tup cs):=rfl
theorem Vu(i:Id)(p:Path):X.frzV (.ref i p)=X.frzC (.ref i p):=rfl
theorem Ur(i:Id)(p:Path)(j k:Nat):X.frzV (.ptr i p j k)=X.frzC (.ptr i p j k):=rfl
theorem Vt(ds:List D):X.frzV (.rop ds)=X.frzC (.rop ds):=rfl
theorem zzU(cs:List X):X.frzV (.vp cs)=X.frzC (.vp cs):=rfl
theorem Tq(f:Nat)(cs:List X):X.frzV (.clo f cs)=X.frzC (.clo f cs):=rfl
theorem zZz(c:D):X.frz (.d c)=X.frzV (.d c):=rfl
theorem zqe(cs:List X):X.frz (.agg cs)=X.frzV (.agg cs):=rfl
theorem zzM(cs:List X):X.frz (.tup cs)= .tup (J7 cs):=rfl
theorem zqB(i:Id)(p:Path):X.frz (.ref i p)=X.frzV (.ref i p):=rfl
theorem zjx(i:Id)(p:Path)(j k:Nat):X.frz (.ptr i p j k)=X.frzV (.ptr i p j k):=rfl
theorem zqc(ds:List D):X.frz (.rop ds)=X.frzV (.rop ds):=rfl
theorem zwe(cs:List X):X.frz (.vp cs)=X.frzV (.vp cs):=rfl
theorem zzx(f:Nat)(cs:List X):X.frz (.clo f cs)=X.frzV (.clo f cs):=rfl
theorem zv8(c:D):X.flat (.d c)=true:=rfl
theorem W7(cs:List X):X.flat (.agg cs)=false:=rfl
theorem Xk(cs:List X):X.flat (.tup cs)=false:=rfl
theorem Vk(i:Id)(p:Path):X.flat (.ref i p)=true:=rfl
theorem Xh(i:Id)(p:Path)(j k:Nat):X.flat (.ptr i p j k)=true:=rfl
theorem Ta(ds:List D):X.flat (.rop ds)=true:=rfl
theorem zqh(cs:List X):X.flat (.vp cs)=false:=rfl
theorem Tu(f:Nat)(cs:List X):X.flat (.clo f cs)=false:=rfl
theorem zqY(c:D):X.keeps (.d c)=true:=rfl
theorem Rh(cs:List X):X.keeps (.agg cs)=cs.all X.flat:=rfl
theorem Q3(cs:List X):X.keeps (.tup cs)=false:=rfl
theorem O2(i:Id)(p:Path):X.keeps (.ref i p)=true:=rfl
theorem Pp(i:Id)(p:Path)(j k:Nat):X.keeps (.ptr i p j k)=true:=rfl
theorem Rb(ds:List D):X.keeps (.rop ds)=true:=rfl
theorem Wl(cs:List X):X.keeps (.vp cs)=cs.all X.flat:=rfl
theorem P6(f:Nat)(cs:List X):X.keeps (.clo f cs)=cs.all X.flat:=rfl
theorem zv5(fr:Nat)(c:D):X.offC fr (.d c)=[]:=rfl
theorem Ts(fr:Nat)(cs:List X):X.offC fr (.agg cs)=[]:=rfl
theorem Tn(fr:Nat)(cs:List X):X.offC fr (.tup cs)=[]:=rfl
theorem Wo(fr:Nat)(i:Id)(p:Path):X.offC fr (.ref i p)=if i.1=fr then [i.2] else []:=rfl
theorem Xl(fr:Nat)(i:Id)(p:Path)(j k:Nat):X.offC fr (.ptr i p j k)=if i.1=fr then [i.2] else []:=rfl
theorem Wa(fr:Nat)(ds:List D):X.offC fr (.rop ds)=[]:=rfl
theorem zq1(fr:Nat)(cs:List X):X.offC fr (.vp cs)=[]:=rfl
theorem W0(fr:Nat)(f:Nat)(cs:List X):X.offC fr (.clo f cs)=[]:=rfl
theorem zvw(fr:Nat)(c:D):X.offs fr (.d c)=X.offC fr (.d c):=rfl
theorem Tv(fr:Nat)(cs:List X):X.offs fr (.agg cs)=y6 fr cs:=rfl
theorem Xc(fr:Nat)(cs:List X):X.offs fr (.tup cs)=X.offC fr (.tup cs):=rfl
theorem W9(fr:Nat)(i:Id)(p:Path):X.offs fr (.ref i p)=X.offC fr (.ref i p):=rfl
theorem Wd(fr:Nat)(i:Id)(p:Path)(j k:Nat):X.offs fr (.ptr i p j k)=X.offC fr (.ptr i p j k):=rfl
theorem Tp(fr:Nat)(ds:List D):X.offs fr (.rop ds)=X.offC fr (.rop ds):=rfl
theorem zjN(fr:Nat)(cs:List X):X.offs fr (.vp cs)=y6 fr cs:=rfl
theorem Wg(fr:Nat)(f:Nat)(cs:List X):X.offs fr (.clo f cs)=y6 fr cs:=rfl
theorem zxU(g:Id→Id)(c:D):X.renC g (.d c)=(.d c):=rfl
theorem Uw(g:Id→Id)(cs:List X):X.renC g (.agg cs)=(.agg cs):=rfl
theorem Uj(g:Id→Id)(cs:List X):X.renC g (.tup cs)=(.tup cs):=rfl
theorem Va(g:Id→Id)(i:Id)(p:Path):X.renC g (.ref i p)= .ref (g i) p:=rfl
theorem Vz(g:Id→Id)(i:Id)(p:Path)(j k:Nat):X.renC g (.ptr i p j k)= .ptr (g i) p j k:=rfl
theorem Wu(g:Id→Id)(ds:List D):X.renC g (.rop ds)=(.rop ds):=rfl
theorem Zu(g:Id→Id)(cs:List X):X.renC g (.vp cs)=(.vp cs):=rfl
theorem Tl(g:Id→Id)(f:Nat)(cs:List X):X.renC g (.clo f cs)=(.clo f cs):=rfl
theorem zQc(g:Id→Id)(c:D):X.ren g (.d c)=X.renC g (.d c):=rfl
theorem zqz(g:Id→Id)(cs:List X):X.ren g (.agg cs)= .agg (cs.map (X.renC g)):=rfl
theorem zzo(g:Id→Id)(cs:List X):X.ren g (.tup cs)=X.renC g (.tup cs):=rfl
theorem zjL(g:Id→Id)(i:Id)(p:Path):X.ren g (.ref i p)=X.renC g (.ref i p):=rfl
theorem zjo(g:Id→Id)(i:Id)(p:Path)(j k:Nat):X.ren g (.ptr i p j k)=X.renC g (.ptr i p j k):=rfl
theorem zqD(g:Id→Id)(ds:List D):X.ren g (.rop ds)=X.renC g (.rop ds):=rfl
theorem zkE(g:Id→Id)(cs:List X):X.ren g (.vp cs)= .vp (cs.map (X.renC g)):=rfl
theorem Z0(g:Id→Id)(f:Nat)(cs:List X):X.ren g (.clo f cs)= .clo f (cs.map (X.renC g)):=rfl
theorem zZh(h:Heap)(x:Value):hX h (.d (.v x))=some (.v x,h):=rfl
theorem zyd(h:Heap)(e:List (List D)):hX h (.d (.r e))=some (.r e,h):=rfl
theorem zvy(h:Heap)(sz:Nat):hX h (.d (.s sz []))=some (.s sz [],h):=rfl
theorem zwp(h:Heap):hX h (.d .u)=some (.u,h):=rfl
theorem zqF(h:Heap)(i:Id)(p:Path):hX h (.ref i p)=h.take i p:=rfl
theorem zkR(h:Heap)(x:Value):lA h (.d (.v x))=some (.d (.v x)):=rfl
theorem zv4(h:Heap)(e:List (List D)):lA h (.d (.r e))=some (.d (.r e)):=rfl
theorem zku(h:Heap)(sz:Nat):lA h (.d (.s sz []))=some (.d (.r [])):=rfl
theorem zwO(h:Heap):lA h (.d .u)=none:=rfl
theorem zzs(h:Heap)(i:Id)(p:Path):lA h (.ref i p)=(h.row i p).map zKy:=rfl
theorem zVy(h:Heap)(c:D):wY h (.d c)=lA h (.d c):=rfl
theorem zvF(h:Heap)(cs:List X):wY h (.agg cs)=(sA h cs).map .agg:=rfl
theorem zvD(h:Heap)(cs:List X):wY h (.tup cs)=lA h (.tup cs):=rfl
theorem zvI(h:Heap)(i:Id)(p:Path):wY h (.ref i p)=lA h (.ref i p):=rfl
theorem zkK(h:Heap)(i:Id)(p:Path)(j k:Nat):wY h (.ptr i p j k)=lA h (.ptr i p j k):=rfl
theorem zyf(h:Heap)(ds:List D):wY h (.rop ds)=lA h (.rop ds):=rfl
theorem zZL(h:Heap)(cs:List X):wY h (.vp cs)=lA h (.vp cs):=rfl
theorem zvz(h:Heap)(f:Nat)(cs:List X):wY h (.clo f cs)=lA h (.clo f cs):=rfl
theorem zQm(fr:Nat)(h:Heap)(x:Value):kU fr h (.d (.v x))=some (.d (.v x),h):=rfl
theorem zJ8(fr:Nat)(h:Heap)(e:List (List D)):kU fr h (.d (.r e))=some (.d (.r e),h):=rfl
theorem zQ3(fr:Nat)(h:Heap)(sz:Nat):kU fr h (.d (.s sz []))=some (.d (.s sz []),h):=rfl
theorem zQi(fr:Nat)(h:Heap):kU fr h (.d .u)=none:=rfl
theorem zxq(fr:Nat)(h:Heap)(i:Id)(p:Path):kU fr h (.ref i p)=if i.1=fr then(h.take i p).map zWZ else some (.ref i p,h):=rfl
theorem zZd(fr:Nat)(h:Heap)(i:Id)(p:Path)(j k:Nat):kU fr h (.ptr i p j k)=if i.1=fr then none else some (.ptr i p j k,h):=rfl
theorem zwq(fr:Nat)(h:Heap)(ds:List D):kU fr h (.rop ds)=some (.rop ds,h):=rfl
theorem zWj(fr:Nat)(h:Heap)(c:D):nL fr h (.d c)=kU fr h (.d c):=rfl
theorem zyF(fr:Nat)(h:Heap)(cs:List X):nL fr h (.agg cs)=(Ja fr h cs).map zKa:=rfl
theorem zxw(fr:Nat)(h:Heap)(cs:List X):nL fr h (.tup cs)=kU fr h (.tup cs):=rfl
theorem zvR(fr:Nat)(h:Heap)(i:Id)(p:Path):nL fr h (.ref i p)=kU fr h (.ref i p):=rfl
theorem zyK(fr:Nat)(h:Heap)(i:Id)(p:Path)(j k:Nat):nL fr h (.ptr i p j k)=kU fr h (.ptr i p j k):=rfl
theorem zxg(fr:Nat)(h:Heap)(ds:List D):nL fr h (.rop ds)=kU fr h (.rop ds):=rfl
theorem zJa(fr:Nat)(h:Heap)(cs:List X):nL fr h (.vp cs)=kU fr h (.vp cs):=rfl
theorem zk9(fr:Nat)(h:Heap)(f:Nat)(cs:List X):nL fr h (.clo f cs)=kU fr h (.clo f cs):=rfl
theorem zJI(h:Heap)(id:Id)(x:Value):jB h id (.d (.v x))=((.d (.v x)),h):=rfl
theorem zJi(h:Heap)(id:Id)(e:List (List D)):jB h id (.d (.r e))=((.d (.r e)),h):=rfl
theorem zJS(h:Heap)(id:Id):jB h id (.d .u)=((.d .u),h):=rfl
theorem zJM(h:Heap)(id:Id)(sz:Nat)(e:List (List D)):jB h id (.d (.s sz e))=(.ref id [],upd h id (some (.s sz e))):=rfl
theorem zxu(h:Heap)(id:Id)(cs:List X):jB h id (.agg cs)=((.agg cs),h):=rfl
theorem zkG(h:Heap)(id:Id)(cs:List X):jB h id (.tup cs)=((.tup cs),h):=rfl
theorem zwk(h:Heap)(id:Id)(i:Id)(p:Path):jB h id (.ref i p)=((.ref i p),h):=rfl
theorem zxT(h:Heap)(id:Id)(i:Id)(p:Path)(j k:Nat):jB h id (.ptr i p j k)=((.ptr i p j k),h):=rfl
theorem zvZ(h:Heap)(id:Id)(ds:List D):jB h id (.rop ds)=((.rop ds),h):=rfl
theorem zQ7(h:Heap)(id:Id)(cs:List X):jB h id (.vp cs)=((.vp cs),h):=rfl
theorem zvV(h:Heap)(id:Id)(f:Nat)(cs:List X):jB h id (.clo f cs)=((.clo f cs),h):=rfl
theorem zVV(h:Heap)(id:Id)(c:D):lI h id (.d c)=jB h id (.d c):=rfl
theorem zZf(h:Heap)(id:Id)(cs:List X):lI h id (.agg cs)=(.agg (sK h id cs).1,(sK h id cs).2):=rfl
theorem zkw(h:Heap)(id:Id)(cs:List X):lI h id (.tup cs)=jB h id (.tup cs):=rfl
theorem zwh(h:Heap)(id:Id)(i:Id)(p:Path):lI h id (.ref i p)=jB h id (.ref i p):=rfl
theorem zvB(h:Heap)(id:Id)(i:Id)(p:Path)(j k:Nat):lI h id (.ptr i p j k)=jB h id (.ptr i p j k):=rfl
theorem zkD(h:Heap)(id:Id)(ds:List D):lI h id (.rop ds)=jB h id (.rop ds):=rfl
theorem zQJ(h:Heap)(id:Id)(cs:List X):lI h id (.vp cs)=jB h id (.vp cs):=rfl
theorem zx0(h:Heap)(id:Id)(f:Nat)(cs:List X):lI h id (.clo f cs)=jB h id (.clo f cs):=rfl
theorem zVH(h:Heap)(id:Id)(c:D):sF h id (.d c)=lI h id (.d c):=rfl
theorem zvU(h:Heap)(id:Id)(cs:List X):sF h id (.agg cs)=lI h id (.agg cs):=rfl
theorem zwA(h:Heap)(id:Id)(cs:List X):sF h id (.tup cs)=(.tup (r6 h id cs).1,(r6 h id cs).2):=rfl
theorem zvm(h:Heap)(id:Id)(i:Id)(p:Path):sF h id (.ref i p)=lI h id (.ref i p):=rfl
theorem zwY(h:Heap)(id:Id)(i:Id)(p:Path)(j k:Nat):sF h id (.ptr i p j k)=lI h id (.ptr i p j k):=rfl
theorem zve(h:Heap)(id:Id)(ds:List D):sF h id (.rop ds)=lI h id (.rop ds):=rfl
theorem zZI(h:Heap)(id:Id)(cs:List X):sF h id (.vp cs)=lI h id (.vp cs):=rfl
theorem zkq(h:Heap)(id:Id)(f:Nat)(cs:List X):sF h id (.clo f cs)=lI h id (.clo f cs):=rfl
theorem Tj(c:D):X.ncells (.d c)=(X.cells (.d c)).length:=rfl
theorem Mj(cs:List X):X.ncells (.agg cs)=(X.cells (.agg cs)).length:=rfl
theorem L8(cs:List X):X.ncells (.tup cs)=(cs.map fun x=>x.cells.length).sum:=rfl
theorem Na(i:Id)(p:Path):X.ncells (.ref i p)=(X.cells (.ref i p)).length:=rfl
theorem Ly(i:Id)(p:Path)(j k:Nat):X.ncells (.ptr i p j k)=(X.cells (.ptr i p j k)).length:=rfl
theorem M7(ds:List D):X.ncells (.rop ds)=(X.cells (.rop ds)).length:=rfl
theorem Py(cs:List X):X.ncells (.vp cs)=(X.cells (.vp cs)).length:=rfl
theorem Mv(f:Nat)(cs:List X):X.ncells (.clo f cs)=(X.cells (.clo f cs)).length:=rfl
theorem zZ3(h:Heap)(n:Nat)(x:Value):u4 h n (.d (.v x))=some (.d (.v x),h,[]):=rfl
theorem zQH(h:Heap)(n:Nat)(e:List (List D)):u4 h n (.d (.r e))=some (.d (.r e),h,[]):=rfl
theorem zZS(h:Heap)(n:Nat)(sz:Nat):u4 h n (.d (.s sz []))=some (.d (.s sz []),h,[]):=rfl
theorem zQg(h:Heap)(n:Nat):u4 h n (.d .u)=none:=rfl
theorem zxL(h:Heap)(n:Nat)(i:Id)(p:Path):u4 h n (.ref i p)=(h.take i p).map (zKT (.ref (0,n) []) i p):=rfl
theorem zkd(h:Heap)(n:Nat)(i:Id)(p:Path)(j k:Nat):u4 h n (.ptr i p j k)=(h.take i p).map (zKT (.ptr (0,n) [] j k) i p):=rfl
theorem zVd(h:Heap)(n:Nat)(c:D):Dw h n (.d c)=u4 h n (.d c):=rfl
theorem zvt(h:Heap)(n:Nat)(cs:List X):Dw h n (.agg cs)=(Je h n cs).map zKE:=rfl
theorem zyz(h:Heap)(n:Nat)(cs:List X):Dw h n (.tup cs)=u4 h n (.tup cs):=rfl
theorem zvE(h:Heap)(n:Nat)(i:Id)(p:Path):Dw h n (.ref i p)=u4 h n (.ref i p):=rfl
theorem zxO(h:Heap)(n:Nat)(i:Id)(p:Path)(j k:Nat):Dw h n (.ptr i p j k)=u4 h n (.ptr i p j k):=rfl
theorem zx2(h:Heap)(n:Nat)(ds:List D):Dw h n (.rop ds)=u4 h n (.rop ds):=rfl
theorem zZN(h:Heap)(n:Nat)(cs:List X):Dw h n (.vp cs)=u4 h n (.vp cs):=rfl
theorem zvn(h:Heap)(n:Nat)(f:Nat)(cs:List X):Dw h n (.clo f cs)=u4 h n (.clo f cs):=rfl
theorem zyG(x:Value)(cs:List D):fT (.v x::cs)=fT cs:=rfl
theorem zvc(sz:Nat)(e:List (List D))(cs:List D):fT (.s sz e::cs)=false:=rfl
theorem zwb(e:List (List D))(cs:List D):fT (.r e::cs)=false:=rfl
theorem zkU(cs:List D):fT (.u::cs)=false:=rfl
theorem Wn:fT []=true:=rfl
def nX(x:X)(xs:List X):List X:=x::xs
theorem zvk(x:X)(xs:List X):nX x xs=x::xs:=rfl
def Wf(x:D)(a:List D×Heap):List D×Heap:=(x::a.1,a.2)
theorem zjU(x:D)(xs:List D)(h:Heap):Wf x (xs,h)=(x::xs,h):=rfl
def Ha(x:X)(a:List X×Heap):List X×Heap:=(x::a.1,a.2)
theorem zjm(x:X)(xs:List X)(h:Heap):Ha x (xs,h)=(x::xs,h):=rfl
theorem zwP(st:St):l9 st []=some []:=rfl
def zKA(st:St)(os:List O)(x:X):Option (List X):=(l9 st os).map (nX x)
theorem zzI(st:St)(o:O)(os:List O):l9 st (o::os)=(rdO st o).bind (zKA st os):=rfl
theorem zwf(st:St)(os:List O)(x:X):zKA st os x=(l9 st os).map (nX x):=rfl
theorem zqm(h:Heap):iX h []=some ([],h):=rfl
def zyy(xs:List X)(a:D×Heap):Option (List D×Heap):=(iX a.2 xs).map (Wf a.1)
theorem T9(h:Heap)(x:X)(xs:List X):iX h (x::xs)=(hX h x).bind (zyy xs):=rfl
theorem zjM(xs:List X)(d:D)(h:Heap):zyy xs (d,h)=(iX h xs).map (Wf d):=rfl
theorem zkJ(fr:Nat)(h:Heap):Ja fr h []=some ([],h):=rfl
def zKh(fr:Nat)(xs:List X)(a:X×Heap):Option (List X×Heap):=(Ja fr a.2 xs).map (Ha a.1)
theorem zzV(fr:Nat)(h:Heap)(x:X)(xs:List X):Ja fr h (x::xs)=(kU fr h x).bind (zKh fr xs):=rfl
theorem zwD(fr:Nat)(xs:List X)(d:X)(h:Heap):zKh fr xs (d,h)=(Ja fr h xs).map (Ha d):=rfl
theorem zkF(fr:Nat)(h:Heap):nS fr h []=some ([],h):=rfl
def zKd(fr:Nat)(xs:List X)(a:X×Heap):Option (List X×Heap):=(nS fr a.2 xs).map (Ha a.1)
theorem zqt(fr:Nat)(h:Heap)(x:X)(xs:List X):nS fr h (x::xs)=(nL fr h x).bind (zKd fr xs):=rfl
theorem zxH(fr:Nat)(xs:List X)(d:X)(h:Heap):zKd fr xs (d,h)=(nS fr h xs).map (Ha d):=rfl
theorem zzg(h:Heap):sA h []=some []:=rfl
def zkh(h:Heap)(xs:List X)(y:X):Option (List X):=(sA h xs).map (nX y)
theorem Wz(h:Heap)(x:X)(xs:List X):sA h (x::xs)=(lA h x).bind (zkh h xs):=rfl
theorem Zv(h:Heap)(xs:List X)(y:X):zkh h xs y=(sA h xs).map (nX y):=rfl
theorem Zq(h:Heap):mJ h []=some []:=rfl
def zkA(h:Heap)(xs:List X)(y:X):Option (List X):=(mJ h xs).map (nX y)
theorem Tb(h:Heap)(x:X)(xs:List X):mJ h (x::xs)=(wY h x).bind (zkA h xs):=rfl
theorem zzC(h:Heap)(xs:List X)(y:X):zkA h xs y=(mJ h xs).map (nX y):=rfl
def zvQ(h:Heap)(xs:List X)(bs:List Bool)(y:X):Option (List X):=(nD h xs bs).map (nX y)
theorem zzy(h:Heap)(bs:List Bool):nD h [] bs=some []:=by unfold nD;rfl
theorem zQl(h:Heap)(x:X)(xs:List X)(bs:List Bool):nD h (x::xs) (true::bs)=(nD h xs bs).map (nX x):=rfl
theorem zQC(h:Heap)(x:X)(xs:List X)(bs:List Bool):nD h (x::xs) (false::bs)=(wY h x).bind (zvQ h xs bs):=rfl
theorem zz2(h:Heap)(xs:List X)(bs:List Bool)(y:X):zvQ h xs bs y=(nD h xs bs).map (nX y):=rfl
def Gi(x:X)(L:dC)(b:List X×Heap×dC):List X×Heap×dC:=(x::b.1,b.2.1,L++b.2.2)
theorem zqS(x:X)(L:dC)(xs:List X)(h:Heap)(M:dC):Gi x L (xs,h,M)=(x::xs,h,L++M):=rfl
def zKG(k:Nat)(xs:List X)(a:X×Heap×dC):Option (List X×Heap×dC):=(Je a.2.1 (k+a.2.2.length) xs).map (Gi a.1 a.2.2)
theorem zkz(h:Heap)(k:Nat):Je h k []=some ([],h,[]):=rfl
theorem zjR(h:Heap)(k:Nat)(x:X)(xs:List X):Je h k (x::xs)=(u4 h k x).bind (zKG k xs):=rfl
theorem zy5(k:Nat)(xs:List X)(y:X)(h:Heap)(L:dC):zKG k xs (y,h,L)=(Je h (k+L.length) xs).map (Gi y L):=rfl
def zKb(k:Nat)(xs:List X)(bs:List Bool)(a:X×Heap×dC):Option (List X×Heap×dC):=(pW a.2.1 (k+a.2.2.length) xs bs).map (Gi a.1 a.2.2)
def zwL(x:X)(c:List X×Heap×dC):List X×Heap×dC:=(x::c.1,c.2.1,c.2.2)
theorem zz6(x:X)(xs:List X)(h:Heap)(L:dC):zwL x (xs,h,L)=(x::xs,h,L):=rfl
theorem zxy(h:Heap)(k:Nat)(bs:List Bool):pW h k [] bs=some ([],h,[]):=by unfold pW;rfl
theorem zWg(h:Heap)(k:Nat)(x:X)(xs:List X)(bs:List Bool):pW h k (x::xs) (true::bs)=(Dw h k x).bind (zKb k xs bs):=rfl
theorem zVp(h:Heap)(k:Nat)(x:X)(xs:List X)(bs:List Bool):pW h k (x::xs) (false::bs)=(pW h k xs bs).map (zwL x):=rfl
theorem zxB(k:Nat)(xs:List X)(bs:List Bool)(y:X)(h:Heap)(L:dC):zKb k xs bs (y,h,L)=(pW h (k+L.length) xs bs).map (Gi y L):=rfl
theorem zJR(d:D):D.nav d []=some d:=by unfold D.nav;rfl
def zZV(p:Path)(c:D):Option D:=c.nav p
theorem zJ3(p:Path)(c:D):zZV p c=c.nav p:=rfl
def zWG(i:Nat)(p:Path)(el:List D):Option D:=(el[i]?).bind (zZV p)
theorem zZT(i:Nat)(p:Path)(el:List D):zWG i p el=(el[i]?).bind (zZV p):=rfl
theorem zWU(sz:Nat)(els:List (List D))(j i:Nat)(p:Path):D.nav (.s sz els) ((j,i)::p)=(els[j]?).bind (zWG i p):=by rw[D.nav];rfl
theorem zJQ(h:Heap)(id:Id)(p:Path):h.nav id p=(h id).bind (zZV p):=rfl
theorem zZ9(h:Heap)(id:Id)(p:Path):h.row id p=(h.nav id p).bind D.rowOf:=rfl
def zkB(sz:Nat)(els:List (List D))(j i:Nat)(el:List D)(c:D):D:= .s sz (els.set j (el.set i c))
theorem zvu(sz:Nat)(els:List (List D))(j i:Nat)(el:List D)(c:D):zkB sz els j i el c= .s sz (els.set j (el.set i c)):=rfl
def zxe(sz:Nat)(els:List (List D))(j i:Nat)(p:Path)(x:D)(el:List D)(c:D):Option D:=(c.put p x).map (zkB sz els j i el)
theorem zxD(sz:Nat)(els:List (List D))(j i:Nat)(p:Path)(x:D)(el:List D)(c:D):zxe sz els j i p x el c=(c.put p x).map (zkB sz els j i el):=rfl
def zKf(sz:Nat)(els:List (List D))(j i:Nat)(p:Path)(x:D)(el:List D):Option D:=(el[i]?).bind (zxe sz els j i p x el)
theorem zyJ(sz:Nat)(els:List (List D))(j i:Nat)(p:Path)(x:D)(el:List D):zKf sz els j i p x el=(el[i]?).bind (zxe sz els j i p x el):=rfl
theorem zQt(d x:D):D.put d [] x=some x:=by unfold D.put;rfl
theorem zWH(sz:Nat)(els:List (List D))(j i:Nat)(p:Path)(x:D):D.put (.s sz els) ((j,i)::p) x=(els[j]?).bind (zKf sz els j i p x):=by rw[D.put];rfl
def W4(h:Heap)(id:Id)(d:D):Heap:=upd h id (some d)
theorem zz5(h:Heap)(id:Id)(d:D):W4 h id d=upd h id (some d):=rfl
def zKl(h:Heap)(id:Id)(p:Path)(x d:D):Option Heap:=(d.put p x).map (W4 h id)
theorem zkt(h:Heap)(id:Id)(p:Path)(x d:D):zKl h id p x d=(d.put p x).map (W4 h id):=rfl
theorem zQF(h:Heap)(id:Id)(p:Path)(x:D):h.put id p x=(h id).bind (zKl h id p x):=rfl
def zQ9(h:Heap)(id:Id)(r:Nat×List (List D)):D×Heap:=(.s r.1 r.2,upd h id none)
theorem zxQ(h:Heap)(id:Id)(sz:Nat)(els:List (List D)):zQ9 h id (sz,els)=(.s sz els,upd h id none):=rfl
theorem zqp(h:Heap)(id:Id):h.take id []=(h.row id []).map (zQ9 h id):=rfl
def zyc(sz:Nat)(els:List (List D))(h:Heap):D×Heap:=(.s sz els,h)
theorem zvX(sz:Nat)(els:List (List D))(h:Heap):zyc sz els h=(.s sz els,h):=rfl
def zKw(h:Heap)(id:Id)(p:Path)(r:Nat×List (List D)):Option (D×Heap):=(h.put id p .u).map (zyc r.1 r.2)
theorem zw5(h:Heap)(id:Id)(p:Path)(sz:Nat)(els:List (List D)):zKw h id p (sz,els)=(h.put id p .u).map (zyc sz els):=rfl
theorem Vc(h:Heap)(id:Id)(c:Nat×Nat)(p:Path):h.take id (c::p)=(h.row id (c::p)).bind (zKw h id (c::p)):=rfl
theorem zxo(h:Heap)(id:Id)(x:D):h.putb id [] x=some (upd h id (some x)):=rfl
theorem Z7(h:Heap)(id:Id)(c:Nat×Nat)(p:Path)(x:D):h.putb id (c::p) x=h.put id (c::p) x:=rfl
theorem zWo(id:Id)(p:Path)(x:Value):D.own id p (.v x)=some (.d (.v x)):=rfl
theorem zW3(id:Id)(p:Path)(sz:Nat)(e:List (List D)):D.own id p (.s sz e)=some (.ref id p):=rfl
theorem zWF(id:Id)(p:Path)(e:List (List D)):D.own id p (.r e)=some (.d (.r e)):=rfl
theorem zWu(id:Id)(p:Path):D.own id p .u=some (.d .u):=rfl
theorem zwg(id:Id)(q:Path)(j i:Nat):zZ id q j i []=some []:=by unfold zZ;rfl
def zKM(id:Id)(q:Path)(j i:Nat)(cs:List D)(x:X):Option (List X):=(zZ id q j (i+1) cs).map (nX x)
theorem zyT(id:Id)(q:Path)(j i:Nat)(cs:List D)(x:X):zKM id q j i cs x=(zZ id q j (i+1) cs).map (nX x):=rfl
theorem zzv(id:Id)(q:Path)(j i:Nat)(c:D)(cs:List D):zZ id q j i (c::cs)=(c.own id (q++[(j,i)])).bind (zKM id q j i cs):=rfl
theorem zYe(x:Value):D.ro (.v x)=some (.d (.v x)):=rfl
theorem zYl(sz:Nat)(e:List (List D)):D.ro (.s sz e)=some (.d (.r e)):=rfl
theorem zYd(e:List (List D)):D.ro (.r e)=some (.d (.r e)):=rfl
theorem zYh:D.ro .u=some (.d .u):=rfl
theorem zQX:roL []=some []:=rfl
def zWA(cs:List D)(x:X):Option (List X):=(roL cs).map (nX x)
theorem zQQ(cs:List D)(x:X):zWA cs x=(roL cs).map (nX x):=rfl
theorem zk1(c:D)(cs:List D):roL (c::cs)=(c.ro).bind (zWA cs):=rfl
theorem zjd(h:Heap)(n:Nat)(cs:List D):m9 h n (.rop cs)=if n≤cs.length then roL (cs.take n) else none:=rfl
theorem zy1(h:Heap)(n:Nat)(cs:List X):m9 h n (.vp cs)=if n≤cs.length then some (cs.take n) else none:=rfl
def ldB(id:Id)(q:Path)(j i n:Nat)(el:List D):Option (List X):=if i+n≤el.length then zZ id q j i ((el.drop i).take n) else none
theorem zKV(id:Id)(q:Path)(j i n:Nat)(el:List D):ldB id q j i n el=if i+n≤el.length then zZ id q j i ((el.drop i).take n) else none:=rfl
def ldA(id:Id)(q:Path)(j i n:Nat)(r:Nat×List (List D)):Option (List X):=(r.2[j]?).bind (ldB id q j i n)
theorem zVz(id:Id)(q:Path)(j i n sz:Nat)(els:List (List D)):ldA id q j i n (sz,els)=(els[j]?).bind (ldB id q j i n):=rfl
theorem zz3(h:Heap)(n:Nat)(id:Id)(q:Path)(j i:Nat):m9 h n (.ptr id q j i)=(h.row id q).bind (ldA id q j i n):=rfl
theorem Ud(off:Nat)(id:Id)(q:Path)(j i:Nat):vC off (.ptr id q j i)=some (.ptr id q j (i+off)):=rfl
theorem Xj(off:Nat)(cs:List D):vC off (.rop cs)=some (.rop (cs.drop off)):=rfl
theorem zj0(off:Nat)(cs:List X):vC off (.vp cs)=some (.vp (cs.drop off)):=rfl
def ixB(sz:Nat)(el:List D):Option X:=if el.length=sz then some (.rop el) else none
theorem zV2(sz:Nat)(el:List D):ixB sz el=if el.length=sz then some (.rop el) else none:=rfl
theorem zWf(h:Heap)(sz:Nat)(n:Int)(els:List (List D)):Jx h sz n (.d (.r els))=if 0≤n∧n<(els.length:Int) then(els[n.toNat]?).bind (ixB sz) else none:=rfl
def ixC(id:Id)(p:Path)(sz:Nat)(n:Int)(r:Nat×List (List D)):Option X:=if 0≤n∧n<(r.2.length:Int)∧r.1=sz then some (.ptr id p n.toNat 0) else none
theorem zKU(id:Id)(p:Path)(sz:Nat)(n:Int)(m:Nat)(els:List (List D)):ixC id p sz n (m,els)=if 0≤n∧n<(els.length:Int)∧m=sz then some (.ptr id p n.toNat 0) else none:=rfl
theorem zyB(h:Heap)(sz:Nat)(n:Int)(id:Id)(p:Path):Jx h sz n (.ref id p)=(h.row id p).bind (ixC id p sz n):=rfl
theorem zVI(h:Heap)(els:List (List D)):I3 h (.d (.r els))=some els.length:=rfl
theorem zVN(h:Heap)(sz:Nat):I3 h (.d (.s sz []))=some 0:=rfl
def zWp(r:Nat×List (List D)):Nat:=r.2.length
theorem zZy(sz:Nat)(els:List (List D)):zWp (sz,els)=els.length:=rfl
theorem zy6(h:Heap)(id:Id)(p:Path):I3 h (.ref id p)=(h.row id p).map zWp:=rfl
theorem Sz(id:Id)(q:Path)(j i:Nat):uA (.ptr id q j i)=some (.ptr id q j i):=rfl
theorem Vd(cs:List D):uA (.rop cs)=some (.rop cs):=rfl
theorem zjD(cs:List X):uA (.vp cs)=some (.vp cs):=rfl
def idH(h:Heap)(els:List (List D)):List (List D)×Heap:=(els,h)
def zW5(a:D×Heap):Option (List (List D)×Heap):=(a.1.rowOf).map fun r=>(r.2,a.2)
theorem zJ1(sz:Nat)(els:List (List D))(h:Heap):zW5 (.s sz els,h)=some (els,h):=rfl
theorem zvP(h:Heap)(sz:Nat):nN h (.d (.s sz []))=some ([],h):=rfl
theorem zx4(h:Heap)(els:List (List D)):nN h (.d (.r els))=some (els.map fun el=>el.map D.toR,h):=rfl
theorem Uc(h:Heap)(id:Id)(p:Path):nN h (.ref id p)=(h.take id p).bind zW5:=rfl
def zKt(sz:Nat)(a:D×Heap):Option (List (List D)×Heap):=(a.1.rowOf).bind fun r=>if r.1=sz then some (r.2,a.2) else none
theorem zko(sz m:Nat)(els:List (List D))(h:Heap):zKt sz (.s m els,h)=if m=sz then some (els,h) else none:=rfl
theorem zj8(h:Heap)(sz m:Nat):iR h sz (.d (.s m []))=some ([],h):=rfl
theorem Sa(h:Heap)(sz:Nat)(id:Id)(p:Path):iR h sz (.ref id p)=(h.take id p).bind (zKt sz):=rfl
theorem zq4(st:St):fU st []=some []:=by unfold fU;rfl
def Ti(st:St)(rs:List SRes)(x:X):Option (List X):=(fU st rs).map (nX x)
theorem zq0(st:St)(rs:List SRes)(x:X):Ti st rs x=(fU st rs).map (nX x):=rfl
theorem zQp(st:St)(n:Nat)(rs:List SRes):fU st (.t n::rs)=(st.env n).bind (Ti st rs):=rfl
def zw1(st:St)(k:Option Nat)(a:X):Option X:=(m9 st.heap (k.getD 1) a).bind (r7 k)
theorem Z3(st:St)(k:Option Nat)(a:X):zw1 st k a=(m9 st.heap (k.getD 1) a).bind (r7 k):=rfl
theorem zJK(st:St)(n:Nat)(k:Option Nat)(rs:List SRes):fU st (.c n k::rs)=((st.env n).bind (zw1 st k)).bind (Ti st rs):=rfl
def Rv(a:List X×Heap):X:=mP a.1
theorem zJT(x:X)(h:Heap):Rv ([x],h)=x:=rfl
theorem zZP(h:Heap):Rv ([],h)= .tup []:=rfl
theorem zZo(x y:X)(xs:List X)(h:Heap):Rv (x::y::xs,h)= .tup (x::y::xs):=rfl
def Kz(s:St)(xs:List X):Option X:=(nS 0 s.heap xs).map Rv
theorem zkg(s:St)(xs:List X):Kz s xs=(nS 0 s.heap xs).map Rv:=rfl
def Pg(fr:Nat)(a:List X×Heap):X×Heap:=(mP a.1,bU fr a.2)
theorem zZE(fr:Nat)(x:X)(h:Heap):Pg fr ([x],h)=(x,bU fr h):=rfl
theorem zJ6(fr:Nat)(h:Heap):Pg fr ([],h)=(.tup [],bU fr h):=rfl
theorem zJO(fr:Nat)(x y:X)(xs:List X)(h:Heap):Pg fr (x::y::xs,h)=(.tup (x::y::xs),bU fr h):=rfl
def Sl(s:St)(fr:Nat)(xs:List X):Option (X×Heap):=(nS fr s.heap xs).map (Pg fr)
theorem zkl(s:St)(fr:Nat)(xs:List X):Sl s fr xs=(nS fr s.heap xs).map (Pg fr):=rfl
def zQR(st:St)(m:List (Nat×Nat))(ts:List Nat)(x:X):Bool→List (Nat×Nat)
 |true=>gD st (Ec m (x.offs st.fr)) ts
 |false=>gD st m ts
theorem zVZ(st:St)(m:List (Nat×Nat))(ts:List Nat)(x:X):zQR st m ts x true=gD st (Ec m (x.offs st.fr)) ts:=rfl
theorem zKZ(st:St)(m:List (Nat×Nat))(ts:List Nat)(x:X):zQR st m ts x false=gD st m ts:=rfl
def kmK(st:St)(m:List (Nat×Nat))(ts:List Nat):Option X→List (Nat×Nat)
 |some x=>zQR st m ts x x.keeps
 |none=>gD st m ts
theorem O4(st:St)(m:List (Nat×Nat))(ts:List Nat)(x:X):kmK st m ts (some x)=zQR st m ts x x.keeps:=rfl
theorem zwi(st:St)(m:List (Nat×Nat))(ts:List Nat):kmK st m ts none=gD st m ts:=rfl
theorem zjC(st:St)(m:List (Nat×Nat)):gD st m []=m:=by unfold gD;rfl
theorem S9(st:St)(m:List (Nat×Nat))(t:Nat)(ts:List Nat):gD st m (t::ts)=kmK st m ts (st.env t):=by
 rw[gD]
 cases st.env t with
 |none=>rfl
 |some x=>simp only[O4];cases x.keeps<;>rfl
def zZF(st:St)(m:List (Nat×Nat))(t:Nat)(ts:List Nat)(x:X):Bool→Env
 |true=>upd (lQ st m ts) t (some (x.ren (kid st.fr m)))
 |false=>lQ st m ts
theorem zKO(st:St)(m:List (Nat×Nat))(t:Nat)(ts:List Nat)(x:X):zZF st m t ts x true=upd (lQ st m ts) t (some (x.ren (kid st.fr m))):=rfl
theorem zVD(st:St)(m:List (Nat×Nat))(t:Nat)(ts:List Nat)(x:X):zZF st m t ts x false=lQ st m ts:=rfl
def keK(st:St)(m:List (Nat×Nat))(t:Nat)(ts:List Nat):Option X→Env
 |some x=>zZF st m t ts x x.keeps
 |none=>lQ st m ts
theorem Sy(st:St)(m:List (Nat×Nat))(t:Nat)(ts:List Nat)(x:X):keK st m t ts (some x)=zZF st m t ts x x.keeps:=rfl
theorem zyY(st:St)(m:List (Nat×Nat))(t:Nat)(ts:List Nat):keK st m t ts none=lQ st m ts:=rfl
theorem zzw(st:St)(m:List (Nat×Nat)):lQ st m []=emp:=by unfold lQ;rfl
theorem Xn(st:St)(m:List (Nat×Nat))(t:Nat)(ts:List Nat):lQ st m (t::ts)=keK st m t ts (st.env t):=by
 rw[lQ]
 cases st.env t with
 |none=>rfl
 |some x=>simp only[Sy];cases x.keeps<;>rfl
def ksK(st:St)(L:List Nat)(m:List (Nat×Nat)):St:={env:=lQ st m L,heap:=C6 st.fr st.heap m,fr:=st.fr,next:=m.length}
theorem zVE(st:St)(L:List Nat)(m:List (Nat×Nat)):ksK st L m={env:=lQ st m L,heap:=C6 st.fr st.heap m,fr:=st.fr,next:=m.length}:=rfl
theorem zwT(L:List Nat)(st:St):kZ L st=ksK st L (gD st [] L):=rfl
theorem zjS(st:St):sU [] st=kZ [] st:=rfl
theorem Wp(t:Nat)(L:List Nat)(st:St):sU (t::L) st=if 20000≤t then kZ L (S4 (t-20000) st) else if 10000≤t then kZ L (U6 (t-10000) st) else kZ (t::L) st:=rfl
theorem zJu(t:Nat)(st:St):S4 t st=if st.fr=0 then zj2 t st (st.env t) else st:=rfl
theorem zv9(t:Nat)(st:St)(a b:Nat):zj2 t st (some (.ptr (a,b) [] 0 0))=if a=0 then zwX t (a,b) st (st.heap (a,b)) else st:=rfl
theorem zwt(t:Nat)(st:St)(a b:Nat):zj2 t st (some (.ref (a,b) []))=if a=0 then zv3 t (a,b) st (st.heap (a,b)) else st:=rfl
theorem zVP(t:Nat)(id:Id)(st:St)(sz:Nat)(els:List (List D)):zv3 t id st (some (.s sz els))={env:=upd st.env t (some (.d (.r (fzs els)))),heap:=upd st.heap id none,fr:=st.fr,next:=st.next}:=rfl
theorem zVL(t:Nat)(id:Id)(st:St)(sz:Nat)(el:List D):zwX t id st (some (.s sz [el]))={env:=upd st.env t (some (.rop (fzl el))),heap:=upd st.heap id none,fr:=st.fr,next:=st.next}:=rfl
theorem zQ4(t:Nat)(st:St):U4 t st={env:=upd st.env t ((st.env t).map X.dim),heap:=st.heap,fr:=st.fr,next:=st.next}:=rfl
theorem zQ6(cs:List X):X.dim (.agg cs)= .agg (cs.map X.dimC):=rfl
theorem zVo(x:D):X.dimC (.d x)= .d x:=rfl
theorem zvb(id:Id)(p:Path):X.dimC (.ref id p)= .d .u:=rfl
theorem zQd(t:Nat)(st:St):U6 t st=if st.fr=0 then zxx st (st.env t) else st:=rfl
theorem zxF(st:St)(a b j i:Nat):zxx st (some (.ptr (a,b) [] j i))=if a=0 then zw7 (a,b) st (st.heap (a,b)) else st:=rfl
theorem zKS(id:Id)(st:St)(sz:Nat)(els:List (List D)):zw7 id st (some (.s sz els))={env:=st.env,heap:=upd st.heap id (some (.s sz (els.map fun el=>el.map D.ice))),fr:=st.fr,next:=st.next}:=rfl
theorem zWv(x:Value):D.ice (.v x)= .v x:=rfl
theorem zWB(els:List (List D)):D.ice (.r els)= .r els:=rfl
theorem zWs(sz:Nat)(els:List (List D)):D.ice (.s sz els)= .r (fzs els):=rfl
def P9(x:X)(b:List X×Heap):List X×Heap:=(x::b.1,b.2)
theorem zxs(x:X)(xs:List X)(h:Heap):P9 x (xs,h)=(x::xs,h):=rfl
def zKi(id:Id)(xs:List X)(a:X×Heap):List X×Heap:=P9 a.1 (sK a.2 (id.1,id.2+1) xs)
theorem zwx(a b:Nat)(xs:List X)(y:X)(h:Heap):zKi (a,b) xs (y,h)=P9 y (sK h (a,b+1) xs):=rfl
theorem zwG(h:Heap)(id:Id):sK h id []=([],h):=rfl
theorem zjb(h:Heap)(id:Id)(x:X)(xs:List X):sK h id (x::xs)=zKi id xs (jB h id x):=rfl
def zKq(id:Id)(n:Nat)(xs:List X)(a:X×Heap):List X×Heap:=P9 a.1 (r6 a.2 (id.1,id.2+n) xs)
theorem zxl(a b n:Nat)(xs:List X)(y:X)(h:Heap):zKq (a,b) n xs (y,h)=P9 y (r6 h (a,b+n) xs):=rfl
theorem zZj(h:Heap)(id:Id):r6 h id []=([],h):=rfl
theorem zjv(h:Heap)(id:Id)(x:X)(xs:List X):r6 h id (x::xs)=zKq id x.cells.length xs (lI h id x):=rfl
end Go.Ev
