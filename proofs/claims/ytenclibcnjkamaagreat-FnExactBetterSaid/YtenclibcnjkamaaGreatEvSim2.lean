import Derived.Test.YtenclibcnjkamaaGreatEvRow
set_option linter.all false
namespace Go.Ev
def z9U(id:Id)(q:Path)(j i n:Nat)(x:X):Option X:=if x.hit id q j i n then none else some x
theorem zZL(id:Id)(q:Path)(j i n:Nat)(e:Env)(t:Nat):purge id q j i n e t=(e t).bind (z9U id q j i n):=rfl
theorem zWz(id:Id)(q:Path)(j i n:Nat)(x:X):z9U id q j i n x=if x.hit id q j i n then none else some x:=rfl
def zYi(L:cU)(x:X):Option X:=if vH x L then none else some x
theorem zk5(L:cU)(e:Env)(t:Nat):o7 L e t=(e t).bind (zYi L):=rfl
theorem zxg(L:cU)(x:X):zYi L x=if vH x L then none else some x:=rfl
def zWM(x:X):Option X:=if x.root then some x else none
theorem zqx(e:Env)(t:Nat):o8 e t=(e t).bind zWM:=rfl
theorem zyo(x:X):zWM x=if x.root then some x else none:=rfl
variable{C:Cl}{st:St}{d:Option Nat}{id:Nat}
def xE(st:St)(d:Option Nat)(a b:O)(t:Bool):Option St:=if t then(rdO st a).map (st.put d) else(rdO st b).map (st.put d)
theorem zVW(a b:O):xE st d a b true=(rdO st a).map (st.put d):=rfl
theorem zKP(a b:O):xE st d a b false=(rdO st b).map (st.put d):=rfl
theorem zVK(x:O):opS C st d id (.mov x)=(rdO st x).map (st.put d):=rfl
theorem zyY(c a b:O):opS C st d id (.pick c a b)=(rdB st c).bind (xE st d a b):=rfl
def zyx(st:St)(d:Option Nat)(k:IntKind)(z:Int):St:=st.put d (.d (.v (.int k z)))
def Y7(st:St)(d:Option Nat)(z:Bool):St:=st.put d (.d (.v (.bool z)))
def z8z(st:St)(d:Option Nat)(z:ByteArray):St:=st.put d (.d (.v (.string z)))
theorem zKg(k:IntKind)(z:Int):zyx st d k z=st.put d (.d (.v (.int k z))):=rfl
theorem zKq(z:Bool):Y7 st d z=st.put d (.d (.v (.bool z))):=rfl
theorem zWb(z:ByteArray):z8z st d z=st.put d (.d (.v (.string z))):=rfl
def zzG(st:St)(d:Option Nat)(b:BinOp)(m n:IntKind×Int):Option St:=if m.1=n.1 then(zwj b m.1 m.2 n.2).map (zyx st d m.1) else none
def z8f(st:St)(d:Option Nat)(b:BinOp)(y:O)(m:IntKind×Int):Option St:=(rdI st y).bind (zzG st d b m)
theorem zQS(b:BinOp)(x y:O):opS C st d id (.ari b x y)=(rdI st x).bind (z8f st d b y):=rfl
theorem zWf(b:BinOp)(y:O)(m:IntKind×Int):z8f st d b y m=(rdI st y).bind (zzG st d b m):=rfl
theorem zQG(b:BinOp)(k:IntKind)(m n:Int):zzG st d b (k,m) (k,n)=(zwj b k m n).map (zyx st d k):=by unfold zzG;rw[if_pos rfl]
def zx8(st:St)(d:Option Nat)(b:BinOp)(m n:X):Option St:=(zQw b m n).map (Y7 st d)
def z9y(st:St)(d:Option Nat)(b:BinOp)(y:O)(m:X):Option St:=(rdO st y).bind (zx8 st d b m)
theorem zWn(b:BinOp)(x y:O):opS C st d id (.cmp b x y)=(rdO st x).bind (z9y st d b y):=rfl
theorem zWC(b:BinOp)(y:O)(m:X):z9y st d b y m=(rdO st y).bind (zx8 st d b m):=rfl
theorem zxo(b:BinOp)(m n:X):zx8 st d b m n=(zQw b m n).map (Y7 st d):=rfl
def Zn(st:St)(d:Option Nat)(b:BinOp)(m n:Bool):Option St:=(zJT b m n).map (Y7 st d)
def zYu(st:St)(d:Option Nat)(b:BinOp)(y:O)(m:Bool):Option St:=(rdB st y).bind (Zn st d b m)
theorem zwM(b:BinOp)(x y:O):opS C st d id (.cmpb b x y)=(rdB st x).bind (zYu st d b y):=rfl
theorem zwC(b:BinOp)(y:O)(m:Bool):zYu st d b y m=(rdB st y).bind (Zn st d b m):=rfl
theorem zqL(b:BinOp)(m n:Bool):Zn st d b m n=(zJT b m n).map (Y7 st d):=rfl
def zx1(st:St)(d:Option Nat)(a b:ByteArray):Option St:=if aE a b then some (st.put d (.d (.v (.string (a++b))))) else none
def z8n(st:St)(d:Option Nat)(y:O)(a:ByteArray):Option St:=(rdS st y).bind (zx1 st d a)
theorem zKG(x y:O):opS C st d id (.cat x y)=(rdS st x).bind (z8n st d y):=rfl
theorem zVy(y:O)(a:ByteArray):z8n st d y a=(rdS st y).bind (zx1 st d a):=rfl
theorem zJg{a b:ByteArray}(h:aE a b):zx1 st d a b=some (st.put d (.d (.v (.string (a++b))))):=if_pos h
def z9C(st:St)(d:Option Nat)(m:IntKind×Int):St:=st.put d (.d (.v (.int m.1 (m.1.wrap (0-m.2)))))
theorem zQ8(x:O):opS C st d id (.neg x)=(rdI st x).map (z9C st d):=rfl
theorem zWE(k:IntKind)(m:Int):z9C st d (k,m)=st.put d (.d (.v (.int k (k.wrap (0-m))))):=rfl
def z8m(st:St)(d:Option Nat)(b:Bool):St:=st.put d (.d (.v (.bool !b)))
theorem zWJ(x:O):opS C st d id (.not x)=(rdB st x).map (z8m st d):=rfl
theorem zKx(b:Bool):z8m st d b=st.put d (.d (.v (.bool !b))):=rfl
def zW3(st:St)(d:Option Nat)(k:IntKind)(m:IntKind×Int):St:=st.put d (.d (.v (.int k (k.wrap m.2))))
theorem zZm(k:IntKind)(x:O):opS C st d id (.conv k x)=(rdI st x).map (zW3 st d k):=rfl
theorem zxz(k k':IntKind)(m:Int):zW3 st d k (k',m)=st.put d (.d (.v (.int k (k.wrap m)))):=rfl
def zYf(st:St)(d:Option Nat)(m:IntKind×Int):St:=st.put d (.d (.v (.string (Utf8.encode m.2))))
theorem zw6(x:O):opS C st d id (.rune x)=(rdI st x).map (zYf st d):=rfl
theorem zZq(k:IntKind)(m:Int):zYf st d (k,m)=st.put d (.d (.v (.string (Utf8.encode m)))):=rfl
def z9W(st:St)(d:Option Nat)(s:ByteArray):Option St:=if aD 1 0 s.size then some (st.put d (.d (.r (B2 s)))) else none
theorem zVm(x:O):opS C st d id (.bos x)=(rdS st x).bind (z9W st d):=rfl
theorem zQ9(s:ByteArray):z9W st d s=if aD 1 0 s.size then some (st.put d (.d (.r (B2 s)))) else none:=rfl
def W4(st:St)(d:Option Nat)(s:ByteArray)(m:IntKind×Int):Option St:=if m.1= .u8 then some (st.put d (.d (.v (.int .i64 (Lib.indexByte s.data.toList m.2.toNat.toUInt8))))) else none
def zWS(st:St)(d:Option Nat)(y:O)(s:ByteArray):Option St:=(rdI st y).bind (W4 st d s)
theorem zQD(f:Nat)(x y:O):opS C st d id (.idxb f x y)=(rdS st x).bind (zWS st d y):=rfl
theorem zZX(y:O)(s:ByteArray):zWS st d y s=(rdI st y).bind (W4 st d s):=rfl
theorem zqR(s:ByteArray)(n:Int):W4 st d s (.u8,n)=some (st.put d (.d (.v (.int .i64 (Lib.indexByte s.data.toList n.toNat.toUInt8))))):=rfl
def zQN(st:St)(d:Option Nat)(ns:List Int):Option St:=if ns.isEmpty then none else some (st.put d (.d (.v (.string (zjT ns)))))
def z9q(st:St)(d:Option Nat)(a:X):Option St:=(xH st.heap a).bind (zQN st d)
theorem zVR(x:O):opS C st d id (.sob x)=(rdO st x).bind (z9q st d):=rfl
theorem zK4(a:X):z9q st d a=(xH st.heap a).bind (zQN st d):=rfl
theorem zwB(n:Int)(ns:List Int):zQN st d (n::ns)=some (st.put d (.d (.v (.string (zjT (n::ns)))))):=rfl
def z94(st:St)(d:Option Nat)(off:Nat)(n:Option Nat):X→Option St
 |.agg cs=>(W7 off n cs).map (st.put d)
 |_=>none
theorem zVD(off:Nat)(n:Option Nat)(x:O):opS C st d id (.fld off n x)=(rdO st x).bind (z94 st d off n):=by
 simp only[opS]
 congr 1
theorem zWu(off:Nat)(n:Option Nat)(cs:List X):z94 st d off n (.agg cs)=(W7 off n cs).map (st.put d):=rfl
def zQc(st:St)(d:Option Nat)(off:Nat)(a:X):Option St:=(x7 off a).map (st.put d)
theorem zk2(off:Nat)(x:O):opS C st d id (.faddr off x)=(rdO st x).bind (zQc st d off):=rfl
theorem zj2(off:Nat)(a:X):zQc st d off a=(x7 off a).map (st.put d):=rfl
def zQh(st:St)(d:Option Nat)(sz:Nat)(a:X)(n:IntKind×Int):Option St:=(Mz st.heap sz n.2 a).map (st.put d)
def z9I(st:St)(d:Option Nat)(sz:Nat)(i:O)(a:X):Option St:=(rdI st i).bind (zQh st d sz a)
theorem zQ5(sz:Nat)(x i:O):opS C st d id (.ixa sz x i)=(rdO st x).bind (z9I st d sz i):=rfl
theorem zVj(sz:Nat)(i:O)(a:X):z9I st d sz i a=(rdI st i).bind (zQh st d sz a):=rfl
theorem zwt(sz:Nat)(a:X)(k:IntKind)(n:Int):zQh st d sz a (k,n)=(Mz st.heap sz n a).map (st.put d):=rfl
def zZ9(st:St)(d:Option Nat)(b:UInt8):St:=st.put d (.d (.v (.int .u8 b.toNat)))
def zwW(st:St)(d:Option Nat)(s:ByteArray)(n:IntKind×Int):Option St:=if 0≤n.2 then(s[n.2.toNat]?).map (zZ9 st d) else none
def z9F(st:St)(d:Option Nat)(i:O)(s:ByteArray):Option St:=(rdI st i).bind (zwW st d s)
theorem zWD(x i:O):opS C st d id (.ixs x i)=(rdS st x).bind (z9F st d i):=rfl
theorem zKp(i:O)(s:ByteArray):z9F st d i s=(rdI st i).bind (zwW st d s):=rfl
theorem zJs(s:ByteArray)(k:IntKind)(n:Int):zwW st d s (k,n)=if 0≤n then(s[n.toNat]?).map (zZ9 st d) else none:=rfl
theorem zxI(b:UInt8):zZ9 st d b=st.put d (.d (.v (.int .u8 b.toNat))):=rfl
def Zi(st:St)(d:Option Nat)(n:Option Nat)(cs:List X):Option St:=(tG n cs).map (st.put d)
def zWX(st:St)(d:Option Nat)(n:Option Nat)(a:X):Option St:=(m9 st.heap (n.getD 1) a).bind (Zi st d n)
theorem zwp(n:Option Nat)(x:O):opS C st d id (.load n x)=(rdO st x).bind (zWX st d n):=rfl
theorem zyw(n:Option Nat)(a:X):zWX st d n a=(m9 st.heap (n.getD 1) a).bind (Zi st d n):=rfl
theorem zqW(n:Option Nat)(cs:List X):Zi st d n cs=(tG n cs).map (st.put d):=rfl
def zxF(st:St)(id:Id)(q:Path)(j i n:Nat)(el cs:List D)(h:Heap):St:={st with heap:=h,env:=if eX ((el.drop i).take n)&&eX cs then st.env else purge id q j i n st.env}
theorem zJd(id:Id)(q:Path)(j i n:Nat)(el cs:List D)(h:Heap):zxF st id q j i n el cs h={st with heap:=h,env:=if eX ((el.drop i).take n)&&eX cs then st.env else purge id q j i n st.env}:=rfl
def zw0(st:St)(id:Id)(q:Path)(j i n:Nat)(cs:List D)(h:Heap)(r:Nat×List (List D))(el:List D):Option St:=if i+n≤el.length then(h.put id q (.s r.1 (r.2.set j (setCells el i cs)))).map (zxF st id q j i n el cs) else none
theorem zZU(id:Id)(q:Path)(j i n:Nat)(cs:List D)(h:Heap)(r:Nat×List (List D))(el:List D):zw0 st id q j i n cs h r el=if i+n≤el.length then(h.put id q (.s r.1 (r.2.set j (setCells el i cs)))).map (zxF st id q j i n el cs) else none:=rfl
def zZe(st:St)(id:Id)(q:Path)(j i n:Nat)(cs:List D)(h:Heap)(r:Nat×List (List D)):Option St:=(r.2[j]?).bind (zw0 st id q j i n cs h r)
theorem zZz(id:Id)(q:Path)(j i n:Nat)(cs:List D)(h:Heap)(m:Nat)(els:List (List D)):zZe st id q j i n cs h (m,els)=(els[j]?).bind (zw0 st id q j i n cs h (m,els)):=rfl
def zJL(st:St)(id:Id)(q:Path)(j i n:Nat)(b:List D×Heap):Option St:=if b.1.length=n then(b.2.row id q).bind (zZe st id q j i n b.1 b.2) else none
theorem zJO(id:Id)(q:Path)(j i n:Nat)(cs:List D)(h:Heap):zJL st id q j i n (cs,h)=if cs.length=n then(h.row id q).bind (zZe st id q j i n cs h) else none:=rfl
def Vm(st:St)(n:Nat)(a:X)(cs:List X):Option St:=match a with
 |.ptr id q j i=>(hP st.heap cs).bind (zJL st id q j i n)
 |_=>none
theorem zqP(n:Nat)(a:X)(cs:List X):rP st n a cs=Vm st n a cs:=by
 cases a<;>rfl
theorem zQl(n:Nat)(id:Id)(q:Path)(j i:Nat)(cs:List X):Vm st n (.ptr id q j i) cs=(hP st.heap cs).bind (zJL st id q j i n):=rfl
def zJE(d:Option Nat)(s:St):St:=s.lose d
theorem zwf(s:St):zJE d s=s.lose d:=rfl
def Qs(st:St)(d:Option Nat)(n:Nat)(x:O)(a b:X):Option St:=(if 10000≤n then qB st n x a b else Vm st n a b.cells).map (zJE d)
def zZH(st:St)(d:Option Nat)(n:Nat)(x y:O)(a:X):Option St:=(rdO st y).bind (Qs st d n x a)
theorem zku(n:Nat)(x y:O):opS C st d id (.store n x y)=(rdO st x).bind (zZH st d n x y):=by
 simp only[opS,zqP]
 rfl
theorem zqF(n:Nat)(x y:O)(a:X):zZH st d n x y a=(rdO st y).bind (Qs st d n x a):=rfl
theorem zza(n:Nat)(x:O)(a b:X):Qs st d n x a b=(if 10000≤n then qB st n x a b else Vm st n a b.cells).map (zJE d):=rfl
theorem zjZ(n:Nat)(o:O)(x y:X):qB st n o x y=if 20000≤n then Vm st (n-20000) x y.dim.cells else sC st (n-10000) o x y:=rfl
theorem zqK(n t:Nat)(i:Id)(cs:List X):sC st n (.t t) (.ptr i [] 0 0) (.agg cs)=if st.fr=0∧cs.length=n then zX st n t i cs (st.heap i) else none:=rfl
theorem zzk(n t:Nat)(i:Id)(cs:List X)(sz:Nat)(el:List D):zX st n t i cs (some (.s sz [el]))=if el.length=n then some {env:=upd st.env t (some (.vp cs)),heap:=upd st.heap i none,fr:=st.fr,next:=st.next} else none:=rfl
def zx5(st:St)(d:Option Nat)(id n:Nat)(b:List D×Heap):Option St:=if b.1.length=n then some ((st.with (upd b.2 (st.fr,id) (some (.s n [b.1])))).put d (.ptr (st.fr,id) [] 0 0)) else none
def z9G(st:St)(d:Option Nat)(id n:Nat)(a:X):Option St:=(hP st.heap a.cells).bind (zx5 st d id n)
theorem zVf(n:Nat)(x:O):opS C st d id (.box n x)=(rdO st x).bind (z9G st d id n):=rfl
theorem zKy(n:Nat)(a:X):z9G st d id n a=(hP st.heap a.cells).bind (zx5 st d id n):=rfl
theorem zJo(n:Nat)(cs:List D)(h:Heap):zx5 st d id n (cs,h)=if cs.length=n then some ((st.with (upd h (st.fr,id) (some (.s n [cs])))).put d (.ptr (st.fr,id) [] 0 0)) else none:=rfl
def Xd(st:St)(d:Option Nat)(n:Nat)(cs:List X):Option St:=if cs.length=n then some (st.put d (.vp cs)) else none
def zYq(st:St)(d:Option Nat)(n:Nat)(a:X):Option St:=(a.cellsV).bind (Xd st d n)
theorem zQB(n:Nat)(x:O):opS C st d id (.vbox n x)=(rdO st x).bind (zYq st d n):=rfl
theorem zwY(n:Nat)(a:X):zYq st d n a=(a.cellsV).bind (Xd st d n):=rfl
theorem zvF(n:Nat)(cs:List X):Xd st d n cs=if cs.length=n then some (st.put d (.vp cs)) else none:=rfl
def zqS(st:St)(d:Option Nat)(mx:Bool)(m n:IntKind×Int):Option St:=if m.1=n.1 then some (st.put d (.d (.v (.int m.1 (if mx then(if m.2<n.2 then n.2 else m.2) else(if n.2<m.2 then n.2 else m.2)))))) else none
def mmK(st:St)(d:Option Nat)(mx:Bool)(y:O)(m:IntKind×Int):Option St:=(rdI st y).bind (zqS st d mx m)
theorem zXF(mx:Bool)(x y:O):opS C st d id (.mm mx x y)=(rdI st x).bind (mmK st d mx y):=rfl
theorem zXg(mx:Bool)(y:O)(m:IntKind×Int):mmK st d mx y m=(rdI st y).bind (zqS st d mx m):=rfl
theorem zXw(k:IntKind)(m n:Int):zqS st d true (k,m) (k,n)=some (zyx st d k (if m<n then n else m)):=by unfold zqS;rw[if_pos rfl];rfl
theorem zXR(k:IntKind)(m n:Int):zqS st d false (k,m) (k,n)=some (zyx st d k (if n<m then n else m)):=by unfold zqS;rw[if_pos rfl];rfl
def zjk(st:St)(d:Option Nat)(ng:Bool)(k:Nat)(cs:List X)(z:Bool):Option St:=if cs.length=k then some (st.put d (.d (.v (.bool (if ng then !z else z))))) else none
theorem zWI(k:Nat)(cs:List X)(z:Bool):zjk st d true k cs z=if cs.length=k then some (Y7 st d !z) else none:=rfl
theorem zKh(k:Nat)(cs:List X)(z:Bool):zjk st d false k cs z=if cs.length=k then some (Y7 st d z) else none:=rfl
def zww(st:St)(d:Option Nat)(ng:Bool)(k:Nat)(cs ds:List X):Option St:=(wJ cs ds).bind (zjk st d ng k cs)
theorem zJ7(ng:Bool)(k:Nat)(cs ds:List X):zww st d ng k cs ds=(wJ cs ds).bind (zjk st d ng k cs):=rfl
def zy3(st:St)(d:Option Nat)(ng:Bool)(k:Nat)(b:X)(cs:List X):Option St:=(b.aggOf).bind (zww st d ng k cs)
theorem zQe(ng:Bool)(k:Nat)(b:X)(cs:List X):zy3 st d ng k b cs=(b.aggOf).bind (zww st d ng k cs):=rfl
def zyH(st:St)(d:Option Nat)(ng:Bool)(k:Nat)(a b:X):Option St:=(a.aggOf).bind (zy3 st d ng k b)
theorem zwq(ng:Bool)(k:Nat)(a b:X):zyH st d ng k a b=(a.aggOf).bind (zy3 st d ng k b):=rfl
def z97(st:St)(d:Option Nat)(ng:Bool)(k:Nat)(y:O)(a:X):Option St:=(rdO st y).bind (zyH st d ng k a)
theorem zVZ(ng:Bool)(k:Nat)(x y:O):opS C st d id (.eqa ng k x y)=(rdO st x).bind (z97 st d ng k y):=rfl
theorem zKe(ng:Bool)(k:Nat)(y:O)(a:X):z97 st d ng k y a=(rdO st y).bind (zyH st d ng k a):=rfl
theorem zqQ(cs:List X):X.aggOf (.agg cs)=some cs:=rfl
def zJH(m n:Int)(b:Bool):Bool:=decide (m=n)&&b
theorem zkA(m n:Int)(b:Bool):zJH m n b=(decide (m=n)&&b):=rfl
theorem zvy:wJ [] []=some true:=rfl
theorem Y1(k:IntKind)(m n:Int)(cs ds:List X):wJ (.d (.v (.int k m))::cs) (.d (.v (.int k n))::ds)=(wJ cs ds).map (zJH m n):=by rw[wJ,if_pos rfl];rfl
theorem zvI(zs:List D):opS C st d id (.alloc zs)=some ((st.with (upd st.heap (st.fr,id) (some (.s zs.length [zs])))).put d (.ptr (st.fr,id) [] 0 0)):=rfl
def z9Y(st:St)(d:Option Nat)(cs:List X):St:=st.put d (.agg cs)
theorem zvv(zs:List D)(ps:List (Nat×Nat×O)):opS C st d id (.build zs ps)=(lM st (zs.map .d) ps).map (z9Y st d):=rfl
theorem zVp(cs:List X):z9Y st d cs=st.put d (.agg cs):=rfl
def X4(st:St)(cs:List X)(off n:Nat)(ps:List (Nat×Nat×O))(us:List X):Option (List X):=if us.length=n∧off+n≤cs.length then lM st (H7 cs off us) ps else none
def zYs(st:St)(cs:List X)(off n:Nat)(ps:List (Nat×Nat×O))(x:X):Option (List X):=(x.cellsV).bind (X4 st cs off n ps)
theorem zkM(cs:List X):lM st cs []=some cs:=rfl
theorem Yj(cs:List X)(off n:Nat)(o:O)(ps:List (Nat×Nat×O)):lM st cs ((off,n,o)::ps)=(rdO st o).bind (zYs st cs off n ps):=rfl
theorem zxD(cs:List X)(off n:Nat)(ps:List (Nat×Nat×O))(x:X):zYs st cs off n ps x=(x.cellsV).bind (X4 st cs off n ps):=rfl
theorem zjV(cs:List X)(off n:Nat)(ps:List (Nat×Nat×O))(us:List X):X4 st cs off n ps us=if us.length=n∧off+n≤cs.length then lM st (H7 cs off us) ps else none:=rfl
def z95(st:St)(d:Option Nat)(id sz:Nat)(a:List (List D)×Heap):St:=(st.with (upd a.2 (st.fr,id) (some (.s sz a.1)))).put d (.ref (st.fr,id) [])
theorem zVn(sz:Nat)(ps:List O):opS C st d id (.lit sz ps)=(eF st sz st.heap ps).map (z95 st d id sz):=rfl
theorem zWm(sz:Nat)(els:List (List D))(h:Heap):z95 st d id sz (els,h)=(st.with (upd h (st.fr,id) (some (.s sz els)))).put d (.ref (st.fr,id) []):=rfl
def zy2(ds:List D)(b:List (List D)×Heap):List (List D)×Heap:=(ds::b.1,b.2)
theorem zwx(ds:List D)(els:List (List D))(h:Heap):zy2 ds (els,h)=(ds::els,h):=rfl
def zJt(st:St)(sz:Nat)(os:List O)(a:List D×Heap):Option (List (List D)×Heap):=if a.1.length=sz then(eF st sz a.2 os).map (zy2 a.1) else none
theorem zyp(sz:Nat)(os:List O)(ds:List D)(h:Heap):zJt st sz os (ds,h)=if ds.length=sz then(eF st sz h os).map (zy2 ds) else none:=rfl
def z9A(st:St)(sz:Nat)(h:Heap)(os:List O)(x:X):Option (List (List D)×Heap):=(hP h x.cells).bind (zJt st sz os)
theorem zK8(sz:Nat)(h:Heap)(os:List O)(x:X):z9A st sz h os x=(hP h x.cells).bind (zJt st sz os):=rfl
theorem V4(sz:Nat)(h:Heap):eF st sz h []=some ([],h):=rfl
theorem P5(sz:Nat)(h:Heap)(o:O)(os:List O):eF st sz h (o::os)=(rdO st o).bind (z9A st sz h os):=rfl
def mkK(st:St)(d:Option Nat)(id sz bytes:Nat)(zs:List D)(m:IntKind×Int):Option St:=if aF bytes m.2∧zs.length=sz then some ((st.with (upd st.heap (st.fr,id) (some (.s sz (List.replicate m.2.toNat zs))))).put d (.ref (st.fr,id) [])) else none
theorem zY3(sz bytes:Nat)(zs:List D)(n:O):opS C st d id (.mk sz bytes zs n)=(rdI st n).bind (mkK st d id sz bytes zs):=rfl
theorem z9l(sz bytes:Nat)(zs:List D)(k:IntKind)(n:Int):mkK st d id sz bytes zs (k,n)=if aF bytes n∧zs.length=sz then some ((st.with (upd st.heap (st.fr,id) (some (.s sz (List.replicate n.toNat zs))))).put d (.ref (st.fr,id) [])) else none:=rfl
def Zu(st:St)(d:Option Nat)(sz:Nat)(els:List (List D))(l h:Int):Option St:=if 0≤l∧l≤h∧h≤(els.length:Int)∧els.all (fun el=>el.length==sz)=true then some (st.put d (.d (.r ((els.take h.toNat).drop l.toNat)))) else none
def Zm(st:St)(d:Option Nat)(sz:Nat)(els:List (List D))(hi:Option O)(l:Int):Option St:=(bP st (els.length:Int) hi).bind (Zu st d sz els l)
def zYm(st:St)(d:Option Nat)(sz:Nat)(lo hi:Option O):X→Option St
 |.d (.r els)=>(bP st 0 lo).bind (Zm st d sz els hi)
 |_=>none
theorem zyK(sz:Nat)(x:O)(lo hi:Option O):opS C st d id (.cutr sz x lo hi)=(rdO st x).bind (zYm st d sz lo hi):=by
 simp only[opS]
 congr 1
theorem zJV(sz:Nat)(lo hi:Option O)(els:List (List D)):zYm st d sz lo hi (.d (.r els))=(bP st 0 lo).bind (Zm st d sz els hi):=rfl
theorem zkD(sz:Nat)(els:List (List D))(hi:Option O)(l:Int):Zm st d sz els hi l=(bP st (els.length:Int) hi).bind (Zu st d sz els l):=rfl
theorem zqN(sz:Nat)(els:List (List D))(l h:Int):Zu st d sz els l h=if 0≤l∧l≤h∧h≤(els.length:Int)∧els.all (fun el=>el.length==sz)=true then some (st.put d (.d (.r ((els.take h.toNat).drop l.toNat)))) else none:=rfl
def zzd(st:St)(d:Option Nat)(id sz:Nat)(l:Int)(els:List (List D))(hp:Heap)(h:Int):Option St:=if 0≤l∧l≤h∧h≤(els.length:Int)∧(l=0∨l<h) then some ((st.with (upd hp (st.fr,id) (some (.s sz ((els.take h.toNat).drop l.toNat))))).put d (.ref (st.fr,id) [])) else none
def Yo(st:St)(d:Option Nat)(id sz:Nat)(hi:Option O)(l:Int)(m:List (List D)×Heap):Option St:=(bP st (m.1.length:Int) hi).bind (zzd st d id sz l m.1 m.2)
def W0(st:St)(d:Option Nat)(id sz:Nat)(hi:Option O)(a:X)(l:Int):Option St:=(gZ st.heap sz a).bind (Yo st d id sz hi l)
def zYx(st:St)(d:Option Nat)(id sz:Nat)(lo hi:Option O)(a:X):Option St:=(bP st 0 lo).bind (W0 st d id sz hi a)
def zy6(st:St)(id:Id)(p:Path)(r:Nat×List (List D)):Option St:=if r.1=1∧r.2.all uK=true then(st.heap.put id p (.s 1 (List.replicate r.2.length [.v (.bool false)]))).map st.with else none
def z9K(st:St):X→Option St
 |.ref id p=>(st.heap.row id p).bind (zy6 st id p)
 |_=>none
theorem zKR(x:O):opS C st none id (.clr x)=(rdO st x).bind (z9K st):=by
 simp only[opS,Option.isSome_none,Bool.false_eq_true,if_false]
 congr 1
 funext a
 cases a<;>rfl
theorem zVw(i:Id)(p:Path):z9K st (.ref i p)=(st.heap.row i p).bind (zy6 st i p):=rfl
theorem zJF(i:Id)(p:Path)(n:Nat)(els:List (List D)):zy6 st i p (n,els)=if n=1∧els.all uK=true then(st.heap.put i p (.s 1 (List.replicate els.length [.v (.bool false)]))).map st.with else none:=rfl
theorem zZJ(sz:Nat)(x:O)(lo hi:Option O):opS C st d id (.cutm sz x lo hi)=(rdO st x).bind (zYx st d id sz lo hi):=rfl
theorem zZY(sz:Nat)(lo hi:Option O)(a:X):zYx st d id sz lo hi a=(bP st 0 lo).bind (W0 st d id sz hi a):=rfl
theorem zqp(sz:Nat)(hi:Option O)(a:X)(l:Int):W0 st d id sz hi a l=(gZ st.heap sz a).bind (Yo st d id sz hi l):=rfl
theorem zqk(sz:Nat)(hi:Option O)(l:Int)(els:List (List D))(hp:Heap):Yo st d id sz hi l (els,hp)=(bP st (els.length:Int) hi).bind (zzd st d id sz l els hp):=rfl
theorem zqh(sz:Nat)(l:Int)(els:List (List D))(hp:Heap)(h:Int):zzd st d id sz l els hp h=if 0≤l∧l≤h∧h≤(els.length:Int)∧(l=0∨l<h) then some ((st.with (upd hp (st.fr,id) (some (.s sz ((els.take h.toNat).drop l.toNat))))).put d (.ref (st.fr,id) [])) else none:=rfl
def X7(st:St)(d:Option Nat)(s:ByteArray)(l h:Int):Option St:=if 0≤l∧l≤h∧h≤(s.size:Int) then some (st.put d (.d (.v (.string (s.extract l.toNat h.toNat))))) else none
def Yn(st:St)(d:Option Nat)(s:ByteArray)(hi:Option O)(l:Int):Option St:=(bP st (s.size:Int) hi).bind (X7 st d s l)
def zW9(st:St)(d:Option Nat)(lo hi:Option O)(s:ByteArray):Option St:=(bP st 0 lo).bind (Yn st d s hi)
theorem zJS(x:O)(lo hi:Option O):opS C st d id (.cutS x lo hi)=(rdS st x).bind (zW9 st d lo hi):=rfl
theorem zyk(lo hi:Option O)(s:ByteArray):zW9 st d lo hi s=(bP st 0 lo).bind (Yn st d s hi):=rfl
theorem zkE(s:ByteArray)(hi:Option O)(l:Int):Yn st d s hi l=(bP st (s.size:Int) hi).bind (X7 st d s l):=rfl
theorem zjY(s:ByteArray)(l h:Int):X7 st d s l h=if 0≤l∧l≤h∧h≤(s.size:Int) then some (st.put d (.d (.v (.string (s.extract l.toNat h.toNat))))) else none:=rfl
def zJQ(st:St)(d:Option Nat)(n:Nat):St:=st.put d (.d (.v (.int .i64 (n:Int))))
def z9Q(st:St)(d:Option Nat)(a:X):Option St:=(Mg st.heap a).map (zJQ st d)
theorem zVu(x:O):opS C st d id (.len x)=(rdO st x).bind (z9Q st d):=rfl
theorem zV6(a:X):z9Q st d a=(Mg st.heap a).map (zJQ st d):=rfl
theorem zZv(n:Nat):zJQ st d n=st.put d (.d (.v (.int .i64 (n:Int)))):=rfl
def zW8(st:St)(d:Option Nat)(s:ByteArray):St:=st.put d (.d (.v (.int .i64 (s.size:Int))))
theorem zJI(x:O):opS C st d id (.slen x)=(rdS st x).map (zW8 st d):=rfl
theorem zJf(s:ByteArray):zW8 st d s=st.put d (.d (.v (.int .i64 (s.size:Int)))):=rfl
def zZo(st:St)(d:Option Nat)(id sz bytes:Nat)(l:List (List D))(m:List (List D)×Heap):Option St:=if aD bytes l.length m.1.length∧m.1.all (fun el=>el.length==sz) then some ((st.with (upd m.2 (st.fr,id) (some (.s sz (l++m.1))))).put d (.ref (st.fr,id) [])) else none
def zxl(st:St)(d:Option Nat)(id sz bytes:Nat)(b:X)(l:List (List D)×Heap):Option St:=(oC l.2 b).bind (zZo st d id sz bytes l.1)
def zJG(st:St)(d:Option Nat)(id sz bytes:Nat)(a b:X):Option St:=(gZ st.heap sz a).bind (zxl st d id sz bytes b)
def z8a(st:St)(d:Option Nat)(id sz bytes:Nat)(y:O)(a:X):Option St:=(rdO st y).bind (zJG st d id sz bytes a)
theorem zKZ(sz bytes:Nat)(x y:O):opS C st d id (.app sz bytes x y)=(rdO st x).bind (z8a st d id sz bytes y):=rfl
theorem zVX(sz bytes:Nat)(y:O)(a:X):z8a st d id sz bytes y a=(rdO st y).bind (zJG st d id sz bytes a):=rfl
theorem zxr(sz bytes:Nat)(a b:X):zJG st d id sz bytes a b=(gZ st.heap sz a).bind (zxl st d id sz bytes b):=rfl
theorem zyI(sz bytes:Nat)(b:X)(l:List (List D))(h:Heap):zxl st d id sz bytes b (l,h)=(oC h b).bind (zZo st d id sz bytes l):=rfl
theorem zye(sz bytes:Nat)(l m:List (List D))(h:Heap):zZo st d id sz bytes l (m,h)=if aD bytes l.length m.length∧m.all (fun el=>el.length==sz) then some ((st.with (upd h (st.fr,id) (some (.s sz (l++m))))).put d (.ref (st.fr,id) [])) else none:=rfl
def fnK(st:St)(d:Option Nat)(f:Nat)(xs:List X):St:=st.put d (if xs.isEmpty then .d (.v (.func (.func f) #[] #[])) else .clo f xs)
theorem zXv(f:Nat)(caps:List O):opS C st d id (.fn f caps)=(lI st caps).map (fnK st d f):=rfl
theorem fnK_eq(f:Nat)(xs:List X):fnK st d f xs=st.put d (if xs.isEmpty then .d (.v (.func (.func f) #[] #[])) else .clo f xs):=rfl
def zju(st:St)(d:Option Nat)(id:Nat)(h:Heap)(x:X):Option St:=jP st d id x h
theorem zQp(h:Heap)(x:X):zju st d id h x=if x.ncells≤32 then some ((st.with (tT h (st.fr,id) x).2).put d (tT h (st.fr,id) x).1) else none:=rfl
def Z6(st:St)(d:Option Nat)(id:Nat)(as:List X)(r:X):Option St:=if gY as||r.noR then jP st d id r st.heap else none
def Zl(C:Cl)(st:St)(d:Option Nat)(id f:Nat)(as bs:List X):Option St:=(C.iso f bs).bind (Z6 st d id as)
def zW0(C:Cl)(st:St)(d:Option Nat)(id f:Nat)(as:List X):Option St:=(jV st.heap as).bind (Zl C st d id f as)
theorem zQK(f:Nat)(xs:List O):opS C st d id (.call f xs)=(lI st xs).bind (zW0 C st d id f):=rfl
theorem zyA(f:Nat)(as:List X):zW0 C st d id f as=(jV st.heap as).bind (Zl C st d id f as):=rfl
theorem zk8(f:Nat)(as bs:List X):Zl C st d id f as bs=(C.iso f bs).bind (Z6 st d id as):=rfl
theorem zkN(as:List X)(r:X):Z6 st d id as r=if gY as||r.noR then zju st d id st.heap r else none:=rfl
def P3(st:St)(d:Option Nat)(as:List X)(r:X):Option St:=if gY as||r.noR then some (st.put d r.frz) else none
def Cp(C:Cl)(st:St)(d:Option Nat)(f:Nat)(as bs:List X):Option St:=(C.iso f bs).bind (P3 st d as)
def zxd(C:Cl)(st:St)(d:Option Nat)(f:Nat)(as:List X):Option St:=(jV st.heap as).bind (Cp C st d f as)
theorem zkY(f:Nat)(xs:List O):opS C st d id (.callr f xs)=(lI st xs).bind (zxd C st d f):=rfl
def zwv(C:Cl)(st:St)(d:Option Nat)(f:Nat)(as:List X):Option St:=(jV st.heap as).bind fun bs=>Cp C st d f as (bs.map X.du)
theorem zvG(f:Nat)(xs:List O):opS C st d id (.callu f xs)=(lI st xs).bind (zwv C st d f):=rfl
theorem zkU(f:Nat)(as:List X):zwv C st d f as=(jV st.heap as).bind fun bs=>Cp C st d f as (bs.map X.du):=rfl
theorem zkX(f:Nat)(as:List X):zxd C st d f as=(jV st.heap as).bind (Cp C st d f as):=rfl
theorem Yu(f:Nat)(as bs:List X):Cp C st d f as bs=(C.iso f bs).bind (P3 st d as):=rfl
theorem Zv(as:List X)(r:X):P3 st d as r=if gY as||r.noR then some (st.put d r.frz) else none:=rfl
def Ot(st:St)(d:Option Nat)(id:Nat)(r:X×Heap):Option St:=jP {st with env:=o8 st.env} d id r.1 r.2
def Qw(C:Cl)(st:St)(d:Option Nat)(id:Nat)(g:Nat×List X)(as:List X):Option St:=(C g.1 (as++g.2) st.heap (st.fr+1)).bind (Ot st d id)
def Px(C:Cl)(st:St)(d:Option Nat)(id:Nat)(xs:List O)(g:Nat×List X):Option St:=(lI st xs).bind (Qw C st d id g)
def zxY(C:Cl)(st:St)(d:Option Nat)(id:Nat)(xs:List O)(c:X):Option St:=(Dz c).bind (Px C st d id xs)
theorem zqT(f:O)(xs:List O):opS C st d id (.calli f xs)=(rdO st f).bind (zxY C st d id xs):=rfl
theorem zjX(xs:List O)(c:X):zxY C st d id xs c=(Dz c).bind (Px C st d id xs):=rfl
theorem Wg(xs:List O)(g:Nat×List X):Px C st d id xs g=(lI st xs).bind (Qw C st d id g):=rfl
theorem zzr(f:Nat)(caps as:List X):Qw C st d id (f,caps) as=(C f (as++caps) st.heap (st.fr+1)).bind (Ot st d id):=rfl
theorem Xj(r:X)(h:Heap):Ot st d id (r,h)=zju {st with env:=o8 st.env} d id h r:=rfl
def Pd(st:St)(d:Option Nat)(id:Nat)(L:cU)(r:X)(h2:Heap):Option St:=jP {st with env:=o7 L st.env} d id r h2
def Hc(st:St)(d:Option Nat)(id:Nat)(as:List X)(bs:List Bool)(h:Heap)(L:cU)(r:X×Heap):Option St :=
 if (qU L&&r.1.noP&&(roF as bs||(r.1.noR&&Sf r.2 0 L)))=true then(xP h r.2 0 L).bind (Pd st d id L r.1) else none
def Hl(C:Cl)(st:St)(d:Option Nat)(id f:Nat)(as:List X)(bs:List Bool)(h:Heap)(L:cU)(ys:List X):Option St:=(C.give f ys (Bi 0 L) 1).bind (Hc st d id as bs h L)
def zWP(a:D×Heap):X×Heap:=(.d a.1,a.2)
theorem zJD(d:D)(h:Heap):zWP (d,h)=(.d d,h):=rfl
theorem zvM(h:Heap)(id:Id)(p:Path):Aw h (.ref id p)=(h.take id p).map zWP:=rfl
theorem zWj(h:Heap)(x:D):Aw h (.d x)=some (.d x,h):=rfl
theorem zqI(h:Heap)(x:List X):Aw h (.agg x)=some (.agg x,h):=rfl
theorem zqA(h:Heap)(x:List X):Aw h (.tup x)=some (.tup x,h):=rfl
def Zg(st:St)(d:Option Nat)(id:Nat)(as:List X)(bs:List Bool)(h:Heap)(L:cU)(r:X×Heap):Option St:=(Aw r.2 r.1).bind (Hc st d id as bs h L)
theorem zkG(st:St)(d:Option Nat)(id:Nat)(as:List X)(bs:List Bool)(h:Heap)(L:cU)(r:X)(hB:Heap):Zg st d id as bs h L (r,hB)=(Aw hB r).bind (Hc st d id as bs h L):=rfl
def Pc(C:Cl)(st:St)(d:Option Nat)(id f:Nat)(as:List X)(bs:List Bool)(m:List X×Heap×cU):Option St:=(nK m.2.1 m.1 bs).bind (Hl C st d id f as bs m.2.1 m.2.2)
def zZd(C:Cl)(st:St)(d:Option Nat)(id f:Nat)(bs:List Bool)(as:List X):Option St:=(qI st.heap 0 as bs).bind (Pc C st d id f as bs)
theorem zjK(f:Nat)(xs:List O)(bs:List Bool):opS C st d id (.callb f xs bs)=(lI st xs).bind (zZd C st d id f bs):=rfl
theorem zqU(f:Nat)(bs:List Bool)(as:List X):zZd C st d id f bs as=(qI st.heap 0 as bs).bind (Pc C st d id f as bs):=rfl
theorem Xe(f:Nat)(as:List X)(bs:List Bool)(xs:List X)(h:Heap)(L:cU):Pc C st d id f as bs (xs,h,L)=(nK h xs bs).bind (Hl C st d id f as bs h L):=rfl
theorem Xr(f:Nat)(as:List X)(bs:List Bool)(h:Heap)(L:cU)(ys:List X):Hl C st d id f as bs h L ys=(C f ys (Bi 0 L) 1).bind (Zg st d id as bs h L):=by unfold Hl Cl.give Zg;rw[Option.bind_assoc]
theorem zzc(as:List X)(bs:List Bool)(h:Heap)(L:cU)(r:X)(hB:Heap):Hc st d id as bs h L (r,hB)=if (qU L&&r.noP&&(roF as bs||(r.noR&&Sf hB 0 L)))=true then(xP h hB 0 L).bind (Pd st d id L r) else none:=rfl
theorem zzo(L:cU)(r:X)(h2:Heap):Pd st d id L r h2=zju {st with env:=o7 L st.env} d id h2 r:=rfl
def z8e(st:St)(d:Option Nat)(i:Nat):X→Option St
 |.tup cs=>(cs[i]?).map (st.put d)
 |_=>none
theorem zWt(x:O)(i:Nat):opS C st d id (.ext x i)=(rdO st x).bind (z8e st d i):=by
 simp only[opS]
 congr 1
theorem zQ4(i:Nat)(cs:List X):z8e st d i (.tup cs)=(cs[i]?).map (st.put d):=rfl
def z91(st:St)(d:Option Nat)(a:X):Option St:=(vI a).map (st.put d)
theorem zQW(x:O):opS C st d id (.nck x)=(rdO st x).bind (z91 st d):=rfl
theorem zWp(a:X):z91 st d a=(vI a).map (st.put d):=rfl
def zWZ(r:Nat×List (List D)):X:= .d (.r (fzs r.2))
theorem zxK(sz:Nat)(e:List (List D)):zWZ (sz,e)= .d (.r (fzs e)):=rfl
def z9H(a:D×Heap):X×Heap:=(.d a.1,a.2)
theorem zWk(d:D)(h:Heap):z9H (d,h)=(.d d,h):=rfl
def zYa(a:List X×Heap):X×Heap:=(.agg a.1,a.2)
theorem zQm(d:List X)(h:Heap):zYa (d,h)=(.agg d,h):=rfl
def zXs(y:X)(i:Id)(p:Path)(a:D×Heap):X×Heap×cU:=(y,a.2,[(i,p,a.1)])
theorem zVL(y:X)(i:Id)(p:Path)(d:D)(h:Heap):zXs y i p (d,h)=(y,h,[(i,p,d)]):=rfl
def zYr(a:List X×Heap×cU):X×Heap×cU:=(.agg a.1,a.2)
theorem zQz(d:List X)(h:Heap)(L:cU):zYr (d,h,L)=(.agg d,h,L):=rfl
theorem zvX(c:D):X.cells (.d c)=[(.d c)]:=rfl
theorem Vn(cs:List X):X.cells (.agg cs)=cs:=rfl
theorem Tv(cs:List X):X.cells (.tup cs)=[(.tup cs)]:=rfl
theorem Vr(i:Id)(p:Path):X.cells (.ref i p)=[(.ref i p)]:=rfl
theorem Ud(i:Id)(p:Path)(j k:Nat):X.cells (.ptr i p j k)=[(.ptr i p j k)]:=rfl
theorem Vs(ds:List D):X.cells (.rop ds)=[(.rop ds)]:=rfl
theorem Zd(cs:List X):X.cells (.vp cs)=[(.vp cs)]:=rfl
theorem T3(f:Nat)(cs:List X):X.cells (.clo f cs)=[(.clo f cs)]:=rfl
theorem Yh(c:D):X.cellsV (.d c)=some [(.d c)]:=rfl
theorem Pw(cs:List X):X.cellsV (.agg cs)=some cs:=rfl
theorem Qg(cs:List X):X.cellsV (.tup cs)=none:=rfl
theorem Pg(i:Id)(p:Path):X.cellsV (.ref i p)=some [(.ref i p)]:=rfl
theorem Py(i:Id)(p:Path)(j k:Nat):X.cellsV (.ptr i p j k)=some [(.ptr i p j k)]:=rfl
theorem Qp(ds:List D):X.cellsV (.rop ds)=some [(.rop ds)]:=rfl
theorem Ve(cs:List X):X.cellsV (.vp cs)=some [(.vp cs)]:=rfl
theorem P6(f:Nat)(cs:List X):X.cellsV (.clo f cs)=some [(.clo f cs)]:=rfl
theorem zyu(id:Id)(q:Path)(a b n:Nat)(c:D):X.hitC id q a b n (.d c)=false:=rfl
theorem Yx(id:Id)(q:Path)(a b n:Nat)(cs:List X):X.hitC id q a b n (.agg cs)=true:=rfl
theorem Xu(id:Id)(q:Path)(a b n:Nat)(cs:List X):X.hitC id q a b n (.tup cs)=true:=rfl
theorem Ya(id:Id)(q:Path)(a b n:Nat)(i:Id)(p:Path):X.hitC id q a b n (.ref i p)=(i==id&&Path.under q a b n p):=rfl
theorem Ws(id:Id)(q:Path)(a b n:Nat)(i:Id)(p:Path)(j k:Nat):X.hitC id q a b n (.ptr i p j k)=(i==id&&Path.under q a b n p):=rfl
theorem Zw(id:Id)(q:Path)(a b n:Nat)(ds:List D):X.hitC id q a b n (.rop ds)=false:=rfl
theorem zql(id:Id)(q:Path)(a b n:Nat)(cs:List X):X.hitC id q a b n (.vp cs)=true:=rfl
theorem Xi(id:Id)(q:Path)(a b n:Nat)(f:Nat)(cs:List X):X.hitC id q a b n (.clo f cs)=true:=rfl
theorem zV7(id:Id)(q:Path)(a b n:Nat)(c:D):X.hit id q a b n (.d c)=X.hitC id q a b n (.d c):=rfl
theorem zvz(id:Id)(q:Path)(a b n:Nat)(cs:List X):X.hit id q a b n (.agg cs)=T6 id q a b n cs:=rfl
theorem zqJ(id:Id)(q:Path)(a b n:Nat)(cs:List X):X.hit id q a b n (.tup cs)=true:=rfl
theorem zqm(id:Id)(q:Path)(a b n:Nat)(i:Id)(p:Path):X.hit id q a b n (.ref i p)=X.hitC id q a b n (.ref i p):=rfl
theorem zvD(id:Id)(q:Path)(a b n:Nat)(i:Id)(p:Path)(j k:Nat):X.hit id q a b n (.ptr i p j k)=X.hitC id q a b n (.ptr i p j k):=rfl
theorem zko(id:Id)(q:Path)(a b n:Nat)(ds:List D):X.hit id q a b n (.rop ds)=X.hitC id q a b n (.rop ds):=rfl
theorem zZF(id:Id)(q:Path)(a b n:Nat)(cs:List X):X.hit id q a b n (.vp cs)=T6 id q a b n cs:=rfl
theorem zj4(id:Id)(q:Path)(a b n:Nat)(f:Nat)(cs:List X):X.hit id q a b n (.clo f cs)=X.hitC id q a b n (.clo f cs):=rfl
theorem zvu(c:D):X.rootC (.d c)=true:=rfl
theorem Vb(cs:List X):X.rootC (.agg cs)=false:=rfl
theorem Vc(cs:List X):X.rootC (.tup cs)=false:=rfl
theorem Vw(i:Id)(p:Path):X.rootC (.ref i p)=p.isEmpty:=rfl
theorem Rj(i:Id)(p:Path)(j k:Nat):X.rootC (.ptr i p j k)=p.isEmpty:=rfl
theorem T2(ds:List D):X.rootC (.rop ds)=true:=rfl
theorem zzp(cs:List X):X.rootC (.vp cs)=false:=rfl
theorem Sg(f:Nat)(cs:List X):X.rootC (.clo f cs)=false:=rfl
theorem zxq(c:D):X.root (.d c)=X.rootC (.d c):=rfl
theorem Wh(cs:List X):X.root (.agg cs)=Ar cs:=rfl
theorem Zy(cs:List X):X.root (.tup cs)=X.rootC (.tup cs):=rfl
theorem Xv(i:Id)(p:Path):X.root (.ref i p)=X.rootC (.ref i p):=rfl
theorem Ys(i:Id)(p:Path)(j k:Nat):X.root (.ptr i p j k)=X.rootC (.ptr i p j k):=rfl
theorem Yc(ds:List D):X.root (.rop ds)=X.rootC (.rop ds):=rfl
theorem zq5(cs:List X):X.root (.vp cs)=Ar cs:=rfl
theorem Wz(f:Nat)(cs:List X):X.root (.clo f cs)=Ar cs:=rfl
theorem zWd(id:Id)(q:Path)(c:D):X.inC id q (.d c)=false:=rfl
theorem zkQ(id:Id)(q:Path)(cs:List X):X.inC id q (.agg cs)=true:=rfl
theorem zk3(id:Id)(q:Path)(cs:List X):X.inC id q (.tup cs)=true:=rfl
theorem zqs(id:Id)(q:Path)(i:Id)(p:Path):X.inC id q (.ref i p)=(decide (i=id)&&q.isPrefixOf p&& !decide (p=q)):=rfl
theorem zvj(id:Id)(q:Path)(i:Id)(p:Path)(j k:Nat):X.inC id q (.ptr i p j k)=(decide (i=id)&&q.isPrefixOf p&& !decide (p=q)):=rfl
theorem zkh(id:Id)(q:Path)(ds:List D):X.inC id q (.rop ds)=false:=rfl
theorem zZ3(id:Id)(q:Path)(cs:List X):X.inC id q (.vp cs)=true:=rfl
theorem zkt(id:Id)(q:Path)(f:Nat)(cs:List X):X.inC id q (.clo f cs)=true:=rfl
theorem zVJ(id:Id)(q:Path)(c:D):X.inV id q (.d c)=X.inC id q (.d c):=rfl
theorem zvx(id:Id)(q:Path)(cs:List X):X.inV id q (.agg cs)=inL id q cs:=rfl
theorem zkx(id:Id)(q:Path)(cs:List X):X.inV id q (.tup cs)=X.inC id q (.tup cs):=rfl
theorem zkp(id:Id)(q:Path)(i:Id)(p:Path):X.inV id q (.ref i p)=X.inC id q (.ref i p):=rfl
theorem zjH(id:Id)(q:Path)(i:Id)(p:Path)(j k:Nat):X.inV id q (.ptr i p j k)=X.inC id q (.ptr i p j k):=rfl
theorem zvH(id:Id)(q:Path)(ds:List D):X.inV id q (.rop ds)=X.inC id q (.rop ds):=rfl
theorem zZn(id:Id)(q:Path)(cs:List X):X.inV id q (.vp cs)=inL id q cs:=rfl
theorem zvZ(id:Id)(q:Path)(f:Nat)(cs:List X):X.inV id q (.clo f cs)=inL id q cs:=rfl
theorem zWH(c:D):X.roC (.d c)=true:=rfl
theorem zkl(cs:List X):X.roC (.agg cs)=false:=rfl
theorem zvo(cs:List X):X.roC (.tup cs)=false:=rfl
theorem zqq(i:Id)(p:Path):X.roC (.ref i p)=false:=rfl
theorem zkR(i:Id)(p:Path)(j k:Nat):X.roC (.ptr i p j k)=false:=rfl
theorem zv6(ds:List D):X.roC (.rop ds)=false:=rfl
theorem zyE(cs:List X):X.roC (.vp cs)=false:=rfl
theorem zvC(f:Nat)(cs:List X):X.roC (.clo f cs)=false:=rfl
theorem zVd(c:D):X.roV (.d c)=X.roC (.d c):=rfl
theorem zkP(cs:List X):X.roV (.agg cs)=Cs cs:=rfl
theorem zqi(cs:List X):X.roV (.tup cs)=X.roC (.tup cs):=rfl
theorem zkn(i:Id)(p:Path):X.roV (.ref i p)=X.roC (.ref i p):=rfl
theorem zjN(i:Id)(p:Path)(j k:Nat):X.roV (.ptr i p j k)=X.roC (.ptr i p j k):=rfl
theorem zkb(ds:List D):X.roV (.rop ds)=X.roC (.rop ds):=rfl
theorem zJi(cs:List X):X.roV (.vp cs)=X.roC (.vp cs):=rfl
theorem zjG(f:Nat)(cs:List X):X.roV (.clo f cs)=X.roC (.clo f cs):=rfl
theorem zK9(c:D):X.noP (.d c)=X.roV (.d c):=rfl
theorem zkJ(cs:List X):X.noP (.agg cs)=X.roV (.agg cs):=rfl
theorem zqG(cs:List X):X.noP (.tup cs)=gY cs:=rfl
theorem zv1(i:Id)(p:Path):X.noP (.ref i p)=X.roV (.ref i p):=rfl
theorem zkv(i:Id)(p:Path)(j k:Nat):X.noP (.ptr i p j k)=X.roV (.ptr i p j k):=rfl
theorem zkL(ds:List D):X.noP (.rop ds)=X.roV (.rop ds):=rfl
theorem zZk(cs:List X):X.noP (.vp cs)=X.roV (.vp cs):=rfl
theorem zvQ(f:Nat)(cs:List X):X.noP (.clo f cs)=X.roV (.clo f cs):=rfl
theorem zyX(c:D):X.noRC (.d c)=c.noR:=rfl
theorem Wi(cs:List X):X.noRC (.agg cs)=false:=rfl
theorem zzh(cs:List X):X.noRC (.tup cs)=false:=rfl
theorem Zk(i:Id)(p:Path):X.noRC (.ref i p)=false:=rfl
theorem Y3(i:Id)(p:Path)(j k:Nat):X.noRC (.ptr i p j k)=false:=rfl
theorem Zs(ds:List D):X.noRC (.rop ds)=false:=rfl
theorem zqC(cs:List X):X.noRC (.vp cs)=false:=rfl
theorem W9(f:Nat)(cs:List X):X.noRC (.clo f cs)=false:=rfl
theorem zxJ(c:D):X.noRV (.d c)=X.noRC (.d c):=rfl
theorem zzq(cs:List X):X.noRV (.agg cs)=Hv cs:=rfl
theorem Zj(cs:List X):X.noRV (.tup cs)=X.noRC (.tup cs):=rfl
theorem Yf(i:Id)(p:Path):X.noRV (.ref i p)=X.noRC (.ref i p):=rfl
theorem Xq(i:Id)(p:Path)(j k:Nat):X.noRV (.ptr i p j k)=X.noRC (.ptr i p j k):=rfl
theorem zzl(ds:List D):X.noRV (.rop ds)=X.noRC (.rop ds):=rfl
theorem zqV(cs:List X):X.noRV (.vp cs)=X.noRC (.vp cs):=rfl
theorem Xb(f:Nat)(cs:List X):X.noRV (.clo f cs)=X.noRC (.clo f cs):=rfl
theorem zWe(c:D):X.noR (.d c)=X.noRV (.d c):=rfl
theorem zj3(cs:List X):X.noR (.agg cs)=X.noRV (.agg cs):=rfl
theorem zq6(cs:List X):X.noR (.tup cs)=zvE cs:=rfl
theorem zvJ(i:Id)(p:Path):X.noR (.ref i p)=X.noRV (.ref i p):=rfl
theorem zj5(i:Id)(p:Path)(j k:Nat):X.noR (.ptr i p j k)=X.noRV (.ptr i p j k):=rfl
theorem zvW(ds:List D):X.noR (.rop ds)=X.noRV (.rop ds):=rfl
theorem zyj(cs:List X):X.noR (.vp cs)=X.noRV (.vp cs):=rfl
theorem zj6(f:Nat)(cs:List X):X.noR (.clo f cs)=X.noRV (.clo f cs):=rfl
theorem zvl(x:Value):X.frzC (.d (.v x))=(.d (.v x)):=rfl
theorem zkK(e:List (List D)):X.frzC (.d (.r e))=(.d (.r e)):=rfl
theorem zkF:X.frzC (.d .u)=(.d .u):=rfl
theorem zv0(sz:Nat)(e:List (List D)):X.frzC (.d (.s sz e))= .d (.r (fzs e)):=rfl
theorem zzn(cs:List X):X.frzC (.agg cs)=(.agg cs):=rfl
theorem Z9(cs:List X):X.frzC (.tup cs)=(.tup cs):=rfl
theorem Yy(i:Id)(p:Path):X.frzC (.ref i p)=(.ref i p):=rfl
theorem Wf(i:Id)(p:Path)(j k:Nat):X.frzC (.ptr i p j k)=(.ptr i p j k):=rfl
theorem Z8(ds:List D):X.frzC (.rop ds)=(.rop ds):=rfl
theorem zve(cs:List X):X.frzC (.vp cs)=(.vp cs):=rfl
theorem Zh(f:Nat)(cs:List X):X.frzC (.clo f cs)=(.clo f cs):=rfl
theorem zwA(c:D):X.frzV (.d c)=X.frzC (.d c):=rfl
theorem W5(cs:List X):X.frzV (.agg cs)= .agg (xT cs):=rfl
theorem Zc(cs:List X):X.frzV (.tup cs)=X.frzC (.tup cs):=rfl
theorem zzf(i:Id)(p:Path):X.frzV (.ref i p)=X.frzC (.ref i p):=rfl
theorem Wt(i:Id)(p:Path)(j k:Nat):X.frzV (.ptr i p j k)=X.frzC (.ptr i p j k):=rfl
theorem Wj(ds:List D):X.frzV (.rop ds)=X.frzC (.rop ds):=rfl
theorem zkV(cs:List X):X.frzV (.vp cs)=X.frzC (.vp cs):=rfl
theorem zzs(f:Nat)(cs:List X):X.frzV (.clo f cs)=X.frzC (.clo f cs):=rfl
theorem zVz(c:D):X.frz (.d c)=X.frzV (.d c):=rfl
theorem zk0(cs:List X):X.frz (.agg cs)=X.frzV (.agg cs):=rfl
theorem zvt(cs:List X):X.frz (.tup cs)= .tup (Mn cs):=rfl
theorem zvN(i:Id)(p:Path):X.frz (.ref i p)=X.frzV (.ref i p):=rfl
theorem zvp(i:Id)(p:Path)(j k:Nat):X.frz (.ptr i p j k)=X.frzV (.ptr i p j k):=rfl
theorem zq7(ds:List D):X.frz (.rop ds)=X.frzV (.rop ds):=rfl
theorem zyz(cs:List X):X.frz (.vp cs)=X.frzV (.vp cs):=rfl
theorem zkZ(f:Nat)(cs:List X):X.frz (.clo f cs)=X.frzV (.clo f cs):=rfl
theorem zJ4(c:D):X.flat (.d c)=true:=rfl
theorem Yt(cs:List X):X.flat (.agg cs)=false:=rfl
theorem X1(cs:List X):X.flat (.tup cs)=false:=rfl
theorem Wo(i:Id)(p:Path):X.flat (.ref i p)=true:=rfl
theorem Wm(i:Id)(p:Path)(j k:Nat):X.flat (.ptr i p j k)=true:=rfl
theorem Za(ds:List D):X.flat (.rop ds)=true:=rfl
theorem zq9(cs:List X):X.flat (.vp cs)=false:=rfl
theorem X9(f:Nat)(cs:List X):X.flat (.clo f cs)=false:=rfl
theorem zq1(c:D):X.keeps (.d c)=true:=rfl
theorem V3(cs:List X):X.keeps (.agg cs)=cs.all X.flat:=rfl
theorem Tl(cs:List X):X.keeps (.tup cs)=false:=rfl
theorem Ro(i:Id)(p:Path):X.keeps (.ref i p)=true:=rfl
theorem R4(i:Id)(p:Path)(j k:Nat):X.keeps (.ptr i p j k)=true:=rfl
theorem Uy(ds:List D):X.keeps (.rop ds)=true:=rfl
theorem X2(cs:List X):X.keeps (.vp cs)=cs.all X.flat:=rfl
theorem Ut(f:Nat)(cs:List X):X.keeps (.clo f cs)=cs.all X.flat:=rfl
theorem zx9(fr:Nat)(c:D):X.offC fr (.d c)=[]:=rfl
theorem W3(fr:Nat)(cs:List X):X.offC fr (.agg cs)=[]:=rfl
theorem X0(fr:Nat)(cs:List X):X.offC fr (.tup cs)=[]:=rfl
theorem zzj(fr:Nat)(i:Id)(p:Path):X.offC fr (.ref i p)=if i.1=fr then [i.2] else []:=rfl
theorem Zp(fr:Nat)(i:Id)(p:Path)(j k:Nat):X.offC fr (.ptr i p j k)=if i.1=fr then [i.2] else []:=rfl
theorem zzb(fr:Nat)(ds:List D):X.offC fr (.rop ds)=[]:=rfl
theorem zv4(fr:Nat)(cs:List X):X.offC fr (.vp cs)=[]:=rfl
theorem Xh(fr:Nat)(f:Nat)(cs:List X):X.offC fr (.clo f cs)=[]:=rfl
theorem zyT(fr:Nat)(c:D):X.offs fr (.d c)=X.offC fr (.d c):=rfl
theorem Y8(fr:Nat)(cs:List X):X.offs fr (.agg cs)=D5 fr cs:=rfl
theorem Wv(fr:Nat)(cs:List X):X.offs fr (.tup cs)=X.offC fr (.tup cs):=rfl
theorem Wr(fr:Nat)(i:Id)(p:Path):X.offs fr (.ref i p)=X.offC fr (.ref i p):=rfl
theorem Wn(fr:Nat)(i:Id)(p:Path)(j k:Nat):X.offs fr (.ptr i p j k)=X.offC fr (.ptr i p j k):=rfl
theorem Zz(fr:Nat)(ds:List D):X.offs fr (.rop ds)=X.offC fr (.rop ds):=rfl
theorem zqz(fr:Nat)(cs:List X):X.offs fr (.vp cs)=D5 fr cs:=rfl
theorem Wq(fr:Nat)(f:Nat)(cs:List X):X.offs fr (.clo f cs)=D5 fr cs:=rfl
theorem zyS(g:Id→Id)(c:D):X.renC g (.d c)=(.d c):=rfl
theorem Zt(g:Id→Id)(cs:List X):X.renC g (.agg cs)=(.agg cs):=rfl
theorem X8(g:Id→Id)(cs:List X):X.renC g (.tup cs)=(.tup cs):=rfl
theorem Xs(g:Id→Id)(i:Id)(p:Path):X.renC g (.ref i p)= .ref (g i) p:=rfl
theorem Xt(g:Id→Id)(i:Id)(p:Path)(j k:Nat):X.renC g (.ptr i p j k)= .ptr (g i) p j k:=rfl
theorem Yk(g:Id→Id)(ds:List D):X.renC g (.rop ds)=(.rop ds):=rfl
theorem zv3(g:Id→Id)(cs:List X):X.renC g (.vp cs)=(.vp cs):=rfl
theorem Y6(g:Id→Id)(f:Nat)(cs:List X):X.renC g (.clo f cs)=(.clo f cs):=rfl
theorem zVv(g:Id→Id)(c:D):X.ren g (.d c)=X.renC g (.d c):=rfl
theorem zqX(g:Id→Id)(cs:List X):X.ren g (.agg cs)= .agg (cs.map (X.renC g)):=rfl
theorem zvA(g:Id→Id)(cs:List X):X.ren g (.tup cs)=X.renC g (.tup cs):=rfl
theorem zvf(g:Id→Id)(i:Id)(p:Path):X.ren g (.ref i p)=X.renC g (.ref i p):=rfl
theorem zvr(g:Id→Id)(i:Id)(p:Path)(j k:Nat):X.ren g (.ptr i p j k)=X.renC g (.ptr i p j k):=rfl
theorem zvs(g:Id→Id)(ds:List D):X.ren g (.rop ds)=X.renC g (.rop ds):=rfl
theorem zQx(g:Id→Id)(cs:List X):X.ren g (.vp cs)= .vp (cs.map (X.renC g)):=rfl
theorem zvV(g:Id→Id)(f:Nat)(cs:List X):X.ren g (.clo f cs)= .clo f (cs.map (X.renC g)):=rfl
theorem zyd(h:Heap)(x:Value):gO h (.d (.v x))=some (.v x,h):=rfl
theorem zZt(h:Heap)(e:List (List D)):gO h (.d (.r e))=some (.r e,h):=rfl
theorem zyV(h:Heap)(sz:Nat):gO h (.d (.s sz []))=some (.s sz [],h):=rfl
theorem zQv(h:Heap):gO h (.d .u)=some (.u,h):=rfl
theorem zjQ(h:Heap)(i:Id)(p:Path):gO h (.ref i p)=h.take i p:=rfl
theorem zZA(h:Heap)(x:Value):jT h (.d (.v x))=some (.d (.v x)):=rfl
theorem zxa(h:Heap)(e:List (List D)):jT h (.d (.r e))=some (.d (.r e)):=rfl
theorem zZT(h:Heap)(sz:Nat):jT h (.d (.s sz []))=some (.d (.r [])):=rfl
theorem zQg(h:Heap):jT h (.d .u)=some (.d .u):=rfl
theorem zkO(h:Heap)(i:Id)(p:Path):jT h (.ref i p)=(h.row i p).map zWZ:=rfl
theorem zYZ(h:Heap)(c:D):xO h (.d c)=jT h (.d c):=rfl
theorem zJa(h:Heap)(cs:List X):xO h (.agg cs)=(tU h cs).map .agg:=rfl
theorem zwg(h:Heap)(cs:List X):xO h (.tup cs)=jT h (.tup cs):=rfl
theorem zxx(h:Heap)(i:Id)(p:Path):xO h (.ref i p)=jT h (.ref i p):=rfl
theorem zZN(h:Heap)(i:Id)(p:Path)(j k:Nat):xO h (.ptr i p j k)=jT h (.ptr i p j k):=rfl
theorem zZP(h:Heap)(ds:List D):xO h (.rop ds)=jT h (.rop ds):=rfl
theorem zVN(h:Heap)(cs:List X):xO h (.vp cs)=jT h (.vp cs):=rfl
theorem zw4(h:Heap)(f:Nat)(cs:List X):xO h (.clo f cs)=jT h (.clo f cs):=rfl
theorem zQ3(fr:Nat)(h:Heap)(x:Value):kO fr h (.d (.v x))=some (.d (.v x),h):=rfl
theorem zKb(fr:Nat)(h:Heap)(e:List (List D)):kO fr h (.d (.r e))=some (.d (.r e),h):=rfl
theorem zWy(fr:Nat)(h:Heap)(sz:Nat):kO fr h (.d (.s sz []))=some (.d (.s sz []),h):=rfl
theorem zKk(fr:Nat)(h:Heap):kO fr h (.d .u)=none:=rfl
theorem zx3(fr:Nat)(h:Heap)(i:Id)(p:Path):kO fr h (.ref i p)=if i.1=fr then(h.take i p).map z9H else some (.ref i p,h):=rfl
theorem zwG(fr:Nat)(h:Heap)(i:Id)(p:Path)(j k:Nat):kO fr h (.ptr i p j k)=if i.1=fr then none else some (.ptr i p j k,h):=rfl
theorem zZx(fr:Nat)(h:Heap)(ds:List D):kO fr h (.rop ds)=some (.rop ds,h):=rfl
theorem zYC(fr:Nat)(h:Heap)(c:D):nQ fr h (.d c)=kO fr h (.d c):=rfl
theorem zwy(fr:Nat)(h:Heap)(cs:List X):nQ fr h (.agg cs)=(K7 fr h cs).map zYa:=rfl
theorem zZE(fr:Nat)(h:Heap)(cs:List X):nQ fr h (.tup cs)=kO fr h (.tup cs):=rfl
theorem zxe(fr:Nat)(h:Heap)(i:Id)(p:Path):nQ fr h (.ref i p)=kO fr h (.ref i p):=rfl
theorem zQL(fr:Nat)(h:Heap)(i:Id)(p:Path)(j k:Nat):nQ fr h (.ptr i p j k)=kO fr h (.ptr i p j k):=rfl
theorem zQk(fr:Nat)(h:Heap)(ds:List D):nQ fr h (.rop ds)=kO fr h (.rop ds):=rfl
theorem zKa(fr:Nat)(h:Heap)(cs:List X):nQ fr h (.vp cs)=kO fr h (.vp cs):=rfl
theorem zxZ(fr:Nat)(h:Heap)(f:Nat)(cs:List X):nQ fr h (.clo f cs)=kO fr h (.clo f cs):=rfl
theorem zVU(h:Heap)(id:Id)(x:Value):iS h id (.d (.v x))=((.d (.v x)),h):=rfl
theorem zQV(h:Heap)(id:Id)(e:List (List D)):iS h id (.d (.r e))=((.d (.r e)),h):=rfl
theorem zV8(h:Heap)(id:Id):iS h id (.d .u)=((.d .u),h):=rfl
theorem zVe(h:Heap)(id:Id)(sz:Nat)(e:List (List D)):iS h id (.d (.s sz e))=(.ref id [],upd h id (some (.s sz e))):=rfl
theorem zZ8(h:Heap)(id:Id)(cs:List X):iS h id (.agg cs)=((.agg cs),h):=rfl
theorem zxU(h:Heap)(id:Id)(cs:List X):iS h id (.tup cs)=((.tup cs),h):=rfl
theorem zx7(h:Heap)(id:Id)(i:Id)(p:Path):iS h id (.ref i p)=((.ref i p),h):=rfl
theorem zwP(h:Heap)(id:Id)(i:Id)(p:Path)(j k:Nat):iS h id (.ptr i p j k)=((.ptr i p j k),h):=rfl
theorem zxy(h:Heap)(id:Id)(ds:List D):iS h id (.rop ds)=((.rop ds),h):=rfl
theorem zVo(h:Heap)(id:Id)(cs:List X):iS h id (.vp cs)=((.vp cs),h):=rfl
theorem zw2(h:Heap)(id:Id)(f:Nat)(cs:List X):iS h id (.clo f cs)=((.clo f cs),h):=rfl
theorem zYY(h:Heap)(id:Id)(c:D):lJ h id (.d c)=iS h id (.d c):=rfl
theorem zyC(h:Heap)(id:Id)(cs:List X):lJ h id (.agg cs)=(.agg (tE h id cs).1,(tE h id cs).2):=rfl
theorem zQa(h:Heap)(id:Id)(cs:List X):lJ h id (.tup cs)=iS h id (.tup cs):=rfl
theorem zy7(h:Heap)(id:Id)(i:Id)(p:Path):lJ h id (.ref i p)=iS h id (.ref i p):=rfl
theorem zyZ(h:Heap)(id:Id)(i:Id)(p:Path)(j k:Nat):lJ h id (.ptr i p j k)=iS h id (.ptr i p j k):=rfl
theorem zwO(h:Heap)(id:Id)(ds:List D):lJ h id (.rop ds)=iS h id (.rop ds):=rfl
theorem zWq(h:Heap)(id:Id)(cs:List X):lJ h id (.vp cs)=iS h id (.vp cs):=rfl
theorem zxc(h:Heap)(id:Id)(f:Nat)(cs:List X):lJ h id (.clo f cs)=iS h id (.clo f cs):=rfl
theorem zYR(h:Heap)(id:Id)(c:D):tT h id (.d c)=lJ h id (.d c):=rfl
theorem zQi(h:Heap)(id:Id)(cs:List X):tT h id (.agg cs)=lJ h id (.agg cs):=rfl
theorem zyn(h:Heap)(id:Id)(cs:List X):tT h id (.tup cs)=(.tup (tP h id cs).1,(tP h id cs).2):=rfl
theorem zxA(h:Heap)(id:Id)(i:Id)(p:Path):tT h id (.ref i p)=lJ h id (.ref i p):=rfl
theorem zyq(h:Heap)(id:Id)(i:Id)(p:Path)(j k:Nat):tT h id (.ptr i p j k)=lJ h id (.ptr i p j k):=rfl
theorem zJj(h:Heap)(id:Id)(ds:List D):tT h id (.rop ds)=lJ h id (.rop ds):=rfl
theorem zKw(h:Heap)(id:Id)(cs:List X):tT h id (.vp cs)=lJ h id (.vp cs):=rfl
theorem zyF(h:Heap)(id:Id)(f:Nat)(cs:List X):tT h id (.clo f cs)=lJ h id (.clo f cs):=rfl
theorem Yl(c:D):X.ncells (.d c)=(X.cells (.d c)).length:=rfl
theorem Pq(cs:List X):X.ncells (.agg cs)=(X.cells (.agg cs)).length:=rfl
theorem Pe(cs:List X):X.ncells (.tup cs)=(cs.map fun x=>x.cells.length).sum:=rfl
theorem O5(i:Id)(p:Path):X.ncells (.ref i p)=(X.cells (.ref i p)).length:=rfl
theorem Ov(i:Id)(p:Path)(j k:Nat):X.ncells (.ptr i p j k)=(X.cells (.ptr i p j k)).length:=rfl
theorem Q4(ds:List D):X.ncells (.rop ds)=(X.cells (.rop ds)).length:=rfl
theorem Rn(cs:List X):X.ncells (.vp cs)=(X.cells (.vp cs)).length:=rfl
theorem P7(f:Nat)(cs:List X):X.ncells (.clo f cs)=(X.cells (.clo f cs)).length:=rfl
theorem zKo(h:Heap)(n:Nat)(x:Value):wT h n (.d (.v x))=some (.d (.v x),h,[]):=rfl
theorem zKD(h:Heap)(n:Nat)(e:List (List D)):wT h n (.d (.r e))=some (.d (.r e),h,[]):=rfl
theorem zVk(h:Heap)(n:Nat)(sz:Nat):wT h n (.d (.s sz []))=some (.d (.s sz []),h,[]):=rfl
theorem zVQ(h:Heap)(n:Nat):wT h n (.d .u)=none:=rfl
theorem zZ1(h:Heap)(n:Nat)(i:Id)(p:Path):wT h n (.ref i p)=(h.take i p).map (zXs (.ref (0,n) []) i p):=rfl
theorem zJc(h:Heap)(n:Nat)(i:Id)(p:Path)(j k:Nat):wT h n (.ptr i p j k)=(h.take i p).map (zXs (.ptr (0,n) [] j k) i p):=rfl
theorem zXo(h:Heap)(n:Nat)(c:D):Gb h n (.d c)=wT h n (.d c):=rfl
theorem zwV(h:Heap)(n:Nat)(cs:List X):Gb h n (.agg cs)=(M6 h n cs).map zYr:=rfl
theorem zZM(h:Heap)(n:Nat)(cs:List X):Gb h n (.tup cs)=wT h n (.tup cs):=rfl
theorem zxS(h:Heap)(n:Nat)(i:Id)(p:Path):Gb h n (.ref i p)=wT h n (.ref i p):=rfl
theorem zyN(h:Heap)(n:Nat)(i:Id)(p:Path)(j k:Nat):Gb h n (.ptr i p j k)=wT h n (.ptr i p j k):=rfl
theorem zJM(h:Heap)(n:Nat)(ds:List D):Gb h n (.rop ds)=wT h n (.rop ds):=rfl
theorem zWh(h:Heap)(n:Nat)(cs:List X):Gb h n (.vp cs)=wT h n (.vp cs):=rfl
theorem zxL(h:Heap)(n:Nat)(f:Nat)(cs:List X):Gb h n (.clo f cs)=wT h n (.clo f cs):=rfl
theorem zwe(x:Value)(cs:List D):eX (.v x::cs)=eX cs:=rfl
theorem zy5(sz:Nat)(e:List (List D))(cs:List D):eX (.s sz e::cs)=false:=rfl
theorem zwi(e:List (List D))(cs:List D):eX (.r e::cs)=false:=rfl
theorem zZc(cs:List D):eX (.u::cs)=false:=rfl
theorem Ym:eX []=true:=rfl
def oG(x:X)(xs:List X):List X:=x::xs
theorem zy1(x:X)(xs:List X):oG x xs=x::xs:=rfl
def Y0(x:D)(a:List D×Heap):List D×Heap:=(x::a.1,a.2)
theorem zki(x:D)(xs:List D)(h:Heap):Y0 x (xs,h)=(x::xs,h):=rfl
def J7(x:X)(a:List X×Heap):List X×Heap:=(x::a.1,a.2)
theorem zj7(x:X)(xs:List X)(h:Heap):J7 x (xs,h)=(x::xs,h):=rfl
theorem zwJ(st:St):lI st []=some []:=rfl
def zYj(st:St)(os:List O)(x:X):Option (List X):=(lI st os).map (oG x)
theorem zjL(st:St)(o:O)(os:List O):lI st (o::os)=(rdO st o).bind (zYj st os):=rfl
theorem zZ4(st:St)(os:List O)(x:X):zYj st os x=(lI st os).map (oG x):=rfl
theorem zqn(h:Heap):hP h []=some ([],h):=rfl
def zw5(xs:List X)(a:D×Heap):Option (List D×Heap):=(hP a.2 xs).map (Y0 a.1)
theorem X6(h:Heap)(x:X)(xs:List X):hP h (x::xs)=(gO h x).bind (zw5 xs):=rfl
theorem zkC(xs:List X)(d:D)(h:Heap):zw5 xs (d,h)=(hP h xs).map (Y0 d):=rfl
theorem zv7(fr:Nat)(h:Heap):K7 fr h []=some ([],h):=rfl
def zYw(fr:Nat)(xs:List X)(a:X×Heap):Option (List X×Heap):=(K7 fr a.2 xs).map (J7 a.1)
theorem zqE(fr:Nat)(h:Heap)(x:X)(xs:List X):K7 fr h (x::xs)=(kO fr h x).bind (zYw fr xs):=rfl
theorem zJA(fr:Nat)(xs:List X)(d:X)(h:Heap):zYw fr xs (d,h)=(K7 fr h xs).map (J7 d):=rfl
theorem zZW(fr:Nat)(h:Heap):oD fr h []=some ([],h):=rfl
def zYg(fr:Nat)(xs:List X)(a:X×Heap):Option (List X×Heap):=(oD fr a.2 xs).map (J7 a.1)
theorem zvO(fr:Nat)(h:Heap)(x:X)(xs:List X):oD fr h (x::xs)=(nQ fr h x).bind (zYg fr xs):=rfl
theorem zyQ(fr:Nat)(xs:List X)(d:X)(h:Heap):zYg fr xs (d,h)=(oD fr h xs).map (J7 d):=rfl
def zYh(j i:Nat)(r:Nat×List (List D)):Option X:=(r.2[j]?).map fun el=> .rop (fzl (el.drop i))
theorem zqZ(h:Heap)(id:Id)(q:Path)(j i:Nat):jT h (.ptr id q j i)=(h.row id q).bind (zYh j i):=rfl
theorem zwk(j i n:Nat)(els:List (List D)):zYh j i (n,els)=(els[j]?).map fun el=> .rop (fzl (el.drop i)):=rfl
theorem zjM(h:Heap):tU h []=some []:=rfl
def zwH(h:Heap)(xs:List X)(y:X):Option (List X):=(tU h xs).map (oG y)
theorem Xx(h:Heap)(x:X)(xs:List X):tU h (x::xs)=(jT h x).bind (zwH h xs):=rfl
theorem zkf(h:Heap)(xs:List X)(y:X):zwH h xs y=(tU h xs).map (oG y):=rfl
theorem zqy(h:Heap):jV h []=some []:=rfl
def zxN(h:Heap)(xs:List X)(y:X):Option (List X):=(jV h xs).map (oG y)
theorem Y2(h:Heap)(x:X)(xs:List X):jV h (x::xs)=(xO h x).bind (zxN h xs):=rfl
theorem zkH(h:Heap)(xs:List X)(y:X):zxN h xs y=(jV h xs).map (oG y):=rfl
def zy9(h:Heap)(xs:List X)(bs:List Bool)(y:X):Option (List X):=(nK h xs bs).map (oG y)
theorem zqM(h:Heap)(bs:List Bool):nK h [] bs=some []:=by unfold nK;rfl
theorem zKd(h:Heap)(x:X)(xs:List X)(bs:List Bool):nK h (x::xs) (true::bs)=(nK h xs bs).map (oG x):=rfl
theorem zVM(h:Heap)(x:X)(xs:List X)(bs:List Bool):nK h (x::xs) (false::bs)=(xO h x).bind (zy9 h xs bs):=rfl
theorem zvR(h:Heap)(xs:List X)(bs:List Bool)(y:X):zy9 h xs bs y=(nK h xs bs).map (oG y):=rfl
def Io(x:X)(L:cU)(b:List X×Heap×cU):List X×Heap×cU:=(x::b.1,b.2.1,L++b.2.2)
theorem zvg(x:X)(L:cU)(xs:List X)(h:Heap)(M:cU):Io x L (xs,h,M)=(x::xs,h,L++M):=rfl
def zYl(k:Nat)(xs:List X)(a:X×Heap×cU):Option (List X×Heap×cU):=(M6 a.2.1 (k+a.2.2.length) xs).map (Io a.1 a.2.2)
theorem zyy(h:Heap)(k:Nat):M6 h k []=some ([],h,[]):=rfl
theorem zqO(h:Heap)(k:Nat)(x:X)(xs:List X):M6 h k (x::xs)=(wT h k x).bind (zYl k xs):=rfl
theorem zZ2(k:Nat)(xs:List X)(y:X)(h:Heap)(L:cU):zYl k xs (y,h,L)=(M6 h (k+L.length) xs).map (Io y L):=rfl
def zWY(k:Nat)(xs:List X)(bs:List Bool)(a:X×Heap×cU):Option (List X×Heap×cU):=(qI a.2.1 (k+a.2.2.length) xs bs).map (Io a.1 a.2.2)
def zyr(x:X)(c:List X×Heap×cU):List X×Heap×cU:=(x::c.1,c.2.1,c.2.2)
theorem zvY(x:X)(xs:List X)(h:Heap)(L:cU):zyr x (xs,h,L)=(x::xs,h,L):=rfl
theorem zJv(h:Heap)(k:Nat)(bs:List Bool):qI h k [] bs=some ([],h,[]):=by unfold qI;rfl
theorem zXc(h:Heap)(k:Nat)(x:X)(xs:List X)(bs:List Bool):qI h k (x::xs) (true::bs)=(Gb h k x).bind (zWY k xs bs):=rfl
theorem zYJ(h:Heap)(k:Nat)(x:X)(xs:List X)(bs:List Bool):qI h k (x::xs) (false::bs)=(qI h k xs bs).map (zyr x):=rfl
theorem zZh(k:Nat)(xs:List X)(bs:List Bool)(y:X)(h:Heap)(L:cU):zWY k xs bs (y,h,L)=(qI h (k+L.length) xs bs).map (Io y L):=rfl
theorem zQ6(d:D):D.nav d []=some d:=by unfold D.nav;rfl
def zVC(p:Path)(c:D):Option D:=c.nav p
theorem zKf(p:Path)(c:D):zVC p c=c.nav p:=rfl
def z9O(i:Nat)(p:Path)(el:List D):Option D:=(el[i]?).bind (zVC p)
theorem zKt(i:Nat)(p:Path)(el:List D):z9O i p el=(el[i]?).bind (zVC p):=rfl
theorem z9w(sz:Nat)(els:List (List D))(j i:Nat)(p:Path):D.nav (.s sz els) ((j,i)::p)=(els[j]?).bind (z9O i p):=by rw[D.nav];rfl
theorem zK6(h:Heap)(id:Id)(p:Path):h.nav id p=(h id).bind (zVC p):=rfl
theorem zQY(h:Heap)(id:Id)(p:Path):h.row id p=(h.nav id p).bind D.rowOf:=rfl
def zwT(sz:Nat)(els:List (List D))(j i:Nat)(el:List D)(c:D):D:= .s sz (els.set j (el.set i c))
theorem zyL(sz:Nat)(els:List (List D))(j i:Nat)(el:List D)(c:D):zwT sz els j i el c= .s sz (els.set j (el.set i c)):=rfl
def zJ6(sz:Nat)(els:List (List D))(j i:Nat)(p:Path)(x:D)(el:List D)(c:D):Option D:=(c.put p x).map (zwT sz els j i el)
theorem zyJ(sz:Nat)(els:List (List D))(j i:Nat)(p:Path)(x:D)(el:List D)(c:D):zJ6 sz els j i p x el c=(c.put p x).map (zwT sz els j i el):=rfl
def zYd(sz:Nat)(els:List (List D))(j i:Nat)(p:Path)(x:D)(el:List D):Option D:=(el[i]?).bind (zJ6 sz els j i p x el)
theorem zJ8(sz:Nat)(els:List (List D))(j i:Nat)(p:Path)(x:D)(el:List D):zYd sz els j i p x el=(el[i]?).bind (zJ6 sz els j i p x el):=rfl
theorem zWv(d x:D):D.put d [] x=some x:=by unfold D.put;rfl
theorem z9B(sz:Nat)(els:List (List D))(j i:Nat)(p:Path)(x:D):D.put (.s sz els) ((j,i)::p) x=(els[j]?).bind (zYd sz els j i p x):=by rw[D.put];rfl
def X5(h:Heap)(id:Id)(d:D):Heap:=upd h id (some d)
theorem zk9(h:Heap)(id:Id)(d:D):X5 h id d=upd h id (some d):=rfl
def zYv(h:Heap)(id:Id)(p:Path)(x d:D):Option Heap:=(d.put p x).map (X5 h id)
theorem zyM(h:Heap)(id:Id)(p:Path)(x d:D):zYv h id p x d=(d.put p x).map (X5 h id):=rfl
theorem zV2(h:Heap)(id:Id)(p:Path)(x:D):h.put id p x=(h id).bind (zYv h id p x):=rfl
def zYo(h:Heap)(id:Id)(r:Nat×List (List D)):D×Heap:=(.s r.1 r.2,upd h id none)
theorem zJJ(h:Heap)(id:Id)(sz:Nat)(els:List (List D)):zYo h id (sz,els)=(.s sz els,upd h id none):=rfl
theorem zqt(h:Heap)(id:Id):h.take id []=(h.row id []).map (zYo h id):=rfl
def zZj(sz:Nat)(els:List (List D))(h:Heap):D×Heap:=(.s sz els,h)
theorem zwr(sz:Nat)(els:List (List D))(h:Heap):zZj sz els h=(.s sz els,h):=rfl
def zWV(h:Heap)(id:Id)(p:Path)(r:Nat×List (List D)):Option (D×Heap):=(h.put id p .u).map (zZj r.1 r.2)
theorem zxh(h:Heap)(id:Id)(p:Path)(sz:Nat)(els:List (List D)):zWV h id p (sz,els)=(h.put id p .u).map (zZj sz els):=rfl
theorem Xp(h:Heap)(id:Id)(c:Nat×Nat)(p:Path):h.take id (c::p)=(h.row id (c::p)).bind (zWV h id (c::p)):=rfl
theorem zw7(h:Heap)(id:Id)(x:D):h.putb id [] x=some (upd h id (some x)):=rfl
theorem zkm(h:Heap)(id:Id)(c:Nat×Nat)(p:Path)(x:D):h.putb id (c::p) x=h.put id (c::p) x:=rfl
theorem z8b(id:Id)(p:Path)(x:Value):D.own id p (.v x)=some (.d (.v x)):=rfl
theorem z8l(id:Id)(p:Path)(sz:Nat)(e:List (List D)):D.own id p (.s sz e)=some (.ref id p):=rfl
theorem z9S(id:Id)(p:Path)(e:List (List D)):D.own id p (.r e)=some (.d (.r e)):=rfl
theorem z9P(id:Id)(p:Path):D.own id p .u=some (.d .u):=rfl
theorem zxB(id:Id)(q:Path)(j i:Nat):B5 id q j i []=some []:=by unfold B5;rfl
def zYn(id:Id)(q:Path)(j i:Nat)(cs:List D)(x:X):Option (List X):=(B5 id q j (i+1) cs).map (oG x)
theorem zyi(id:Id)(q:Path)(j i:Nat)(cs:List D)(x:X):zYn id q j i cs x=(B5 id q j (i+1) cs).map (oG x):=rfl
theorem zkT(id:Id)(q:Path)(j i:Nat)(c:D)(cs:List D):B5 id q j i (c::cs)=(c.own id (q++[(j,i)])).bind (zYn id q j i cs):=rfl
theorem z8r(x:Value):D.ro (.v x)=some (.d (.v x)):=rfl
theorem z8x(sz:Nat)(e:List (List D)):D.ro (.s sz e)=some (.d (.r e)):=rfl
theorem z8t(e:List (List D)):D.ro (.r e)=some (.d (.r e)):=rfl
theorem z8C:D.ro .u=some (.d .u):=rfl
theorem zK0:roL []=some []:=rfl
def z8g(cs:List D)(x:X):Option (List X):=(roL cs).map (oG x)
theorem zVa(cs:List D)(x:X):z8g cs x=(roL cs).map (oG x):=rfl
theorem zQs(c:D)(cs:List D):roL (c::cs)=(c.ro).bind (z8g cs):=rfl
theorem zkz(h:Heap)(n:Nat)(cs:List D):m9 h n (.rop cs)=if n≤cs.length then roL (cs.take n) else none:=rfl
theorem zJp(h:Heap)(n:Nat)(cs:List X):m9 h n (.vp cs)=if n≤cs.length then some (cs.take n) else none:=rfl
def ldB(id:Id)(q:Path)(j i n:Nat)(el:List D):Option (List X):=if i+n≤el.length then B5 id q j i ((el.drop i).take n) else none
theorem zXd(id:Id)(q:Path)(j i n:Nat)(el:List D):ldB id q j i n el=if i+n≤el.length then B5 id q j i ((el.drop i).take n) else none:=rfl
def ldA(id:Id)(q:Path)(j i n:Nat)(r:Nat×List (List D)):Option (List X):=(r.2[j]?).bind (ldB id q j i n)
theorem zXe(id:Id)(q:Path)(j i n sz:Nat)(els:List (List D)):ldA id q j i n (sz,els)=(els[j]?).bind (ldB id q j i n):=rfl
theorem zq8(h:Heap)(n:Nat)(id:Id)(q:Path)(j i:Nat):m9 h n (.ptr id q j i)=(h.row id q).bind (ldA id q j i n):=rfl
theorem Xy(off:Nat)(id:Id)(q:Path)(j i:Nat):x7 off (.ptr id q j i)=some (.ptr id q j (i+off)):=rfl
theorem W8(off:Nat)(cs:List D):x7 off (.rop cs)=some (.rop (cs.drop off)):=rfl
theorem zjO(off:Nat)(cs:List X):x7 off (.vp cs)=some (.vp (cs.drop off)):=rfl
def ixB(sz:Nat)(el:List D):Option X:=if el.length=sz then some (.rop el) else none
theorem zXP(sz:Nat)(el:List D):ixB sz el=if el.length=sz then some (.rop el) else none:=rfl
theorem zYG(h:Heap)(sz:Nat)(n:Int)(els:List (List D)):Mz h sz n (.d (.r els))=if 0≤n∧n<(els.length:Int) then(els[n.toNat]?).bind (ixB sz) else none:=rfl
def ixC(id:Id)(p:Path)(sz:Nat)(n:Int)(r:Nat×List (List D)):Option X:=if 0≤n∧n<(r.2.length:Int)∧r.1=sz then some (.ptr id p n.toNat 0) else none
theorem z9h(id:Id)(p:Path)(sz:Nat)(n:Int)(m:Nat)(els:List (List D)):ixC id p sz n (m,els)=if 0≤n∧n<(els.length:Int)∧m=sz then some (.ptr id p n.toNat 0) else none:=rfl
theorem zyv(h:Heap)(sz:Nat)(n:Int)(id:Id)(p:Path):Mz h sz n (.ref id p)=(h.row id p).bind (ixC id p sz n):=rfl
theorem zXN(h:Heap)(els:List (List D)):Mg h (.d (.r els))=some els.length:=rfl
theorem zYS(h:Heap)(sz:Nat):Mg h (.d (.s sz []))=some 0:=rfl
def z92(r:Nat×List (List D)):Nat:=r.2.length
theorem zWG(sz:Nat)(els:List (List D)):z92 (sz,els)=els.length:=rfl
theorem zyW(h:Heap)(id:Id)(p:Path):Mg h (.ref id p)=(h.row id p).map z92:=rfl
theorem Yb(id:Id)(q:Path)(j i:Nat):vI (.ptr id q j i)=some (.ptr id q j i):=rfl
theorem zze(cs:List D):vI (.rop cs)=some (.rop cs):=rfl
theorem zks(cs:List X):vI (.vp cs)=some (.vp cs):=rfl
def idH(h:Heap)(els:List (List D)):List (List D)×Heap:=(els,h)
def z93(a:D×Heap):Option (List (List D)×Heap):=(a.1.rowOf).map fun r=>(r.2,a.2)
theorem zWw(sz:Nat)(els:List (List D))(h:Heap):z93 (.s sz els,h)=some (els,h):=rfl
theorem zJh(h:Heap)(sz:Nat):oC h (.d (.s sz []))=some ([],h):=rfl
theorem zya(h:Heap)(els:List (List D)):oC h (.d (.r els))=some (els.map fun el=>el.map D.toR,h):=rfl
theorem Zr(h:Heap)(id:Id)(p:Path):oC h (.ref id p)=(h.take id p).bind z93:=rfl
def zW6(sz:Nat)(a:D×Heap):Option (List (List D)×Heap):=(a.1.rowOf).bind fun r=>if r.1=sz then some (r.2,a.2) else none
theorem zQt(sz m:Nat)(els:List (List D))(h:Heap):zW6 sz (.s m els,h)=if m=sz then some (els,h) else none:=rfl
theorem zvk(h:Heap)(sz m:Nat):gZ h sz (.d (.s m []))=some ([],h):=rfl
theorem Tn(h:Heap)(sz:Nat)(id:Id)(p:Path):gZ h sz (.ref id p)=(h.take id p).bind (zW6 sz):=rfl
theorem zvn(st:St):fF st []=some []:=by unfold fF;rfl
def Zf(st:St)(rs:List SRes)(x:X):Option (List X):=(fF st rs).map (oG x)
theorem zqB(st:St)(rs:List SRes)(x:X):Zf st rs x=(fF st rs).map (oG x):=rfl
theorem zKE(st:St)(n:Nat)(rs:List SRes):fF st (.t n::rs)=(st.env n).bind (Zf st rs):=rfl
def zQb(st:St)(k:Option Nat)(a:X):Option X:=(m9 st.heap (k.getD 1) a).bind (tG k)
theorem zqw(st:St)(k:Option Nat)(a:X):zQb st k a=(m9 st.heap (k.getD 1) a).bind (tG k):=rfl
theorem zVx(st:St)(n:Nat)(k:Option Nat)(rs:List SRes):fF st (.c n k::rs)=((st.env n).bind (zQb st k)).bind (Zf st rs):=rfl
def So(a:List X×Heap):X:=mF a.1
theorem zWo(x:X)(h:Heap):So ([x],h)=x:=rfl
theorem zVA(h:Heap):So ([],h)= .tup []:=rfl
theorem zVT(x y:X)(xs:List X)(h:Heap):So (x::y::xs,h)= .tup (x::y::xs):=rfl
def Ni(s:St)(xs:List X):Option X:=(oD 0 s.heap xs).map So
theorem zZZ(s:St)(xs:List X):Ni s xs=(oD 0 s.heap xs).map So:=rfl
def Tx(fr:Nat)(a:List X×Heap):X×Heap:=(mF a.1,bA fr a.2)
theorem zWa(fr:Nat)(x:X)(h:Heap):Tx fr ([x],h)=(x,bA fr h):=rfl
theorem zKI(fr:Nat)(h:Heap):Tx fr ([],h)=(.tup [],bA fr h):=rfl
theorem zV0(fr:Nat)(x y:X)(xs:List X)(h:Heap):Tx fr (x::y::xs,h)=(.tup (x::y::xs),bA fr h):=rfl
def U5(s:St)(fr:Nat)(xs:List X):Option (X×Heap):=(oD fr s.heap xs).map (Tx fr)
theorem zJu(s:St)(fr:Nat)(xs:List X):U5 s fr xs=(oD fr s.heap xs).map (Tx fr):=rfl
def zKz(st:St)(m:List (Nat×Nat))(ts:List Nat)(x:X):Bool→List (Nat×Nat)
 |true=>fK st (F9 m (x.offs st.fr)) ts
 |false=>fK st m ts
theorem zX0(st:St)(m:List (Nat×Nat))(ts:List Nat)(x:X):zKz st m ts x true=fK st (F9 m (x.offs st.fr)) ts:=rfl
theorem zXr(st:St)(m:List (Nat×Nat))(ts:List Nat)(x:X):zKz st m ts x false=fK st m ts:=rfl
def kmK(st:St)(m:List (Nat×Nat))(ts:List Nat):Option X→List (Nat×Nat)
 |some x=>zKz st m ts x x.keeps
 |none=>fK st m ts
theorem Ss(st:St)(m:List (Nat×Nat))(ts:List Nat)(x:X):kmK st m ts (some x)=zKz st m ts x x.keeps:=rfl
theorem zxm(st:St)(m:List (Nat×Nat))(ts:List Nat):kmK st m ts none=fK st m ts:=rfl
theorem zq3(st:St)(m:List (Nat×Nat)):fK st m []=m:=by unfold fK;rfl
theorem Zx(st:St)(m:List (Nat×Nat))(t:Nat)(ts:List Nat):fK st m (t::ts)=kmK st m ts (st.env t):=by
 rw[fK]
 cases st.env t with
 |none=>rfl
 |some x=>simp only[Ss];cases x.keeps<;>rfl
def zKm(st:St)(m:List (Nat×Nat))(t:Nat)(ts:List Nat)(x:X):Bool→Env
 |true=>upd (l7 st m ts) t (some (x.ren (kid st.fr m)))
 |false=>l7 st m ts
theorem zX2(st:St)(m:List (Nat×Nat))(t:Nat)(ts:List Nat)(x:X):zKm st m t ts x true=upd (l7 st m ts) t (some (x.ren (kid st.fr m))):=rfl
theorem z9d(st:St)(m:List (Nat×Nat))(t:Nat)(ts:List Nat)(x:X):zKm st m t ts x false=l7 st m ts:=rfl
def keK(st:St)(m:List (Nat×Nat))(t:Nat)(ts:List Nat):Option X→Env
 |some x=>zKm st m t ts x x.keeps
 |none=>l7 st m ts
theorem Vl(st:St)(m:List (Nat×Nat))(t:Nat)(ts:List Nat)(x:X):keK st m t ts (some x)=zKm st m t ts x x.keeps:=rfl
theorem zJN(st:St)(m:List (Nat×Nat))(t:Nat)(ts:List Nat):keK st m t ts none=l7 st m ts:=rfl
theorem zvB(st:St)(m:List (Nat×Nat)):l7 st m []=emp:=by unfold l7;rfl
theorem Yq(st:St)(m:List (Nat×Nat))(t:Nat)(ts:List Nat):l7 st m (t::ts)=keK st m t ts (st.env t):=by
 rw[l7]
 cases st.env t with
 |none=>rfl
 |some x=>simp only[Vl];cases x.keeps<;>rfl
def ksK(st:St)(L:List Nat)(m:List (Nat×Nat)):St:={env:=l7 st m L,heap:=Ft st.fr st.heap m,fr:=st.fr,next:=m.length}
theorem zXY(st:St)(L:List Nat)(m:List (Nat×Nat)):ksK st L m={env:=l7 st m L,heap:=Ft st.fr st.heap m,fr:=st.fr,next:=m.length}:=rfl
theorem zx0(L:List Nat)(st:St):lC L st=ksK st L (fK st [] L):=rfl
theorem zkr(st:St):tR [] st=lC [] st:=rfl
theorem Xk(t:Nat)(L:List Nat)(st:St):tR (t::L) st=if 20000≤t then lC L (Xg (t-20000) st) else if 10000≤t then lC L (Yz (t-10000) st) else lC (t::L) st:=rfl
theorem zQQ(t:Nat)(st:St):Xg t st=if st.fr=0 then zjJ t st (st.env t) else st:=rfl
theorem zZg(t:Nat)(st:St)(a b:Nat):zjJ t st (some (.ptr (a,b) [] 0 0))=if a=0 then zwF t (a,b) st (st.heap (a,b)) else st:=rfl
theorem zJP(t:Nat)(st:St)(a b:Nat):zjJ t st (some (.ref (a,b) []))=if a=0 then zxQ t (a,b) st (st.heap (a,b)) else st:=rfl
theorem zY0(t:Nat)(id:Id)(st:St)(sz:Nat)(els:List (List D)):zxQ t id st (some (.s sz els))={env:=upd st.env t (some (.d (.r (fzs els)))),heap:=upd st.heap id none,fr:=st.fr,next:=st.next}:=rfl
theorem zY8(t:Nat)(id:Id)(st:St)(sz:Nat)(el:List D):zwF t id st (some (.s sz [el]))={env:=upd st.env t (some (.rop (fzl el))),heap:=upd st.heap id none,fr:=st.fr,next:=st.next}:=rfl
theorem zKF(cs:List X):X.dim (.agg cs)= .agg (cs.map X.dimC):=rfl
theorem zX6(x:D):X.dimC (.d x)= .d x:=rfl
theorem zZb(id:Id)(p:Path):X.dimC (.ref id p)= .d .u:=rfl
theorem zVS(t:Nat)(st:St):Yz t st=if st.fr=0 then zZ6 st (st.env t) else st:=rfl
theorem zQo(st:St)(a b j i:Nat):zZ6 st (some (.ptr (a,b) [] j i))=if a=0 then zZ5 (a,b) st (st.heap (a,b)) else st:=rfl
theorem zX4(id:Id)(st:St)(sz:Nat)(els:List (List D)):zZ5 id st (some (.s sz els))={env:=st.env,heap:=upd st.heap id (some (.s sz (els.map fun el=>el.map D.ice))),fr:=st.fr,next:=st.next}:=rfl
theorem z9t(x:Value):D.ice (.v x)= .v x:=rfl
theorem z9s(els:List (List D)):D.ice (.r els)= .r els:=rfl
theorem z8i(sz:Nat)(els:List (List D)):D.ice (.s sz els)= .r (fzs els):=rfl
def Sj(x:X)(b:List X×Heap):List X×Heap:=(x::b.1,b.2)
theorem zyb(x:X)(xs:List X)(h:Heap):Sj x (xs,h)=(x::xs,h):=rfl
def zW1(id:Id)(xs:List X)(a:X×Heap):List X×Heap:=Sj a.1 (tE a.2 (id.1,id.2+1) xs)
theorem zxu(a b:Nat)(xs:List X)(y:X)(h:Heap):zW1 (a,b) xs (y,h)=Sj y (tE h (a,b+1) xs):=rfl
theorem zv9(h:Heap)(id:Id):tE h id []=([],h):=rfl
theorem zjF(h:Heap)(id:Id)(x:X)(xs:List X):tE h id (x::xs)=zW1 id xs (iS h id x):=rfl
def zW4(id:Id)(n:Nat)(xs:List X)(a:X×Heap):List X×Heap:=Sj a.1 (tP a.2 (id.1,id.2+n) xs)
theorem zwX(a b n:Nat)(xs:List X)(y:X)(h:Heap):zW4 (a,b) n xs (y,h)=Sj y (tP h (a,b+n) xs):=rfl
theorem zwa(h:Heap)(id:Id):tP h id []=([],h):=rfl
theorem zkk(h:Heap)(id:Id)(x:X)(xs:List X):tP h id (x::xs)=zW4 id x.cells.length xs (lJ h id x):=rfl
end Go.Ev
