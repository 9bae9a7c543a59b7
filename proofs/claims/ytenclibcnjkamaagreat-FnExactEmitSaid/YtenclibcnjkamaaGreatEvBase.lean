import Derived.Test.YtenclibcnjkamaaGreatEvSim2
set_option linter.all false
namespace Go.Ev
abbrev I(n:Int):X:= .d (.v (.int .i64 n))
abbrev B(n:Bool):X:= .d (.v (.bool n))
abbrev Str(n:ByteArray):X:= .d (.v (.string n))
abbrev DI(n:Int):D:= .v (.int .i64 n)
abbrev DB(n:Bool):D:= .v (.bool n)
abbrev DS(n:ByteArray):D:= .v (.string n)
def z9j(res:List SRes)(fr:Nat):Ex×St→Option (X×Heap)
 |(.ext _,_)=>none
 |(.nor,s)=>(hZ s res).bind (Vg s fr)
 |(.ret,s)=>(hZ s res).bind (Vg s fr)
def zVj(res:List SRes):Ex×St→Option X
 |(.ext _,_)=>none
 |(.nor,s)=>(hZ s res).bind (Py s)
 |(.ret,s)=>(hZ s res).bind (Py s)
theorem aY{Φ:Nat→Option SFn}{f np nt:Nat}{code:SCode}{res:List SRes}(h:Φ f=some ⟨np,nt,code,res⟩)(args:List X)(hl:args.length=np):call Φ f args=(evW Φ code {env:=jU 0 args,heap:=emp,fr:=0,next:=0}).bind (zVj res):=by
 unfold call
 rw[zqg,h]
 simp only[obs,hl,if_true]
 cases evW Φ code {env:=jU 0 args,heap:=emp,fr:=0,next:=0} with
 |none=>rfl
 |some r =>
  obtain⟨e,s⟩:=r
  cases e<;>simp only[obs,K3,zVj,Option.map_none]
  ·cases hZ s res with
   |none=>rfl
   |some xs=>simp only[obs,Py];cases pY 0 s.heap xs<;>rfl
  ·cases hZ s res with
   |none=>rfl
   |some xs=>simp only[obs,Py];cases pY 0 s.heap xs<;>rfl
theorem aR{Φ:Nat→Option SFn}{f np nt:Nat}{code:SCode}{res:List SRes}(h:Φ f=some ⟨np,nt,code,res⟩)(args:List X)(m:Heap)(fr:Nat)(hl:args.length=np):evCW Φ f args m fr=(evW Φ code {env:=jU 0 args,heap:=m,fr:=fr,next:=0}).bind (z9j res fr):=by
 rw[zqg,h]
 simp only[obs,hl,if_true]
 cases evW Φ code {env:=jU 0 args,heap:=m,fr:=fr,next:=0} with
 |none=>rfl
 |some r =>
  obtain⟨e,s⟩:=r
  cases e<;>simp only[obs,K3,z9j]
  ·cases hZ s res with
   |none=>rfl
   |some xs=>simp only[obs,Vg];cases pY fr s.heap xs<;>rfl
  ·cases hZ s res with
   |none=>rfl
   |some xs=>simp only[obs,Vg];cases pY fr s.heap xs<;>rfl
abbrev i64(n:Int):Prop:= -9223372036854775808≤n∧n≤9223372036854775807
theorem w64{n:Int}(h:i64 n):IntKind.wrap .i64 n=n:=by
 obtain⟨h1,h2⟩:=h
 simp only[IntKind.wrap,IntKind.signed,IntKind.bits,bta,decide_eq_true_eq,ge_iff_le,Nat.reduceSub,Int.reducePow]
 by_cases h:2 ^ 63≤n % 2 ^ 64
 ·simp only[Int.reducePow] at h
  rw[if_pos h];omega
 ·simp only[Int.reducePow] at h
  rw[if_neg h];omega
theorem vN{n:Int}(h:(Lit.int .i64 n).wf=true):i64 n:=by
 simp[Lit.wf,IntKind.min,IntKind.max,IntKind.signed,IntKind.bits] at h
 omega
theorem w32{n:Int}(h: -2147483648≤n∧n≤2147483647):IntKind.wrap .i32 n=n:=by
 obtain⟨h1,h2⟩:=h
 simp only[IntKind.wrap,IntKind.signed,IntKind.bits,bta,decide_eq_true_eq,ge_iff_le,Nat.reduceSub,Int.reducePow]
 by_cases h:2 ^ 31≤n % 2 ^ 32
 ·simp only[Int.reducePow] at h
  rw[if_pos h];omega
 ·simp only[Int.reducePow] at h
  rw[if_neg h];omega
theorem wu8{n:Int}(h:0≤n∧n≤255):IntKind.wrap .u8 n=n:=by
 obtain⟨h1,h2⟩:=h
 simp only[IntKind.wrap,IntKind.signed,IntKind.bits]
 simp
 omega
theorem lK(fr:Nat):cB fr emp=emp:=by
 funext id
 simp[cB,emp]
theorem Zb(fr k:Nat)(h:Heap)(x:Option D):cB fr (upd h (fr,k) x)=cB fr h:=by
 funext id
 simp only[cB,upd]
 split
 ·rfl
 ·split
  ·rename_i h1 h2
   subst h2
   exact absurd rfl h1
  ·rfl
theorem zVq{κ α:Type}[DecidableEq κ](f:κ→Option α)(k:κ)(x y:Option α):upd (upd f k x) k y=upd f k y:=by
 funext j
 simp only[upd]
 split<;>rfl
def zvJ(C:Cl)(i:Nat)(l:List SItem)(st:St):Option St:=nW C st i l
def e9(C:Cl)(st:St)(id:Nat)(d:Option Nat)(o:SOp)(b:Bool)(c:Option Bool):Option St:=if c=some b then opS C st d id o else some (st.put d (.tup []))
theorem zKr(C:Cl)(i:Nat)(st:St):zvJ C i [] st=some {st with next:=st.next+i}:=rfl
theorem zwC(C:Cl)(i:Nat)(d:Option Nat)(o:SOp)(l:List SItem)(st:St):zvJ C i (⟨d,none,o⟩::l) st=(opS C st d (st.next+i) o).bind (zvJ C (i+32) l):=rfl
theorem zVp(b:Bool):gX (.d (.v (.bool b)))=some (some b):=rfl
theorem z8L:gX (.tup [])=some none:=rfl
theorem Yt(C:Cl)(i:Nat)(d:Option Nat)(s:Nat)(b:Bool)(o:SOp)(l:List SItem)(st:St):zvJ C i (⟨d,some (s,b),o⟩::l) st=(((st.env s).bind gX).bind (e9 C st (st.next+i) d o b)).bind (zvJ C (i+32) l):=rfl
theorem zkF(C:Cl)(st:St)(id:Nat)(d:Option Nat)(o:SOp):e9 C st id d o true (some true)=opS C st d id o:=rfl
theorem zvD(C:Cl)(st:St)(id:Nat)(d:Option Nat)(o:SOp):e9 C st id d o false (some false)=opS C st d id o:=rfl
theorem zwX(C:Cl)(st:St)(id:Nat)(d:Option Nat)(o:SOp):e9 C st id d o true (some false)=some (st.put d (.tup [])):=rfl
theorem zvS(C:Cl)(st:St)(id:Nat)(d:Option Nat)(o:SOp):e9 C st id d o false (some true)=some (st.put d (.tup [])):=rfl
theorem zw3(C:Cl)(st:St)(id:Nat)(d:Option Nat)(o:SOp)(b:Bool):e9 C st id d o b none=some (st.put d (.tup [])):=rfl
noncomputable def condK (Φ:Nat→Option SFn) (a b:SCode) (st:St):Bool→Option (Ex×St)
 |true=>evW Φ a st
 |false=>evW Φ b st
theorem zWF(Φ:Nat→Option SFn)(a b:SCode)(st:St):condK Φ a b st true=evW Φ a st:=rfl
theorem zWj(Φ:Nat→Option SFn)(a b:SCode)(st:St):condK Φ a b st false=evW Φ b st:=rfl
def nor(s:St):Ex×St:=(.nor,s)
theorem zyV{Φ:Nat→Option SFn}(l:List SItem)(st:St):evW Φ (.ops l) st=(zvJ (evCW Φ) 0 l st).map nor:=zW8 l st
noncomputable def runD (C:Cl) (b:Nat) (l:List DItem) (st:St):Option St:=opsD C b l st
noncomputable def reD (C:Cl) (b:Nat) (r:List SItem) (l:List DItem) (st:St):Option St:=(reS C st r).bind fun _=>opsD C b l st
theorem zJV(C:Cl)(b:Nat)(st:St):runD C b [] st=some st:=rfl
theorem zkl(C:Cl)(b:Nat)(d:Option Nat)(o:SOp)(ix:Nat)(r:List SItem)(l:List DItem)(st:St):runD C b (⟨⟨d,none,o⟩,ix,r⟩::l) st=(opS C st d (b+32*ix) o).bind (reD C b r l):=rfl
theorem Zd(C:Cl)(b:Nat)(d:Option Nat)(s:Nat)(g:Bool)(o:SOp)(ix:Nat)(r:List SItem)(l:List DItem)(st:St):runD C b (⟨⟨d,some (s,g),o⟩,ix,r⟩::l) st=(((st.env s).bind gX).bind (e9 C st (b+32*ix) d o g)).bind (reD C b r l):=rfl
theorem zWB(C:Cl)(b:Nat)(l:List DItem)(st:St):reD C b [] l st=runD C b l st:=rfl
noncomputable def reA (C:Cl) (b:Nat) (d:Option Nat) (r:List SItem) (l:List DItem) (st s2:St):Option St:=(reK st d s2).bind fun _=>reD C b r l st
theorem zQi(C:Cl)(b:Nat)(r:List SItem)(l:List DItem)(st s2:St):reA C b none r l st s2=reD C b r l st:=rfl
open Classical in
theorem zZQ(C:Cl)(b d:Nat)(r:List SItem)(l:List DItem)(st s2:St):reA C b (some d) r l st s2=if s2.env d=st.env d then reD C b r l st else none:=by
 unfold reA reK
 simp only
 split<;>rfl
theorem zQb(C:Cl)(b:Nat)(d:Option Nat)(o:SOp)(r:List SItem)(l:List DItem)(st:St):reD C b (⟨d,none,o⟩::r) l st=(opS C st d 0 o).bind (reA C b d r l st):=by
 unfold reD reS
 simp only[itS]
 cases opS C st d 0 o with
 |none=>rfl
 |some s2=>simp only[obs,reA];cases reK st d s2<;>rfl
theorem zwj(C:Cl)(b:Nat)(d:Option Nat)(s:Nat)(g:Bool)(o:SOp)(r:List SItem)(l:List DItem)(st:St):reD C b (⟨d,some (s,g),o⟩::r) l st=(((st.env s).bind gX).bind (e9 C st 0 d o g)).bind (reA C b d r l st):=by
 show((((itS C st 0 ⟨d,some (s,g),o⟩).bind (reK st d)).bind fun _=>reS C st r).bind fun _=>opsD C b l st)=(itS C st 0 ⟨d,some (s,g),o⟩).bind (reA C b d r l st)
 cases itS C st 0 ⟨d,some (s,g),o⟩ with
 |none=>rfl
 |some s2=>simp only[obs,reA];cases reK st d s2<;>rfl
def z84(b n:Nat)(s:St):Ex×St:=(.nor,{s with next:=b+32*n})
theorem zVK(b n:Nat)(s:St):z84 b n s=(.nor,{s with next:=b+32*n}):=rfl
theorem zwp{Φ:Nat→Option SFn}(l:List DItem)(st:St):evW Φ (.opsd l) st=(runD (evCW Φ) st.next l st).map (z84 st.next l.length):=zJ9 l st
theorem zvr{Φ:Nat→Option SFn}(o:O)(a b:SCode)(st:St):evW Φ (.cond o a b) st=(rdB st o).bind (condK Φ a b st):=by
 rw[zxe]
 congr 1
 funext t
 cases t<;>rfl
attribute [go_sem] zVS zKT zQp zq3 zyU
attribute [go_sem] zWk zKy zKo zy1 zvF
attribute [go_sem] zwp zJV zkl Zd zWB zQb zwj zQi zZQ zVK
attribute [go_sem] zKS zvr zwy zQE zWQ zyd zQf zKx zyV zxi zkI nor next zYw zKr zwC Yt zkF zvD zwX zvS zw3 zVp z8L zWF zWj zVs zKG zK7 zy0 zVF zVt zVo zVv zVA zJa zVI zWm zKa zQA zZR zqO zK3 zVU zyo zVN zVZ zKC zYg zQe zQQ zQu zJM zWa zWs zJP zKN zWv zwS zwm zVD zKZ zZJ zYa zWx zyq zxJ zJN zQ8 zv8 zxU zZ3 zQL zJ3 zJS zJi zkv zwF Zl zkX zwc zzo zYf zK9 zJk zxu zJx zq1 z9f z9q z9l zXS zWr zVz zQh zZL zQV zW2 zWu zqS zkD zqP zja zqX zqQ zV2 zqT zzE zZI zvR zVc zK0 zQm zZ6 zVl X3 Sy z9k zXd zxF zxK zKt zvx zkJ zvQ zxh zkh zvV zZz zJQ zvW zwd zWA zKw zy2 zJe zZZ zWT zWw zJO zQ9 zya zXg fnK_eq zyZ zxg zJX zq9 zkg zkb zwi zzg zzx zkQ zvu Yf zzA zz6 zvA zkm Zf zji zkZ zWg zvw zvg zwL zyN zzI zjc zWZ zVR zK2 zVw rdO rdI rdB rdS X.int X.bool X.str zxb zXt zX7 zJm zym St.put St.lose St.with nD zqN jU z9j zVj Hs Ij Dc kid lK Zb D.rowOf zM Ga wC one setCells zzH kO Eo D.noR Oj O6 zZf E3 fnOf cH Jw zVq roF Cw tI xP zN V7 wL inL zZ9 zWH zkj zZl zkW zxP Aw List.isPrefixOf Vy Path.under zQx zwf zwl zZo zwZ zQX zvm Y2 zkz zQo zkC zKs zQM zwO zJb zvj zzu zvT zwh Yn zw4 zkH zYc zWc zwJ zvG zJA zko zJG zwt zJ1 zXK z9h zQB zK4 zKV zWU z7e zVe zKA zZc zx0 zxn zWW z8D zva zZd zYb zKd zk4 zZm zJc zzJ zQs zvp z8j z98 z9N z9L zZr zw9 zkx z7N z7G z7n z7T zVV zKB zxA zwR zyE zX3 zXr zkq zjb zzd zkw zXA zX4 zXk zJB zXa z9e zV3 zZt zz9 Z4 zk0 zWX zys zxw zzQ zZE zvs Wu zki zvc zVX zvy zW0 zVC zVm zVy zQ5 zVL zWt zKM zQk zY2 z9i V0 zxN zkG zzy zXW zXG X9 zZC zke Zn zXq zZi zwv zzN zWb zVP zJ6 z9n zxs zXx zWh z9r zZB zZb zXE z9D z9S z8z zyL zy9 zZM zwN zxY zQz zks zk2 V4 Ub X4 Uh W7 zjx W2 Yr Tn Q7 Td Rz Tg V9 Tr zJr zz8 zjw zz5 zzC zzK zw6 Z8 zKu zkO zqM zk5 zvd zwb zKb zwY zk3 Xj Xt Ue V6 Uk zzp Ut zx1 zzz Y5 Zz zzm Za zkn Ze zKW zvv zkB zwT zvI zwU zyk zkd zV8 zwe zkU zwQ zvO zv5 zyX zvb zV9 zwk zku zkf zq2 zwD zxX zwH zVH zws zk8 zvL zv3 zq8 zZs zkt zWL zv0 zkL zkS zvl zw8 zxE zka zJD Yw Yv zju Yc Yu zqV Yq zQH Zy Yg Z1 Yz zze zq4 zz4 zKO zve zkM zwM zkT zwP zJu zwW zvZ zqU zv6 zwr zjl Zu zz3 zzq zjo zwu Zs zZF zjh zzU Yp Zw zje zw1 zjy zVJ zwA zkp zkR zvU zw0 zQr zkE zZx Zq zzl Z7 Z3 zzB zwq Y4 zkP Xl V3 W9 Xm X8 zzw Wf zyQ Yx zzj zjq Yl zzL zkk zjp zQK zjn Y9 zjd zzX Z5 zv9 zjk zxr zzc zzV zjv zzM zzS zwx Yd zW7 zvf zw7 zvk zq5 zkY zKi zv4 zJI zxm zxv zQR zwn zxy zQT zJW zyr zww zXo zQW zQw zJE zZk zxM zVk zZA zV7 zV5 zWq zWo zJo zKp zyw z9x zxt zye zJC zyR zyM zKz zQG zK1 zKX zVg zV6 zyn zQS zQd zKj zJY zVn zyv z9u zKh zQg zKe zyp zyz zK5 zZh zXw zZS zQ6 zy3 zQ2 zJg zWe zxp zzt Rl Tp Rq Sz Tj Uy Rc zVd zKR zWG zYd zZU zZ2 zX5 zJz zyy zZv zxB zyx zYe zQ4 zJK zZ4 zxj zKg zjm zxz zVT zQq zWI zy7
attribute [go_sem] Int.cast_ofNat_Int List.size_toArray Option.bind_some Option.map_some Option.bind_none Option.map_none Option.getD_some Option.getD_none Option.isSome_some Option.isSome_none List.find?_nil List.find?_cons List.length_cons List.length_nil List.all_cons List.all_nil List.map_cons List.map_nil List.append_nil List.nil_append List.cons_append List.isEmpty_cons List.isEmpty_nil Bool.and_true Bool.true_and Bool.and_false Bool.false_and Bool.or_true Bool.true_or Bool.or_false Bool.false_or Bool.not_true Bool.not_false and_true true_and and_self and_false false_and or_true true_or or_false false_or not_true_eq_false not_false_eq_true decide_true decide_false eq_self if_true if_false Bool.false_eq_true beq_self_eq_true Prod.mk.injEq Nat.zero_add Nat.add_zero List.drop_zero List.take_zero List.drop_succ_cons List.take_succ_cons List.take_nil List.drop_nil List.getElem?_cons_zero List.getElem?_cons_succ List.getElem?_nil List.set_cons_zero List.set_cons_succ Nat.le_refl ite_self ne_eq
theorem Jj{n:Int}(h:0≤n)(k:Nat):n.tdiv k=((n.natAbs / k:Nat):Int):=by
 obtain⟨m,rfl⟩:=Int.eq_ofNat_of_zero_le h
 simp[Int.tdiv]
theorem s6{n:Int}(h:0≤n)(k:Nat):n.tmod k=((n.natAbs % k:Nat):Int):=by
 obtain⟨m,rfl⟩:=Int.eq_ofNat_of_zero_le h
 simp[Int.tmod]
theorem T0{n:Int}(h:n≤0)(k:Nat):n.tdiv k= -((n.natAbs / k:Nat):Int):=by
 obtain⟨m,hm⟩:=Int.eq_ofNat_of_zero_le (show 0≤ -n by omega)
 obtain rfl:n= -(m:Int):=by omega
 rw[Int.neg_tdiv,Jj (by omega)]
 simp
theorem Rn{n:Int}(h:n≤0)(k:Nat):n.tmod k= -((n.natAbs % k:Nat):Int):=by
 obtain⟨m,hm⟩:=Int.eq_ofNat_of_zero_le (show 0≤ -n by omega)
 obtain rfl:n= -(m:Int):=by omega
 rw[Int.neg_tmod,s6 (by omega)]
 simp
theorem ltT{a b:Int}(h:a<b):(a<b)=True:=eq_true h
theorem ltF{a b:Int}(h:¬a<b):(a<b)=False:=eq_false h
theorem leT{a b:Int}(h:a≤b):(a≤b)=True:=eq_true h
theorem leF{a b:Int}(h:¬a≤b):(a≤b)=False:=eq_false h
theorem neF{a b:Int}(h:¬a=b):(a=b)=False:=eq_false h
theorem z7L{a b:ByteArray}(h:aE a b):aE a b=True:=eq_true h
theorem mkT{a:Nat}{b:Int}(h:aM a b):aM a b=True:=eq_true h
theorem z7D{a b c:Nat}(h:aF a b c):aF a b c=True:=eq_true h
theorem aD(l:List UInt8):(⟨l.toArray⟩:ByteArray).size=l.length:=rfl
theorem Yi:∀(l:List D),(∀d∈l,∃x,d= .v x)→fzl l=l
 |[],_=>by simp[fzl]
 |d::l,h=>by
  obtain⟨x,rfl⟩:=h d (by simp)
  simp only[fzl,D.fz,Yi l (fun d hd=>h d (by simp[hd]))]
theorem lE{α:Type}(f:α→List D)(g:α→List D)(h:∀a,fzl (f a)=g a):∀xs:List α,fzs (xs.map f)=xs.map g
 |[]=>by simp[fzs]
 |x::xs=>by simp only[mc,fzs,h,lE f g h xs]
theorem Ec{n:Int}(h: -9223372036854775808≤n∧n≤9223372036854775807):IntKind.i64.wrap n=n:=w64 h
attribute [go_sem] fzl D.fz
theorem Sl(h:Heap)(k:Nat)(x:Option D):cB 1 (upd h (0,k) x)=upd (cB 1 h) (0,k) x:=by
 funext id
 simp only[cB,upd]
 by_cases e:id=(0,k)
 ·subst e;simp
 ·simp[e]
theorem fW{κ α:Type}[DecidableEq κ](f:κ→Option α)(i j:κ)(x y:Option α)(h:i≠j):upd (upd f i x) j y=upd (upd f j y) i x:=by
 funext k
 simp only[upd]
 by_cases e:k=j
 ·subst e;simp[Ne.symm h]
 ·simp[e]
theorem zXu(f:Heap)(x y:Option D):upd (upd f (0,0) x) (0,1) y=upd (upd f (0,1) y) (0,0) x:=fW f _ _ x y (by simp)
theorem zXz(f:Heap)(x y:Option D):upd (upd f (0,0) x) (0,2) y=upd (upd f (0,2) y) (0,0) x:=fW f _ _ x y (by simp)
theorem zX2(f:Heap)(x y:Option D):upd (upd f (0,0) x) (0,3) y=upd (upd f (0,3) y) (0,0) x:=fW f _ _ x y (by simp)
theorem zY1(f:Heap)(x y:Option D):upd (upd f (0,0) x) (0,4) y=upd (upd f (0,4) y) (0,0) x:=fW f _ _ x y (by simp)
theorem zXF(f:Heap)(x y:Option D):upd (upd f (0,0) x) (0,5) y=upd (upd f (0,5) y) (0,0) x:=fW f _ _ x y (by simp)
theorem zXh(f:Heap)(x y:Option D):upd (upd f (0,1) x) (0,2) y=upd (upd f (0,2) y) (0,1) x:=fW f _ _ x y (by simp)
theorem zY0(f:Heap)(x y:Option D):upd (upd f (0,1) x) (0,3) y=upd (upd f (0,3) y) (0,1) x:=fW f _ _ x y (by simp)
theorem zX1(f:Heap)(x y:Option D):upd (upd f (0,1) x) (0,4) y=upd (upd f (0,4) y) (0,1) x:=fW f _ _ x y (by simp)
theorem zX8(f:Heap)(x y:Option D):upd (upd f (0,1) x) (0,5) y=upd (upd f (0,5) y) (0,1) x:=fW f _ _ x y (by simp)
theorem zXJ(f:Heap)(x y:Option D):upd (upd f (0,2) x) (0,3) y=upd (upd f (0,3) y) (0,2) x:=fW f _ _ x y (by simp)
theorem zXH(f:Heap)(x y:Option D):upd (upd f (0,2) x) (0,4) y=upd (upd f (0,4) y) (0,2) x:=fW f _ _ x y (by simp)
theorem zY3(f:Heap)(x y:Option D):upd (upd f (0,2) x) (0,5) y=upd (upd f (0,5) y) (0,2) x:=fW f _ _ x y (by simp)
theorem zY5(f:Heap)(x y:Option D):upd (upd f (0,3) x) (0,4) y=upd (upd f (0,4) y) (0,3) x:=fW f _ _ x y (by simp)
theorem z9w(f:Heap)(x y:Option D):upd (upd f (0,3) x) (0,5) y=upd (upd f (0,5) y) (0,3) x:=fW f _ _ x y (by simp)
theorem zXp(f:Heap)(x y:Option D):upd (upd f (0,4) x) (0,5) y=upd (upd f (0,5) y) (0,4) x:=fW f _ _ x y (by simp)
theorem Eb{α β:Type}(f:α→β)(A:List α)(e:β)(r:List β):(A.map f++e::r)[A.length]? = some e:=by
 rw[List.getElem?_append_right (by simp)]
 simp
theorem Ej{α β:Type}(f:α→β)(A:List α)(e e':β)(r:List β):(A.map f++e::r).set A.length e'=A.map f++e'::r:=by
 rw[List.set_append_right _ _ (by simp)]
 simp
theorem Fh{α β:Type}(f:α→β)(A:List α)(r:List β):(A.map f++r).length=A.length+r.length:=by simp
abbrev aG(ns:List Int):List (List D):=ns.map fun n=>[DI n]
theorem cN(ns:List Int):fzs (aG ns)=aG ns:=lE _ _ (fun n=>by simp only[fzl,D.fz]) ns
theorem nA{α:Type}(f:α→List D)(h:∀a,D.noR.noRs (f a)=true):∀xs:List α,D.noR.noRss (xs.map f)=true
 |[]=>by simp[D.noR.noRss]
 |x::xs=>by simp only[mc,D.noR.noRss,h x,nA f h xs,Bool.and_self]
theorem Eg(ns:List Int):D.noR.noRss (aG ns)=true:=nA _ (fun n=>by simp[D.noR.noRs,D.noR]) ns
theorem zx6(a b c d:Nat):(((a,b):Nat×Nat)==(c,d))=(a==c&&b==d):=rfl
attribute [go_sem] zx6 Sl zXu zXz zX2 zY1 zXF zXh zY0 zX1 zX8 zXJ zXH zY3 zY5 z9w zXp D.noR.noRs
theorem zVh{c:List D}(h:jH [.i .i64] c):∃n:Int,c=[DI n]∧i64 n:=by
 simp only[jH,fit] at h
 obtain⟨_,_,rfl,⟨n,rfl,hn⟩,rfl⟩:=h
 exact⟨n,rfl,vN hn⟩
theorem Tc{α:Type}{enc:α→List D}{ok:α→Prop}{ts:List Ty}(h:∀c,jH ts c→∃x,c=enc x∧ok x):∀{els:List (List D)},(∀c∈els,jH ts c)→∃xs:List α,els=xs.map enc∧∀x∈xs,ok x
 |[],_=>⟨[],rfl,by simp⟩
 |c::els,hc=>by
  obtain⟨x,rfl,h1⟩:=h c (hc c (by simp))
  obtain⟨xs,rfl,h2⟩:=Tc h (els:=els) (fun c' h'=>hc c' (by simp[h']))
  exact⟨x::xs,rfl,fun y hy=>by
   rcases List.mem_cons.1 hy with rfl|hy
   ·exact h1
   ·exact h2 y hy⟩
theorem aP(Φ:Nat→Option SFn)(a b:SCode)(st:St)(p:Prop)[Decidable p]:condK Φ a b st (decide p)=if p then evW Φ a st else evW Φ b st:=by
 by_cases h:p<;>simp[h,condK]
theorem zKJ(Φ:Nat→Option SFn)(a b:SCode)(st:St)(c:Bool):condK Φ a b st (!c)=condK Φ b a st c:=by cases c<;>rfl
theorem aN(Φ:Nat→Option SFn)(a b:SCode)(st:St)(c:Bool):condK Φ a b st c=if c=true then evW Φ a st else evW Φ b st:=by cases c<;>rfl
theorem zJd(Φ:Nat→Option SFn)(a b:SCode)(st:St){c:Bool}(h:c=true):condK Φ a b st c=evW Φ a st:=by subst h;rfl
theorem zJv(Φ:Nat→Option SFn)(a b:SCode)(st:St){c:Bool}(h:¬c=true):condK Φ a b st c=evW Φ b st:=by
 cases c
 ·rfl
 ·exact absurd rfl h
theorem zyI(Φ:Nat→Option SFn)(a b:SCode)(st:St){c:Bool}(h:c=false):condK Φ a b st c=evW Φ b st:=by subst h;rfl
theorem aH(C:Cl)(st:St)(id:Nat)(d:Option Nat)(o:SOp)(p:Prop)[Decidable p]:e9 C st id d o true (some (decide p))=if p then opS C st d id o else some (st.put d (.tup [])):=by
 by_cases h:p<;>simp[h,e9]
theorem aK(C:Cl)(st:St)(id:Nat)(d:Option Nat)(o:SOp)(p:Prop)[Decidable p]:e9 C st id d o false (some (decide p))=if p then some (st.put d (.tup [])) else opS C st d id o:=by
 by_cases h:p<;>simp[h,e9]
theorem zk7(C:Cl)(st:St)(id:Nat)(d:Option Nat)(o:SOp)(c:Bool):e9 C st id d o true (some (!c))=e9 C st id d o false (some c):=by cases c<;>rfl
theorem zvY(C:Cl)(st:St)(id:Nat)(d:Option Nat)(o:SOp)(c:Bool):e9 C st id d o false (some (!c))=e9 C st id d o true (some c):=by cases c<;>rfl
theorem aJ(C:Cl)(st:St)(id:Nat)(d:Option Nat)(o:SOp)(c:Bool):e9 C st id d o true (some c)=if c=true then opS C st d id o else some (st.put d (.tup [])):=by cases c<;>rfl
theorem aI(C:Cl)(st:St)(id:Nat)(d:Option Nat)(o:SOp)(c:Bool):e9 C st id d o false (some c)=if c=true then some (st.put d (.tup [])) else opS C st d id o:=by cases c<;>rfl
theorem zkK(C:Cl)(st:St)(id:Nat)(d:Option Nat)(o:SOp){c:Bool}(h:c=true):e9 C st id d o true (some c)=opS C st d id o:=by subst h;rfl
theorem zvo(C:Cl)(st:St)(id:Nat)(d:Option Nat)(o:SOp){c:Bool}(h:c=true):e9 C st id d o false (some c)=some (st.put d (.tup [])):=by subst h;rfl
theorem zkr(C:Cl)(st:St)(id:Nat)(d:Option Nat)(o:SOp){c:Bool}(h:¬c=true):e9 C st id d o true (some c)=some (st.put d (.tup [])):=by
 cases c
 ·rfl
 ·exact absurd rfl h
theorem zqW(C:Cl)(st:St)(id:Nat)(d:Option Nat)(o:SOp){c:Bool}(h:¬c=true):e9 C st id d o false (some c)=opS C st d id o:=by
 cases c
 ·rfl
 ·exact absurd rfl h
theorem zwz(C:Cl)(st:St)(id:Nat)(d:Option Nat)(o:SOp){c:Bool}(h:c=false):e9 C st id d o true (some c)=some (st.put d (.tup [])):=by subst h;rfl
theorem zwV(C:Cl)(st:St)(id:Nat)(d:Option Nat)(o:SOp){c:Bool}(h:c=false):e9 C st id d o false (some c)=opS C st d id o:=by subst h;rfl
theorem aO(st:St)(d:Option Nat)(a b:O)(p:Prop)[Decidable p]:y4 st d a b (decide p)=if p then(rdO st a).map (st.put d) else(rdO st b).map (st.put d):=by
 by_cases h:p<;>simp[h,y4]
theorem aQ(st:St)(d:Option Nat)(a b:O)(c:Bool):y4 st d a b c=if c=true then(rdO st a).map (st.put d) else(rdO st b).map (st.put d):=by cases c<;>rfl
theorem zWY(st:St)(d:Option Nat)(a b:O)(c:Bool):y4 st d a b (!c)=y4 st d b a c:=by cases c<;>rfl
theorem zJt(st:St)(d:Option Nat)(a b:O){c:Bool}(h:c=true):y4 st d a b c=(rdO st a).map (st.put d):=by subst h;rfl
theorem zQJ(st:St)(d:Option Nat)(a b:O){c:Bool}(h:¬c=true):y4 st d a b c=(rdO st b).map (st.put d):=by
 cases c
 ·rfl
 ·exact absurd rfl h
theorem zyP(st:St)(d:Option Nat)(a b:O){c:Bool}(h:c=false):y4 st d a b c=(rdO st b).map (st.put d):=by subst h;rfl
theorem eqT{a b:Int}(h:a=b):(a=b)=True:=eq_true h
theorem baT{a b:ByteArray}(h:a=b):(a=b)=True:=eq_true h
theorem baF{a b:ByteArray}(h:¬a=b):(a=b)=False:=eq_false h
theorem bvT{c:Bool}(h:c=true):(c=true)=True:=eq_true h
theorem bvF{c:Bool}(h:¬c=true):(c=true)=False:=eq_false h
theorem cA{α:Type}{xs:List α}{j:Int}{x:α}{B:List α}(h:xs.drop j.toNat=x::B)(h0:0≤j):xs[j.toNat]? = some x∧j<xs.length∧xs.drop (j+1).toNat=B∧x∈xs∧(xs.length:Int)=j+1+B.length:=by
 have h1:j.toNat<xs.length:=by
  apply Decidable.byContradiction
  intro h2
  rw[List.drop_eq_nil_of_le (by omega)] at h
  simp at h
 have h2:=List.drop_eq_getElem_cons h1
 rw[h] at h2
 simp only[List.cons.injEq] at h2
 have h3:(j+1).toNat=j.toNat+1:=by omega
 have h4:=congrArg List.length h
 simp only[List.length_drop,lc] at h4
 exact⟨by rw[List.getElem?_eq_getElem h1,←h2.1],by omega,by rw[h3];exact h2.2.symm,by rw[h2.1];exact List.getElem_mem h1,by omega⟩
theorem cY{α:Type}{xs:List α}{j:Int}(h:xs.drop j.toNat=[])(h0:0≤j):(xs.length:Int)≤j:=by
 have:=List.drop_eq_nil_iff.1 h
 omega
theorem gC{α β:Type}(f:α→β){xs:List α}{k:Nat}{x:α}(h:xs[k]? = some x):(xs.map f)[k]? = some (f x):=by
 rw[List.getElem?_map,h];rfl
def bC{α:Type}(p:α→Bool):Int→List α→Int
 |_,[]=> -1
 |j,x::xs=>if p x=true then j else bC p (j+1) xs
theorem At{α:Type}(p:α→Bool):∀{xs:List α} (j:Int),0≤j→xs.any p=decide (0≤bC p j xs)
 |[],j,_=>by simp[bC]
 |x::xs,j,h=>by
  rw[List.any_cons,bC]
  by_cases hp:p x=true
  ·rw[if_pos hp,hp,decide_eq_true h];rfl
  ·rw[if_neg hp,←At p (j+1) (by omega)]
   simp[hp]
attribute [go_sem] zwK List.sum_cons List.sum_nil
theorem zzh{Φ:Nat→Option SFn}{f nt sz bytes:Nat}(h:Φ f=some ⟨1,nt,.clone sz [⟨some 5,none,.lit sz []⟩,⟨some 6,none,.mov (.t 0)⟩,⟨some 7,none,.app sz bytes (.t 5) (.t 6)⟩,⟨some 2,none,.mov (.t 7)⟩],[.t 2]⟩)(els:List (List D))(ha:aF bytes 0 els.length)(hl:(els.all fun el=>el.length==sz)=true) :
  call Φ f [.d (.r els)]=some (.d (.s sz (els.map fun el=>el.map D.toR))):=by
 rw[aY h _ rfl,zvz]
 have hl':(els.map fun el=>el.map D.toR).all (fun el=>el.length==sz)=true:=by simpa using hl
 have ha':aF bytes ([]:List (List D)).length (els.map fun el=>el.map D.toR).length:=by simpa using ha
 simp only[jU,upd,if_true,obs,X.elsOf,kX,nW,itS,opS,rdO,fZ,oms,St.put,St.with,Nat.reduceEqDiff,if_false,kL,qC,Heap.take,Heap.row,Heap.nav,D.nav,D.rowOf,ha',hl',and_self]
 simp[F8,upd,emp,X.rowId,D.rowOf,zVj,hZ,Py,pY,pZ,m4,Heap.take,Heap.row,Heap.nav,D.nav,oM,ha',hl',nW]
 rfl
theorem zWO(ns:List Int){j:Int}(h0:0≤j)(h1:j<ns.length):∃v,(aG ns)[j.toNat]? = some [DI v]∧ns[j.toNat]? = some v:=by
 have h2:j.toNat<ns.length:=by omega
 exact⟨ns[j.toNat],by simp[h2],by simp[h2]⟩
end Go.Ev
