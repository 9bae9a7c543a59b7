import Derived.Test.YtenclibcnjkamaaGreatEvSim2
set_option linter.all false
namespace Go.Ev
abbrev I(n:Int):X:= .d (.v (.int .i64 n))
abbrev B(n:Bool):X:= .d (.v (.bool n))
abbrev Str(n:ByteArray):X:= .d (.v (.string n))
abbrev DI(n:Int):D:= .v (.int .i64 n)
abbrev DB(n:Bool):D:= .v (.bool n)
abbrev DS(n:ByteArray):D:= .v (.string n)
def zYK(res:List SRes)(fr:Nat):Ex×St→Option (X×Heap)
 |(.ext _,_)=>none
 |(.nor,s)=>(fF s res).bind (U5 s fr)
 |(.ret,s)=>(fF s res).bind (U5 s fr)
def zWc(res:List SRes):Ex×St→Option X
 |(.ext _,_)=>none
 |(.nor,s)=>(fF s res).bind (Ni s)
 |(.ret,s)=>(fF s res).bind (Ni s)
theorem aQ{Φ:Nat→Option SFn}{f np nt:Nat}{code:SCode}{res:List SRes}(h:Φ f=some ⟨np,nt,code,res⟩)(args:List X)(hl:args.length=np):call Φ f args=(evW Φ code {env:=iY 0 args,heap:=emp,fr:=0,next:=0}).bind (zWc res):=by
 unfold call
 rw[zz4,h]
 simp only[obs,hl,if_true]
 cases evW Φ code {env:=iY 0 args,heap:=emp,fr:=0,next:=0} with
 |none=>rfl
 |some r =>
  obtain⟨e,s⟩:=r
  cases e<;>simp only[obs,Ic,zWc,Option.map_none]
  ·cases fF s res with
   |none=>rfl
   |some xs=>simp only[obs,Ni];cases oD 0 s.heap xs<;>rfl
  ·cases fF s res with
   |none=>rfl
   |some xs=>simp only[obs,Ni];cases oD 0 s.heap xs<;>rfl
theorem bW{Φ:Nat→Option SFn}{f np nt:Nat}{code:SCode}{res:List SRes}(h:Φ f=some ⟨np,nt,code,res⟩)(args:List X)(m:Heap)(fr:Nat)(hl:args.length=np):evCW Φ f args m fr=(evW Φ code {env:=iY 0 args,heap:=m,fr:=fr,next:=0}).bind (zYK res fr):=by
 rw[zz4,h]
 simp only[obs,hl,if_true]
 cases evW Φ code {env:=iY 0 args,heap:=m,fr:=fr,next:=0} with
 |none=>rfl
 |some r =>
  obtain⟨e,s⟩:=r
  cases e<;>simp only[obs,Ic,zYK]
  ·cases fF s res with
   |none=>rfl
   |some xs=>simp only[obs,U5];cases oD fr s.heap xs<;>rfl
  ·cases fF s res with
   |none=>rfl
   |some xs=>simp only[obs,U5];cases oD fr s.heap xs<;>rfl
abbrev i64(n:Int):Prop:= -9223372036854775808≤n∧n≤9223372036854775807
theorem w64{n:Int}(h:i64 n):IntKind.wrap .i64 n=n:=by
 obtain⟨h1,h2⟩:=h
 simp only[IntKind.wrap,IntKind.signed,IntKind.bits,bta,zqd,ge_iff_le,Nat.reduceSub,Int.reducePow]
 by_cases h:2 ^ 63≤n % 2 ^ 64
 ·simp only[Int.reducePow] at h
  rw[if_pos h];omega
 ·simp only[Int.reducePow] at h
  rw[if_neg h];omega
theorem Uw{n:Int}(h:(Lit.int .i64 n).wf=true):i64 n:=by
 simp[Lit.wf,IntKind.min,IntKind.max,IntKind.signed,IntKind.bits] at h
 omega
theorem w32{n:Int}(h: -2147483648≤n∧n≤2147483647):IntKind.wrap .i32 n=n:=by
 obtain⟨h1,h2⟩:=h
 simp only[IntKind.wrap,IntKind.signed,IntKind.bits,bta,zqd,ge_iff_le,Nat.reduceSub,Int.reducePow]
 by_cases h:2 ^ 31≤n % 2 ^ 32
 ·simp only[Int.reducePow] at h
  rw[if_pos h];omega
 ·simp only[Int.reducePow] at h
  rw[if_neg h];omega
theorem wu8{n:Int}(h:0≤n∧n≤255):IntKind.wrap .u8 n=n:=by
 obtain⟨h1,h2⟩:=h
 simp only[IntKind.wrap,IntKind.signed,IntKind.bits]
 simp
 omega
theorem kV(fr:Nat):bA fr emp=emp:=by
 funext id
 simp[bA,emp]
theorem Yw(fr k:Nat)(h:Heap)(x:Option D):bA fr (upd h (fr,k) x)=bA fr h:=by
 funext id
 simp only[bA,upd]
 split
 ·rfl
 ·split
  ·rename_i h1 h2
   subst h2
   exact absurd rfl h1
  ·rfl
theorem zKU{κ α:Type}[DecidableEq κ](f:κ→Option α)(k:κ)(x y:Option α):upd (upd f k x) k y=upd f k y:=by
 funext j
 simp only[upd]
 split<;>rfl
def zk6(C:Cl)(i:Nat)(l:List SItem)(st:St):Option St:=l9 C st i l
def dU(C:Cl)(st:St)(id:Nat)(d:Option Nat)(o:SOp)(b:Bool)(c:Option Bool):Option St:=if c=some b then opS C st d id o else some (st.put d (.tup []))
theorem zZy(C:Cl)(i:Nat)(st:St):zk6 C i [] st=some {st with next:=st.next+i}:=rfl
theorem zvh(C:Cl)(i:Nat)(d:Option Nat)(o:SOp)(l:List SItem)(st:St):zk6 C i (⟨d,none,o⟩::l) st=(opS C st d (st.next+i) o).bind (zk6 C (i+32) l):=rfl
theorem zKl(b:Bool):gX (.d (.v (.bool b)))=some (some b):=rfl
theorem z9N:gX (.tup [])=some none:=rfl
theorem zzm(C:Cl)(i:Nat)(d:Option Nat)(s:Nat)(b:Bool)(o:SOp)(l:List SItem)(st:St):zk6 C i (⟨d,some (s,b),o⟩::l) st=(((st.env s).bind gX).bind (dU C st (st.next+i) d o b)).bind (zk6 C (i+32) l):=rfl
theorem zvb(C:Cl)(st:St)(id:Nat)(d:Option Nat)(o:SOp):dU C st id d o true (some true)=opS C st d id o:=rfl
theorem zqr(C:Cl)(st:St)(id:Nat)(d:Option Nat)(o:SOp):dU C st id d o false (some false)=opS C st d id o:=rfl
theorem zkI(C:Cl)(st:St)(id:Nat)(d:Option Nat)(o:SOp):dU C st id d o true (some false)=some (st.put d (.tup [])):=rfl
theorem zqY(C:Cl)(st:St)(id:Nat)(d:Option Nat)(o:SOp):dU C st id d o false (some true)=some (st.put d (.tup [])):=rfl
theorem zvm(C:Cl)(st:St)(id:Nat)(d:Option Nat)(o:SOp)(b:Bool):dU C st id d o b none=some (st.put d (.tup [])):=rfl
noncomputable def condK (Φ:Nat→Option SFn) (a b:SCode) (st:St):Bool→Option (Ex×St)
 |true=>evW Φ a st
 |false=>evW Φ b st
theorem zKT(Φ:Nat→Option SFn)(a b:SCode)(st:St):condK Φ a b st true=evW Φ a st:=rfl
theorem zVc(Φ:Nat→Option SFn)(a b:SCode)(st:St):condK Φ a b st false=evW Φ b st:=rfl
def nor(s:St):Ex×St:=(.nor,s)
theorem zJy{Φ:Nat→Option SFn}(l:List SItem)(st:St):evW Φ (.ops l) st=(zk6 (evCW Φ) 0 l st).map nor:=zQU l st
noncomputable def runD (C:Cl) (b:Nat) (l:List DItem) (st:St):Option St:=opsD C b l st
noncomputable def reD (C:Cl) (b:Nat) (r:List SItem) (l:List DItem) (st:St):Option St:=(reS C st r).bind fun _=>opsD C b l st
theorem zwI(C:Cl)(b:Nat)(st:St):runD C b [] st=some st:=rfl
theorem zq0(C:Cl)(b:Nat)(d:Option Nat)(o:SOp)(ix:Nat)(r:List SItem)(l:List DItem)(st:St):runD C b (⟨⟨d,none,o⟩,ix,r⟩::l) st=(opS C st d (b+32*ix) o).bind (reD C b r l):=rfl
theorem Zb(C:Cl)(b:Nat)(d:Option Nat)(s:Nat)(g:Bool)(o:SOp)(ix:Nat)(r:List SItem)(l:List DItem)(st:St):runD C b (⟨⟨d,some (s,g),o⟩,ix,r⟩::l) st=(((st.env s).bind gX).bind (dU C st (b+32*ix) d o g)).bind (reD C b r l):=rfl
theorem zWr(C:Cl)(b:Nat)(l:List DItem)(st:St):reD C b [] l st=runD C b l st:=rfl
noncomputable def reA (C:Cl) (b:Nat) (d:Option Nat) (r:List SItem) (l:List DItem) (st s2:St):Option St:=(reK st d s2).bind fun _=>reD C b r l st
theorem zZf(C:Cl)(b:Nat)(r:List SItem)(l:List DItem)(st s2:St):reA C b none r l st s2=reD C b r l st:=rfl
open Classical in
theorem zQf(C:Cl)(b d:Nat)(r:List SItem)(l:List DItem)(st s2:St):reA C b (some d) r l st s2=if s2.env d=st.env d then reD C b r l st else none:=by
 unfold reA reK
 simp only
 split<;>rfl
theorem zwh(C:Cl)(b:Nat)(d:Option Nat)(o:SOp)(r:List SItem)(l:List DItem)(st:St):reD C b (⟨d,none,o⟩::r) l st=(opS C st d 0 o).bind (reA C b d r l st):=by
 unfold reD reS
 simp only[itS]
 cases opS C st d 0 o with
 |none=>rfl
 |some s2=>simp only[obs,reA];cases reK st d s2<;>rfl
theorem zk4(C:Cl)(b:Nat)(d:Option Nat)(s:Nat)(g:Bool)(o:SOp)(r:List SItem)(l:List DItem)(st:St):reD C b (⟨d,some (s,g),o⟩::r) l st=(((st.env s).bind gX).bind (dU C st 0 d o g)).bind (reA C b d r l st):=by
 show((((itS C st 0 ⟨d,some (s,g),o⟩).bind (reK st d)).bind fun _=>reS C st r).bind fun _=>opsD C b l st)=(itS C st 0 ⟨d,some (s,g),o⟩).bind (reA C b d r l st)
 cases itS C st 0 ⟨d,some (s,g),o⟩ with
 |none=>rfl
 |some s2=>simp only[obs,reA];cases reK st d s2<;>rfl
def z9R(b n:Nat)(s:St):Ex×St:=(.nor,{s with next:=b+32*n})
theorem zKY(b n:Nat)(s:St):z9R b n s=(.nor,{s with next:=b+32*n}):=rfl
theorem zjR{Φ:Nat→Option SFn}(l:List DItem)(st:St):evW Φ (.opsd l) st=(runD (evCW Φ) st.next l st).map (z9R st.next l.length):=zxv l st
theorem zvK{Φ:Nat→Option SFn}(o:O)(a b:SCode)(st:St):evW Φ (.cond o a b) st=(rdB st o).bind (condK Φ a b st):=by
 rw[zxt]
 congr 1
 funext t
 cases t<;>rfl
theorem zKC(els:List (List D)):X.du (.d (.r els))= .d (.r (els.map fun el=>el.map D.du)):=rfl
theorem z8q(x:Value):X.du (.d (.v x))= .d (.v x):=rfl
attribute [go_sem] zvG zkU zKC z8q zKR zVw zJF zqZ zwk
attribute [go_sem] zVm zQ9 zQD zZX zqR
attribute [go_sem] zjR zwI zq0 Zb zWr zwh zk4 zZf zQf zKY
attribute [go_sem] zK7 zvK zkw zyR zVI zwD zJ0 zKH zJy zwc zvP nor next zYc zZy zvh zzm zvb zqr zkI zqY zvm zKl z9N zKT zVc zVW zKP zVK zyY zKg zKq zWb zQS zWf zQG zWn zWC zxo zwM zwC zqL zKG zVy zJg zQ8 zWE zWJ zKx zZm zxz zw6 zZq zVR zK4 zwB zVD zWu zk2 zj2 zQ5 zVj zwt zWD zKp zJs zxI zwp zyw zqW zJd zZU zZz zJO zQl zwf zku zqF zza zjZ zqK zzk zVf zKy zJo zQB zwY zvF zXF zXg zXw zXR zWI zKh zJ7 zQe zwq zVZ zKe zqQ zkA zvy Y1 zvI zvv zVp zkM Yj zxD zjV zVn zWm zwx zyp zK8 V4 P5 zY3 z9l zyK zZJ zZY zqp zqk zqh zJV zkD zqN zJS zyk zkE zjY zVu zV6 zZv zJI zJf zKZ zVX zxr zyI zye zXv fnK_eq zQp zQK zyA zk8 zkN zkY zkX Yu Zv zqT zjX Wg zzr Xj zjK zqU Xe Xr zkG zWj zqI zqA zvM zJD zzc zzo zWt zQ4 zQW zWp rdO rdI rdB rdS X.int X.bool X.str zQw zXK zXH zJT zwj St.put St.lose St.with lE zkW iY zYK zWc Ft F9 D5 kid kV Yw D.rowOf xH Eg tG one setCells W7 gY Cs D.noR Mn xT zwK Dz fnOf bP H7 zKU roF Bi qU vE xP Sf vH inL zZL zWz zk5 zxg zqx zyo Ar List.isPrefixOf T6 Path.under zy1 zki zj7 zwJ zjL zZ4 zqn X6 zkC zv7 zqE zJA zZW zvO zyQ zjM Xx zkf zqy Y2 zkH zqM zKd zVM zvR zvg zyy zqO zZ2 zvY zJv zXc zYJ zZh zQ6 zKf zKt z9w zK6 zQY zyL zyJ zJ8 zWv z9B zk9 zyM zV2 zJJ zqt zwr zxh Xp zw7 zkm z8b z8l z9S z9P zxB zyi zkT z8r z8x z8t z8C zK0 zVa zQs zkz zJp zXd zXe zq8 Xy W8 zjO zXP zYG z9h zyv zXN zYS zWG zyW Yb zze zks zWw zJh zya Zr zQt zvk Tn zvn zqB zKE zqw zVx zWo zVA zVT zZZ zWa zKI zV0 zJu zX0 zXr Ss zxm zq3 Zx zX2 z9d Vl zJN zvB Yq zXY zx0 zkr Xk zVS zQQ zZg zY8 zJP zY0 zKF zX6 zZb zQo zX4 z9t z9s z8i zyb zxu zv9 zjF zwX zwa zkk zvX Vn Tv Vr Ud Vs Zd T3 Yh Pw Qg Pg Py Qp Ve P6 zyu Yx Xu Ya Ws Zw zql Xi zV7 zvz zqJ zqm zvD zko zZF zj4 zvu Vb Vc Vw Rj T2 zzp Sg zxq Wh Zy Xv Ys Yc zq5 Wz zWd zkQ zk3 zqs zvj zkh zZ3 zkt zVJ zvx zkx zkp zjH zvH zZn zvZ zWH zkl zvo zqq zkR zv6 zyE zvC zVd zkP zqi zkn zjN zkb zJi zjG zK9 zkJ zqG zv1 zkv zkL zZk zvQ zyX Wi zzh Zk Y3 Zs zqC W9 zxJ zzq Zj Yf Xq zzl zqV Xb zWe zj3 zq6 zvJ zj5 zvW zyj zj6 zvl zkK zkF zv0 zzn Z9 Yy Wf Z8 zve Zh zwA W5 Zc zzf Wt Wj zkV zzs zVz zk0 zvt zvN zvp zq7 zyz zkZ zJ4 Yt X1 Wo Wm Za zq9 X9 zq1 V3 Tl Ro R4 Uy X2 Ut zx9 W3 X0 zzj Zp zzb zv4 Xh zyT Y8 Wv Wr Wn Zz zqz Wq zyS Zt X8 Xs Xt Yk zv3 Y6 zVv zqX zvA zvf zvr zvs zQx zvV zyd zZt zyV zQv zjQ zZA zxa zZT zQg zkO zYZ zJa zwg zxx zZN zZP zVN zw4 zQ3 zKb zWy zKk zx3 zwG zZx zYC zwy zZE zxe zQL zQk zKa zxZ zVU zQV zV8 zVe zZ8 zxU zx7 zwP zxy zVo zw2 zYY zyC zQa zy7 zyZ zwO zWq zxc zYR zQi zyn zxA zyq zJj zKw zyF Yl Pq Pe O5 Ov Q4 Rn P7 zKo zKD zVk zVQ zZ1 zJc zXo zwV zZM zxS zyN zJM zWh zxL zwe zy5 zwi zZc Ym zxK zWk zQm zVL zQz
attribute [go_sem] Int.cast_ofNat_Int List.size_toArray Option.bind_some Option.map_some Option.bind_none Option.map_none Option.getD_some Option.getD_none Option.isSome_some Option.isSome_none List.find?_nil List.find?_cons List.length_cons List.length_nil List.all_cons List.all_nil List.map_cons List.map_nil List.append_nil List.nil_append List.cons_append List.isEmpty_cons List.isEmpty_nil Bool.and_true Bool.true_and Bool.and_false Bool.false_and Bool.or_true Bool.true_or Bool.or_false Bool.false_or Bool.not_true Bool.not_false and_true true_and and_self and_false false_and or_true true_or or_false false_or not_true_eq_false not_false_eq_true decide_true decide_false eq_self if_true if_false Bool.false_eq_true beq_self_eq_true Prod.mk.injEq Nat.zero_add Nat.add_zero List.drop_zero List.take_zero List.drop_succ_cons List.take_succ_cons List.take_nil List.drop_nil List.getElem?_cons_zero List.getElem?_cons_succ List.getElem?_nil List.set_cons_zero List.set_cons_succ Nat.le_refl ite_self ne_eq
theorem zjv{n:Int}(h:0≤n)(k:Nat):n.tdiv k=((n.natAbs / k:Nat):Int):=by
 obtain⟨m,rfl⟩:=Int.eq_ofNat_of_zero_le h
 simp[Int.tdiv]
theorem z6{n:Int}(h:0≤n)(k:Nat):n.tmod k=((n.natAbs % k:Nat):Int):=by
 obtain⟨m,rfl⟩:=Int.eq_ofNat_of_zero_le h
 simp[Int.tmod]
theorem z8o{n:Int}(h:n≤0)(k:Nat):n.tdiv k= -((n.natAbs / k:Nat):Int):=by
 obtain⟨m,hm⟩:=Int.eq_ofNat_of_zero_le (show 0≤ -n by omega)
 obtain rfl:n= -(m:Int):=by omega
 rw[Int.neg_tdiv,zjv (by omega)]
 simp
theorem z8p{n:Int}(h:n≤0)(k:Nat):n.tmod k= -((n.natAbs % k:Nat):Int):=by
 obtain⟨m,hm⟩:=Int.eq_ofNat_of_zero_le (show 0≤ -n by omega)
 obtain rfl:n= -(m:Int):=by omega
 rw[Int.neg_tmod,z6 (by omega)]
 simp
theorem ltT{a b:Int}(h:a<b):(a<b)=True:=eq_true h
theorem ltF{a b:Int}(h:¬a<b):(a<b)=False:=eq_false h
theorem leT{a b:Int}(h:a≤b):(a≤b)=True:=eq_true h
theorem leF{a b:Int}(h:¬a≤b):(a≤b)=False:=eq_false h
theorem neF{a b:Int}(h:¬a=b):(a=b)=False:=eq_false h
theorem z8B{a b:ByteArray}(h:aE a b):aE a b=True:=eq_true h
theorem mkT{a:Nat}{b:Int}(h:aF a b):aF a b=True:=eq_true h
theorem z8u{a b c:Nat}(h:aD a b c):aD a b c=True:=eq_true h
theorem aB(l:List UInt8):(⟨l.toArray⟩:ByteArray).size=l.length:=rfl
theorem Zo:∀(l:List D),(∀d∈l,∃x,d= .v x)→fzl l=l
 |[],_=>by simp[fzl]
 |d::l,h=>by
  obtain⟨x,rfl⟩:=h d (by simp)
  simp only[fzl,D.fz,Zo l (fun d hd=>h d (by simp[hd]))]
theorem oO{α:Type}(f:α→List D)(g:α→List D)(h:∀a,fzl (f a)=g a):∀xs:List α,fzs (xs.map f)=xs.map g
 |[]=>by simp[fzs]
 |x::xs=>by simp only[mc,fzs,h,oO f g h xs]
theorem zQZ{n:Int}(h: -9223372036854775808≤n∧n≤9223372036854775807):IntKind.i64.wrap n=n:=w64 h
attribute [go_sem] fzl D.fz
theorem Oz(h:Heap)(k:Nat)(x:Option D):bA 1 (upd h (0,k) x)=upd (bA 1 h) (0,k) x:=by
 funext id
 simp only[bA,upd]
 by_cases e:id=(0,k)
 ·subst e;simp
 ·simp[e]
theorem d8{κ α:Type}[DecidableEq κ](f:κ→Option α)(i j:κ)(x y:Option α)(h:i≠j):upd (upd f i x) j y=upd (upd f j y) i x:=by
 funext k
 simp only[upd]
 by_cases e:k=j
 ·subst e;simp[Ne.symm h]
 ·simp[e]
theorem zYL(f:Heap)(x y:Option D):upd (upd f (0,0) x) (0,1) y=upd (upd f (0,1) y) (0,0) x:=d8 f _ _ x y (by simp)
theorem zXj(f:Heap)(x y:Option D):upd (upd f (0,0) x) (0,2) y=upd (upd f (0,2) y) (0,0) x:=d8 f _ _ x y (by simp)
theorem zXD(f:Heap)(x y:Option D):upd (upd f (0,0) x) (0,3) y=upd (upd f (0,3) y) (0,0) x:=d8 f _ _ x y (by simp)
theorem zYA(f:Heap)(x y:Option D):upd (upd f (0,0) x) (0,4) y=upd (upd f (0,4) y) (0,0) x:=d8 f _ _ x y (by simp)
theorem zXE(f:Heap)(x y:Option D):upd (upd f (0,0) x) (0,5) y=upd (upd f (0,5) y) (0,0) x:=d8 f _ _ x y (by simp)
theorem z9g(f:Heap)(x y:Option D):upd (upd f (0,1) x) (0,2) y=upd (upd f (0,2) y) (0,1) x:=d8 f _ _ x y (by simp)
theorem zXt(f:Heap)(x y:Option D):upd (upd f (0,1) x) (0,3) y=upd (upd f (0,3) y) (0,1) x:=d8 f _ _ x y (by simp)
theorem zYy(f:Heap)(x y:Option D):upd (upd f (0,1) x) (0,4) y=upd (upd f (0,4) y) (0,1) x:=d8 f _ _ x y (by simp)
theorem zYU(f:Heap)(x y:Option D):upd (upd f (0,1) x) (0,5) y=upd (upd f (0,5) y) (0,1) x:=d8 f _ _ x y (by simp)
theorem zXS(f:Heap)(x y:Option D):upd (upd f (0,2) x) (0,3) y=upd (upd f (0,3) y) (0,2) x:=d8 f _ _ x y (by simp)
theorem z9f(f:Heap)(x y:Option D):upd (upd f (0,2) x) (0,4) y=upd (upd f (0,4) y) (0,2) x:=d8 f _ _ x y (by simp)
theorem z9n(f:Heap)(x y:Option D):upd (upd f (0,2) x) (0,5) y=upd (upd f (0,5) y) (0,2) x:=d8 f _ _ x y (by simp)
theorem zY5(f:Heap)(x y:Option D):upd (upd f (0,3) x) (0,4) y=upd (upd f (0,4) y) (0,3) x:=d8 f _ _ x y (by simp)
theorem zY7(f:Heap)(x y:Option D):upd (upd f (0,3) x) (0,5) y=upd (upd f (0,5) y) (0,3) x:=d8 f _ _ x y (by simp)
theorem z9k(f:Heap)(x y:Option D):upd (upd f (0,4) x) (0,5) y=upd (upd f (0,5) y) (0,4) x:=d8 f _ _ x y (by simp)
theorem Dd{α β:Type}(f:α→β)(A:List α)(e:β)(r:List β):(A.map f++e::r)[A.length]? = some e:=by
 rw[List.getElem?_append_right (by simp)]
 simp
theorem Ci{α β:Type}(f:α→β)(A:List α)(e e':β)(r:List β):(A.map f++e::r).set A.length e'=A.map f++e'::r:=by
 rw[List.set_append_right _ _ (by simp)]
 simp
theorem Dp{α β:Type}(f:α→β)(A:List α)(r:List β):(A.map f++r).length=A.length+r.length:=by simp
abbrev aP(ns:List Int):List (List D):=ns.map fun n=>[DI n]
theorem dK(ns:List Int):fzs (aP ns)=aP ns:=oO _ _ (fun n=>by simp only[fzl,D.fz]) ns
theorem kX{α:Type}(f:α→List D)(h:∀a,D.noR.noRs (f a)=true):∀xs:List α,D.noR.noRss (xs.map f)=true
 |[]=>by simp[D.noR.noRss]
 |x::xs=>by simp only[mc,D.noR.noRss,h x,kX f h xs,Bool.and_self]
theorem pJ(ns:List Int):D.noR.noRss (aP ns)=true:=kX _ (fun n=>by simp[D.noR.noRs,D.noR]) ns
theorem zJ2(a b c d:Nat):(((a,b):Nat×Nat)==(c,d))=(a==c&&b==d):=rfl
attribute [go_sem] zJ2 Oz zYL zXj zXD zYA zXE z9g zXt zYy zYU zXS z9f z9n zY5 zY7 z9k D.noR.noRs
theorem zV4{c:List D}(h:iX [.i .i64] c):∃n:Int,c=[DI n]∧i64 n:=by
 simp only[iX,fit] at h
 obtain⟨_,_,rfl,⟨n,rfl,hn⟩,rfl⟩:=h
 exact⟨n,rfl,Uw hn⟩
theorem P8{α:Type}{enc:α→List D}{ok:α→Prop}{ts:List Ty}(h:∀c,iX ts c→∃x,c=enc x∧ok x):∀{els:List (List D)},(∀c∈els,iX ts c)→∃xs:List α,els=xs.map enc∧∀x∈xs,ok x
 |[],_=>⟨[],rfl,by simp⟩
 |c::els,hc=>by
  obtain⟨x,rfl,h1⟩:=h c (hc c (by simp))
  obtain⟨xs,rfl,h2⟩:=P8 h (els:=els) (fun c' h'=>hc c' (by simp[h']))
  exact⟨x::xs,rfl,fun y hy=>by
   rcases List.mem_cons.1 hy with rfl|hy
   ·exact h1
   ·exact h2 y hy⟩
theorem aO(Φ:Nat→Option SFn)(a b:SCode)(st:St)(p:Prop)[Decidable p]:condK Φ a b st (decide p)=if p then evW Φ a st else evW Φ b st:=by
 by_cases h:p<;>simp[h,condK]
theorem zKi(Φ:Nat→Option SFn)(a b:SCode)(st:St)(c:Bool):condK Φ a b st (!c)=condK Φ b a st c:=by cases c<;>rfl
theorem aN(Φ:Nat→Option SFn)(a b:SCode)(st:St)(c:Bool):condK Φ a b st c=if c=true then evW Φ a st else evW Φ b st:=by cases c<;>rfl
theorem zw1(Φ:Nat→Option SFn)(a b:SCode)(st:St){c:Bool}(h:c=true):condK Φ a b st c=evW Φ a st:=by subst h;rfl
theorem zZK(Φ:Nat→Option SFn)(a b:SCode)(st:St){c:Bool}(h:¬c=true):condK Φ a b st c=evW Φ b st:=by
 cases c
 ·rfl
 ·exact absurd rfl h
theorem zy8(Φ:Nat→Option SFn)(a b:SCode)(st:St){c:Bool}(h:c=false):condK Φ a b st c=evW Φ b st:=by subst h;rfl
theorem aH(C:Cl)(st:St)(id:Nat)(d:Option Nat)(o:SOp)(p:Prop)[Decidable p]:dU C st id d o true (some (decide p))=if p then opS C st d id o else some (st.put d (.tup [])):=by
 by_cases h:p<;>simp[h,dU]
theorem aI(C:Cl)(st:St)(id:Nat)(d:Option Nat)(o:SOp)(p:Prop)[Decidable p]:dU C st id d o false (some (decide p))=if p then some (st.put d (.tup [])) else opS C st d id o:=by
 by_cases h:p<;>simp[h,dU]
theorem zqv(C:Cl)(st:St)(id:Nat)(d:Option Nat)(o:SOp)(c:Bool):dU C st id d o true (some (!c))=dU C st id d o false (some c):=by cases c<;>rfl
theorem zjU(C:Cl)(st:St)(id:Nat)(d:Option Nat)(o:SOp)(c:Bool):dU C st id d o false (some (!c))=dU C st id d o true (some c):=by cases c<;>rfl
theorem aJ(C:Cl)(st:St)(id:Nat)(d:Option Nat)(o:SOp)(c:Bool):dU C st id d o true (some c)=if c=true then opS C st d id o else some (st.put d (.tup [])):=by cases c<;>rfl
theorem aG(C:Cl)(st:St)(id:Nat)(d:Option Nat)(o:SOp)(c:Bool):dU C st id d o false (some c)=if c=true then some (st.put d (.tup [])) else opS C st d id o:=by cases c<;>rfl
theorem zj1(C:Cl)(st:St)(id:Nat)(d:Option Nat)(o:SOp){c:Bool}(h:c=true):dU C st id d o true (some c)=opS C st d id o:=by subst h;rfl
theorem zvc(C:Cl)(st:St)(id:Nat)(d:Option Nat)(o:SOp){c:Bool}(h:c=true):dU C st id d o false (some c)=some (st.put d (.tup [])):=by subst h;rfl
theorem zva(C:Cl)(st:St)(id:Nat)(d:Option Nat)(o:SOp){c:Bool}(h:¬c=true):dU C st id d o true (some c)=some (st.put d (.tup [])):=by
 cases c
 ·rfl
 ·exact absurd rfl h
theorem zkS(C:Cl)(st:St)(id:Nat)(d:Option Nat)(o:SOp){c:Bool}(h:¬c=true):dU C st id d o false (some c)=opS C st d id o:=by
 cases c
 ·rfl
 ·exact absurd rfl h
theorem zv2(C:Cl)(st:St)(id:Nat)(d:Option Nat)(o:SOp){c:Bool}(h:c=false):dU C st id d o true (some c)=some (st.put d (.tup [])):=by subst h;rfl
theorem zkg(C:Cl)(st:St)(id:Nat)(d:Option Nat)(o:SOp){c:Bool}(h:c=false):dU C st id d o false (some c)=opS C st d id o:=by subst h;rfl
theorem aM(st:St)(d:Option Nat)(a b:O)(p:Prop)[Decidable p]:xE st d a b (decide p)=if p then(rdO st a).map (st.put d) else(rdO st b).map (st.put d):=by
 by_cases h:p<;>simp[h,xE]
theorem aL(st:St)(d:Option Nat)(a b:O)(c:Bool):xE st d a b c=if c=true then(rdO st a).map (st.put d) else(rdO st b).map (st.put d):=by cases c<;>rfl
theorem zKA(st:St)(d:Option Nat)(a b:O)(c:Bool):xE st d a b (!c)=xE st d b a c:=by cases c<;>rfl
theorem zxX(st:St)(d:Option Nat)(a b:O){c:Bool}(h:c=true):xE st d a b c=(rdO st a).map (st.put d):=by subst h;rfl
theorem zJZ(st:St)(d:Option Nat)(a b:O){c:Bool}(h:¬c=true):xE st d a b c=(rdO st b).map (st.put d):=by
 cases c
 ·rfl
 ·exact absurd rfl h
theorem zyP(st:St)(d:Option Nat)(a b:O){c:Bool}(h:c=false):xE st d a b c=(rdO st b).map (st.put d):=by subst h;rfl
theorem eqT{a b:Int}(h:a=b):(a=b)=True:=eq_true h
theorem baT{a b:ByteArray}(h:a=b):(a=b)=True:=eq_true h
theorem baF{a b:ByteArray}(h:¬a=b):(a=b)=False:=eq_false h
theorem bvT{c:Bool}(h:c=true):(c=true)=True:=eq_true h
theorem bvF{c:Bool}(h:¬c=true):(c=true)=False:=eq_false h
theorem cE{α:Type}{xs:List α}{j:Int}{x:α}{B:List α}(h:xs.drop j.toNat=x::B)(h0:0≤j):xs[j.toNat]? = some x∧j<xs.length∧xs.drop (j+1).toNat=B∧x∈xs∧(xs.length:Int)=j+1+B.length:=by
 have h1:j.toNat<xs.length:=by
  apply Decidable.byContradiction
  intro h2
  rw[List.drop_eq_nil_of_le (by omega)] at h
  simp at h
 have h2:=List.drop_eq_getElem_cons h1
 rw[h] at h2
 simp only[List.cons.injEq] at h2
 have h3:(j+1).toNat=j.toNat+1:=by omega
 have h4:=congrArg List.length h
 simp only[List.length_drop,lc] at h4
 exact⟨by rw[List.getElem?_eq_getElem h1,←h2.1],by omega,by rw[h3];exact h2.2.symm,by rw[h2.1];exact List.getElem_mem h1,by omega⟩
theorem dR{α:Type}{xs:List α}{j:Int}(h:xs.drop j.toNat=[])(h0:0≤j):(xs.length:Int)≤j:=by
 have:=List.drop_eq_nil_iff.1 h
 omega
theorem j4{α β:Type}(f:α→β){xs:List α}{k:Nat}{x:α}(h:xs[k]? = some x):(xs.map f)[k]? = some (f x):=by
 rw[List.getElem?_map,h];rfl
def aU{α:Type}(p:α→Bool):Int→List α→Int
 |_,[]=> -1
 |j,x::xs=>if p x=true then j else aU p (j+1) xs
theorem qM{α:Type}(p:α→Bool):∀{xs:List α} (j:Int),0≤j→xs.any p=decide (0≤aU p j xs)
 |[],j,_=>by simp[aU]
 |x::xs,j,h=>by
  rw[List.any_cons,aU]
  by_cases hp:p x=true
  ·rw[if_pos hp,hp,decide_eq_true h];rfl
  ·rw[if_neg hp,←qM p (j+1) (by omega)]
   simp[hp]
attribute [go_sem] zvE List.sum_cons List.sum_nil
theorem Bo{Φ:Nat→Option SFn}{f nt sz bytes:Nat}(h:Φ f=some ⟨1,nt,.clone sz [⟨some 5,none,.lit sz []⟩,⟨some 6,none,.mov (.t 0)⟩,⟨some 7,none,.app sz bytes (.t 5) (.t 6)⟩,⟨some 2,none,.mov (.t 7)⟩],[.t 2]⟩)(els:List (List D))(ha:aD bytes 0 els.length)(hl:(els.all fun el=>el.length==sz)=true) :
  call Φ f [.d (.r els)]=some (.d (.s sz (els.map fun el=>el.map D.toR))):=by
 rw[aQ h _ rfl,zkB]
 have hl':(els.map fun el=>el.map D.toR).all (fun el=>el.length==sz)=true:=by simpa using hl
 have ha':aD bytes ([]:List (List D)).length (els.map fun el=>el.map D.toR).length:=by simpa using ha
 simp only[iY,upd,if_true,obs,X.elsOf,iP,l9,itS,opS,rdO,eF,oms,St.put,St.with,Nat.reduceEqDiff,if_false,gZ,oC,Heap.take,Heap.row,Heap.nav,D.nav,D.rowOf,ha',hl',and_self]
 simp[En,upd,emp,X.rowId,D.rowOf,zWc,fF,Ni,oD,nQ,kO,Heap.take,Heap.row,Heap.nav,D.nav,mF,ha',hl',l9]
 rfl
theorem zKJ(ns:List Int){j:Int}(h0:0≤j)(h1:j<ns.length):∃v,(aP ns)[j.toNat]? = some [DI v]∧ns[j.toNat]? = some v:=by
 have h2:j.toNat<ns.length:=by omega
 exact⟨ns[j.toNat],by simp[h2],by simp[h2]⟩
end Go.Ev
