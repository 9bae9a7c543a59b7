import Derived.Test.YtenclibcnjkamaaGreatEvSim2
set_option linter.all false
namespace Go.Ev
abbrev I(n:Int):X:= .d (.v (.int .i64 n))
abbrev B(n:Bool):X:= .d (.v (.bool n))
abbrev Str(n:ByteArray):X:= .d (.v (.string n))
abbrev DI(n:Int):D:= .v (.int .i64 n)
abbrev DB(n:Bool):D:= .v (.bool n)
abbrev DS(n:ByteArray):D:= .v (.string n)
def zY9(res:List SRes)(fr:Nat):Ex×St→Option (X×Heap)
 |(.ext _,_)=>none
 |(.nor,s)=>(iA s res).bind (T3 s fr)
 |(.ret,s)=>(iA s res).bind (T3 s fr)
def zVQ(res:List SRes):Ex×St→Option X
 |(.ext _,_)=>none
 |(.nor,s)=>(iA s res).bind (Qx s)
 |(.ret,s)=>(iA s res).bind (Qx s)
theorem aY{Φ:Nat→Option SFn}{f np nt:Nat}{code:SCode}{res:List SRes}(h:Φ f=some ⟨np,nt,code,res⟩)(args:List X)(hl:args.length=np):call Φ f args=(evW Φ code {env:=jQ 0 args,heap:=emp,fr:=0,next:=0}).bind (zVQ res):=by
 unfold call
 rw[zqG,h]
 simp only[obs,hl,if_true]
 cases evW Φ code {env:=jQ 0 args,heap:=emp,fr:=0,next:=0} with
 |none=>rfl
 |some r =>
  obtain⟨e,s⟩:=r
  cases e<;>simp only[obs,M0,zVQ,Option.map_none]
  ·cases iA s res with
   |none=>rfl
   |some xs=>simp only[obs,Qx];cases qE 0 s.heap xs<;>rfl
  ·cases iA s res with
   |none=>rfl
   |some xs=>simp only[obs,Qx];cases qE 0 s.heap xs<;>rfl
theorem aR{Φ:Nat→Option SFn}{f np nt:Nat}{code:SCode}{res:List SRes}(h:Φ f=some ⟨np,nt,code,res⟩)(args:List X)(m:Heap)(fr:Nat)(hl:args.length=np):evCW Φ f args m fr=(evW Φ code {env:=jQ 0 args,heap:=m,fr:=fr,next:=0}).bind (zY9 res fr):=by
 rw[zqG,h]
 simp only[obs,hl,if_true]
 cases evW Φ code {env:=jQ 0 args,heap:=m,fr:=fr,next:=0} with
 |none=>rfl
 |some r =>
  obtain⟨e,s⟩:=r
  cases e<;>simp only[obs,M0,zY9]
  ·cases iA s res with
   |none=>rfl
   |some xs=>simp only[obs,T3];cases qE fr s.heap xs<;>rfl
  ·cases iA s res with
   |none=>rfl
   |some xs=>simp only[obs,T3];cases qE fr s.heap xs<;>rfl
abbrev i64(n:Int):Prop:= -9223372036854775808≤n∧n≤9223372036854775807
theorem w64{n:Int}(h:i64 n):IntKind.wrap .i64 n=n:=by
 obtain⟨h1,h2⟩:=h
 simp only[IntKind.wrap,IntKind.signed,IntKind.bits,bta,decide_eq_true_eq,ge_iff_le,Nat.reduceSub,Int.reducePow]
 by_cases h:2 ^ 63≤n % 2 ^ 64
 ·simp only[Int.reducePow] at h
  rw[if_pos h];omega
 ·simp only[Int.reducePow] at h
  rw[if_neg h];omega
theorem vZ{n:Int}(h:(Lit.int .i64 n).wf=true):i64 n:=by
 simp[Lit.wf,IntKind.min,IntKind.max,IntKind.signed,IntKind.bits] at h
 omega
theorem w32{n:Int}(h: -2147483648≤n∧n≤2147483647):IntKind.wrap .i32 n=n:=by
 obtain⟨h1,h2⟩:=h
 simp only[IntKind.wrap,IntKind.signed,IntKind.bits,bta,decide_eq_true_eq,ge_iff_le,Nat.reduceSub,Int.reducePow]
 by_cases h:2 ^ 31≤n % 2 ^ 32
 ·simp only[Int.reducePow] at h
  rw[if_pos h];omega
 ·simp only[Int.reducePow] at h
  rw[if_neg h];omega
theorem wu8{n:Int}(h:0≤n∧n≤255):IntKind.wrap .u8 n=n:=by
 obtain⟨h1,h2⟩:=h
 simp only[IntKind.wrap,IntKind.signed,IntKind.bits]
 simp
 omega
theorem lC(fr:Nat):cB fr emp=emp:=by
 funext id
 simp[cB,emp]
theorem Yt(fr k:Nat)(h:Heap)(x:Option D):cB fr (upd h (fr,k) x)=cB fr h:=by
 funext id
 simp only[cB,upd]
 split
 ·rfl
 ·split
  ·rename_i h1 h2
   subst h2
   exact absurd rfl h1
  ·rfl
theorem zWc{κ α:Type}[DecidableEq κ](f:κ→Option α)(k:κ)(x y:Option α):upd (upd f k x) k y=upd f k y:=by
 funext j
 simp only[upd]
 split<;>rfl
def zkU(C:Cl)(i:Nat)(l:List SItem)(st:St):Option St:=nT C st i l
def fF(C:Cl)(st:St)(id:Nat)(d:Option Nat)(o:SOp)(b:Bool)(c:Option Bool):Option St:=if c=some b then opS C st d id o else some (st.put d (.tup []))
theorem zw6(C:Cl)(i:Nat)(st:St):zkU C i [] st=some {st with next:=st.next+i}:=rfl
theorem zqL(C:Cl)(i:Nat)(d:Option Nat)(o:SOp)(l:List SItem)(st:St):zkU C i (⟨d,none,o⟩::l) st=(opS C st d (st.next+i) o).bind (zkU C (i+32) l):=rfl
theorem zKE(b:Bool):gX (.d (.v (.bool b)))=some (some b):=rfl
theorem z9B:gX (.tup [])=some none:=rfl
theorem zzp(C:Cl)(i:Nat)(d:Option Nat)(s:Nat)(b:Bool)(o:SOp)(l:List SItem)(st:St):zkU C i (⟨d,some (s,b),o⟩::l) st=(((st.env s).bind gX).bind (fF C st (st.next+i) d o b)).bind (zkU C (i+32) l):=rfl
theorem zvB(C:Cl)(st:St)(id:Nat)(d:Option Nat)(o:SOp):fF C st id d o true (some true)=opS C st d id o:=rfl
theorem zvi(C:Cl)(st:St)(id:Nat)(d:Option Nat)(o:SOp):fF C st id d o false (some false)=opS C st d id o:=rfl
theorem zkO(C:Cl)(st:St)(id:Nat)(d:Option Nat)(o:SOp):fF C st id d o true (some false)=some (st.put d (.tup [])):=rfl
theorem zwb(C:Cl)(st:St)(id:Nat)(d:Option Nat)(o:SOp):fF C st id d o false (some true)=some (st.put d (.tup [])):=rfl
theorem zwA(C:Cl)(st:St)(id:Nat)(d:Option Nat)(o:SOp)(b:Bool):fF C st id d o b none=some (st.put d (.tup [])):=rfl
noncomputable def condK (Φ:Nat→Option SFn) (a b:SCode) (st:St):Bool→Option (Ex×St)
 |true=>evW Φ a st
 |false=>evW Φ b st
theorem zVT(Φ:Nat→Option SFn)(a b:SCode)(st:St):condK Φ a b st true=evW Φ a st:=rfl
theorem zKN(Φ:Nat→Option SFn)(a b:SCode)(st:St):condK Φ a b st false=evW Φ b st:=rfl
def nor(s:St):Ex×St:=(.nor,s)
theorem zZC{Φ:Nat→Option SFn}(l:List SItem)(st:St):evW Φ (.ops l) st=(zkU (evCW Φ) 0 l st).map nor:=zWk l st
noncomputable def runD (C:Cl) (b:Nat) (l:List DItem) (st:St):Option St:=opsD C b l st
noncomputable def reD (C:Cl) (b:Nat) (r:List SItem) (l:List DItem) (st:St):Option St:=(reS C st r).bind fun _=>opsD C b l st
theorem zZq(C:Cl)(b:Nat)(st:St):runD C b [] st=some st:=rfl
theorem zvw(C:Cl)(b:Nat)(d:Option Nat)(o:SOp)(ix:Nat)(r:List SItem)(l:List DItem)(st:St):runD C b (⟨⟨d,none,o⟩,ix,r⟩::l) st=(opS C st d (b+32*ix) o).bind (reD C b r l):=rfl
theorem zzq(C:Cl)(b:Nat)(d:Option Nat)(s:Nat)(g:Bool)(o:SOp)(ix:Nat)(r:List SItem)(l:List DItem)(st:St):runD C b (⟨⟨d,some (s,g),o⟩,ix,r⟩::l) st=(((st.env s).bind gX).bind (fF C st (b+32*ix) d o g)).bind (reD C b r l):=rfl
theorem zVO(C:Cl)(b:Nat)(l:List DItem)(st:St):reD C b [] l st=runD C b l st:=rfl
noncomputable def reA (C:Cl) (b:Nat) (d:Option Nat) (r:List SItem) (l:List DItem) (st s2:St):Option St:=(reK st d s2).bind fun _=>reD C b r l st
theorem zJ8(C:Cl)(b:Nat)(r:List SItem)(l:List DItem)(st s2:St):reA C b none r l st s2=reD C b r l st:=rfl
open Classical in
theorem zZn(C:Cl)(b d:Nat)(r:List SItem)(l:List DItem)(st s2:St):reA C b (some d) r l st s2=if s2.env d=st.env d then reD C b r l st else none:=by
 unfold reA reK
 simp only
 split<;>rfl
theorem zxi(C:Cl)(b:Nat)(d:Option Nat)(o:SOp)(r:List SItem)(l:List DItem)(st:St):reD C b (⟨d,none,o⟩::r) l st=(opS C st d 0 o).bind (reA C b d r l st):=by
 unfold reD reS
 simp only[itS]
 cases opS C st d 0 o with
 |none=>rfl
 |some s2=>simp only[obs,reA];cases reK st d s2<;>rfl
theorem zvJ(C:Cl)(b:Nat)(d:Option Nat)(s:Nat)(g:Bool)(o:SOp)(r:List SItem)(l:List DItem)(st:St):reD C b (⟨d,some (s,g),o⟩::r) l st=(((st.env s).bind gX).bind (fF C st 0 d o g)).bind (reA C b d r l st):=by
 show((((itS C st 0 ⟨d,some (s,g),o⟩).bind (reK st d)).bind fun _=>reS C st r).bind fun _=>opsD C b l st)=(itS C st 0 ⟨d,some (s,g),o⟩).bind (reA C b d r l st)
 cases itS C st 0 ⟨d,some (s,g),o⟩ with
 |none=>rfl
 |some s2=>simp only[obs,reA];cases reK st d s2<;>rfl
def z8L(b n:Nat)(s:St):Ex×St:=(.nor,{s with next:=b+32*n})
theorem zVh(b n:Nat)(s:St):z8L b n s=(.nor,{s with next:=b+32*n}):=rfl
theorem zkP{Φ:Nat→Option SFn}(l:List DItem)(st:St):evW Φ (.opsd l) st=(runD (evCW Φ) st.next l st).map (z8L st.next l.length):=zZM l st
theorem zwd{Φ:Nat→Option SFn}(o:O)(a b:SCode)(st:St):evW Φ (.cond o a b) st=(rdB st o).bind (condK Φ a b st):=by
 rw[zJx]
 congr 1
 funext t
 cases t<;>rfl
attribute [go_sem] zKy zVk zZD zvp zxy
attribute [go_sem] zV6 zVs zKh zJW zwG
attribute [go_sem] zkP zZq zvw zzq zVO zxi zvJ zJ8 zZn zVh
attribute [go_sem] zWh zwd zkW zw9 zVE zQe zJM zVH zZC zQV zkl nor next zYC zw6 zqL zzp zvB zvi zkO zwb zwA zKE z9B zVT zKN zWl zWA zWS zxn zVN zVi zK6 zK4 zYa zQG zKF zKu zQL zx3 zxo zvl zWw zYc zJl zKG zVc zVx zKP zQ4 zxS zQj zZ5 zKM zVu zJ4 zVb zKs zwX zva zWi zWY zZe zWB zYe zxU zxZ zJR zy3 zka zZL zxL zyh zZh zKo zKi zwT zq7 zjd zv4 zjc zWR zKr zy9 zxA zZH zkB zXk zXX zXC zXm zWT zWE zyk zJG zZX zWb zKR zwM zvt zqV zzj zvv zvf zK2 zki Z7 zJU zkc zW9 zWN zye zQ7 zVM Ug Rx zXc z9l zZz zJv zyj zwu zvS zwr zKc zv0 zkN zJP zyf zvZ zwK zKw zKJ zZm zZP zJr zVJ zVZ zZ9 zJT zQg zXK fnK_eq zQS zQ2 zys zq2 zkj zv8 zwm zzr Zv zws zwF zzE Y3 Zu zkf zqZ Zd Za zwU zWH zkg zwq zq8 zxg zzU Zl zKZ zKY zYb zK1 rdO rdI rdB rdS X.int X.bool X.str zZS zY7 zXz zyx zyb St.put St.lose St.with nB zke jQ zY9 zVQ Hv Iu Dp kid lC Yt D.rowOf A9 Hf vH one setCells zjl kS Fo D.noR Nb O5 zZB Ef fnOf cH Mq zWc roF Cg tF w7 zO Xj w6 inL zxT zWI zve zxa zq5 zJ5 yZ List.isPrefixOf Ui Path.under zy1 zwo zkH zyg zkZ zQv zvq zzB zk4 zxw zk1 zxq zKn zvV zJH zkI zzV zku zqX Ys zk2 zvo zYg zV8 zvO zw3 zQC zwp zQD zwI zQn zXv zXT zxt zVK zWO zKL z9Q zWg zKx zZv zQF zJh zV0 z8U zv2 zJ6 zVU zJk zqM zZA zJa zjk zQK zq6 z8M z8B z8w z8K zyT zxz zkF z7p z7K z7y z7q zVY zVG zZO zv5 zyD z9c zX6 zwc zz9 zz2 zkz z9n zY5 zXu zyz zXR zXP zWL zZj Yg Zx zkw zKT zZk zJo zzP zyd zkA Uh zkT zky zVg zvz zWD zVL zVl zVd zQU zWM zYf zKH zyI z9h zXV Wk zyV zwZ zjn zXI zXe Vl zx6 zkY zzf zXp zZV zvx zz4 zWv zVe zZw z9a zJ3 z9i zWa zVo zXi zQc zJI zXs z8f z8b z80 zxK zxs zQx zvg zxB zyK zkV zk3 We Uj W2 Vz W6 zzH Vv Yy Sa Ra Rd Rz Sl U5 Tf zx8 zzm Zk Zt Ze Ym zvs zje zVq zwx zvm zwY zk6 zqN zKp zk7 zvr Ul Uu Vn Wn Ue zjr Vm zJn zz7 zjs Zq zzc zzJ zvT Yq zKC zqR zwH zqQ zwl zwP zJN zwC zKB zks zvC zkb zq3 zkt zQs zkS zVV zwv zqY zk8 zwN zqO zQI zko zV4 zvd zwy zkn zk5 zwg zyM zwe zYd zwE zq1 zv7 zvH zvK zQM zwD zxk zzi zzy Y1 Yz Z3 zvu Yk zyu Zp zzQ Z8 zzh Z0 zwk zzN zKt zvA zkd zvQ zwQ zvP zyR zv1 zkM zvy zwJ zkJ zzG Y5 zz5 zjj Z2 zvW Zy zZr zzO zjq zzS zjv zjt zww X6 zKO zq9 zkK zvY zw2 zkD zxp zvk zZu zz3 Zm zzA Zi Zf zkr zzT zvL X2 Vt Ut Vq Xq zji Vo zxG X7 zzn zzC zz1 zz0 zvU Zc zxj zzX zzk Zs zjb Zh zwz zzu zQ1 Yb zz6 zzw Yn Z1 zwi Yw zWx zvG zwn zqJ zkk zvM zZo zwt zZ8 zyP zQP zJq zvE zQQ zJE zZK zyN zqT zX3 zxl zJK zKf zZ3 zZx zVR zxe zK8 zW7 zWG zV3 zxI zw4 zQw z9q zQr zKl zxP zZd zxu zVj zJu zKV zVt zWu zWm zQ3 zyl zQf zKj zyA zWy zya zY1 zy5 zZb zx7 zx9 zw5 zKX zxm zXq zJb zKk zQA zyG zxr zWn zJO zza So Q5 Tc S4 Rn Vs R9 zV1 zVA zK5 zWC zZ2 zQb zXL zQ0 zxN zxY zQN zQt zVf zZT zZR zx2 zQh zZE zjm zZG zWV zKg zKK zJt
attribute [go_sem] Int.cast_ofNat_Int List.size_toArray Option.bind_some Option.map_some Option.bind_none Option.map_none Option.getD_some Option.getD_none Option.isSome_some Option.isSome_none List.find?_nil List.find?_cons List.length_cons List.length_nil List.all_cons List.all_nil List.map_cons List.map_nil List.append_nil List.nil_append List.cons_append List.isEmpty_cons List.isEmpty_nil Bool.and_true Bool.true_and Bool.and_false Bool.false_and Bool.or_true Bool.true_or Bool.or_false Bool.false_or Bool.not_true Bool.not_false and_true true_and and_self and_false false_and or_true true_or or_false false_or not_true_eq_false not_false_eq_true decide_true decide_false eq_self if_true if_false Bool.false_eq_true beq_self_eq_true Prod.mk.injEq Nat.zero_add Nat.add_zero List.drop_zero List.take_zero List.drop_succ_cons List.take_succ_cons List.take_nil List.drop_nil List.getElem?_cons_zero List.getElem?_cons_succ List.getElem?_nil List.set_cons_zero List.set_cons_succ Nat.le_refl ite_self ne_eq
theorem Jk{n:Int}(h:0≤n)(k:Nat):n.tdiv k=((n.natAbs / k:Nat):Int):=by
 obtain⟨m,rfl⟩:=Int.eq_ofNat_of_zero_le h
 simp[Int.tdiv]
theorem sW{n:Int}(h:0≤n)(k:Nat):n.tmod k=((n.natAbs % k:Nat):Int):=by
 obtain⟨m,rfl⟩:=Int.eq_ofNat_of_zero_le h
 simp[Int.tmod]
theorem Tv{n:Int}(h:n≤0)(k:Nat):n.tdiv k= -((n.natAbs / k:Nat):Int):=by
 obtain⟨m,hm⟩:=Int.eq_ofNat_of_zero_le (show 0≤ -n by omega)
 obtain rfl:n= -(m:Int):=by omega
 rw[Int.neg_tdiv,Jk (by omega)]
 simp
theorem Sz{n:Int}(h:n≤0)(k:Nat):n.tmod k= -((n.natAbs % k:Nat):Int):=by
 obtain⟨m,hm⟩:=Int.eq_ofNat_of_zero_le (show 0≤ -n by omega)
 obtain rfl:n= -(m:Int):=by omega
 rw[Int.neg_tmod,sW (by omega)]
 simp
theorem ltT{a b:Int}(h:a<b):(a<b)=True:=eq_true h
theorem ltF{a b:Int}(h:¬a<b):(a<b)=False:=eq_false h
theorem leT{a b:Int}(h:a≤b):(a≤b)=True:=eq_true h
theorem leF{a b:Int}(h:¬a≤b):(a≤b)=False:=eq_false h
theorem neF{a b:Int}(h:¬a=b):(a=b)=False:=eq_false h
theorem z7G{a b:ByteArray}(h:aE a b):aE a b=True:=eq_true h
theorem mkT{a:Nat}{b:Int}(h:aM a b):aM a b=True:=eq_true h
theorem z7O{a b c:Nat}(h:aF a b c):aF a b c=True:=eq_true h
theorem aD(l:List UInt8):(⟨l.toArray⟩:ByteArray).size=l.length:=rfl
theorem X8:∀(l:List D),(∀d∈l,∃x,d= .v x)→fzl l=l
 |[],_=>by simp[fzl]
 |d::l,h=>by
  obtain⟨x,rfl⟩:=h d (by simp)
  simp only[fzl,D.fz,X8 l (fun d hd=>h d (by simp[hd]))]
theorem lH{α:Type}(f:α→List D)(g:α→List D)(h:∀a,fzl (f a)=g a):∀xs:List α,fzs (xs.map f)=xs.map g
 |[]=>by simp[fzs]
 |x::xs=>by simp only[mc,fzs,h,lH f g h xs]
theorem E7{n:Int}(h: -9223372036854775808≤n∧n≤9223372036854775807):IntKind.i64.wrap n=n:=w64 h
attribute [go_sem] fzl D.fz
theorem Ry(h:Heap)(k:Nat)(x:Option D):cB 1 (upd h (0,k) x)=upd (cB 1 h) (0,k) x:=by
 funext id
 simp only[cB,upd]
 by_cases e:id=(0,k)
 ·subst e;simp
 ·simp[e]
theorem fO{κ α:Type}[DecidableEq κ](f:κ→Option α)(i j:κ)(x y:Option α)(h:i≠j):upd (upd f i x) j y=upd (upd f j y) i x:=by
 funext k
 simp only[upd]
 by_cases e:k=j
 ·subst e;simp[Ne.symm h]
 ·simp[e]
theorem zXb(f:Heap)(x y:Option D):upd (upd f (0,0) x) (0,1) y=upd (upd f (0,1) y) (0,0) x:=fO f _ _ x y (by simp)
theorem zY4(f:Heap)(x y:Option D):upd (upd f (0,0) x) (0,2) y=upd (upd f (0,2) y) (0,0) x:=fO f _ _ x y (by simp)
theorem zXo(f:Heap)(x y:Option D):upd (upd f (0,0) x) (0,3) y=upd (upd f (0,3) y) (0,0) x:=fO f _ _ x y (by simp)
theorem zXQ(f:Heap)(x y:Option D):upd (upd f (0,0) x) (0,4) y=upd (upd f (0,4) y) (0,0) x:=fO f _ _ x y (by simp)
theorem zXr(f:Heap)(x y:Option D):upd (upd f (0,0) x) (0,5) y=upd (upd f (0,5) y) (0,0) x:=fO f _ _ x y (by simp)
theorem z9r(f:Heap)(x y:Option D):upd (upd f (0,1) x) (0,2) y=upd (upd f (0,2) y) (0,1) x:=fO f _ _ x y (by simp)
theorem zXM(f:Heap)(x y:Option D):upd (upd f (0,1) x) (0,3) y=upd (upd f (0,3) y) (0,1) x:=fO f _ _ x y (by simp)
theorem zY6(f:Heap)(x y:Option D):upd (upd f (0,1) x) (0,4) y=upd (upd f (0,4) y) (0,1) x:=fO f _ _ x y (by simp)
theorem z9v(f:Heap)(x y:Option D):upd (upd f (0,1) x) (0,5) y=upd (upd f (0,5) y) (0,1) x:=fO f _ _ x y (by simp)
theorem z9p(f:Heap)(x y:Option D):upd (upd f (0,2) x) (0,3) y=upd (upd f (0,3) y) (0,2) x:=fO f _ _ x y (by simp)
theorem zXJ(f:Heap)(x y:Option D):upd (upd f (0,2) x) (0,4) y=upd (upd f (0,4) y) (0,2) x:=fO f _ _ x y (by simp)
theorem zY3(f:Heap)(x y:Option D):upd (upd f (0,2) x) (0,5) y=upd (upd f (0,5) y) (0,2) x:=fO f _ _ x y (by simp)
theorem z9f(f:Heap)(x y:Option D):upd (upd f (0,3) x) (0,4) y=upd (upd f (0,4) y) (0,3) x:=fO f _ _ x y (by simp)
theorem z9g(f:Heap)(x y:Option D):upd (upd f (0,3) x) (0,5) y=upd (upd f (0,5) y) (0,3) x:=fO f _ _ x y (by simp)
theorem zXN(f:Heap)(x y:Option D):upd (upd f (0,4) x) (0,5) y=upd (upd f (0,5) y) (0,4) x:=fO f _ _ x y (by simp)
theorem Fx{α β:Type}(f:α→β)(A:List α)(e:β)(r:List β):(A.map f++e::r)[A.length]? = some e:=by
 rw[List.getElem?_append_right (by simp)]
 simp
theorem Fn{α β:Type}(f:α→β)(A:List α)(e e':β)(r:List β):(A.map f++e::r).set A.length e'=A.map f++e'::r:=by
 rw[List.set_append_right _ _ (by simp)]
 simp
theorem Em{α β:Type}(f:α→β)(A:List α)(r:List β):(A.map f++r).length=A.length+r.length:=by simp
abbrev aG(ns:List Int):List (List D):=ns.map fun n=>[DI n]
theorem cO(ns:List Int):fzs (aG ns)=aG ns:=lH _ _ (fun n=>by simp only[fzl,D.fz]) ns
theorem m5{α:Type}(f:α→List D)(h:∀a,D.noR.noRs (f a)=true):∀xs:List α,D.noR.noRss (xs.map f)=true
 |[]=>by simp[D.noR.noRss]
 |x::xs=>by simp only[mc,D.noR.noRss,h x,m5 f h xs,Bool.and_self]
theorem Fb(ns:List Int):D.noR.noRss (aG ns)=true:=m5 _ (fun n=>by simp[D.noR.noRs,D.noR]) ns
theorem zyC(a b c d:Nat):(((a,b):Nat×Nat)==(c,d))=(a==c&&b==d):=rfl
attribute [go_sem] zyC Ry zXb zY4 zXo zXQ zXr z9r zXM zY6 z9v z9p zXJ zY3 z9f z9g zXN D.noR.noRs
theorem zKv{c:List D}(h:jL [.i .i64] c):∃n:Int,c=[DI n]∧i64 n:=by
 simp only[jL,fit] at h
 obtain⟨_,_,rfl,⟨n,rfl,hn⟩,rfl⟩:=h
 exact⟨n,rfl,vZ hn⟩
theorem Rj{α:Type}{enc:α→List D}{ok:α→Prop}{ts:List Ty}(h:∀c,jL ts c→∃x,c=enc x∧ok x):∀{els:List (List D)},(∀c∈els,jL ts c)→∃xs:List α,els=xs.map enc∧∀x∈xs,ok x
 |[],_=>⟨[],rfl,by simp⟩
 |c::els,hc=>by
  obtain⟨x,rfl,h1⟩:=h c (hc c (by simp))
  obtain⟨xs,rfl,h2⟩:=Rj h (els:=els) (fun c' h'=>hc c' (by simp[h']))
  exact⟨x::xs,rfl,fun y hy=>by
   rcases List.mem_cons.1 hy with rfl|hy
   ·exact h1
   ·exact h2 y hy⟩
theorem aQ(Φ:Nat→Option SFn)(a b:SCode)(st:St)(p:Prop)[Decidable p]:condK Φ a b st (decide p)=if p then evW Φ a st else evW Φ b st:=by
 by_cases h:p<;>simp[h,condK]
theorem zVw(Φ:Nat→Option SFn)(a b:SCode)(st:St)(c:Bool):condK Φ a b st (!c)=condK Φ b a st c:=by cases c<;>rfl
theorem aN(Φ:Nat→Option SFn)(a b:SCode)(st:St)(c:Bool):condK Φ a b st c=if c=true then evW Φ a st else evW Φ b st:=by cases c<;>rfl
theorem zyn(Φ:Nat→Option SFn)(a b:SCode)(st:St){c:Bool}(h:c=true):condK Φ a b st c=evW Φ a st:=by subst h;rfl
theorem zZ1(Φ:Nat→Option SFn)(a b:SCode)(st:St){c:Bool}(h:¬c=true):condK Φ a b st c=evW Φ b st:=by
 cases c
 ·rfl
 ·exact absurd rfl h
theorem zxx(Φ:Nat→Option SFn)(a b:SCode)(st:St){c:Bool}(h:c=false):condK Φ a b st c=evW Φ b st:=by subst h;rfl
theorem aK(C:Cl)(st:St)(id:Nat)(d:Option Nat)(o:SOp)(p:Prop)[Decidable p]:fF C st id d o true (some (decide p))=if p then opS C st d id o else some (st.put d (.tup [])):=by
 by_cases h:p<;>simp[h,fF]
theorem aI(C:Cl)(st:St)(id:Nat)(d:Option Nat)(o:SOp)(p:Prop)[Decidable p]:fF C st id d o false (some (decide p))=if p then some (st.put d (.tup [])) else opS C st d id o:=by
 by_cases h:p<;>simp[h,fF]
theorem zvF(C:Cl)(st:St)(id:Nat)(d:Option Nat)(o:SOp)(c:Bool):fF C st id d o true (some (!c))=fF C st id d o false (some c):=by cases c<;>rfl
theorem zqS(C:Cl)(st:St)(id:Nat)(d:Option Nat)(o:SOp)(c:Bool):fF C st id d o false (some (!c))=fF C st id d o true (some c):=by cases c<;>rfl
theorem aH(C:Cl)(st:St)(id:Nat)(d:Option Nat)(o:SOp)(c:Bool):fF C st id d o true (some c)=if c=true then opS C st d id o else some (st.put d (.tup [])):=by cases c<;>rfl
theorem aJ(C:Cl)(st:St)(id:Nat)(d:Option Nat)(o:SOp)(c:Bool):fF C st id d o false (some c)=if c=true then some (st.put d (.tup [])) else opS C st d id o:=by cases c<;>rfl
theorem zkX(C:Cl)(st:St)(id:Nat)(d:Option Nat)(o:SOp){c:Bool}(h:c=true):fF C st id d o true (some c)=opS C st d id o:=by subst h;rfl
theorem zwL(C:Cl)(st:St)(id:Nat)(d:Option Nat)(o:SOp){c:Bool}(h:c=true):fF C st id d o false (some c)=some (st.put d (.tup [])):=by subst h;rfl
theorem zvn(C:Cl)(st:St)(id:Nat)(d:Option Nat)(o:SOp){c:Bool}(h:¬c=true):fF C st id d o true (some c)=some (st.put d (.tup [])):=by
 cases c
 ·rfl
 ·exact absurd rfl h
theorem zwh(C:Cl)(st:St)(id:Nat)(d:Option Nat)(o:SOp){c:Bool}(h:¬c=true):fF C st id d o false (some c)=opS C st d id o:=by
 cases c
 ·rfl
 ·exact absurd rfl h
theorem zqK(C:Cl)(st:St)(id:Nat)(d:Option Nat)(o:SOp){c:Bool}(h:c=false):fF C st id d o true (some c)=some (st.put d (.tup [])):=by subst h;rfl
theorem zwj(C:Cl)(st:St)(id:Nat)(d:Option Nat)(o:SOp){c:Bool}(h:c=false):fF C st id d o false (some c)=opS C st d id o:=by subst h;rfl
theorem aO(st:St)(d:Option Nat)(a b:O)(p:Prop)[Decidable p]:Bf st d a b (decide p)=if p then(rdO st a).map (st.put d) else(rdO st b).map (st.put d):=by
 by_cases h:p<;>simp[h,Bf]
theorem aP(st:St)(d:Option Nat)(a b:O)(c:Bool):Bf st d a b c=if c=true then(rdO st a).map (st.put d) else(rdO st b).map (st.put d):=by cases c<;>rfl
theorem zKU(st:St)(d:Option Nat)(a b:O)(c:Bool):Bf st d a b (!c)=Bf st d b a c:=by cases c<;>rfl
theorem zKd(st:St)(d:Option Nat)(a b:O){c:Bool}(h:c=true):Bf st d a b c=(rdO st a).map (st.put d):=by subst h;rfl
theorem zxV(st:St)(d:Option Nat)(a b:O){c:Bool}(h:¬c=true):Bf st d a b c=(rdO st b).map (st.put d):=by
 cases c
 ·rfl
 ·exact absurd rfl h
theorem zJe(st:St)(d:Option Nat)(a b:O){c:Bool}(h:c=false):Bf st d a b c=(rdO st b).map (st.put d):=by subst h;rfl
theorem eqT{a b:Int}(h:a=b):(a=b)=True:=eq_true h
theorem baT{a b:ByteArray}(h:a=b):(a=b)=True:=eq_true h
theorem baF{a b:ByteArray}(h:¬a=b):(a=b)=False:=eq_false h
theorem bvT{c:Bool}(h:c=true):(c=true)=True:=eq_true h
theorem bvF{c:Bool}(h:¬c=true):(c=true)=False:=eq_false h
theorem cA{α:Type}{xs:List α}{j:Int}{x:α}{B:List α}(h:xs.drop j.toNat=x::B)(h0:0≤j):xs[j.toNat]? = some x∧j<xs.length∧xs.drop (j+1).toNat=B∧x∈xs∧(xs.length:Int)=j+1+B.length:=by
 have h1:j.toNat<xs.length:=by
  apply Decidable.byContradiction
  intro h2
  rw[List.drop_eq_nil_of_le (by omega)] at h
  simp at h
 have h2:=List.drop_eq_getElem_cons h1
 rw[h] at h2
 simp only[List.cons.injEq] at h2
 have h3:(j+1).toNat=j.toNat+1:=by omega
 have h4:=congrArg List.length h
 simp only[List.length_drop,lc] at h4
 exact⟨by rw[List.getElem?_eq_getElem h1,←h2.1],by omega,by rw[h3];exact h2.2.symm,by rw[h2.1];exact List.getElem_mem h1,by omega⟩
theorem cZ{α:Type}{xs:List α}{j:Int}(h:xs.drop j.toNat=[])(h0:0≤j):(xs.length:Int)≤j:=by
 have:=List.drop_eq_nil_iff.1 h
 omega
theorem gC{α β:Type}(f:α→β){xs:List α}{k:Nat}{x:α}(h:xs[k]? = some x):(xs.map f)[k]? = some (f x):=by
 rw[List.getElem?_map,h];rfl
def bC{α:Type}(p:α→Bool):Int→List α→Int
 |_,[]=> -1
 |j,x::xs=>if p x=true then j else bC p (j+1) xs
theorem zY{α:Type}(p:α→Bool):∀{xs:List α} (j:Int),0≤j→xs.any p=decide (0≤bC p j xs)
 |[],j,_=>by simp[bC]
 |x::xs,j,h=>by
  rw[List.any_cons,bC]
  by_cases hp:p x=true
  ·rw[if_pos hp,hp,decide_eq_true h];rfl
  ·rw[if_neg hp,←zY p (j+1) (by omega)]
   simp[hp]
attribute [go_sem] zvX List.sum_cons List.sum_nil
theorem zzv{Φ:Nat→Option SFn}{f nt sz bytes:Nat}(h:Φ f=some ⟨1,nt,.clone sz [⟨some 5,none,.lit sz []⟩,⟨some 6,none,.mov (.t 0)⟩,⟨some 7,none,.app sz bytes (.t 5) (.t 6)⟩,⟨some 2,none,.mov (.t 7)⟩],[.t 2]⟩)(els:List (List D))(ha:aF bytes 0 els.length)(hl:(els.all fun el=>el.length==sz)=true) :
  call Φ f [.d (.r els)]=some (.d (.s sz (els.map fun el=>el.map D.toR))):=by
 rw[aY h _ rfl,zqU]
 have hl':(els.map fun el=>el.map D.toR).all (fun el=>el.length==sz)=true:=by simpa using hl
 have ha':aF bytes ([]:List (List D)).length (els.map fun el=>el.map D.toR).length:=by simpa using ha
 simp only[jQ,upd,if_true,obs,X.elsOf,kQ,nT,itS,opS,rdO,fZ,oms,St.put,St.with,Nat.reduceEqDiff,if_false,kL,pV,Heap.take,Heap.row,Heap.nav,D.nav,D.rowOf,ha',hl',and_self]
 simp[Gc,upd,emp,X.rowId,D.rowOf,zVQ,iA,Qx,qE,qB,mX,Heap.take,Heap.row,Heap.nav,D.nav,oV,ha',hl',nT]
 rfl
theorem zKS(ns:List Int){j:Int}(h0:0≤j)(h1:j<ns.length):∃v,(aG ns)[j.toNat]? = some [DI v]∧ns[j.toNat]? = some v:=by
 have h2:j.toNat<ns.length:=by omega
 exact⟨ns[j.toNat],by simp[h2],by simp[h2]⟩
end Go.Ev
