import Derived.Test.YtenclibcnjkamaaGreatEvSim2
set_option linter.all false
namespace Go.Ev
abbrev I(n:Int):X:= .d (.v (.int .i64 n))
abbrev B(n:Bool):X:= .d (.v (.bool n))
abbrev Str(n:ByteArray):X:= .d (.v (.string n))
abbrev DI(n:Int):D:= .v (.int .i64 n)
abbrev DB(n:Bool):D:= .v (.bool n)
abbrev DS(n:ByteArray):D:= .v (.string n)
def zV4(res:List SRes)(fr:Nat):Ex×St→Option (X×Heap)
 |(.ext _,_)=>none
 |(.nor,s)=>(fU s res).bind (Sl s fr)
 |(.ret,s)=>(fU s res).bind (Sl s fr)
def zQb(res:List SRes):Ex×St→Option X
 |(.ext _,_)=>none
 |(.nor,s)=>(fU s res).bind (Kz s)
 |(.ret,s)=>(fU s res).bind (Kz s)
theorem aS{Φ:Nat→Option SFn}{f np nt:Nat}{code:SCode}{res:List SRes}(h:Φ f=some ⟨np,nt,code,res⟩)(args:List X)(hl:args.length=np):call Φ f args=(evW Φ code {env:=iA 0 args,heap:=emp,fr:=0,next:=0}).bind (zQb res):=by
 unfold call
 rw[Yr,h]
 simp only[obs,hl,if_true]
 cases evW Φ code {env:=iA 0 args,heap:=emp,fr:=0,next:=0} with
 |none=>rfl
 |some r =>
  obtain⟨e,s⟩:=r
  cases e<;>simp only[obs,Hm,zQb,Option.map_none]
  ·cases fU s res with
   |none=>rfl
   |some xs=>simp only[obs,Kz];cases nS 0 s.heap xs<;>rfl
  ·cases fU s res with
   |none=>rfl
   |some xs=>simp only[obs,Kz];cases nS 0 s.heap xs<;>rfl
theorem dM{Φ:Nat→Option SFn}{f np nt:Nat}{code:SCode}{res:List SRes}(h:Φ f=some ⟨np,nt,code,res⟩)(args:List X)(m:Heap)(fr:Nat)(hl:args.length=np):evCW Φ f args m fr=(evW Φ code {env:=iA 0 args,heap:=m,fr:=fr,next:=0}).bind (zV4 res fr):=by
 rw[Yr,h]
 simp only[obs,hl,if_true]
 cases evW Φ code {env:=iA 0 args,heap:=m,fr:=fr,next:=0} with
 |none=>rfl
 |some r =>
  obtain⟨e,s⟩:=r
  cases e<;>simp only[obs,Hm,zV4]
  ·cases fU s res with
   |none=>rfl
   |some xs=>simp only[obs,Sl];cases nS fr s.heap xs<;>rfl
  ·cases fU s res with
   |none=>rfl
   |some xs=>simp only[obs,Sl];cases nS fr s.heap xs<;>rfl
abbrev i64(n:Int):Prop:= -9223372036854775808≤n∧n≤9223372036854775807
theorem w64{n:Int}(h:i64 n):IntKind.wrap .i64 n=n:=by
 obtain⟨h1,h2⟩:=h
 simp only[IntKind.wrap,IntKind.signed,IntKind.bits,bta,decide_eq_true_eq,ge_iff_le,Nat.reduceSub,Int.reducePow]
 by_cases h:2 ^ 63≤n % 2 ^ 64
 ·simp only[Int.reducePow] at h
  rw[if_pos h];omega
 ·simp only[Int.reducePow] at h
  rw[if_neg h];omega
theorem Pm{n:Int}(h:(Lit.int .i64 n).wf=true):i64 n:=by
 simp[Lit.wf,IntKind.min,IntKind.max,IntKind.signed,IntKind.bits] at h
 omega
theorem w32{n:Int}(h: -2147483648≤n∧n≤2147483647):IntKind.wrap .i32 n=n:=by
 obtain⟨h1,h2⟩:=h
 simp only[IntKind.wrap,IntKind.signed,IntKind.bits,bta,decide_eq_true_eq,ge_iff_le,Nat.reduceSub,Int.reducePow]
 by_cases h:2 ^ 31≤n % 2 ^ 32
 ·simp only[Int.reducePow] at h
  rw[if_pos h];omega
 ·simp only[Int.reducePow] at h
  rw[if_neg h];omega
theorem wu8{n:Int}(h:0≤n∧n≤255):IntKind.wrap .u8 n=n:=by
 obtain⟨h1,h2⟩:=h
 simp only[IntKind.wrap,IntKind.signed,IntKind.bits]
 simp
 omega
theorem lD(fr:Nat):bU fr emp=emp:=by
 funext id
 simp[bU,emp]
theorem U9(fr k:Nat)(h:Heap)(x:Option D):bU fr (upd h (fr,k) x)=bU fr h:=by
 funext id
 simp only[bU,upd]
 split
 ·rfl
 ·split
  ·rename_i h1 h2
   subst h2
   exact absurd rfl h1
  ·rfl
theorem zJC{κ α:Type}[DecidableEq κ](f:κ→Option α)(k:κ)(x y:Option α):upd (upd f k x) k y=upd f k y:=by
 funext j
 simp only[upd]
 split<;>rfl
def Zx(C:Cl)(i:Nat)(l:List SItem)(st:St):Option St:=lN C st i l
def eG(C:Cl)(st:St)(id:Nat)(d:Option Nat)(o:SOp)(b:Bool)(c:Option Bool):Option St:=if c=some b then opS C st d id o else some (st.put d (.tup []))
theorem zxM(C:Cl)(i:Nat)(st:St):Zx C i [] st=some {st with next:=st.next+i}:=rfl
theorem zqH(C:Cl)(i:Nat)(d:Option Nat)(o:SOp)(l:List SItem)(st:St):Zx C i (⟨d,none,o⟩::l) st=(opS C st d (st.next+i) o).bind (Zx C (i+32) l):=rfl
theorem zZQ(b:Bool):gX (.d (.v (.bool b)))=some (some b):=rfl
theorem zWz:gX (.tup [])=some none:=rfl
theorem Ue(C:Cl)(i:Nat)(d:Option Nat)(s:Nat)(b:Bool)(o:SOp)(l:List SItem)(st:St):Zx C i (⟨d,some (s,b),o⟩::l) st=(((st.env s).bind gX).bind (eG C st (st.next+i) d o b)).bind (Zx C (i+32) l):=rfl
theorem zjH(C:Cl)(st:St)(id:Nat)(d:Option Nat)(o:SOp):eG C st id d o true (some true)=opS C st d id o:=rfl
theorem zzP(C:Cl)(st:St)(id:Nat)(d:Option Nat)(o:SOp):eG C st id d o false (some false)=opS C st d id o:=rfl
theorem Zy(C:Cl)(st:St)(id:Nat)(d:Option Nat)(o:SOp):eG C st id d o true (some false)=some (st.put d (.tup [])):=rfl
theorem zqX(C:Cl)(st:St)(id:Nat)(d:Option Nat)(o:SOp):eG C st id d o false (some true)=some (st.put d (.tup [])):=rfl
theorem zqW(C:Cl)(st:St)(id:Nat)(d:Option Nat)(o:SOp)(b:Bool):eG C st id d o b none=some (st.put d (.tup [])):=rfl
noncomputable def condK (Φ:Nat→Option SFn) (a b:SCode) (st:St):Bool→Option (Ex×St)
 |true=>evW Φ a st
 |false=>evW Φ b st
theorem zJ9(Φ:Nat→Option SFn)(a b:SCode)(st:St):condK Φ a b st true=evW Φ a st:=rfl
theorem zJq(Φ:Nat→Option SFn)(a b:SCode)(st:St):condK Φ a b st false=evW Φ b st:=rfl
def nor(s:St):Ex×St:=(.nor,s)
theorem zy9{Φ:Nat→Option SFn}(l:List SItem)(st:St):evW Φ (.ops l) st=(Zx (evCW Φ) 0 l st).map nor:=zQz l st
noncomputable def runD (C:Cl) (b:Nat) (l:List DItem) (st:St):Option St:=opsD C b l st
noncomputable def reD (C:Cl) (b:Nat) (r:List SItem) (l:List DItem) (st:St):Option St:=(reS C st r).bind fun _=>opsD C b l st
theorem zkX(C:Cl)(b:Nat)(st:St):runD C b [] st=some st:=rfl
theorem zzQ(C:Cl)(b:Nat)(d:Option Nat)(o:SOp)(ix:Nat)(r:List SItem)(l:List DItem)(st:St):runD C b (⟨⟨d,none,o⟩,ix,r⟩::l) st=(opS C st d (b+32*ix) o).bind (reD C b r l):=rfl
theorem Ut(C:Cl)(b:Nat)(d:Option Nat)(s:Nat)(g:Bool)(o:SOp)(ix:Nat)(r:List SItem)(l:List DItem)(st:St):runD C b (⟨⟨d,some (s,g),o⟩,ix,r⟩::l) st=(((st.env s).bind gX).bind (eG C st (b+32*ix) d o g)).bind (reD C b r l):=rfl
theorem zJB(C:Cl)(b:Nat)(l:List DItem)(st:St):reD C b [] l st=runD C b l st:=rfl
noncomputable def reA (C:Cl) (b:Nat) (d:Option Nat) (r:List SItem) (l:List DItem) (st s2:St):Option St:=(reK st d s2).bind fun _=>reD C b r l st
theorem zvH(C:Cl)(b:Nat)(r:List SItem)(l:List DItem)(st s2:St):reA C b none r l st s2=reD C b r l st:=rfl
open Classical in
theorem zkp(C:Cl)(b d:Nat)(r:List SItem)(l:List DItem)(st s2:St):reA C b (some d) r l st s2=if s2.env d=st.env d then reD C b r l st else none:=by
 unfold reA reK
 simp only
 split<;>rfl
theorem zZe(C:Cl)(b:Nat)(d:Option Nat)(o:SOp)(r:List SItem)(l:List DItem)(st:St):reD C b (⟨d,none,o⟩::r) l st=(opS C st d 0 o).bind (reA C b d r l st):=by
 unfold reD reS
 simp only[itS]
 cases opS C st d 0 o with
 |none=>rfl
 |some s2=>simp only[obs,reA];cases reK st d s2<;>rfl
theorem zjk(C:Cl)(b:Nat)(d:Option Nat)(s:Nat)(g:Bool)(o:SOp)(r:List SItem)(l:List DItem)(st:St):reD C b (⟨d,some (s,g),o⟩::r) l st=(((st.env s).bind gX).bind (eG C st 0 d o g)).bind (reA C b d r l st):=by
 show((((itS C st 0 ⟨d,some (s,g),o⟩).bind (reK st d)).bind fun _=>reS C st r).bind fun _=>opsD C b l st)=(itS C st 0 ⟨d,some (s,g),o⟩).bind (reA C b d r l st)
 cases itS C st 0 ⟨d,some (s,g),o⟩ with
 |none=>rfl
 |some s2=>simp only[obs,reA];cases reK st d s2<;>rfl
def zWW(b n:Nat)(s:St):Ex×St:=(.nor,{s with next:=b+32*n})
theorem zZM(b n:Nat)(s:St):zWW b n s=(.nor,{s with next:=b+32*n}):=rfl
theorem zqQ{Φ:Nat→Option SFn}(l:List DItem)(st:St):evW Φ (.opsd l) st=(runD (evCW Φ) st.next l st).map (zWW st.next l.length):=zyE l st
theorem zqK{Φ:Nat→Option SFn}(o:O)(a b:SCode)(st:St):evW Φ (.cond o a b) st=(rdB st o).bind (condK Φ a b st):=by
 rw[zyo]
 congr 1
 funext t
 cases t<;>rfl
attribute [go_sem] zJn zZO zkN zyV zzR
attribute [go_sem] zqQ zkX zzQ Ut zJB zZe zjk zvH zkp zZM
attribute [go_sem] zZp zqK zqA zwj zZR zyb zvx zZ0 zy9 zki zzA nor next zKI zxM zqH Ue zjH zzP Zy zqX zqW zZQ zWz zJ9 zJq zQ8 zQr zZ1 zkj zQ2 zQB zJg zJA zJ7 zyi zZr zQV zkY zv0 zxb zjc zQo zQy zkO zJN zJc zQW zZB zvO zvG zv1 zyp zJE zQA zye zQ5 zJV Z8 zzi zQh zQU zxz zJZ zQa zxR zZa zyq zyl zqP zZk zx5 zw8 zkM zvL zvC zj5 zja To zzG V0 zJ4 zJ2 zkx zkn zkb zjX zVx zWk zVJ zK1 zJy zJe zxX zke zyL zJL zQY Zp zqw Zz T7 zz7 zzh zJW zzS Xi zxC zzm zQN zJD zk6 zyj zJr Qk Ny zWh zVQ zxS zyx zkI zjQ zqG Zs zxf zze zqT zk0 zk7 zjB zjf zQu zZD zv6 zvj zxi zZC zZq zxr zkm zwC zKP fnK_eq zyt zvd zZb Z5 Zw zzu zql Tg T4 zjJ zq5 T8 V5 Tz zj3 zjj Ug Th zq3 zQs zjW zjz zqN zx3 T3 Xg zJh zZs zZZ zJo rdO rdI rdB rdS X.int X.bool X.str zkf zWc zV9 zwZ zy7 St.put St.lose St.with lG zjI iA zV4 zQb C6 Ec y6 kid lD U9 D.rowOf vX B7 r7 one setCells Wk i7 Au D.noR J7 Iq zws Av fnOf bV Fg zJC roF yQ qB tV wZ Ro tF inL zyP zZv zzf zkW zqI zwc xK List.isPrefixOf Pu Path.under zvk zjU zjm zwP zzI zwf zqm T9 zjM zkJ zzV zwD zkF zqt zxH zzg Wz Zv Zq Tb zzC zzy zQl zQC zz2 zqS zkz zjR zy5 zz6 zxy zWg zVp zxB zJR zJ3 zZT zWU zJQ zZ9 zvu zxD zyJ zQt zWH zz5 zkt zQF zxQ zqp zvX zw5 Vc zxo Z7 zWo zW3 zWF zWu zwg zyT zzv zYe zYl zYd zYh zQX zQQ zk1 zjd zy1 zKV zVz zz3 Ud Xj zj0 zV2 zWf zKU zyB zVI zVN zZy zy6 Sz Vd zjD zJ1 zvP zx4 Uc zko zj8 Sa zq4 zq0 zQp Z3 zJK zJT zZP zZo zkg zZE zJ6 zJO zkl zVZ zKZ O4 zwi zjC S9 zKO zVD Sy zyY zzw Xn zVE zwT zjS Wp zQd zJu zv9 zVL zwt zVP zQ4 zQ6 zVo zvb zxF zKS zWv zWB zWs zxs zwx zwG zjb zxl zZj zjv zqE Qd Pv Pl Sn Qa Wx Qm Wr Nz L0 N8 N9 Mi Ov Mt zyS Ub Wt Ux Vq Uy zzF Tr zQP zqZ zzc zzb zzl zjt zvN zzX zjF Qr Pd Q4 Qb Pz Vp Oi zxW Td T6 Tk Vh We zz8 W6 zZU zjh Zr zqg zzO zqy zxI zqn zJU zjn zjO zzB zqC zqx zxY zzE zQS zqi Zo zjG zj7 zjw zvo zqO zZJ zje zzp zzr zjY zqb zyO zzW zZK Z9 zz0 zzT zj9 zjq zxc zqd zwa Vn Uo W3 Vm Tt zzq T5 zwM Ws V7 Vw U5 Ve zq6 Wj zJf Z1 zzY Z6 zzH zjg zxh zqo zz1 zqq zzd Z4 T0 W8 Vj Us Vl zqa S8 zxd Wy Vs Vu Ur Vt zzU Tq zZz zqe zzM zqB zjx zqc zwe zzx zv8 W7 Xk Vk Xh Ta zqh Tu zqY Rh Q3 O2 Pp Rb Wl P6 zv5 Ts Tn Wo Xl Wa zq1 W0 zvw Tv Xc W9 Wd Tp zjN Wg zxU Uw Uj Va Vz Wu Zu Tl zQc zqz zzo zjL zjo zqD zkE Z0 zZh zyd zvy zwp zqF zkR zv4 zku zwO zzs zVy zvF zvD zvI zkK zyf zZL zvz zQm zJ8 zQ3 zQi zxq zZd zwq zWj zyF zxw zvR zyK zxg zJa zk9 zJI zJi zJS zJM zxu zkG zwk zxT zvZ zQ7 zvV zVV zZf zkw zwh zvB zkD zQJ zx0 zVH zvU zwA zvm zwY zve zZI zkq Tj Mj L8 Na Ly M7 Py Mv zZ3 zQH zZS zQg zxL zkd zVd zvt zyz zvE zxO zx2 zZN zvn zyG zvc zwb zkU Wn zwv zQE zvl zZ4 zq9
attribute [go_sem] Int.cast_ofNat_Int List.size_toArray Option.bind_some Option.map_some Option.bind_none Option.map_none Option.getD_some Option.getD_none Option.isSome_some Option.isSome_none List.find?_nil List.find?_cons List.length_cons List.length_nil List.all_cons List.all_nil List.map_cons List.map_nil List.append_nil List.nil_append List.cons_append List.isEmpty_cons List.isEmpty_nil Bool.and_true Bool.true_and Bool.and_false Bool.false_and Bool.or_true Bool.true_or Bool.or_false Bool.false_or Bool.not_true Bool.not_false and_true true_and and_self and_false false_and or_true true_or or_false false_or not_true_eq_false not_false_eq_true decide_true decide_false eq_self if_true if_false Bool.false_eq_true beq_self_eq_true Prod.mk.injEq Nat.zero_add Nat.add_zero List.drop_zero List.take_zero List.drop_succ_cons List.take_succ_cons List.take_nil List.drop_nil List.getElem?_cons_zero List.getElem?_cons_succ List.getElem?_nil List.set_cons_zero List.set_cons_succ Nat.le_refl ite_self ne_eq
theorem zJP{n:Int}(h:0≤n)(k:Nat):n.tdiv k=((n.natAbs / k:Nat):Int):=by
 obtain⟨m,rfl⟩:=Int.eq_ofNat_of_zero_le h
 simp[Int.tdiv]
theorem Ek{n:Int}(h:0≤n)(k:Nat):n.tmod k=((n.natAbs % k:Nat):Int):=by
 obtain⟨m,rfl⟩:=Int.eq_ofNat_of_zero_le h
 simp[Int.tmod]
theorem zYb{n:Int}(h:n≤0)(k:Nat):n.tdiv k= -((n.natAbs / k:Nat):Int):=by
 obtain⟨m,hm⟩:=Int.eq_ofNat_of_zero_le (show 0≤ -n by omega)
 obtain rfl:n= -(m:Int):=by omega
 rw[Int.neg_tdiv,zJP (by omega)]
 simp
theorem zYa{n:Int}(h:n≤0)(k:Nat):n.tmod k= -((n.natAbs % k:Nat):Int):=by
 obtain⟨m,hm⟩:=Int.eq_ofNat_of_zero_le (show 0≤ -n by omega)
 obtain rfl:n= -(m:Int):=by omega
 rw[Int.neg_tmod,Ek (by omega)]
 simp
theorem ltT{a b:Int}(h:a<b):(a<b)=True:=eq_true h
theorem ltF{a b:Int}(h:¬a<b):(a<b)=False:=eq_false h
theorem leT{a b:Int}(h:a≤b):(a≤b)=True:=eq_true h
theorem leF{a b:Int}(h:¬a≤b):(a≤b)=False:=eq_false h
theorem neF{a b:Int}(h:¬a=b):(a=b)=False:=eq_false h
theorem zYj{a b:ByteArray}(h:aI a b):aI a b=True:=eq_true h
theorem mkT{a:Nat}{b:Int}(h:aP a b):aP a b=True:=eq_true h
theorem zYi{a b c:Nat}(h:aH a b c):aH a b c=True:=eq_true h
theorem aC(l:List UInt8):(⟨l.toArray⟩:ByteArray).size=l.length:=rfl
theorem Uf:∀(l:List D),(∀d∈l,∃x,d= .v x)→fzl l=l
 |[],_=>by simp[fzl]
 |d::l,h=>by
  obtain⟨x,rfl⟩:=h d (by simp)
  simp only[fzl,D.fz,Uf l (fun d hd=>h d (by simp[hd]))]
theorem oE{α:Type}(f:α→List D)(g:α→List D)(h:∀a,fzl (f a)=g a):∀xs:List α,fzs (xs.map f)=xs.map g
 |[]=>by simp[fzs]
 |x::xs=>by simp only[mc,fzs,h,oE f g h xs]
theorem An{n:Int}(h: -9223372036854775808≤n∧n≤9223372036854775807):IntKind.i64.wrap n=n:=w64 h
attribute [go_sem] fzl D.fz
theorem Ew(h:Heap)(k:Nat)(x:Option D):bU 1 (upd h (0,k) x)=upd (bU 1 h) (0,k) x:=by
 funext id
 simp only[bU,upd]
 by_cases e:id=(0,k)
 ·subst e;simp
 ·simp[e]
theorem eS{κ α:Type}[DecidableEq κ](f:κ→Option α)(i j:κ)(x y:Option α)(h:i≠j):upd (upd f i x) j y=upd (upd f j y) i x:=by
 funext k
 simp only[upd]
 by_cases e:k=j
 ·subst e;simp[Ne.symm h]
 ·simp[e]
theorem zK9(f:Heap)(x y:Option D):upd (upd f (0,0) x) (0,1) y=upd (upd f (0,1) y) (0,0) x:=eS f _ _ x y (by simp)
theorem zVB(f:Heap)(x y:Option D):upd (upd f (0,0) x) (0,2) y=upd (upd f (0,2) y) (0,0) x:=eS f _ _ x y (by simp)
theorem zV6(f:Heap)(x y:Option D):upd (upd f (0,0) x) (0,3) y=upd (upd f (0,3) y) (0,0) x:=eS f _ _ x y (by simp)
theorem zK7(f:Heap)(x y:Option D):upd (upd f (0,0) x) (0,4) y=upd (upd f (0,4) y) (0,0) x:=eS f _ _ x y (by simp)
theorem zKQ(f:Heap)(x y:Option D):upd (upd f (0,0) x) (0,5) y=upd (upd f (0,5) y) (0,0) x:=eS f _ _ x y (by simp)
theorem zWi(f:Heap)(x y:Option D):upd (upd f (0,1) x) (0,2) y=upd (upd f (0,2) y) (0,1) x:=eS f _ _ x y (by simp)
theorem zV8(f:Heap)(x y:Option D):upd (upd f (0,1) x) (0,3) y=upd (upd f (0,3) y) (0,1) x:=eS f _ _ x y (by simp)
theorem zKY(f:Heap)(x y:Option D):upd (upd f (0,1) x) (0,4) y=upd (upd f (0,4) y) (0,1) x:=eS f _ _ x y (by simp)
theorem zV1(f:Heap)(x y:Option D):upd (upd f (0,1) x) (0,5) y=upd (upd f (0,5) y) (0,1) x:=eS f _ _ x y (by simp)
theorem zVw(f:Heap)(x y:Option D):upd (upd f (0,2) x) (0,3) y=upd (upd f (0,3) y) (0,2) x:=eS f _ _ x y (by simp)
theorem zVK(f:Heap)(x y:Option D):upd (upd f (0,2) x) (0,4) y=upd (upd f (0,4) y) (0,2) x:=eS f _ _ x y (by simp)
theorem zK0(f:Heap)(x y:Option D):upd (upd f (0,2) x) (0,5) y=upd (upd f (0,5) y) (0,2) x:=eS f _ _ x y (by simp)
theorem zK2(f:Heap)(x y:Option D):upd (upd f (0,3) x) (0,4) y=upd (upd f (0,4) y) (0,3) x:=eS f _ _ x y (by simp)
theorem zKR(f:Heap)(x y:Option D):upd (upd f (0,3) x) (0,5) y=upd (upd f (0,5) y) (0,3) x:=eS f _ _ x y (by simp)
theorem zVs(f:Heap)(x y:Option D):upd (upd f (0,4) x) (0,5) y=upd (upd f (0,5) y) (0,4) x:=eS f _ _ x y (by simp)
theorem N7{α β:Type}(f:α→β)(A:List α)(e:β)(r:List β):(A.map f++e::r)[A.length]? = some e:=by
 rw[List.getElem?_append_right (by simp)]
 simp
theorem Ll{α β:Type}(f:α→β)(A:List α)(e e':β)(r:List β):(A.map f++e::r).set A.length e'=A.map f++e'::r:=by
 rw[List.set_append_right _ _ (by simp)]
 simp
theorem Nx{α β:Type}(f:α→β)(A:List α)(r:List β):(A.map f++r).length=A.length+r.length:=by simp
abbrev aK(ns:List Int):List (List D):=ns.map fun n=>[DI n]
theorem cO(ns:List Int):fzs (aK ns)=aK ns:=oE _ _ (fun n=>by simp only[fzl,D.fz]) ns
theorem oI{α:Type}(f:α→List D)(h:∀a,D.noR.noRs (f a)=true):∀xs:List α,D.noR.noRss (xs.map f)=true
 |[]=>by simp[D.noR.noRss]
 |x::xs=>by simp only[mc,D.noR.noRss,h x,oI f h xs,Bool.and_self]
theorem Pr(ns:List Int):D.noR.noRss (aK ns)=true:=oI _ (fun n=>by simp[D.noR.noRs,D.noR]) ns
theorem zk3(a b c d:Nat):(((a,b):Nat×Nat)==(c,d))=(a==c&&b==d):=rfl
attribute [go_sem] zk3 Ew zK9 zVB zV6 zK7 zKQ zWi zV8 zKY zV1 zVw zVK zK0 zK2 zKR zVs D.noR.noRs
theorem zQv{c:List D}(h:jC [.i .i64] c):∃n:Int,c=[DI n]∧i64 n:=by
 simp only[jC,fit] at h
 obtain⟨_,_,rfl,⟨n,rfl,hn⟩,rfl⟩:=h
 exact⟨n,rfl,Pm hn⟩
theorem Et{α:Type}{enc:α→List D}{ok:α→Prop}{ts:List Ty}(h:∀c,jC ts c→∃x,c=enc x∧ok x):∀{els:List (List D)},(∀c∈els,jC ts c)→∃xs:List α,els=xs.map enc∧∀x∈xs,ok x
 |[],_=>⟨[],rfl,by simp⟩
 |c::els,hc=>by
  obtain⟨x,rfl,h1⟩:=h c (hc c (by simp))
  obtain⟨xs,rfl,h2⟩:=Et h (els:=els) (fun c' h'=>hc c' (by simp[h']))
  exact⟨x::xs,rfl,fun y hy=>by
   rcases List.mem_cons.1 hy with rfl|hy
   ·exact h1
   ·exact h2 y hy⟩
theorem aM(Φ:Nat→Option SFn)(a b:SCode)(st:St)(p:Prop)[Decidable p]:condK Φ a b st (decide p)=if p then evW Φ a st else evW Φ b st:=by
 by_cases h:p<;>simp[h,condK]
theorem zZu(Φ:Nat→Option SFn)(a b:SCode)(st:St)(c:Bool):condK Φ a b st (!c)=condK Φ b a st c:=by cases c<;>rfl
theorem aO(Φ:Nat→Option SFn)(a b:SCode)(st:St)(c:Bool):condK Φ a b st c=if c=true then evW Φ a st else evW Φ b st:=by cases c<;>rfl
theorem zq8(Φ:Nat→Option SFn)(a b:SCode)(st:St){c:Bool}(h:c=true):condK Φ a b st c=evW Φ a st:=by subst h;rfl
theorem zk4(Φ:Nat→Option SFn)(a b:SCode)(st:St){c:Bool}(h:¬c=true):condK Φ a b st c=evW Φ b st:=by
 cases c
 ·rfl
 ·exact absurd rfl h
theorem zyU(Φ:Nat→Option SFn)(a b:SCode)(st:St){c:Bool}(h:c=false):condK Φ a b st c=evW Φ b st:=by subst h;rfl
theorem aG(C:Cl)(st:St)(id:Nat)(d:Option Nat)(o:SOp)(p:Prop)[Decidable p]:eG C st id d o true (some (decide p))=if p then opS C st d id o else some (st.put d (.tup [])):=by
 by_cases h:p<;>simp[h,eG]
theorem aD(C:Cl)(st:St)(id:Nat)(d:Option Nat)(o:SOp)(p:Prop)[Decidable p]:eG C st id d o false (some (decide p))=if p then some (st.put d (.tup [])) else opS C st d id o:=by
 by_cases h:p<;>simp[h,eG]
theorem zqU(C:Cl)(st:St)(id:Nat)(d:Option Nat)(o:SOp)(c:Bool):eG C st id d o true (some (!c))=eG C st id d o false (some c):=by cases c<;>rfl
theorem zj4(C:Cl)(st:St)(id:Nat)(d:Option Nat)(o:SOp)(c:Bool):eG C st id d o false (some (!c))=eG C st id d o true (some c):=by cases c<;>rfl
theorem aE(C:Cl)(st:St)(id:Nat)(d:Option Nat)(o:SOp)(c:Bool):eG C st id d o true (some c)=if c=true then opS C st d id o else some (st.put d (.tup [])):=by cases c<;>rfl
theorem aF(C:Cl)(st:St)(id:Nat)(d:Option Nat)(o:SOp)(c:Bool):eG C st id d o false (some c)=if c=true then some (st.put d (.tup [])) else opS C st d id o:=by cases c<;>rfl
theorem zza(C:Cl)(st:St)(id:Nat)(d:Option Nat)(o:SOp){c:Bool}(h:c=true):eG C st id d o true (some c)=opS C st d id o:=by subst h;rfl
theorem zj1(C:Cl)(st:St)(id:Nat)(d:Option Nat)(o:SOp){c:Bool}(h:c=true):eG C st id d o false (some c)=some (st.put d (.tup [])):=by subst h;rfl
theorem zzt(C:Cl)(st:St)(id:Nat)(d:Option Nat)(o:SOp){c:Bool}(h:¬c=true):eG C st id d o true (some c)=some (st.put d (.tup [])):=by
 cases c
 ·rfl
 ·exact absurd rfl h
theorem zjZ(C:Cl)(st:St)(id:Nat)(d:Option Nat)(o:SOp){c:Bool}(h:¬c=true):eG C st id d o false (some c)=opS C st d id o:=by
 cases c
 ·rfl
 ·exact absurd rfl h
theorem zzz(C:Cl)(st:St)(id:Nat)(d:Option Nat)(o:SOp){c:Bool}(h:c=false):eG C st id d o true (some c)=some (st.put d (.tup [])):=by subst h;rfl
theorem zzD(C:Cl)(st:St)(id:Nat)(d:Option Nat)(o:SOp){c:Bool}(h:c=false):eG C st id d o false (some c)=opS C st d id o:=by subst h;rfl
theorem aL(st:St)(d:Option Nat)(a b:O)(p:Prop)[Decidable p]:xE st d a b (decide p)=if p then(rdO st a).map (st.put d) else(rdO st b).map (st.put d):=by
 by_cases h:p<;>simp[h,xE]
theorem aN(st:St)(d:Option Nat)(a b:O)(c:Bool):xE st d a b c=if c=true then(rdO st a).map (st.put d) else(rdO st b).map (st.put d):=by cases c<;>rfl
theorem zQK(st:St)(d:Option Nat)(a b:O)(c:Bool):xE st d a b (!c)=xE st d b a c:=by cases c<;>rfl
theorem zwR(st:St)(d:Option Nat)(a b:O){c:Bool}(h:c=true):xE st d a b c=(rdO st a).map (st.put d):=by subst h;rfl
theorem zwy(st:St)(d:Option Nat)(a b:O){c:Bool}(h:¬c=true):xE st d a b c=(rdO st b).map (st.put d):=by
 cases c
 ·rfl
 ·exact absurd rfl h
theorem zyk(st:St)(d:Option Nat)(a b:O){c:Bool}(h:c=false):xE st d a b c=(rdO st b).map (st.put d):=by subst h;rfl
theorem eqT{a b:Int}(h:a=b):(a=b)=True:=eq_true h
theorem baT{a b:ByteArray}(h:a=b):(a=b)=True:=eq_true h
theorem baF{a b:ByteArray}(h:¬a=b):(a=b)=False:=eq_false h
theorem bvT{c:Bool}(h:c=true):(c=true)=True:=eq_true h
theorem bvF{c:Bool}(h:¬c=true):(c=true)=False:=eq_false h
theorem bL{α:Type}{xs:List α}{j:Int}{x:α}{B:List α}(h:xs.drop j.toNat=x::B)(h0:0≤j):xs[j.toNat]? = some x∧j<xs.length∧xs.drop (j+1).toNat=B∧x∈xs∧(xs.length:Int)=j+1+B.length:=by
 have h1:j.toNat<xs.length:=by
  apply Decidable.byContradiction
  intro h2
  rw[List.drop_eq_nil_of_le (by omega)] at h
  simp at h
 have h2:=List.drop_eq_getElem_cons h1
 rw[h] at h2
 simp only[List.cons.injEq] at h2
 have h3:(j+1).toNat=j.toNat+1:=by omega
 have h4:=congrArg List.length h
 simp only[List.length_drop,lc] at h4
 exact⟨by rw[List.getElem?_eq_getElem h1,←h2.1],by omega,by rw[h3];exact h2.2.symm,by rw[h2.1];exact List.getElem_mem h1,by omega⟩
theorem cN{α:Type}{xs:List α}{j:Int}(h:xs.drop j.toNat=[])(h0:0≤j):(xs.length:Int)≤j:=by
 have:=List.drop_eq_nil_iff.1 h
 omega
theorem eM{α β:Type}(f:α→β){xs:List α}{k:Nat}{x:α}(h:xs[k]? = some x):(xs.map f)[k]? = some (f x):=by
 rw[List.getElem?_map,h];rfl
def aR{α:Type}(p:α→Bool):Int→List α→Int
 |_,[]=> -1
 |j,x::xs=>if p x=true then j else aR p (j+1) xs
theorem C9{α:Type}(p:α→Bool):∀{xs:List α} (j:Int),0≤j→xs.any p=decide (0≤aR p j xs)
 |[],j,_=>by simp[aR]
 |x::xs,j,h=>by
  rw[List.any_cons,aR]
  by_cases hp:p x=true
  ·rw[if_pos hp,hp,decide_eq_true h];rfl
  ·rw[if_neg hp,←C9 p (j+1) (by omega)]
   simp[hp]
attribute [go_sem] zjs List.sum_cons List.sum_nil
theorem Vv{Φ:Nat→Option SFn}{f nt sz bytes:Nat}(h:Φ f=some ⟨1,nt,.clone sz [⟨some 5,none,.lit sz []⟩,⟨some 6,none,.mov (.t 0)⟩,⟨some 7,none,.app sz bytes (.t 5) (.t 6)⟩,⟨some 2,none,.mov (.t 7)⟩],[.t 2]⟩)(els:List (List D))(ha:aH bytes 0 els.length)(hl:(els.all fun el=>el.length==sz)=true) :
  call Φ f [.d (.r els)]=some (.d (.s sz (els.map fun el=>el.map D.toR))):=by
 rw[aS h _ rfl,zzZ]
 have hl':(els.map fun el=>el.map D.toR).all (fun el=>el.length==sz)=true:=by simpa using hl
 have ha':aH bytes ([]:List (List D)).length (els.map fun el=>el.map D.toR).length:=by simpa using ha
 simp only[iA,upd,if_true,obs,X.elsOf,jF,lN,itS,opS,rdO,eU,oms,St.put,St.with,Nat.reduceEqDiff,if_false,iR,nN,Heap.take,Heap.row,Heap.nav,D.nav,D.rowOf,ha',hl',and_self]
 simp[Ce,upd,emp,X.rowId,D.rowOf,zQb,fU,Kz,nS,nL,kU,Heap.take,Heap.row,Heap.nav,D.nav,mP,ha',hl',lN]
 rfl
theorem zQO(ns:List Int){j:Int}(h0:0≤j)(h1:j<ns.length):∃v,(aK ns)[j.toNat]? = some [DI v]∧ns[j.toNat]? = some v:=by
 have h2:j.toNat<ns.length:=by omega
 exact⟨ns[j.toNat],by simp[h2],by simp[h2]⟩
end Go.Ev
