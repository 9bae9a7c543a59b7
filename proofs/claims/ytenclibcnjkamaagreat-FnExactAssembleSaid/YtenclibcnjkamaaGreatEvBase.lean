import Derived.Test.YtenclibcnjkamaaGreatEvSim2
set_option linter.all false
namespace Go.Ev
abbrev I(n:Int):X:= .d (.v (.int .i64 n))
abbrev B(n:Bool):X:= .d (.v (.bool n))
abbrev Str(n:ByteArray):X:= .d (.v (.string n))
abbrev DI(n:Int):D:= .v (.int .i64 n)
abbrev DB(n:Bool):D:= .v (.bool n)
abbrev DS(n:ByteArray):D:= .v (.string n)
def z8R(res:List SRes)(fr:Nat):Ex×St→Option (X×Heap)
 |(.ext _,_)=>none
 |(.nor,s)=>(iP s res).bind (zzm s fr)
 |(.ret,s)=>(iP s res).bind (zzm s fr)
def zXZ(res:List SRes):Ex×St→Option X
 |(.ext _,_)=>none
 |(.nor,s)=>(iP s res).bind (Ua s)
 |(.ret,s)=>(iP s res).bind (Ua s)
theorem aT{Φ:Nat→Option SFn}{f np nt:Nat}{code:SCode}{res:List SRes}(h:Φ f=some ⟨np,nt,code,res⟩)(args:List X)(hl:args.length=np):call Φ f args=(evW Φ code {env:=kA 0 args,heap:=emp,fr:=0,next:=0}).bind (zXZ res):=by
 unfold call
 rw[zvZ,h]
 simp only[obs,hl,if_true]
 cases evW Φ code {env:=kA 0 args,heap:=emp,fr:=0,next:=0} with
 |none=>rfl
 |some r =>
  obtain⟨e,s⟩:=r
  cases e<;>simp only[obs,Ot,zXZ,Option.map_none]
  ·cases iP s res with
   |none=>rfl
   |some xs=>simp only[obs,Ua];cases qV 0 s.heap xs<;>rfl
  ·cases iP s res with
   |none=>rfl
   |some xs=>simp only[obs,Ua];cases qV 0 s.heap xs<;>rfl
theorem aR{Φ:Nat→Option SFn}{f np nt:Nat}{code:SCode}{res:List SRes}(h:Φ f=some ⟨np,nt,code,res⟩)(args:List X)(m:Heap)(fr:Nat)(hl:args.length=np):evCW Φ f args m fr=(evW Φ code {env:=kA 0 args,heap:=m,fr:=fr,next:=0}).bind (z8R res fr):=by
 rw[zvZ,h]
 simp only[obs,hl,if_true]
 cases evW Φ code {env:=kA 0 args,heap:=m,fr:=fr,next:=0} with
 |none=>rfl
 |some r =>
  obtain⟨e,s⟩:=r
  cases e<;>simp only[obs,Ot,z8R]
  ·cases iP s res with
   |none=>rfl
   |some xs=>simp only[obs,zzm];cases qV fr s.heap xs<;>rfl
  ·cases iP s res with
   |none=>rfl
   |some xs=>simp only[obs,zzm];cases qV fr s.heap xs<;>rfl
abbrev i64(n:Int):Prop:= -9223372036854775808≤n∧n≤9223372036854775807
theorem w64{n:Int}(h:i64 n):IntKind.wrap .i64 n=n:=by
 obtain⟨h1,h2⟩:=h
 simp only[IntKind.wrap,IntKind.signed,IntKind.bits,bta,zqd,ge_iff_le,Nat.reduceSub,Int.reducePow]
 by_cases h:2 ^ 63≤n % 2 ^ 64
 ·simp only[Int.reducePow] at h
  rw[if_pos h];omega
 ·simp only[Int.reducePow] at h
  rw[if_neg h];omega
theorem xJ{n:Int}(h:(Lit.int .i64 n).wf=true):i64 n:=by
 simp[Lit.wf,IntKind.min,IntKind.max,IntKind.signed,IntKind.bits] at h
 omega
theorem w32{n:Int}(h: -2147483648≤n∧n≤2147483647):IntKind.wrap .i32 n=n:=by
 obtain⟨h1,h2⟩:=h
 simp only[IntKind.wrap,IntKind.signed,IntKind.bits,bta,zqd,ge_iff_le,Nat.reduceSub,Int.reducePow]
 by_cases h:2 ^ 31≤n % 2 ^ 32
 ·simp only[Int.reducePow] at h
  rw[if_pos h];omega
 ·simp only[Int.reducePow] at h
  rw[if_neg h];omega
theorem wu8{n:Int}(h:0≤n∧n≤255):IntKind.wrap .u8 n=n:=by
 obtain⟨h1,h2⟩:=h
 simp only[IntKind.wrap,IntKind.signed,IntKind.bits]
 simp
 omega
theorem i7(fr:Nat):cC fr emp=emp:=by
 funext id
 simp[cC,emp]
theorem zkg(fr k:Nat)(h:Heap)(x:Option D):cC fr (upd h (fr,k) x)=cC fr h:=by
 funext id
 simp only[cC,upd]
 split
 ·rfl
 ·split
  ·rename_i h1 h2
   subst h2
   exact absurd rfl h1
  ·rfl
theorem zYZ{κ α:Type}[DecidableEq κ](f:κ→Option α)(k:κ)(x y:Option α):upd (upd f k x) k y=upd f k y:=by
 funext j
 simp only[upd]
 split<;>rfl
def zxA(C:Cl)(i:Nat)(l:List SItem)(st:St):Option St:=oH C st i l
def fK(C:Cl)(st:St)(id:Nat)(d:Option Nat)(o:SOp)(b:Bool)(c:Option Bool):Option St:=if c=some b then opS C st d id o else some (st.put d (.tup []))
theorem zZN(C:Cl)(i:Nat)(st:St):zxA C i [] st=some {st with next:=st.next+i}:=rfl
theorem zZg(C:Cl)(i:Nat)(d:Option Nat)(o:SOp)(l:List SItem)(st:St):zxA C i (⟨d,none,o⟩::l) st=(opS C st d (st.next+i) o).bind (zxA C (i+32) l):=rfl
theorem zXN(b:Bool):gX (.d (.v (.bool b)))=some (some b):=rfl
theorem z5J:gX (.tup [])=some none:=rfl
theorem zkw(C:Cl)(i:Nat)(d:Option Nat)(s:Nat)(b:Bool)(o:SOp)(l:List SItem)(st:St):zxA C i (⟨d,some (s,b),o⟩::l) st=(((st.env s).bind gX).bind (fK C st (st.next+i) d o b)).bind (zxA C (i+32) l):=rfl
theorem zxC(C:Cl)(st:St)(id:Nat)(d:Option Nat)(o:SOp):fK C st id d o true (some true)=opS C st d id o:=rfl
theorem zwm(C:Cl)(st:St)(id:Nat)(d:Option Nat)(o:SOp):fK C st id d o false (some false)=opS C st d id o:=rfl
theorem zxN(C:Cl)(st:St)(id:Nat)(d:Option Nat)(o:SOp):fK C st id d o true (some false)=some (st.put d (.tup [])):=rfl
theorem zwu(C:Cl)(st:St)(id:Nat)(d:Option Nat)(o:SOp):fK C st id d o false (some true)=some (st.put d (.tup [])):=rfl
theorem zye(C:Cl)(st:St)(id:Nat)(d:Option Nat)(o:SOp)(b:Bool):fK C st id d o b none=some (st.put d (.tup [])):=rfl
noncomputable def condK (Φ:Nat→Option SFn) (a b:SCode) (st:St):Bool→Option (Ex×St)
 |true=>evW Φ a st
 |false=>evW Φ b st
theorem zYs(Φ:Nat→Option SFn)(a b:SCode)(st:St):condK Φ a b st true=evW Φ a st:=rfl
theorem zYo(Φ:Nat→Option SFn)(a b:SCode)(st:St):condK Φ a b st false=evW Φ b st:=rfl
def nor(s:St):Ex×St:=(.nor,s)
theorem zQZ{Φ:Nat→Option SFn}(l:List SItem)(st:St):evW Φ (.ops l) st=(zxA (evCW Φ) 0 l st).map nor:=zYm l st
noncomputable def runD (C:Cl) (b:Nat) (l:List DItem) (st:St):Option St:=opsD C b l st
noncomputable def reD (C:Cl) (b:Nat) (r:List SItem) (l:List DItem) (st:St):Option St:=(reS C st r).bind fun _=>opsD C b l st
theorem zKG(C:Cl)(b:Nat)(st:St):runD C b [] st=some st:=rfl
theorem zwP(C:Cl)(b:Nat)(d:Option Nat)(o:SOp)(ix:Nat)(r:List SItem)(l:List DItem)(st:St):runD C b (⟨⟨d,none,o⟩,ix,r⟩::l) st=(opS C st d (b+32*ix) o).bind (reD C b r l):=rfl
theorem zkZ(C:Cl)(b:Nat)(d:Option Nat)(s:Nat)(g:Bool)(o:SOp)(ix:Nat)(r:List SItem)(l:List DItem)(st:St):runD C b (⟨⟨d,some (s,g),o⟩,ix,r⟩::l) st=(((st.env s).bind gX).bind (fK C st (b+32*ix) d o g)).bind (reD C b r l):=rfl
theorem z91(C:Cl)(b:Nat)(l:List DItem)(st:St):reD C b [] l st=runD C b l st:=rfl
noncomputable def reA (C:Cl) (b:Nat) (d:Option Nat) (r:List SItem) (l:List DItem) (st s2:St):Option St:=(reK st d s2).bind fun _=>reD C b r l st
theorem zKT(C:Cl)(b:Nat)(r:List SItem)(l:List DItem)(st s2:St):reA C b none r l st s2=reD C b r l st:=rfl
open Classical in
theorem zQG(C:Cl)(b d:Nat)(r:List SItem)(l:List DItem)(st s2:St):reA C b (some d) r l st s2=if s2.env d=st.env d then reD C b r l st else none:=by
 unfold reA reK
 simp only
 split<;>rfl
theorem zVk(C:Cl)(b:Nat)(d:Option Nat)(o:SOp)(r:List SItem)(l:List DItem)(st:St):reD C b (⟨d,none,o⟩::r) l st=(opS C st d 0 o).bind (reA C b d r l st):=by
 unfold reD reS
 simp only[itS]
 cases opS C st d 0 o with
 |none=>rfl
 |some s2=>simp only[obs,reA];cases reK st d s2<;>rfl
theorem zys(C:Cl)(b:Nat)(d:Option Nat)(s:Nat)(g:Bool)(o:SOp)(r:List SItem)(l:List DItem)(st:St):reD C b (⟨d,some (s,g),o⟩::r) l st=(((st.env s).bind gX).bind (fK C st 0 d o g)).bind (reA C b d r l st):=by
 show((((itS C st 0 ⟨d,some (s,g),o⟩).bind (reK st d)).bind fun _=>reS C st r).bind fun _=>opsD C b l st)=(itS C st 0 ⟨d,some (s,g),o⟩).bind (reA C b d r l st)
 cases itS C st 0 ⟨d,some (s,g),o⟩ with
 |none=>rfl
 |some s2=>simp only[obs,reA];cases reK st d s2<;>rfl
def z5h(b n:Nat)(s:St):Ex×St:=(.nor,{s with next:=b+32*n})
theorem zY8(b n:Nat)(s:St):z5h b n s=(.nor,{s with next:=b+32*n}):=rfl
theorem zyx{Φ:Nat→Option SFn}(l:List DItem)(st:St):evW Φ (.opsd l) st=(runD (evCW Φ) st.next l st).map (z5h st.next l.length):=zWw l st
theorem zw2{Φ:Nat→Option SFn}(o:O)(a b:SCode)(st:St):evW Φ (.cond o a b) st=(rdB st o).bind (condK Φ a b st):=by
 rw[zK6]
 congr 1
 funext t
 cases t<;>rfl
theorem z4E(els:List (List D)):X.du (.d (.r els))= .d (.r (els.map fun el=>el.map D.du)):=rfl
theorem z56(x:Value):X.du (.d (.v x))= .d (.v x):=rfl
attribute [go_sem] zyN zy6 z4E z56 zXQ zXB zV2 zZG zVh
attribute [go_sem] z9q z9y zKV zKt zxP
attribute [go_sem] zyx zKG zwP zkZ z91 zVk zys zKT zQG zY8
attribute [go_sem] z9K zw2 zwT zJH zXW zZ3 zWU zXF zQZ zJ7 zxq nor next z8k zZN zZg zkw zxC zwm zxN zwu zye zXN z5J zYs zYo zXb zXj zYH zW7 zYf zX3 zXV zYV zYt zQo z9r z9i zZL zVi zJq zxy zY5 zYI zKS zYg zYC zXM zYR zVK zKu zJ3 zVl z9U zXq zZ5 zYj zXJ zyW zwz z9W zYJ zKp zXz zYw zVd zVS zJF zWx zwO zVa zVW zWb zVI zW1 zK2 zyg zxm zkT zxn zxa zjo zYP zXe zJ0 zZM zKw zwJ z7p z79 z7S z8X zXl zY1 zZP zVg zQ3 zYr zX4 zxE zxY zxh zkl zyL zxO zY3 zyG zjR zYb zyR zXp z90 zQu zQp zY6 Yj Xk z7D z8W zVp zKZ zWi zwq zxQ zx1 zKJ zZd zyu zQ1 zVz zZr zy1 zYv z9p zQE zWu zVZ z9O zYd zKK zWC zJo z84 fnK_eq zVO zKo zJS zxL zZz zyd zxw zky zkH zxl zwY zqR zqK zkW zyq zZn zjH zqh zxu z9Q zyc zw9 zww zV4 zqt zkr zYW zYn z9a zYE rdO rdI rdB rdS X.int X.bool X.str zV6 z8Z z83 zVE zZK St.put St.lose St.with nZ zy2 kA z8R zXZ Kn Mn Gb kid i7 zkg D.rowOf Cj Jo xD one setCells zqG kL Ij D.noR Ts Rx zK8 Iw fnOf cL Oz zYZ roF Fi uK zF B6 zzk zH inL zJP z9z zZj zJi zxd zJY Bf List.isPrefixOf Y0 Path.under zJD zyF zyh zKj zwt zQ9 zyI zkc zwF zQJ zwr zQa zJM zxb zKB zx0 zjp zZu zyn zjZ zxX zZi zXT zX6 zxK zZc zKi zZa zKI zy0 zKk z7y z7i zWO z9A zXP zY4 z5o z9x z9P zKx zWG zJZ z9N z5f zZx zVM zX1 zJd zxv zQO zQl zjr zZJ zy3 z6u z5a z5l z6Q zWt zJL zw7 z57 z59 z4f z4D zXa zXA zQw zya zVe z7n z7v zwA zjB zjA zyM z6a z85 z7a zJO z7s z6c z9w zJK zqs zqB zxI zXY zQX zQh zqF zVc zyE zzQ zyk zyy zX5 zyQ zXc z9F z9M zYx zQS zYl zYi z9o zVC z7Z z7U zzB zWM zxW zkp z7A z6d Y6 zWj zyD zjO z7f zWr zxf zqA zYu z9m zQv z7o zVN z7T z9k z7d zQq zKO z76 z5W z6A z6l zJl zJj zK3 zZs zQI zZ1 zxp zwD zzq zza Zz Yh zzi zkB Zo zqW V2 Xx Vw W8 Vy Zb Wz zVo zqo zqC zqn zkQ zqv zx4 zqp zXE zyZ zZy zyK zxs zwE zQd zZb zZB zzT zzr Yi zzf zzb zjS Yz zKW zjs zkJ zqY zqJ zkL zyw zkE z9E zZC zwW zyv zZv zx9 zV1 zy7 zXy zxS zZm zwM zwS zyT zVR zwl zXh zx5 zxT zZt zy9 zyS zZ8 zxR zY9 zZf zx3 zws zZh zxt zVJ zwH zYN zx8 zwy zZE zwx zxr zK0 zyz zKh zkR zkM zq8 zqV zkS zyl zqz zW4 zqm zqP zkV zku zkt zyY zjD z9I zxx zy4 zym zZH zw5 zQM zZl zwN zyo zwV zxB zqI zjv zjz zjV zkI zxZ zqX zQD zqM zjx zjM zjQ zjy zwK zj3 zX8 zwU zxF zw1 zZe zyP zWp zxi zJE zka zkj zqi zqx zkF zw3 zke zwR zzM Yd Ze zzA Zp zkK Zv zQV zq7 zks zqk zjw zqZ zwL zqN zJp zjL zqS zj0 zkk zkx zx6 zqE zJy zq3 zjW zkC zj8 zqD zyC zk0 zXk zxj zyf zZF zwI zZp zKD zyH zWX zVA zV8 zVj zyr zVt zZT zZZ zVB zwZ z7E zK4 zKN zK7 zJ4 zK5 z9f zJQ zYQ zXK zXt z9e zKQ zKb zWa z8L zWD zZ9 zWJ zVn zKd zYX zJc z9g z9V zYD z9j zJf zWK zWS zQy zQH zXs zZ0 z7X zVf zWk zV9 zQ0 zQm zYU zWv z7C zVP zK1 zKA zVQ zJR z9u zJb zkD Xb V7 Xm X0 Vn zzN Xu z9H z9C zY0 zXm zJT zQA z7R zJh zVL zKP zQb zJx zX9 zQL zZ6 zQN zQs zKX zqy zWB z9Z zJN z9J zVx
attribute [go_sem] Int.cast_ofNat_Int List.size_toArray Option.bind_some Option.map_some Option.bind_none Option.map_none Option.getD_some Option.getD_none Option.isSome_some Option.isSome_none List.find?_nil List.find?_cons List.length_cons List.length_nil List.all_cons List.all_nil List.map_cons List.map_nil List.append_nil List.nil_append List.cons_append List.isEmpty_cons List.isEmpty_nil Bool.and_true Bool.true_and Bool.and_false Bool.false_and Bool.or_true Bool.true_or Bool.or_false Bool.false_or Bool.not_true Bool.not_false and_true true_and and_self and_false false_and or_true true_or or_false false_or not_true_eq_false not_false_eq_true decide_true decide_false eq_self if_true if_false Bool.false_eq_true beq_self_eq_true Prod.mk.injEq Nat.zero_add Nat.add_zero List.drop_zero List.take_zero List.drop_succ_cons List.take_succ_cons List.take_nil List.drop_nil List.getElem?_cons_zero List.getElem?_cons_succ List.getElem?_nil List.set_cons_zero List.set_cons_succ Nat.le_refl ite_self ne_eq
theorem M7{n:Int}(h:0≤n)(k:Nat):n.tdiv k=((n.natAbs / k:Nat):Int):=by
 obtain⟨m,rfl⟩:=Int.eq_ofNat_of_zero_le h
 simp[Int.tdiv]
theorem uQ{n:Int}(h:0≤n)(k:Nat):n.tmod k=((n.natAbs % k:Nat):Int):=by
 obtain⟨m,rfl⟩:=Int.eq_ofNat_of_zero_le h
 simp[Int.tmod]
theorem Vo{n:Int}(h:n≤0)(k:Nat):n.tdiv k= -((n.natAbs / k:Nat):Int):=by
 obtain⟨m,hm⟩:=Int.eq_ofNat_of_zero_le (show 0≤ -n by omega)
 obtain rfl:n= -(m:Int):=by omega
 rw[Int.neg_tdiv,M7 (by omega)]
 simp
theorem Xg{n:Int}(h:n≤0)(k:Nat):n.tmod k= -((n.natAbs % k:Nat):Int):=by
 obtain⟨m,hm⟩:=Int.eq_ofNat_of_zero_le (show 0≤ -n by omega)
 obtain rfl:n= -(m:Int):=by omega
 rw[Int.neg_tmod,uQ (by omega)]
 simp
theorem ltT{a b:Int}(h:a<b):(a<b)=True:=eq_true h
theorem ltF{a b:Int}(h:¬a<b):(a<b)=False:=eq_false h
theorem leT{a b:Int}(h:a≤b):(a≤b)=True:=eq_true h
theorem leF{a b:Int}(h:¬a≤b):(a≤b)=False:=eq_false h
theorem neF{a b:Int}(h:¬a=b):(a=b)=False:=eq_false h
theorem z4j{a b:ByteArray}(h:aE a b):aE a b=True:=eq_true h
theorem mkT{a:Nat}{b:Int}(h:aL a b):aL a b=True:=eq_true h
theorem z4s{a b c:Nat}(h:aF a b c):aF a b c=True:=eq_true h
theorem aB(l:List UInt8):(⟨l.toArray⟩:ByteArray).size=l.length:=rfl
theorem zkm:∀(l:List D),(∀d∈l,∃x,d= .v x)→fzl l=l
 |[],_=>by simp[fzl]
 |d::l,h=>by
  obtain⟨x,rfl⟩:=h d (by simp)
  simp only[fzl,D.fz,zkm l (fun d hd=>h d (by simp[hd]))]
theorem mP{α:Type}(f:α→List D)(g:α→List D)(h:∀a,fzl (f a)=g a):∀xs:List α,fzs (xs.map f)=xs.map g
 |[]=>by simp[fzs]
 |x::xs=>by simp only[mc,fzs,h,mP f g h xs]
theorem Iq{n:Int}(h: -9223372036854775808≤n∧n≤9223372036854775807):IntKind.i64.wrap n=n:=w64 h
attribute [go_sem] fzl D.fz
theorem M5(h:Heap)(k:Nat)(x:Option D):cC 1 (upd h (0,k) x)=upd (cC 1 h) (0,k) x:=by
 funext id
 simp only[cC,upd]
 by_cases e:id=(0,k)
 ·subst e;simp
 ·simp[e]
theorem gI{κ α:Type}[DecidableEq κ](f:κ→Option α)(i j:κ)(x y:Option α)(h:i≠j):upd (upd f i x) j y=upd (upd f j y) i x:=by
 funext k
 simp only[upd]
 by_cases e:k=j
 ·subst e;simp[Ne.symm h]
 ·simp[e]
theorem z7t(f:Heap)(x y:Option D):upd (upd f (0,0) x) (0,1) y=upd (upd f (0,1) y) (0,0) x:=gI f _ _ x y (by simp)
theorem z7e(f:Heap)(x y:Option D):upd (upd f (0,0) x) (0,2) y=upd (upd f (0,2) y) (0,0) x:=gI f _ _ x y (by simp)
theorem z7K(f:Heap)(x y:Option D):upd (upd f (0,0) x) (0,3) y=upd (upd f (0,3) y) (0,0) x:=gI f _ _ x y (by simp)
theorem z7Y(f:Heap)(x y:Option D):upd (upd f (0,0) x) (0,4) y=upd (upd f (0,4) y) (0,0) x:=gI f _ _ x y (by simp)
theorem z6f(f:Heap)(x y:Option D):upd (upd f (0,0) x) (0,5) y=upd (upd f (0,5) y) (0,0) x:=gI f _ _ x y (by simp)
theorem z8N(f:Heap)(x y:Option D):upd (upd f (0,1) x) (0,2) y=upd (upd f (0,2) y) (0,1) x:=gI f _ _ x y (by simp)
theorem z8Q(f:Heap)(x y:Option D):upd (upd f (0,1) x) (0,3) y=upd (upd f (0,3) y) (0,1) x:=gI f _ _ x y (by simp)
theorem z8K(f:Heap)(x y:Option D):upd (upd f (0,1) x) (0,4) y=upd (upd f (0,4) y) (0,1) x:=gI f _ _ x y (by simp)
theorem z7j(f:Heap)(x y:Option D):upd (upd f (0,1) x) (0,5) y=upd (upd f (0,5) y) (0,1) x:=gI f _ _ x y (by simp)
theorem z7W(f:Heap)(x y:Option D):upd (upd f (0,2) x) (0,3) y=upd (upd f (0,3) y) (0,2) x:=gI f _ _ x y (by simp)
theorem z75(f:Heap)(x y:Option D):upd (upd f (0,2) x) (0,4) y=upd (upd f (0,4) y) (0,2) x:=gI f _ _ x y (by simp)
theorem z82(f:Heap)(x y:Option D):upd (upd f (0,2) x) (0,5) y=upd (upd f (0,5) y) (0,2) x:=gI f _ _ x y (by simp)
theorem z73(f:Heap)(x y:Option D):upd (upd f (0,3) x) (0,4) y=upd (upd f (0,4) y) (0,3) x:=gI f _ _ x y (by simp)
theorem z80(f:Heap)(x y:Option D):upd (upd f (0,3) x) (0,5) y=upd (upd f (0,5) y) (0,3) x:=gI f _ _ x y (by simp)
theorem z7J(f:Heap)(x y:Option D):upd (upd f (0,4) x) (0,5) y=upd (upd f (0,5) y) (0,4) x:=gI f _ _ x y (by simp)
theorem yL{α β:Type}(f:α→β)(A:List α)(e:β)(r:List β):(A.map f++e::r)[A.length]? = some e:=by
 rw[List.getElem?_append_right (by simp)]
 simp
theorem zU{α β:Type}(f:α→β)(A:List α)(e e':β)(r:List β):(A.map f++e::r).set A.length e'=A.map f++e'::r:=by
 rw[List.set_append_right _ _ (by simp)]
 simp
theorem yI{α β:Type}(f:α→β)(A:List α)(r:List β):(A.map f++r).length=A.length+r.length:=by simp
abbrev aG(ns:List Int):List (List D):=ns.map fun n=>[DI n]
theorem cM(ns:List Int):fzs (aG ns)=aG ns:=mP _ _ (fun n=>by simp only[fzl,D.fz]) ns
theorem n7{α:Type}(f:α→List D)(h:∀a,D.noR.noRs (f a)=true):∀xs:List α,D.noR.noRss (xs.map f)=true
 |[]=>by simp[D.noR.noRss]
 |x::xs=>by simp only[mc,D.noR.noRss,h x,n7 f h xs,Bool.and_self]
theorem Hd(ns:List Int):D.noR.noRss (aG ns)=true:=n7 _ (fun n=>by simp[D.noR.noRs,D.noR]) ns
theorem zVv(a b c d:Nat):(((a,b):Nat×Nat)==(c,d))=(a==c&&b==d):=rfl
attribute [go_sem] zVv M5 z7t z7e z7K z7Y z6f z8N z8Q z8K z7j z7W z75 z82 z73 z80 z7J D.noR.noRs
theorem zYG{c:List D}(h:jV [.i .i64] c):∃n:Int,c=[DI n]∧i64 n:=by
 simp only[jV,fit] at h
 obtain⟨_,_,rfl,⟨n,rfl,hn⟩,rfl⟩:=h
 exact⟨n,rfl,xJ hn⟩
theorem Mq{α:Type}{enc:α→List D}{ok:α→Prop}{ts:List Ty}(h:∀c,jV ts c→∃x,c=enc x∧ok x):∀{els:List (List D)},(∀c∈els,jV ts c)→∃xs:List α,els=xs.map enc∧∀x∈xs,ok x
 |[],_=>⟨[],rfl,by simp⟩
 |c::els,hc=>by
  obtain⟨x,rfl,h1⟩:=h c (hc c (by simp))
  obtain⟨xs,rfl,h2⟩:=Mq h (els:=els) (fun c' h'=>hc c' (by simp[h']))
  exact⟨x::xs,rfl,fun y hy=>by
   rcases List.mem_cons.1 hy with rfl|hy
   ·exact h1
   ·exact h2 y hy⟩
theorem aP(Φ:Nat→Option SFn)(a b:SCode)(st:St)(p:Prop)[Decidable p]:condK Φ a b st (decide p)=if p then evW Φ a st else evW Φ b st:=by
 by_cases h:p<;>simp[h,condK]
theorem zXu(Φ:Nat→Option SFn)(a b:SCode)(st:St)(c:Bool):condK Φ a b st (!c)=condK Φ b a st c:=by cases c<;>rfl
theorem aO(Φ:Nat→Option SFn)(a b:SCode)(st:St)(c:Bool):condK Φ a b st c=if c=true then evW Φ a st else evW Φ b st:=by cases c<;>rfl
theorem zV3(Φ:Nat→Option SFn)(a b:SCode)(st:St){c:Bool}(h:c=true):condK Φ a b st c=evW Φ a st:=by subst h;rfl
theorem zKz(Φ:Nat→Option SFn)(a b:SCode)(st:St){c:Bool}(h:¬c=true):condK Φ a b st c=evW Φ b st:=by
 cases c
 ·rfl
 ·exact absurd rfl h
theorem zQx(Φ:Nat→Option SFn)(a b:SCode)(st:St){c:Bool}(h:c=false):condK Φ a b st c=evW Φ b st:=by subst h;rfl
theorem aJ(C:Cl)(st:St)(id:Nat)(d:Option Nat)(o:SOp)(p:Prop)[Decidable p]:fK C st id d o true (some (decide p))=if p then opS C st d id o else some (st.put d (.tup [])):=by
 by_cases h:p<;>simp[h,fK]
theorem aI(C:Cl)(st:St)(id:Nat)(d:Option Nat)(o:SOp)(p:Prop)[Decidable p]:fK C st id d o false (some (decide p))=if p then some (st.put d (.tup [])) else opS C st d id o:=by
 by_cases h:p<;>simp[h,fK]
theorem zyA(C:Cl)(st:St)(id:Nat)(d:Option Nat)(o:SOp)(c:Bool):fK C st id d o true (some (!c))=fK C st id d o false (some c):=by cases c<;>rfl
theorem zyj(C:Cl)(st:St)(id:Nat)(d:Option Nat)(o:SOp)(c:Bool):fK C st id d o false (some (!c))=fK C st id d o true (some c):=by cases c<;>rfl
theorem aK(C:Cl)(st:St)(id:Nat)(d:Option Nat)(o:SOp)(c:Bool):fK C st id d o true (some c)=if c=true then opS C st d id o else some (st.put d (.tup [])):=by cases c<;>rfl
theorem aH(C:Cl)(st:St)(id:Nat)(d:Option Nat)(o:SOp)(c:Bool):fK C st id d o false (some c)=if c=true then some (st.put d (.tup [])) else opS C st d id o:=by cases c<;>rfl
theorem zwn(C:Cl)(st:St)(id:Nat)(d:Option Nat)(o:SOp){c:Bool}(h:c=true):fK C st id d o true (some c)=opS C st d id o:=by subst h;rfl
theorem zwv(C:Cl)(st:St)(id:Nat)(d:Option Nat)(o:SOp){c:Bool}(h:c=true):fK C st id d o false (some c)=some (st.put d (.tup [])):=by subst h;rfl
theorem zyp(C:Cl)(st:St)(id:Nat)(d:Option Nat)(o:SOp){c:Bool}(h:¬c=true):fK C st id d o true (some c)=some (st.put d (.tup [])):=by
 cases c
 ·rfl
 ·exact absurd rfl h
theorem zZk(C:Cl)(st:St)(id:Nat)(d:Option Nat)(o:SOp){c:Bool}(h:¬c=true):fK C st id d o false (some c)=opS C st d id o:=by
 cases c
 ·rfl
 ·exact absurd rfl h
theorem zyi(C:Cl)(st:St)(id:Nat)(d:Option Nat)(o:SOp){c:Bool}(h:c=false):fK C st id d o true (some c)=some (st.put d (.tup [])):=by subst h;rfl
theorem zxU(C:Cl)(st:St)(id:Nat)(d:Option Nat)(o:SOp){c:Bool}(h:c=false):fK C st id d o false (some c)=opS C st d id o:=by subst h;rfl
theorem aQ(st:St)(d:Option Nat)(a b:O)(p:Prop)[Decidable p]:C0 st d a b (decide p)=if p then(rdO st a).map (st.put d) else(rdO st b).map (st.put d):=by
 by_cases h:p<;>simp[h,C0]
theorem aN(st:St)(d:Option Nat)(a b:O)(c:Bool):C0 st d a b c=if c=true then(rdO st a).map (st.put d) else(rdO st b).map (st.put d):=by cases c<;>rfl
theorem zX2(st:St)(d:Option Nat)(a b:O)(c:Bool):C0 st d a b (!c)=C0 st d b a c:=by cases c<;>rfl
theorem zWd(st:St)(d:Option Nat)(a b:O){c:Bool}(h:c=true):C0 st d a b c=(rdO st a).map (st.put d):=by subst h;rfl
theorem zKf(st:St)(d:Option Nat)(a b:O){c:Bool}(h:¬c=true):C0 st d a b c=(rdO st b).map (st.put d):=by
 cases c
 ·rfl
 ·exact absurd rfl h
theorem zJg(st:St)(d:Option Nat)(a b:O){c:Bool}(h:c=false):C0 st d a b c=(rdO st b).map (st.put d):=by subst h;rfl
theorem eqT{a b:Int}(h:a=b):(a=b)=True:=eq_true h
theorem baT{a b:ByteArray}(h:a=b):(a=b)=True:=eq_true h
theorem baF{a b:ByteArray}(h:¬a=b):(a=b)=False:=eq_false h
theorem bvT{c:Bool}(h:c=true):(c=true)=True:=eq_true h
theorem bvF{c:Bool}(h:¬c=true):(c=true)=False:=eq_false h
theorem bT{α:Type}{xs:List α}{j:Int}{x:α}{B:List α}(h:xs.drop j.toNat=x::B)(h0:0≤j):xs[j.toNat]? = some x∧j<xs.length∧xs.drop (j+1).toNat=B∧x∈xs∧(xs.length:Int)=j+1+B.length:=by
 have h1:j.toNat<xs.length:=by
  apply Decidable.byContradiction
  intro h2
  rw[List.drop_eq_nil_of_le (by omega)] at h
  simp at h
 have h2:=List.drop_eq_getElem_cons h1
 rw[h] at h2
 simp only[List.cons.injEq] at h2
 have h3:(j+1).toNat=j.toNat+1:=by omega
 have h4:=congrArg List.length h
 simp only[List.length_drop,lc] at h4
 exact⟨by rw[List.getElem?_eq_getElem h1,←h2.1],by omega,by rw[h3];exact h2.2.symm,by rw[h2.1];exact List.getElem_mem h1,by omega⟩
theorem cJ{α:Type}{xs:List α}{j:Int}(h:xs.drop j.toNat=[])(h0:0≤j):(xs.length:Int)≤j:=by
 have:=List.drop_eq_nil_iff.1 h
 omega
theorem d6{α β:Type}(f:α→β){xs:List α}{k:Nat}{x:α}(h:xs[k]? = some x):(xs.map f)[k]? = some (f x):=by
 rw[List.getElem?_map,h];rfl
def aZ{α:Type}(p:α→Bool):Int→List α→Int
 |_,[]=> -1
 |j,x::xs=>if p x=true then j else aZ p (j+1) xs
theorem Co{α:Type}(p:α→Bool):∀{xs:List α} (j:Int),0≤j→xs.any p=decide (0≤aZ p j xs)
 |[],j,_=>by simp[aZ]
 |x::xs,j,h=>by
  rw[List.any_cons,aZ]
  by_cases hp:p x=true
  ·rw[if_pos hp,hp,decide_eq_true h];rfl
  ·rw[if_neg hp,←Co p (j+1) (by omega)]
   simp[hp]
attribute [go_sem] zZq List.sum_cons List.sum_nil
theorem zqr{Φ:Nat→Option SFn}{f nt sz bytes:Nat}(h:Φ f=some ⟨1,nt,.clone sz [⟨some 5,none,.lit sz []⟩,⟨some 6,none,.mov (.t 0)⟩,⟨some 7,none,.app sz bytes (.t 5) (.t 6)⟩,⟨some 2,none,.mov (.t 7)⟩],[.t 2]⟩)(els:List (List D))(ha:aF bytes 0 els.length)(hl:(els.all fun el=>el.length==sz)=true) :
  call Φ f [.d (.r els)]=some (.d (.s sz (els.map fun el=>el.map D.toR))):=by
 rw[aT h _ rfl,zwo]
 have hl':(els.map fun el=>el.map D.toR).all (fun el=>el.length==sz)=true:=by simpa using hl
 have ha':aF bytes ([]:List (List D)).length (els.map fun el=>el.map D.toR).length:=by simpa using ha
 simp only[kA,upd,if_true,obs,X.elsOf,lP,oH,itS,opS,rdO,gL,oms,St.put,St.with,Nat.reduceEqDiff,if_false,lA,rA,Heap.take,Heap.row,Heap.nav,D.nav,D.rowOf,ha',hl',and_self]
 simp[Ji,upd,emp,X.rowId,D.rowOf,zXZ,iP,Ua,qV,rI,nU,Heap.take,Heap.row,Heap.nav,D.nav,pN,ha',hl',oH]
 rfl
theorem zYA(ns:List Int){j:Int}(h0:0≤j)(h1:j<ns.length):∃v,(aG ns)[j.toNat]? = some [DI v]∧ns[j.toNat]? = some v:=by
 have h2:j.toNat<ns.length:=by omega
 exact⟨ns[j.toNat],by simp[h2],by simp[h2]⟩
end Go.Ev
