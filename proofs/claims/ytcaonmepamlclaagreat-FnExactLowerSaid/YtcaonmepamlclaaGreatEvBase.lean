import Derived.Test.YtcaonmepamlclaaGreatEvSim2
set_option linter.all false
namespace Go.Ev
abbrev I(n:Int):X:= .d (.v (.int .i64 n))
abbrev B(n:Bool):X:= .d (.v (.bool n))
abbrev Str(n:ByteArray):X:= .d (.v (.string n))
abbrev DI(n:Int):D:= .v (.int .i64 n)
abbrev DB(n:Bool):D:= .v (.bool n)
abbrev DS(n:ByteArray):D:= .v (.string n)
def z4x(res:List SRes)(fr:Nat):Ex×St→Option (X×Heap)
 |(.ext _,_)=>none
 |(.nor,s)=>(kR s res).bind (zqL s fr)
 |(.ret,s)=>(kR s res).bind (zqL s fr)
def z7G(res:List SRes):Ex×St→Option X
 |(.ext _,_)=>none
 |(.nor,s)=>(kR s res).bind (Z5 s)
 |(.ret,s)=>(kR s res).bind (Z5 s)
theorem aJ{Φ:Nat→Option SFn}{f np nt:Nat}{code:SCode}{res:List SRes}(h:Φ f=some ⟨np,nt,code,res⟩)(args:List X)(hl:args.length=np):call Φ f args=(evW Φ code {env:=At 0 args,heap:=emp,fr:=0,next:=0}).bind (z7G res):=by
 unfold call
 rw[zZj,h]
 simp only[obs,hl,if_true]
 cases evW Φ code {env:=At 0 args,heap:=emp,fr:=0,next:=0} with
 |none=>rfl
 |some r =>
  obtain⟨e,s⟩:=r
  cases e<;>simp only[obs,zQX,z7G,Option.map_none]
  ·cases kR s res with
   |none=>rfl
   |some xs=>simp only[obs,Z5];cases tQ 0 s.heap xs<;>rfl
  ·cases kR s res with
   |none=>rfl
   |some xs=>simp only[obs,Z5];cases tQ 0 s.heap xs<;>rfl
theorem aP{Φ:Nat→Option SFn}{f np nt:Nat}{code:SCode}{res:List SRes}(h:Φ f=some ⟨np,nt,code,res⟩)(args:List X)(m:Heap)(fr:Nat)(hl:args.length=np):evCW Φ f args m fr=(evW Φ code {env:=At 0 args,heap:=m,fr:=fr,next:=0}).bind (z4x res fr):=by
 rw[zZj,h]
 simp only[obs,hl,if_true]
 cases evW Φ code {env:=At 0 args,heap:=m,fr:=fr,next:=0} with
 |none=>rfl
 |some r =>
  obtain⟨e,s⟩:=r
  cases e<;>simp only[obs,zQX,z4x]
  ·cases kR s res with
   |none=>rfl
   |some xs=>simp only[obs,zqL];cases tQ fr s.heap xs<;>rfl
  ·cases kR s res with
   |none=>rfl
   |some xs=>simp only[obs,zqL];cases tQ fr s.heap xs<;>rfl
abbrev i64(n:Int):Prop:= -9223372036854775808≤n∧n≤9223372036854775807
theorem w64{n:Int}(h:i64 n):IntKind.wrap .i64 n=n:=by
 obtain⟨h1,h2⟩:=h
 simp only[IntKind.wrap,IntKind.signed,IntKind.bits,bta,decide_eq_true_eq,ge_iff_le,Nat.reduceSub,Int.reducePow]
 by_cases h:2 ^ 63≤n % 2 ^ 64
 ·simp only[Int.reducePow] at h
  rw[if_pos h];omega
 ·simp only[Int.reducePow] at h
  rw[if_neg h];omega
theorem zqW{n:Int}(h:(Lit.int .i64 n).wf=true):i64 n:=by
 simp[Lit.wf,IntKind.min,IntKind.max,IntKind.signed,IntKind.bits] at h
 omega
theorem w32{n:Int}(h: -2147483648≤n∧n≤2147483647):IntKind.wrap .i32 n=n:=by
 obtain⟨h1,h2⟩:=h
 simp only[IntKind.wrap,IntKind.signed,IntKind.bits,bta,decide_eq_true_eq,ge_iff_le,Nat.reduceSub,Int.reducePow]
 by_cases h:2 ^ 31≤n % 2 ^ 32
 ·simp only[Int.reducePow] at h
  rw[if_pos h];omega
 ·simp only[Int.reducePow] at h
  rw[if_neg h];omega
theorem wu8{n:Int}(h:0≤n∧n≤255):IntKind.wrap .u8 n=n:=by
 obtain⟨h1,h2⟩:=h
 simp only[IntKind.wrap,IntKind.signed,IntKind.bits]
 simp
 omega
theorem uE(fr:Nat):bS fr emp=emp:=by
 funext id
 simp[bS,emp]
theorem zxg(fr k:Nat)(h:Heap)(x:Option D):bS fr (upd h (fr,k) x)=bS fr h:=by
 funext id
 simp only[bS,upd]
 split
 ·rfl
 ·split
  ·rename_i h1 h2
   subst h2
   exact absurd rfl h1
  ·rfl
theorem z8K{κ α:Type}[DecidableEq κ](f:κ→Option α)(k:κ)(x y:Option α):upd (upd f k x) k y=upd f k y:=by
 funext j
 simp only[upd]
 split<;>rfl
def zJg(C:Cl)(i:Nat)(l:List SItem)(st:St):Option St:=pQ C st i l
def gJ(C:Cl)(st:St)(id:Nat)(d:Option Nat)(o:SOp)(b:Bool)(c:Option Bool):Option St:=if c=some b then opS C st d id o else some (st.put d (.tup []))
theorem zV1(C:Cl)(i:Nat)(st:St):zJg C i [] st=some {st with next:=st.next+i}:=rfl
theorem zZJ(C:Cl)(i:Nat)(d:Option Nat)(o:SOp)(l:List SItem)(st:St):zJg C i (⟨d,none,o⟩::l) st=(opS C st d (st.next+i) o).bind (zJg C (i+32) l):=rfl
theorem z7s(b:Bool):gX (.d (.v (.bool b)))=some (some b):=rfl
theorem z2v:gX (.tup [])=some none:=rfl
theorem zwy(C:Cl)(i:Nat)(d:Option Nat)(s:Nat)(b:Bool)(o:SOp)(l:List SItem)(st:St):zJg C i (⟨d,some (s,b),o⟩::l) st=(((st.env s).bind gX).bind (gJ C st (st.next+i) d o b)).bind (zJg C (i+32) l):=rfl
theorem zK8(C:Cl)(st:St)(id:Nat)(d:Option Nat)(o:SOp):gJ C st id d o true (some true)=opS C st d id o:=rfl
theorem zKr(C:Cl)(st:St)(id:Nat)(d:Option Nat)(o:SOp):gJ C st id d o false (some false)=opS C st d id o:=rfl
theorem zQk(C:Cl)(st:St)(id:Nat)(d:Option Nat)(o:SOp):gJ C st id d o true (some false)=some (st.put d (.tup [])):=rfl
theorem zZN(C:Cl)(st:St)(id:Nat)(d:Option Nat)(o:SOp):gJ C st id d o false (some true)=some (st.put d (.tup [])):=rfl
theorem zKN(C:Cl)(st:St)(id:Nat)(d:Option Nat)(o:SOp)(b:Bool):gJ C st id d o b none=some (st.put d (.tup [])):=rfl
noncomputable def condK (Φ:Nat→Option SFn) (a b:SCode) (st:St):Bool→Option (Ex×St)
 |true=>evW Φ a st
 |false=>evW Φ b st
theorem z6g(Φ:Nat→Option SFn)(a b:SCode)(st:St):condK Φ a b st true=evW Φ a st:=rfl
theorem z61(Φ:Nat→Option SFn)(a b:SCode)(st:St):condK Φ a b st false=evW Φ b st:=rfl
def nor(s:St):Ex×St:=(.nor,s)
theorem zVz{Φ:Nat→Option SFn}(l:List SItem)(st:St):evW Φ (.ops l) st=(zJg (evCW Φ) 0 l st).map nor:=z6I l st
noncomputable def runD (C:Cl) (b:Nat) (l:List DItem) (st:St):Option St:=opsD C b l st
noncomputable def reD (C:Cl) (b:Nat) (r:List SItem) (l:List DItem) (st:St):Option St:=(reS C st r).bind fun _=>opsD C b l st
theorem zYA(C:Cl)(b:Nat)(st:St):runD C b [] st=some st:=rfl
theorem zJV(C:Cl)(b:Nat)(d:Option Nat)(o:SOp)(ix:Nat)(r:List SItem)(l:List DItem)(st:St):runD C b (⟨⟨d,none,o⟩,ix,r⟩::l) st=(opS C st d (b+32*ix) o).bind (reD C b r l):=rfl
theorem zyG(C:Cl)(b:Nat)(d:Option Nat)(s:Nat)(g:Bool)(o:SOp)(ix:Nat)(r:List SItem)(l:List DItem)(st:St):runD C b (⟨⟨d,some (s,g),o⟩,ix,r⟩::l) st=(((st.env s).bind gX).bind (gJ C st (b+32*ix) d o g)).bind (reD C b r l):=rfl
theorem z6o(C:Cl)(b:Nat)(l:List DItem)(st:St):reD C b [] l st=runD C b l st:=rfl
noncomputable def reA (C:Cl) (b:Nat) (d:Option Nat) (r:List SItem) (l:List DItem) (st s2:St):Option St:=(reK st d s2).bind fun _=>reD C b r l st
theorem zXU(C:Cl)(b:Nat)(r:List SItem)(l:List DItem)(st s2:St):reA C b none r l st s2=reD C b r l st:=rfl
open Classical in
theorem zX1(C:Cl)(b d:Nat)(r:List SItem)(l:List DItem)(st s2:St):reA C b (some d) r l st s2=if s2.env d=st.env d then reD C b r l st else none:=by
 unfold reA reK
 simp only
 split<;>rfl
theorem z9m(C:Cl)(b:Nat)(d:Option Nat)(o:SOp)(r:List SItem)(l:List DItem)(st:St):reD C b (⟨d,none,o⟩::r) l st=(opS C st d 0 o).bind (reA C b d r l st):=by
 unfold reD reS
 simp only[itS]
 cases opS C st d 0 o with
 |none=>rfl
 |some s2=>simp only[obs,reA];cases reK st d s2<;>rfl
theorem zKx(C:Cl)(b:Nat)(d:Option Nat)(s:Nat)(g:Bool)(o:SOp)(r:List SItem)(l:List DItem)(st:St):reD C b (⟨d,some (s,g),o⟩::r) l st=(((st.env s).bind gX).bind (gJ C st 0 d o g)).bind (reA C b d r l st):=by
 show((((itS C st 0 ⟨d,some (s,g),o⟩).bind (reK st d)).bind fun _=>reS C st r).bind fun _=>opsD C b l st)=(itS C st 0 ⟨d,some (s,g),o⟩).bind (reA C b d r l st)
 cases itS C st 0 ⟨d,some (s,g),o⟩ with
 |none=>rfl
 |some s2=>simp only[obs,reA];cases reK st d s2<;>rfl
def z2V(b n:Nat)(s:St):Ex×St:=(.nor,{s with next:=b+32*n})
theorem z7x(b n:Nat)(s:St):z2V b n s=(.nor,{s with next:=b+32*n}):=rfl
theorem zQi{Φ:Nat→Option SFn}(l:List DItem)(st:St):evW Φ (.opsd l) st=(runD (evCW Φ) st.next l st).map (z2V st.next l.length):=z9h l st
theorem zJv{Φ:Nat→Option SFn}(o:O)(a b:SCode)(st:St):evW Φ (.cond o a b) st=(rdB st o).bind (condK Φ a b st):=by
 rw[zWI]
 congr 1
 funext t
 cases t<;>rfl
attribute [go_sem] z6C z7D z98 zWA zK7
attribute [go_sem] zQi zYA zJV zyG z6o z9m zKx zXU zX1 z7x
attribute [go_sem] z7c zJv zZ5 zYp z8s zXg z9w zVz zYy zQh nor next z4a zV1 zZJ zwy zK8 zKr zQk zZN zKN z7s z2v z6g z61 z7e z8U z82 zYl z5p z6p z7S z6Q z7v zXo z7p z7L zWS zVm zXe zQw z6L z7P zWC z67 z81 z6c z5k z9f z8j z9a zYu z6f z6b z9p z7g z7K zQK zQr z6D z6K zYN z74 z7f zWd zVi zVj zXH zKC z9I z9c zYD zXa zWc zWv zQL zJx zxF zKv zwJ z5q z5g zXu zXK zX8 zK2 z3Y z4F z49 z3x z8z z77 zWU zVU zWu z7B z73 zK3 zJB zZX zwn zQv zQn z8o zKU zv0 zYM zQZ z8Y z8w zWH z9y z5D zks zjd z4t z3h zVF z9Z z9X zKW zJY zZ0 zYd zJp zKj zX5 zWt zK5 zJ0 z5E z83 z9j z9l zYU z7T z7V zYR zYs zXm z4Y fnK_eq zW1 zXW z8f zQz zJk zJG zZY zxC zxi zKe zK6 zwq zy6 zw5 zJ4 zQp zwT zwk zKF z8B zJF zKz zZO z8h zwZ zwg z8X z7o z8x z6G rdO rdI rdB rdS X.int X.bool X.str zXd z46 z3u z9J zVl St.put St.lose St.with o5 zJR At z4x z7G Pc Qz Kw kid uE zxg D.rowOf E6 Ob Aw one setCells zxs mD L9 D.noR Yw Y0 zXF Li fnOf cJ Wo z8K roF Ig wS Bg E9 zki Bv inL z9d z7O zQH zVc zJL zX7 Iu List.isPrefixOf zkI Path.under zZL zvu zvN zqj zqv zvn zxv zkZ zyz zjY zjp zz3 zju zz8 zvh zjX zWn zyx zv5 zwo zwX zyh zQa zwp z8Q zJ9 zJQ zJz zKk zQb z9n zQU zKh zvT zvc zqC zvb zq8 zwu zqe zXE zwx zwP zw9 zxh zxp zK0 zwO z8V zQo zVa zQy zJh zKf zV8 zZ6 z7b zJ8 zQD zZ4 zKa zQ5 zV7 zZ7 z86 zQG zZQ zQO zJl zQF z9r zZW z6z zJX zZ3 zQ0 zQ1 zJO zWi zZR z6Z zQu zJZ zKA zKo zKR z9A zZ2 zXj zyr zyd zxk zwC zyE zJH zyy zYw zya zyH zwM zw0 zyS zJf zxu z7C zZI zQ9 zKX zJs zQW zXQ zJU zQf zKd zZU zQQ zwW zxn zyk zxc zyA zJe zy7 zWR zxe zwK zwB zy4 zxj zJc zy2 z65 zKM zJn zJ7 zQC zJa z9F zZ8 zYB zyJ zwF zwI zwi zyB zKH zv9 zJb zk4 zvJ zqU zvG zqY zyl zqR zWM zwe zxm zw8 zwH zwS zKD zwl zXD zww zyw zxD zwR zxd zQS zvX zWF zyU zwt zy3 zyT zxl zJK zyu z5e zQA zKy zJC zQg zQP zWh zJW zWB zVP z90 zYb zKp zYS zXr zV3 zYt zJD z3s zWE zY2 z9O z9t zWZ z89 zYm z6Y z5G z8O z8F zVn z99 z3k z91 zXA zWN zYf z9z z78 zVt z5i z6d z8R z5t zXV zXT zVD zV6 zV4 z6l zYi z3v zWD zXy zWW zVh zYZ z7l zVZ z2c zWe z9B zV5 zXh z9K z5c zXs zwm zzJ zjN zjZ zjb zz5 zkD zjh z5n z7a z7W z8G zXx z8g z3E zVE z9S z9T z95 zW9 z88 zVw zYc zY7 zXi zWg zyc z9k z7X zYJ z6j zYG zXz zKs zK9 zXl zQm z9q zQJ zxz zJi zVQ zK4 zX6 zWx zKJ zVJ zJN zw1 zZ1 zQM zyo zJ6 zKP z8N z64 zQe zKc zYL zJ1 zXJ zQx zWq z39 z3d zWb z63 z6v z6S z1i z6a z6N zWK zXS zVL z8l z1j zKS zXf z6T zW3 zKG zVB zXw zyj zXC zZH z2Y z2u z22 z2D zWp zY4 zZ9 z1q z1E z1t z1s z7u z8q zYg zZM zVy z33 z41 zJ5 zxE zwG zKw z4X z4R z3w z94 z3K z4I z69 zYa zyK zxy zJw z7Q zYT zYr zyg z8e zKg zvq zJP zQY z8p zQ3 z7H z7k z5o z7m zY6 z6u z7M z5A z9Q z3V z4u zkw z97 zQ2 zyn z44 z3q zvt zXk zQ8 zyX z2n zVe zQ4 zwY z7J zVr z2a z28 z2O z2W zYF z9V zXB zJE zWQ zW6 zKt
attribute [go_sem] Int.cast_ofNat_Int List.size_toArray Option.bind_some Option.map_some Option.bind_none Option.map_none Option.getD_some Option.getD_none Option.isSome_some Option.isSome_none List.find?_nil List.find?_cons List.length_cons List.length_nil List.all_cons List.all_nil List.map_cons List.map_nil List.append_nil List.nil_append List.cons_append List.isEmpty_cons List.isEmpty_nil Bool.and_true Bool.true_and Bool.and_false Bool.false_and Bool.or_true Bool.true_or Bool.or_false Bool.false_or Bool.not_true Bool.not_false and_true true_and and_self and_false false_and or_true true_or or_false false_or not_true_eq_false not_false_eq_true decide_true decide_false eq_self if_true if_false Bool.false_eq_true beq_self_eq_true Prod.mk.injEq Nat.zero_add Nat.add_zero List.drop_zero List.take_zero List.drop_succ_cons List.take_succ_cons List.take_nil List.drop_nil List.getElem?_cons_zero List.getElem?_cons_succ List.getElem?_nil List.set_cons_zero List.set_cons_succ Nat.le_refl ite_self ne_eq
theorem zxH{n:Int}(h:0≤n)(k:Nat):n.tdiv k=((n.natAbs / k:Nat):Int):=by
 obtain⟨m,rfl⟩:=Int.eq_ofNat_of_zero_le h
 simp[Int.tdiv]
theorem L3{n:Int}(h:0≤n)(k:Nat):n.tmod k=((n.natAbs % k:Nat):Int):=by
 obtain⟨m,rfl⟩:=Int.eq_ofNat_of_zero_le h
 simp[Int.tmod]
theorem z1m{n:Int}(h:n≤0)(k:Nat):n.tdiv k= -((n.natAbs / k:Nat):Int):=by
 obtain⟨m,hm⟩:=Int.eq_ofNat_of_zero_le (show 0≤ -n by omega)
 obtain rfl:n= -(m:Int):=by omega
 rw[Int.neg_tdiv,zxH (by omega)]
 simp
theorem z1l{n:Int}(h:n≤0)(k:Nat):n.tmod k= -((n.natAbs % k:Nat):Int):=by
 obtain⟨m,hm⟩:=Int.eq_ofNat_of_zero_le (show 0≤ -n by omega)
 obtain rfl:n= -(m:Int):=by omega
 rw[Int.neg_tmod,L3 (by omega)]
 simp
theorem ltT{a b:Int}(h:a<b):(a<b)=True:=eq_true h
theorem ltF{a b:Int}(h:¬a<b):(a<b)=False:=eq_false h
theorem leT{a b:Int}(h:a≤b):(a≤b)=True:=eq_true h
theorem leF{a b:Int}(h:¬a≤b):(a≤b)=False:=eq_false h
theorem neF{a b:Int}(h:¬a=b):(a=b)=False:=eq_false h
theorem z1D{a b:ByteArray}(h:aE a b):aE a b=True:=eq_true h
theorem mkT{a:Nat}{b:Int}(h:aQ a b):aQ a b=True:=eq_true h
theorem z1p{a b c:Nat}(h:aD a b c):aD a b c=True:=eq_true h
theorem aC(l:List UInt8):(⟨l.toArray⟩:ByteArray).size=l.length:=rfl
theorem zyY:∀(l:List D),(∀d∈l,∃x,d= .v x)→fzl l=l
 |[],_=>by simp[fzl]
 |d::l,h=>by
  obtain⟨x,rfl⟩:=h d (by simp)
  simp only[fzl,D.fz,zyY l (fun d hd=>h d (by simp[hd]))]
theorem mV{α:Type}(f:α→List D)(g:α→List D)(h:∀a,fzl (f a)=g a):∀xs:List α,fzs (xs.map f)=xs.map g
 |[]=>by simp[fzs]
 |x::xs=>by simp only[mc,fzs,h,mV f g h xs]
theorem z66{n:Int}(h: -9223372036854775808≤n∧n≤9223372036854775807):IntKind.i64.wrap n=n:=w64 h
attribute [go_sem] fzl D.fz
theorem zjs(h:Heap)(k:Nat)(x:Option D):bS 1 (upd h (0,k) x)=upd (bS 1 h) (0,k) x:=by
 funext id
 simp only[bS,upd]
 by_cases e:id=(0,k)
 ·subst e;simp
 ·simp[e]
theorem gV{κ α:Type}[DecidableEq κ](f:κ→Option α)(i j:κ)(x y:Option α)(h:i≠j):upd (upd f i x) j y=upd (upd f j y) i x:=by
 funext k
 simp only[upd]
 by_cases e:k=j
 ·subst e;simp[Ne.symm h]
 ·simp[e]
theorem z3B(f:Heap)(x y:Option D):upd (upd f (0,0) x) (0,1) y=upd (upd f (0,1) y) (0,0) x:=gV f _ _ x y (by simp)
theorem z30(f:Heap)(x y:Option D):upd (upd f (0,0) x) (0,2) y=upd (upd f (0,2) y) (0,0) x:=gV f _ _ x y (by simp)
theorem z3m(f:Heap)(x y:Option D):upd (upd f (0,0) x) (0,3) y=upd (upd f (0,3) y) (0,0) x:=gV f _ _ x y (by simp)
theorem z3D(f:Heap)(x y:Option D):upd (upd f (0,0) x) (0,4) y=upd (upd f (0,4) y) (0,0) x:=gV f _ _ x y (by simp)
theorem z45(f:Heap)(x y:Option D):upd (upd f (0,0) x) (0,5) y=upd (upd f (0,5) y) (0,0) x:=gV f _ _ x y (by simp)
theorem z3a(f:Heap)(x y:Option D):upd (upd f (0,1) x) (0,2) y=upd (upd f (0,2) y) (0,1) x:=gV f _ _ x y (by simp)
theorem z4W(f:Heap)(x y:Option D):upd (upd f (0,1) x) (0,3) y=upd (upd f (0,3) y) (0,1) x:=gV f _ _ x y (by simp)
theorem z2d(f:Heap)(x y:Option D):upd (upd f (0,1) x) (0,4) y=upd (upd f (0,4) y) (0,1) x:=gV f _ _ x y (by simp)
theorem z4P(f:Heap)(x y:Option D):upd (upd f (0,1) x) (0,5) y=upd (upd f (0,5) y) (0,1) x:=gV f _ _ x y (by simp)
theorem z37(f:Heap)(x y:Option D):upd (upd f (0,2) x) (0,3) y=upd (upd f (0,3) y) (0,2) x:=gV f _ _ x y (by simp)
theorem z3C(f:Heap)(x y:Option D):upd (upd f (0,2) x) (0,4) y=upd (upd f (0,4) y) (0,2) x:=gV f _ _ x y (by simp)
theorem z2m(f:Heap)(x y:Option D):upd (upd f (0,2) x) (0,5) y=upd (upd f (0,5) y) (0,2) x:=gV f _ _ x y (by simp)
theorem z4V(f:Heap)(x y:Option D):upd (upd f (0,3) x) (0,4) y=upd (upd f (0,4) y) (0,3) x:=gV f _ _ x y (by simp)
theorem z4H(f:Heap)(x y:Option D):upd (upd f (0,3) x) (0,5) y=upd (upd f (0,5) y) (0,3) x:=gV f _ _ x y (by simp)
theorem z4G(f:Heap)(x y:Option D):upd (upd f (0,4) x) (0,5) y=upd (upd f (0,5) y) (0,4) x:=gV f _ _ x y (by simp)
theorem qX{α β:Type}(f:α→β)(A:List α)(e:β)(r:List β):(A.map f++e::r)[A.length]? = some e:=by
 rw[List.getElem?_append_right (by simp)]
 simp
theorem qY{α β:Type}(f:α→β)(A:List α)(e e':β)(r:List β):(A.map f++e::r).set A.length e'=A.map f++e'::r:=by
 rw[List.set_append_right _ _ (by simp)]
 simp
theorem qW{α β:Type}(f:α→β)(A:List α)(r:List β):(A.map f++r).length=A.length+r.length:=by simp
abbrev bB(ns:List Int):List (List D):=ns.map fun n=>[DI n]
theorem vK(ns:List Int):fzs (bB ns)=bB ns:=mV _ _ (fun n=>by simp only[fzl,D.fz]) ns
theorem oP{α:Type}(f:α→List D)(h:∀a,D.noR.noRs (f a)=true):∀xs:List α,D.noR.noRss (xs.map f)=true
 |[]=>by simp[D.noR.noRss]
 |x::xs=>by simp only[mc,D.noR.noRss,h x,oP f h xs,Bool.and_self]
theorem uK(ns:List Int):D.noR.noRss (bB ns)=true:=oP _ (fun n=>by simp[D.noR.noRs,D.noR]) ns
theorem z8b(a b c d:Nat):(((a,b):Nat×Nat)==(c,d))=(a==c&&b==d):=rfl
attribute [go_sem] z8b zjs z3B z30 z3m z3D z45 z3a z4W z2d z4P z37 z3C z2m z4V z4H z4G D.noR.noRs
theorem z7q{c:List D}(h:kC [.i .i64] c):∃n:Int,c=[DI n]∧i64 n:=by
 simp only[kC,fit] at h
 obtain⟨_,_,rfl,⟨n,rfl,hn⟩,rfl⟩:=h
 exact⟨n,rfl,zqW hn⟩
theorem Me{α:Type}{enc:α→List D}{ok:α→Prop}{ts:List Ty}(h:∀c,kC ts c→∃x,c=enc x∧ok x):∀{els:List (List D)},(∀c∈els,kC ts c)→∃xs:List α,els=xs.map enc∧∀x∈xs,ok x
 |[],_=>⟨[],rfl,by simp⟩
 |c::els,hc=>by
  obtain⟨x,rfl,h1⟩:=h c (hc c (by simp))
  obtain⟨xs,rfl,h2⟩:=Me h (els:=els) (fun c' h'=>hc c' (by simp[h']))
  exact⟨x::xs,rfl,fun y hy=>by
   rcases List.mem_cons.1 hy with rfl|hy
   ·exact h1
   ·exact h2 y hy⟩
theorem aL(Φ:Nat→Option SFn)(a b:SCode)(st:St)(p:Prop)[Decidable p]:condK Φ a b st (decide p)=if p then evW Φ a st else evW Φ b st:=by
 by_cases h:p<;>simp[h,condK]
theorem z5C(Φ:Nat→Option SFn)(a b:SCode)(st:St)(c:Bool):condK Φ a b st (!c)=condK Φ b a st c:=by cases c<;>rfl
theorem aN(Φ:Nat→Option SFn)(a b:SCode)(st:St)(c:Bool):condK Φ a b st c=if c=true then evW Φ a st else evW Φ b st:=by cases c<;>rfl
theorem zYH(Φ:Nat→Option SFn)(a b:SCode)(st:St){c:Bool}(h:c=true):condK Φ a b st c=evW Φ a st:=by subst h;rfl
theorem zW5(Φ:Nat→Option SFn)(a b:SCode)(st:St){c:Bool}(h:¬c=true):condK Φ a b st c=evW Φ b st:=by
 cases c
 ·rfl
 ·exact absurd rfl h
theorem zYK(Φ:Nat→Option SFn)(a b:SCode)(st:St){c:Bool}(h:c=false):condK Φ a b st c=evW Φ b st:=by subst h;rfl
theorem aF(C:Cl)(st:St)(id:Nat)(d:Option Nat)(o:SOp)(p:Prop)[Decidable p]:gJ C st id d o true (some (decide p))=if p then opS C st d id o else some (st.put d (.tup [])):=by
 by_cases h:p<;>simp[h,gJ]
theorem aG(C:Cl)(st:St)(id:Nat)(d:Option Nat)(o:SOp)(p:Prop)[Decidable p]:gJ C st id d o false (some (decide p))=if p then some (st.put d (.tup [])) else opS C st d id o:=by
 by_cases h:p<;>simp[h,gJ]
theorem zZK(C:Cl)(st:St)(id:Nat)(d:Option Nat)(o:SOp)(c:Bool):gJ C st id d o true (some (!c))=gJ C st id d o false (some c):=by cases c<;>rfl
theorem zJM(C:Cl)(st:St)(id:Nat)(d:Option Nat)(o:SOp)(c:Bool):gJ C st id d o false (some (!c))=gJ C st id d o true (some c):=by cases c<;>rfl
theorem aH(C:Cl)(st:St)(id:Nat)(d:Option Nat)(o:SOp)(c:Bool):gJ C st id d o true (some c)=if c=true then opS C st d id o else some (st.put d (.tup [])):=by cases c<;>rfl
theorem aI(C:Cl)(st:St)(id:Nat)(d:Option Nat)(o:SOp)(c:Bool):gJ C st id d o false (some c)=if c=true then some (st.put d (.tup [])) else opS C st d id o:=by cases c<;>rfl
theorem zJJ(C:Cl)(st:St)(id:Nat)(d:Option Nat)(o:SOp){c:Bool}(h:c=true):gJ C st id d o true (some c)=opS C st d id o:=by subst h;rfl
theorem zKL(C:Cl)(st:St)(id:Nat)(d:Option Nat)(o:SOp){c:Bool}(h:c=true):gJ C st id d o false (some c)=some (st.put d (.tup [])):=by subst h;rfl
theorem zQj(C:Cl)(st:St)(id:Nat)(d:Option Nat)(o:SOp){c:Bool}(h:¬c=true):gJ C st id d o true (some c)=some (st.put d (.tup [])):=by
 cases c
 ·rfl
 ·exact absurd rfl h
theorem zKQ(C:Cl)(st:St)(id:Nat)(d:Option Nat)(o:SOp){c:Bool}(h:¬c=true):gJ C st id d o false (some c)=opS C st d id o:=by
 cases c
 ·rfl
 ·exact absurd rfl h
theorem zKV(C:Cl)(st:St)(id:Nat)(d:Option Nat)(o:SOp){c:Bool}(h:c=false):gJ C st id d o true (some c)=some (st.put d (.tup [])):=by subst h;rfl
theorem zKq(C:Cl)(st:St)(id:Nat)(d:Option Nat)(o:SOp){c:Bool}(h:c=false):gJ C st id d o false (some c)=opS C st d id o:=by subst h;rfl
theorem aM(st:St)(d:Option Nat)(a b:O)(p:Prop)[Decidable p]:Fc st d a b (decide p)=if p then(rdO st a).map (st.put d) else(rdO st b).map (st.put d):=by
 by_cases h:p<;>simp[h,Fc]
theorem aO(st:St)(d:Option Nat)(a b:O)(c:Bool):Fc st d a b c=if c=true then(rdO st a).map (st.put d) else(rdO st b).map (st.put d):=by cases c<;>rfl
theorem z5a(st:St)(d:Option Nat)(a b:O)(c:Bool):Fc st d a b (!c)=Fc st d b a c:=by cases c<;>rfl
theorem zXM(st:St)(d:Option Nat)(a b:O){c:Bool}(h:c=true):Fc st d a b c=(rdO st a).map (st.put d):=by subst h;rfl
theorem zXL(st:St)(d:Option Nat)(a b:O){c:Bool}(h:¬c=true):Fc st d a b c=(rdO st b).map (st.put d):=by
 cases c
 ·rfl
 ·exact absurd rfl h
theorem zY3(st:St)(d:Option Nat)(a b:O){c:Bool}(h:c=false):Fc st d a b c=(rdO st b).map (st.put d):=by subst h;rfl
theorem eqT{a b:Int}(h:a=b):(a=b)=True:=eq_true h
theorem baT{a b:ByteArray}(h:a=b):(a=b)=True:=eq_true h
theorem baF{a b:ByteArray}(h:¬a=b):(a=b)=False:=eq_false h
theorem bvT{c:Bool}(h:c=true):(c=true)=True:=eq_true h
theorem bvF{c:Bool}(h:¬c=true):(c=true)=False:=eq_false h
theorem bK{α:Type}{xs:List α}{j:Int}{x:α}{B:List α}(h:xs.drop j.toNat=x::B)(h0:0≤j):xs[j.toNat]? = some x∧j<xs.length∧xs.drop (j+1).toNat=B∧x∈xs∧(xs.length:Int)=j+1+B.length:=by
 have h1:j.toNat<xs.length:=by
  apply Decidable.byContradiction
  intro h2
  rw[List.drop_eq_nil_of_le (by omega)] at h
  simp at h
 have h2:=List.drop_eq_getElem_cons h1
 rw[h] at h2
 simp only[List.cons.injEq] at h2
 have h3:(j+1).toNat=j.toNat+1:=by omega
 have h4:=congrArg List.length h
 simp only[List.length_drop,lc] at h4
 exact⟨by rw[List.getElem?_eq_getElem h1,←h2.1],by omega,by rw[h3];exact h2.2.symm,by rw[h2.1];exact List.getElem_mem h1,by omega⟩
theorem b9{α:Type}{xs:List α}{j:Int}(h:xs.drop j.toNat=[])(h0:0≤j):(xs.length:Int)≤j:=by
 have:=List.drop_eq_nil_iff.1 h
 omega
theorem eK{α β:Type}(f:α→β){xs:List α}{k:Nat}{x:α}(h:xs[k]? = some x):(xs.map f)[k]? = some (f x):=by
 rw[List.getElem?_map,h];rfl
def aS{α:Type}(p:α→Bool):Int→List α→Int
 |_,[]=> -1
 |j,x::xs=>if p x=true then j else aS p (j+1) xs
theorem pB{α:Type}(p:α→Bool):∀{xs:List α} (j:Int),0≤j→xs.any p=decide (0≤aS p j xs)
 |[],j,_=>by simp[aS]
 |x::xs,j,h=>by
  rw[List.any_cons,aS]
  by_cases hp:p x=true
  ·rw[if_pos hp,hp,decide_eq_true h];rfl
  ·rw[if_neg hp,←pB p (j+1) (by omega)]
   simp[hp]
attribute [go_sem] zKm List.sum_cons List.sum_nil
theorem zw2{Φ:Nat→Option SFn}{f nt sz bytes:Nat}(h:Φ f=some ⟨1,nt,.clone sz [⟨some 5,none,.lit sz []⟩,⟨some 6,none,.mov (.t 0)⟩,⟨some 7,none,.app sz bytes (.t 5) (.t 6)⟩,⟨some 2,none,.mov (.t 7)⟩],[.t 2]⟩)(els:List (List D))(ha:aD bytes 0 els.length)(hl:(els.all fun el=>el.length==sz)=true) :
  call Φ f [.d (.r els)]=some (.d (.s sz (els.map fun el=>el.map D.toR))):=by
 rw[aJ h _ rfl,zJj]
 have hl':(els.map fun el=>el.map D.toR).all (fun el=>el.length==sz)=true:=by simpa using hl
 have ha':aD bytes ([]:List (List D)).length (els.map fun el=>el.map D.toR).length:=by simpa using ha
 simp only[At,upd,if_true,obs,X.elsOf,mK,pQ,itS,opS,rdO,hZ,oms,St.put,St.with,Nat.reduceEqDiff,if_false,lW,sU,Heap.take,Heap.row,Heap.nav,D.nav,D.rowOf,ha',hl',and_self]
 simp[Nw,upd,emp,X.rowId,D.rowOf,z7G,kR,Z5,tQ,tU,pD,Heap.take,Heap.row,Heap.nav,D.nav,sI,ha',hl',pQ]
 rfl
theorem z8m(ns:List Int){j:Int}(h0:0≤j)(h1:j<ns.length):∃v,(bB ns)[j.toNat]? = some [DI v]∧ns[j.toNat]? = some v:=by
 have h2:j.toNat<ns.length:=by omega
 exact⟨ns[j.toNat],by simp[h2],by simp[h2]⟩
end Go.Ev
