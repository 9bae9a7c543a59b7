import Derived.Test.YtenclibcnjkamaaGreatEvSim2
set_option linter.all false
namespace Go.Ev
abbrev I(n:Int):X:= .d (.v (.int .i64 n))
abbrev B(n:Bool):X:= .d (.v (.bool n))
abbrev Str(n:ByteArray):X:= .d (.v (.string n))
abbrev DI(n:Int):D:= .v (.int .i64 n)
abbrev DB(n:Bool):D:= .v (.bool n)
abbrev DS(n:ByteArray):D:= .v (.string n)
def z8I(res:List SRes)(fr:Nat):Ex×St→Option (X×Heap)
 |(.ext _,_)=>none
 |(.nor,s)=>(fT s res).bind (Xv s fr)
 |(.ret,s)=>(fT s res).bind (Xv s fr)
def zWA(res:List SRes):Ex×St→Option X
 |(.ext _,_)=>none
 |(.nor,s)=>(fT s res).bind (Q0 s)
 |(.ret,s)=>(fT s res).bind (Q0 s)
theorem aQ{Φ:Nat→Option SFn}{f np nt:Nat}{code:SCode}{res:List SRes}(h:Φ f=some ⟨np,nt,code,res⟩)(args:List X)(hl:args.length=np):call Φ f args=(evW Φ code {env:=jQ 0 args,heap:=emp,fr:=0,next:=0}).bind (zWA res):=by
 unfold call
 rw[zqI,h]
 simp only[obs,hl,if_true]
 cases evW Φ code {env:=jQ 0 args,heap:=emp,fr:=0,next:=0} with
 |none=>rfl
 |some r =>
  obtain⟨e,s⟩:=r
  cases e<;>simp only[obs,La,zWA,Option.map_none]
  ·cases fT s res with
   |none=>rfl
   |some xs=>simp only[obs,Q0];cases oY 0 s.heap xs<;>rfl
  ·cases fT s res with
   |none=>rfl
   |some xs=>simp only[obs,Q0];cases oY 0 s.heap xs<;>rfl
theorem bU{Φ:Nat→Option SFn}{f np nt:Nat}{code:SCode}{res:List SRes}(h:Φ f=some ⟨np,nt,code,res⟩)(args:List X)(m:Heap)(fr:Nat)(hl:args.length=np):evCW Φ f args m fr=(evW Φ code {env:=jQ 0 args,heap:=m,fr:=fr,next:=0}).bind (z8I res fr):=by
 rw[zqI,h]
 simp only[obs,hl,if_true]
 cases evW Φ code {env:=jQ 0 args,heap:=m,fr:=fr,next:=0} with
 |none=>rfl
 |some r =>
  obtain⟨e,s⟩:=r
  cases e<;>simp only[obs,La,z8I]
  ·cases fT s res with
   |none=>rfl
   |some xs=>simp only[obs,Xv];cases oY fr s.heap xs<;>rfl
  ·cases fT s res with
   |none=>rfl
   |some xs=>simp only[obs,Xv];cases oY fr s.heap xs<;>rfl
abbrev i64(n:Int):Prop:= -9223372036854775808≤n∧n≤9223372036854775807
theorem w64{n:Int}(h:i64 n):IntKind.wrap .i64 n=n:=by
 obtain⟨h1,h2⟩:=h
 simp only[IntKind.wrap,IntKind.signed,IntKind.bits,bta,zqd,ge_iff_le,Nat.reduceSub,Int.reducePow]
 by_cases h:2 ^ 63≤n % 2 ^ 64
 ·simp only[Int.reducePow] at h
  rw[if_pos h];omega
 ·simp only[Int.reducePow] at h
  rw[if_neg h];omega
theorem V0{n:Int}(h:(Lit.int .i64 n).wf=true):i64 n:=by
 simp[Lit.wf,IntKind.min,IntKind.max,IntKind.signed,IntKind.bits] at h
 omega
theorem w32{n:Int}(h: -2147483648≤n∧n≤2147483647):IntKind.wrap .i32 n=n:=by
 obtain⟨h1,h2⟩:=h
 simp only[IntKind.wrap,IntKind.signed,IntKind.bits,bta,zqd,ge_iff_le,Nat.reduceSub,Int.reducePow]
 by_cases h:2 ^ 31≤n % 2 ^ 32
 ·simp only[Int.reducePow] at h
  rw[if_pos h];omega
 ·simp only[Int.reducePow] at h
  rw[if_neg h];omega
theorem wu8{n:Int}(h:0≤n∧n≤255):IntKind.wrap .u8 n=n:=by
 obtain⟨h1,h2⟩:=h
 simp only[IntKind.wrap,IntKind.signed,IntKind.bits]
 simp
 omega
theorem iW(fr:Nat):a8 fr emp=emp:=by
 funext id
 simp[a8,emp]
theorem zzD(fr k:Nat)(h:Heap)(x:Option D):a8 fr (upd h (fr,k) x)=a8 fr h:=by
 funext id
 simp only[a8,upd]
 split
 ·rfl
 ·split
  ·rename_i h1 h2
   subst h2
   exact absurd rfl h1
  ·rfl
theorem zXi{κ α:Type}[DecidableEq κ](f:κ→Option α)(k:κ)(x y:Option α):upd (upd f k x) k y=upd f k y:=by
 funext j
 simp only[upd]
 split<;>rfl
def zv5(C:Cl)(i:Nat)(l:List SItem)(st:St):Option St:=mI C st i l
def eD(C:Cl)(st:St)(id:Nat)(d:Option Nat)(o:SOp)(b:Bool)(c:Option Bool):Option St:=if c=some b then opS C st d id o else some (st.put d (.tup []))
theorem zKL(C:Cl)(i:Nat)(st:St):zv5 C i [] st=some {st with next:=st.next+i}:=rfl
theorem zkW(C:Cl)(i:Nat)(d:Option Nat)(o:SOp)(l:List SItem)(st:St):zv5 C i (⟨d,none,o⟩::l) st=(opS C st d (st.next+i) o).bind (zv5 C (i+32) l):=rfl
theorem zWV(b:Bool):gX (.d (.v (.bool b)))=some (some b):=rfl
theorem z7F:gX (.tup [])=some none:=rfl
theorem zqg(C:Cl)(i:Nat)(d:Option Nat)(s:Nat)(b:Bool)(o:SOp)(l:List SItem)(st:St):zv5 C i (⟨d,some (s,b),o⟩::l) st=(((st.env s).bind gX).bind (eD C st (st.next+i) d o b)).bind (zv5 C (i+32) l):=rfl
theorem zvA(C:Cl)(st:St)(id:Nat)(d:Option Nat)(o:SOp):eD C st id d o true (some true)=opS C st d id o:=rfl
theorem zwH(C:Cl)(st:St)(id:Nat)(d:Option Nat)(o:SOp):eD C st id d o false (some false)=opS C st d id o:=rfl
theorem zwv(C:Cl)(st:St)(id:Nat)(d:Option Nat)(o:SOp):eD C st id d o true (some false)=some (st.put d (.tup [])):=rfl
theorem zyS(C:Cl)(st:St)(id:Nat)(d:Option Nat)(o:SOp):eD C st id d o false (some true)=some (st.put d (.tup [])):=rfl
theorem zww(C:Cl)(st:St)(id:Nat)(d:Option Nat)(o:SOp)(b:Bool):eD C st id d o b none=some (st.put d (.tup [])):=rfl
noncomputable def condK (Φ:Nat→Option SFn) (a b:SCode) (st:St):Bool→Option (Ex×St)
 |true=>evW Φ a st
 |false=>evW Φ b st
theorem zY6(Φ:Nat→Option SFn)(a b:SCode)(st:St):condK Φ a b st true=evW Φ a st:=rfl
theorem zYX(Φ:Nat→Option SFn)(a b:SCode)(st:St):condK Φ a b st false=evW Φ b st:=rfl
def nor(s:St):Ex×St:=(.nor,s)
theorem zJv{Φ:Nat→Option SFn}(l:List SItem)(st:St):evW Φ (.ops l) st=(zv5 (evCW Φ) 0 l st).map nor:=zYL l st
noncomputable def runD (C:Cl) (b:Nat) (l:List DItem) (st:St):Option St:=opsD C b l st
noncomputable def reD (C:Cl) (b:Nat) (r:List SItem) (l:List DItem) (st:St):Option St:=(reS C st r).bind fun _=>opsD C b l st
theorem zQU(C:Cl)(b:Nat)(st:St):runD C b [] st=some st:=rfl
theorem zwm(C:Cl)(b:Nat)(d:Option Nat)(o:SOp)(ix:Nat)(r:List SItem)(l:List DItem)(st:St):runD C b (⟨⟨d,none,o⟩,ix,r⟩::l) st=(opS C st d (b+32*ix) o).bind (reD C b r l):=rfl
theorem zz9(C:Cl)(b:Nat)(d:Option Nat)(s:Nat)(g:Bool)(o:SOp)(ix:Nat)(r:List SItem)(l:List DItem)(st:St):runD C b (⟨⟨d,some (s,g),o⟩,ix,r⟩::l) st=(((st.env s).bind gX).bind (eD C st (b+32*ix) d o g)).bind (reD C b r l):=rfl
theorem zW5(C:Cl)(b:Nat)(l:List DItem)(st:St):reD C b [] l st=runD C b l st:=rfl
noncomputable def reA (C:Cl) (b:Nat) (d:Option Nat) (r:List SItem) (l:List DItem) (st s2:St):Option St:=(reK st d s2).bind fun _=>reD C b r l st
theorem zJD(C:Cl)(b:Nat)(r:List SItem)(l:List DItem)(st s2:St):reA C b none r l st s2=reD C b r l st:=rfl
open Classical in
theorem zx1(C:Cl)(b d:Nat)(r:List SItem)(l:List DItem)(st s2:St):reA C b (some d) r l st s2=if s2.env d=st.env d then reD C b r l st else none:=by
 unfold reA reK
 simp only
 split<;>rfl
theorem zQj(C:Cl)(b:Nat)(d:Option Nat)(o:SOp)(r:List SItem)(l:List DItem)(st:St):reD C b (⟨d,none,o⟩::r) l st=(opS C st d 0 o).bind (reA C b d r l st):=by
 unfold reD reS
 simp only[itS]
 cases opS C st d 0 o with
 |none=>rfl
 |some s2=>simp only[obs,reA];cases reK st d s2<;>rfl
theorem zwJ(C:Cl)(b:Nat)(d:Option Nat)(s:Nat)(g:Bool)(o:SOp)(r:List SItem)(l:List DItem)(st:St):reD C b (⟨d,some (s,g),o⟩::r) l st=(((st.env s).bind gX).bind (eD C st 0 d o g)).bind (reA C b d r l st):=by
 show((((itS C st 0 ⟨d,some (s,g),o⟩).bind (reK st d)).bind fun _=>reS C st r).bind fun _=>opsD C b l st)=(itS C st 0 ⟨d,some (s,g),o⟩).bind (reA C b d r l st)
 cases itS C st 0 ⟨d,some (s,g),o⟩ with
 |none=>rfl
 |some s2=>simp only[obs,reA];cases reK st d s2<;>rfl
def z7N(b n:Nat)(s:St):Ex×St:=(.nor,{s with next:=b+32*n})
theorem zYW(b n:Nat)(s:St):z7N b n s=(.nor,{s with next:=b+32*n}):=rfl
theorem zkR{Φ:Nat→Option SFn}(l:List DItem)(st:St):evW Φ (.opsd l) st=(runD (evCW Φ) st.next l st).map (z7N st.next l.length):=zy9 l st
theorem zwz{Φ:Nat→Option SFn}(o:O)(a b:SCode)(st:St):evW Φ (.cond o a b) st=(rdB st o).bind (condK Φ a b st):=by
 rw[zQD]
 congr 1
 funext t
 cases t<;>rfl
theorem zYK(els:List (List D)):X.du (.d (.r els))= .d (.r (els.map fun el=>el.map D.du)):=rfl
theorem z6B(x:Value):X.du (.d (.v x))= .d (.v x):=rfl
attribute [go_sem] zyD zk9 zYK z6B zYw zXB zQE zwb zKw
attribute [go_sem] zV1 zWW zxH zQN zwd
attribute [go_sem] zkR zQU zwm zz9 zW5 zQj zwJ zJD zx1 zYW
attribute [go_sem] zV2 zwz zwX zZL zYr zZb zVk zY5 zJv zZw zyf nor next zXV zKL zkW zqg zvA zwH zwv zyS zww zWV z7F zY6 zYX zVZ zW3 zXk zyY zXw zWF zWQ zV5 zYe zx8 zWj zYi zQ1 zKZ zQq zwj zYH zV9 zJH zY7 zXv zWn zYG zVp zKv zK0 zVj zWZ zYq zJV zXI zYd zvm zvI zXE zYn zJn zYk zVN zQM zxD zVb zJ5 zyk zK4 zQy zxL zJy zZz zVi zvF zvR zze zv7 zvb zzc zYv zWu zJb zVy zxZ zkD z8q z8S z8P z9W zV0 zWp zZS zQn zQm zXh zYY zyE zwR zvl zzT zwq zvg zYo zk6 zjJ zxx zkz zWq zYF zyT zJe zVY U6 Ta z8G z8g zQV zQH zxy zk8 zvE zkN zx5 zwa zvJ zJd zxS zvo zyt zWw zYO zJm zQ4 zZe zWU zWE zyV zZl zQG z97 fnK_eq zQh zVd zVA zk7 zye zvO zyd Zp zzk zvY zv6 zzO zjj zqh zwD zyA zj0 Zv zya zYz zv1 zvz zkS zJ0 zzf Zi zVT zYR zXC zVX rdO rdI rdB rdS X.int X.bool X.str zJo z8d z8D zxT zyU St.put St.lose St.with l6 zyy jQ z8I zWA Hx Im Fh kid iW zzD D.rowOf Ak Hs uK one setCells zzV iY Fd D.noR Py y6 zZn Et fnOf bN Lg zXi roF Cx rY w5 Al Zg wF inL zx6 zWz zvc zxa zky zZo C4 List.isPrefixOf Wy Path.under zQd zv2 zyz zxk zvs zZ2 zyn zzS zvZ zxu zwG zZv zKM zwt zKY zvt zzm zkZ zve zjp zwy zwo zXH zWR zvx zvG zQc zw5 zQk zw8 zxJ z8r z9T zKW zWa zYN zWd z7S zWN zWy zy1 zJj zJM zXz z78 zvL zxd zXt zQ7 zyB zKO zZR zzG zKV zyR z7y z75 z71 z7w zVo zJ8 zvn z6x z6p z6A z6v zXj zVR zQC zvX zxj z8z z8W zwp zjH zjz zvH z9J z8v z9z zxA z8J z9V zXs zx4 Z8 zzP zkJ zWG zZk zxg Zy zKg zws Vw zwx zyj zYg zyu zWv zXc zY1 zVQ zVf zWS zYp zVU zKR z87 z8m Xa zKS zkQ zjg z8T z93 Y6 zJT zkE zjq z9H zJP zvw Z7 zYb zWi zZC z9L zxB z9S zYZ z7j zVh zK1 z9D z72 z7Q z7q zZ4 zJK zJE zvS zJs zKh zwM zyp Xk Xt X2 Yl Wj zzL Vj zjs Ru Tg Uf Tc Sx Vn S9 zQ8 zzI zjN zz2 zjw zzx zwc zjX zYM zkX zvC zwk zv8 zwF zVv zvU zkC X0 Yi V6 X5 Wd zzo Xl zQu zzh zjl Zs zje zjW zyh zzj zW7 zvu zkT zwA zv9 zwi zJp zwT zXF zvq zkV zvP zyP zw2 zJY zwP zXu zwN zwW zk4 zkU zyI zQz zkK zV3 zyb zvd zvi zw6 zyc zKf zwV zYf zyC zkx zk1 zvv zw0 zKj zw9 zJc zzB Zr zjK Zm zjo zyO zjR zxr zzJ zzW zj6 zzQ Zu zvh zjM zV6 zwl zwQ zwU zw4 zyg zKX zkL zwB zwO zv3 zyG zjb zjy zjV zj8 zz1 zvp zzw zZA zzA zjU zjY zzK zjx zwZ zjm zY0 zyK zv4 zvf zyM zkI zVl zvW zKB Zk Zz zjZ Z6 zjF zwh zja zyN Uy Wa Vi Wz Zd Zo Vf zJU zjE zjO zjP zzi zzE zk5 zzv zJR zjd zzC Zq zzr zzH zwn zjn zxN zzp zjh zz7 zzF zj7 zvQ zzR zY9 zv0 zwE zvD zvV zvT zZy zkB zVJ zQS zQg zVu zvB zxY zVB zQv zJq zva z8O zQx zVw zxi zx0 zxK zXb zQb zYc zWD zYQ zY2 zJQ zxM zKD z8X zVE zJ7 zVI zQK zKH zYI zxz zY3 zYx zW2 zWh zJl zZZ zxb zJu zJS zXq zZY z8V zZ9 zxw zVG zQl zVg zYC zxq z7f zJA zVn zVM zZp zQA zWM zKe zz8 Ud Tn Sw Th Ue Yn Ur zXl zXd zXD zXp zKi zZu z9y zZK zKI zJw zxG zy3 zVP zyW zx3 zKa zK8 zKK zjr zVe zYS zKb zWc zy0
attribute [go_sem] Int.cast_ofNat_Int List.size_toArray Option.bind_some Option.map_some Option.bind_none Option.map_none Option.getD_some Option.getD_none Option.isSome_some Option.isSome_none List.find?_nil List.find?_cons List.length_cons List.length_nil List.all_cons List.all_nil List.map_cons List.map_nil List.append_nil List.nil_append List.cons_append List.isEmpty_cons List.isEmpty_nil Bool.and_true Bool.true_and Bool.and_false Bool.false_and Bool.or_true Bool.true_or Bool.or_false Bool.false_or Bool.not_true Bool.not_false and_true true_and and_self and_false false_and or_true true_or or_false false_or not_true_eq_false not_false_eq_true decide_true decide_false eq_self if_true if_false Bool.false_eq_true beq_self_eq_true Prod.mk.injEq Nat.zero_add Nat.add_zero List.drop_zero List.take_zero List.drop_succ_cons List.take_succ_cons List.take_nil List.drop_nil List.getElem?_cons_zero List.getElem?_cons_succ List.getElem?_nil List.set_cons_zero List.set_cons_succ Nat.le_refl ite_self ne_eq
theorem zqr{n:Int}(h:0≤n)(k:Nat):n.tdiv k=((n.natAbs / k:Nat):Int):=by
 obtain⟨m,rfl⟩:=Int.eq_ofNat_of_zero_le h
 simp[Int.tdiv]
theorem Ci{n:Int}(h:0≤n)(k:Nat):n.tmod k=((n.natAbs % k:Nat):Int):=by
 obtain⟨m,rfl⟩:=Int.eq_ofNat_of_zero_le h
 simp[Int.tmod]
theorem z6n{n:Int}(h:n≤0)(k:Nat):n.tdiv k= -((n.natAbs / k:Nat):Int):=by
 obtain⟨m,hm⟩:=Int.eq_ofNat_of_zero_le (show 0≤ -n by omega)
 obtain rfl:n= -(m:Int):=by omega
 rw[Int.neg_tdiv,zqr (by omega)]
 simp
theorem z6o{n:Int}(h:n≤0)(k:Nat):n.tmod k= -((n.natAbs % k:Nat):Int):=by
 obtain⟨m,hm⟩:=Int.eq_ofNat_of_zero_le (show 0≤ -n by omega)
 obtain rfl:n= -(m:Int):=by omega
 rw[Int.neg_tmod,Ci (by omega)]
 simp
theorem ltT{a b:Int}(h:a<b):(a<b)=True:=eq_true h
theorem ltF{a b:Int}(h:¬a<b):(a<b)=False:=eq_false h
theorem leT{a b:Int}(h:a≤b):(a≤b)=True:=eq_true h
theorem leF{a b:Int}(h:¬a≤b):(a≤b)=False:=eq_false h
theorem neF{a b:Int}(h:¬a=b):(a=b)=False:=eq_false h
theorem z6t{a b:ByteArray}(h:aE a b):aE a b=True:=eq_true h
theorem mkT{a:Nat}{b:Int}(h:aF a b):aF a b=True:=eq_true h
theorem z6q{a b c:Nat}(h:aD a b c):aD a b c=True:=eq_true h
theorem aB(l:List UInt8):(⟨l.toArray⟩:ByteArray).size=l.length:=rfl
theorem zzl:∀(l:List D),(∀d∈l,∃x,d= .v x)→fzl l=l
 |[],_=>by simp[fzl]
 |d::l,h=>by
  obtain⟨x,rfl⟩:=h d (by simp)
  simp only[fzl,D.fz,zzl l (fun d hd=>h d (by simp[hd]))]
theorem pS{α:Type}(f:α→List D)(g:α→List D)(h:∀a,fzl (f a)=g a):∀xs:List α,fzs (xs.map f)=xs.map g
 |[]=>by simp[fzs]
 |x::xs=>by simp only[mc,fzs,h,pS f g h xs]
theorem zWH{n:Int}(h: -9223372036854775808≤n∧n≤9223372036854775807):IntKind.i64.wrap n=n:=w64 h
attribute [go_sem] fzl D.fz
theorem J8(h:Heap)(k:Nat)(x:Option D):a8 1 (upd h (0,k) x)=upd (a8 1 h) (0,k) x:=by
 funext id
 simp only[a8,upd]
 by_cases e:id=(0,k)
 ·subst e;simp
 ·simp[e]
theorem eN{κ α:Type}[DecidableEq κ](f:κ→Option α)(i j:κ)(x y:Option α)(h:i≠j):upd (upd f i x) j y=upd (upd f j y) i x:=by
 funext k
 simp only[upd]
 by_cases e:k=j
 ·subst e;simp[Ne.symm h]
 ·simp[e]
theorem z9Z(f:Heap)(x y:Option D):upd (upd f (0,0) x) (0,1) y=upd (upd f (0,1) y) (0,0) x:=eN f _ _ x y (by simp)
theorem z7i(f:Heap)(x y:Option D):upd (upd f (0,0) x) (0,2) y=upd (upd f (0,2) y) (0,0) x:=eN f _ _ x y (by simp)
theorem z8A(f:Heap)(x y:Option D):upd (upd f (0,0) x) (0,3) y=upd (upd f (0,3) y) (0,0) x:=eN f _ _ x y (by simp)
theorem z8C(f:Heap)(x y:Option D):upd (upd f (0,0) x) (0,4) y=upd (upd f (0,4) y) (0,0) x:=eN f _ _ x y (by simp)
theorem z9G(f:Heap)(x y:Option D):upd (upd f (0,0) x) (0,5) y=upd (upd f (0,5) y) (0,0) x:=eN f _ _ x y (by simp)
theorem z8k(f:Heap)(x y:Option D):upd (upd f (0,1) x) (0,2) y=upd (upd f (0,2) y) (0,1) x:=eN f _ _ x y (by simp)
theorem z9I(f:Heap)(x y:Option D):upd (upd f (0,1) x) (0,3) y=upd (upd f (0,3) y) (0,1) x:=eN f _ _ x y (by simp)
theorem z9C(f:Heap)(x y:Option D):upd (upd f (0,1) x) (0,4) y=upd (upd f (0,4) y) (0,1) x:=eN f _ _ x y (by simp)
theorem z8a(f:Heap)(x y:Option D):upd (upd f (0,1) x) (0,5) y=upd (upd f (0,5) y) (0,1) x:=eN f _ _ x y (by simp)
theorem z8U(f:Heap)(x y:Option D):upd (upd f (0,2) x) (0,3) y=upd (upd f (0,3) y) (0,2) x:=eN f _ _ x y (by simp)
theorem z8Y(f:Heap)(x y:Option D):upd (upd f (0,2) x) (0,4) y=upd (upd f (0,4) y) (0,2) x:=eN f _ _ x y (by simp)
theorem z9E(f:Heap)(x y:Option D):upd (upd f (0,2) x) (0,5) y=upd (upd f (0,5) y) (0,2) x:=eN f _ _ x y (by simp)
theorem z85(f:Heap)(x y:Option D):upd (upd f (0,3) x) (0,4) y=upd (upd f (0,4) y) (0,3) x:=eN f _ _ x y (by simp)
theorem z8f(f:Heap)(x y:Option D):upd (upd f (0,3) x) (0,5) y=upd (upd f (0,5) y) (0,3) x:=eN f _ _ x y (by simp)
theorem z9Y(f:Heap)(x y:Option D):upd (upd f (0,4) x) (0,5) y=upd (upd f (0,5) y) (0,4) x:=eN f _ _ x y (by simp)
theorem xI{α β:Type}(f:α→β)(A:List α)(e:β)(r:List β):(A.map f++e::r)[A.length]? = some e:=by
 rw[List.getElem?_append_right (by simp)]
 simp
theorem wC{α β:Type}(f:α→β)(A:List α)(e e':β)(r:List β):(A.map f++e::r).set A.length e'=A.map f++e'::r:=by
 rw[List.set_append_right _ _ (by simp)]
 simp
theorem xD{α β:Type}(f:α→β)(A:List α)(r:List β):(A.map f++r).length=A.length+r.length:=by simp
abbrev aP(ns:List Int):List (List D):=ns.map fun n=>[DI n]
theorem dQ(ns:List Int):fzs (aP ns)=aP ns:=pS _ _ (fun n=>by simp only[fzl,D.fz]) ns
theorem lZ{α:Type}(f:α→List D)(h:∀a,D.noR.noRs (f a)=true):∀xs:List α,D.noR.noRss (xs.map f)=true
 |[]=>by simp[D.noR.noRss]
 |x::xs=>by simp only[mc,D.noR.noRss,h x,lZ f h xs,Bool.and_self]
theorem qT(ns:List Int):D.noR.noRss (aP ns)=true:=lZ _ (fun n=>by simp[D.noR.noRs,D.noR]) ns
theorem zZ6(a b c d:Nat):(((a,b):Nat×Nat)==(c,d))=(a==c&&b==d):=rfl
attribute [go_sem] zZ6 J8 z9Z z7i z8A z8C z9G z8k z9I z9C z8a z8U z8Y z9E z85 z8f z9Y D.noR.noRs
theorem zWL{c:List D}(h:jL [.i .i64] c):∃n:Int,c=[DI n]∧i64 n:=by
 simp only[jL,fit] at h
 obtain⟨_,_,rfl,⟨n,rfl,hn⟩,rfl⟩:=h
 exact⟨n,rfl,V0 hn⟩
theorem Ka{α:Type}{enc:α→List D}{ok:α→Prop}{ts:List Ty}(h:∀c,jL ts c→∃x,c=enc x∧ok x):∀{els:List (List D)},(∀c∈els,jL ts c)→∃xs:List α,els=xs.map enc∧∀x∈xs,ok x
 |[],_=>⟨[],rfl,by simp⟩
 |c::els,hc=>by
  obtain⟨x,rfl,h1⟩:=h c (hc c (by simp))
  obtain⟨xs,rfl,h2⟩:=Ka h (els:=els) (fun c' h'=>hc c' (by simp[h']))
  exact⟨x::xs,rfl,fun y hy=>by
   rcases List.mem_cons.1 hy with rfl|hy
   ·exact h1
   ·exact h2 y hy⟩
theorem aM(Φ:Nat→Option SFn)(a b:SCode)(st:St)(p:Prop)[Decidable p]:condK Φ a b st (decide p)=if p then evW Φ a st else evW Φ b st:=by
 by_cases h:p<;>simp[h,condK]
theorem zVV(Φ:Nat→Option SFn)(a b:SCode)(st:St)(c:Bool):condK Φ a b st (!c)=condK Φ b a st c:=by cases c<;>rfl
theorem aL(Φ:Nat→Option SFn)(a b:SCode)(st:St)(c:Bool):condK Φ a b st c=if c=true then evW Φ a st else evW Φ b st:=by cases c<;>rfl
theorem zZU(Φ:Nat→Option SFn)(a b:SCode)(st:St){c:Bool}(h:c=true):condK Φ a b st c=evW Φ a st:=by subst h;rfl
theorem zKN(Φ:Nat→Option SFn)(a b:SCode)(st:St){c:Bool}(h:¬c=true):condK Φ a b st c=evW Φ b st:=by
 cases c
 ·rfl
 ·exact absurd rfl h
theorem zZM(Φ:Nat→Option SFn)(a b:SCode)(st:St){c:Bool}(h:c=false):condK Φ a b st c=evW Φ b st:=by subst h;rfl
theorem aI(C:Cl)(st:St)(id:Nat)(d:Option Nat)(o:SOp)(p:Prop)[Decidable p]:eD C st id d o true (some (decide p))=if p then opS C st d id o else some (st.put d (.tup [])):=by
 by_cases h:p<;>simp[h,eD]
theorem aH(C:Cl)(st:St)(id:Nat)(d:Option Nat)(o:SOp)(p:Prop)[Decidable p]:eD C st id d o false (some (decide p))=if p then some (st.put d (.tup [])) else opS C st d id o:=by
 by_cases h:p<;>simp[h,eD]
theorem zyo(C:Cl)(st:St)(id:Nat)(d:Option Nat)(o:SOp)(c:Bool):eD C st id d o true (some (!c))=eD C st id d o false (some c):=by cases c<;>rfl
theorem zkG(C:Cl)(st:St)(id:Nat)(d:Option Nat)(o:SOp)(c:Bool):eD C st id d o false (some (!c))=eD C st id d o true (some c):=by cases c<;>rfl
theorem aJ(C:Cl)(st:St)(id:Nat)(d:Option Nat)(o:SOp)(c:Bool):eD C st id d o true (some c)=if c=true then opS C st d id o else some (st.put d (.tup [])):=by cases c<;>rfl
theorem aG(C:Cl)(st:St)(id:Nat)(d:Option Nat)(o:SOp)(c:Bool):eD C st id d o false (some c)=if c=true then some (st.put d (.tup [])) else opS C st d id o:=by cases c<;>rfl
theorem zwY(C:Cl)(st:St)(id:Nat)(d:Option Nat)(o:SOp){c:Bool}(h:c=true):eD C st id d o true (some c)=opS C st d id o:=by subst h;rfl
theorem zyr(C:Cl)(st:St)(id:Nat)(d:Option Nat)(o:SOp){c:Bool}(h:c=true):eD C st id d o false (some c)=some (st.put d (.tup [])):=by subst h;rfl
theorem zvk(C:Cl)(st:St)(id:Nat)(d:Option Nat)(o:SOp){c:Bool}(h:¬c=true):eD C st id d o true (some c)=some (st.put d (.tup [])):=by
 cases c
 ·rfl
 ·exact absurd rfl h
theorem zwe(C:Cl)(st:St)(id:Nat)(d:Option Nat)(o:SOp){c:Bool}(h:¬c=true):eD C st id d o false (some c)=opS C st d id o:=by
 cases c
 ·rfl
 ·exact absurd rfl h
theorem zyx(C:Cl)(st:St)(id:Nat)(d:Option Nat)(o:SOp){c:Bool}(h:c=false):eD C st id d o true (some c)=some (st.put d (.tup [])):=by subst h;rfl
theorem zkO(C:Cl)(st:St)(id:Nat)(d:Option Nat)(o:SOp){c:Bool}(h:c=false):eD C st id d o false (some c)=opS C st d id o:=by subst h;rfl
theorem aO(st:St)(d:Option Nat)(a b:O)(p:Prop)[Decidable p]:Ad st d a b (decide p)=if p then(rdO st a).map (st.put d) else(rdO st b).map (st.put d):=by
 by_cases h:p<;>simp[h,Ad]
theorem aN(st:St)(d:Option Nat)(a b:O)(c:Bool):Ad st d a b c=if c=true then(rdO st a).map (st.put d) else(rdO st b).map (st.put d):=by cases c<;>rfl
theorem zXG(st:St)(d:Option Nat)(a b:O)(c:Bool):Ad st d a b (!c)=Ad st d b a c:=by cases c<;>rfl
theorem zJB(st:St)(d:Option Nat)(a b:O){c:Bool}(h:c=true):Ad st d a b c=(rdO st a).map (st.put d):=by subst h;rfl
theorem zVL(st:St)(d:Option Nat)(a b:O){c:Bool}(h:¬c=true):Ad st d a b c=(rdO st b).map (st.put d):=by
 cases c
 ·rfl
 ·exact absurd rfl h
theorem zxs(st:St)(d:Option Nat)(a b:O){c:Bool}(h:c=false):Ad st d a b c=(rdO st b).map (st.put d):=by subst h;rfl
theorem eqT{a b:Int}(h:a=b):(a=b)=True:=eq_true h
theorem baT{a b:ByteArray}(h:a=b):(a=b)=True:=eq_true h
theorem baF{a b:ByteArray}(h:¬a=b):(a=b)=False:=eq_false h
theorem bvT{c:Bool}(h:c=true):(c=true)=True:=eq_true h
theorem bvF{c:Bool}(h:¬c=true):(c=true)=False:=eq_false h
theorem b7{α:Type}{xs:List α}{j:Int}{x:α}{B:List α}(h:xs.drop j.toNat=x::B)(h0:0≤j):xs[j.toNat]? = some x∧j<xs.length∧xs.drop (j+1).toNat=B∧x∈xs∧(xs.length:Int)=j+1+B.length:=by
 have h1:j.toNat<xs.length:=by
  apply Decidable.byContradiction
  intro h2
  rw[List.drop_eq_nil_of_le (by omega)] at h
  simp at h
 have h2:=List.drop_eq_getElem_cons h1
 rw[h] at h2
 simp only[List.cons.injEq] at h2
 have h3:(j+1).toNat=j.toNat+1:=by omega
 have h4:=congrArg List.length h
 simp only[List.length_drop,lc] at h4
 exact⟨by rw[List.getElem?_eq_getElem h1,←h2.1],by omega,by rw[h3];exact h2.2.symm,by rw[h2.1];exact List.getElem_mem h1,by omega⟩
theorem dW{α:Type}{xs:List α}{j:Int}(h:xs.drop j.toNat=[])(h0:0≤j):(xs.length:Int)≤j:=by
 have:=List.drop_eq_nil_iff.1 h
 omega
theorem kH{α β:Type}(f:α→β){xs:List α}{k:Nat}{x:α}(h:xs[k]? = some x):(xs.map f)[k]? = some (f x):=by
 rw[List.getElem?_map,h];rfl
def aT{α:Type}(p:α→Bool):Int→List α→Int
 |_,[]=> -1
 |j,x::xs=>if p x=true then j else aT p (j+1) xs
theorem sP{α:Type}(p:α→Bool):∀{xs:List α} (j:Int),0≤j→xs.any p=decide (0≤aT p j xs)
 |[],j,_=>by simp[aT]
 |x::xs,j,h=>by
  rw[List.any_cons,aT]
  by_cases hp:p x=true
  ·rw[if_pos hp,hp,decide_eq_true h];rfl
  ·rw[if_neg hp,←sP p (j+1) (by omega)]
   simp[hp]
attribute [go_sem] zyw List.sum_cons List.sum_nil
theorem Ej{Φ:Nat→Option SFn}{f nt sz bytes:Nat}(h:Φ f=some ⟨1,nt,.clone sz [⟨some 5,none,.lit sz []⟩,⟨some 6,none,.mov (.t 0)⟩,⟨some 7,none,.app sz bytes (.t 5) (.t 6)⟩,⟨some 2,none,.mov (.t 7)⟩],[.t 2]⟩)(els:List (List D))(ha:aD bytes 0 els.length)(hl:(els.all fun el=>el.length==sz)=true) :
  call Φ f [.d (.r els)]=some (.d (.s sz (els.map fun el=>el.map D.toR))):=by
 rw[aQ h _ rfl,zyL]
 have hl':(els.map fun el=>el.map D.toR).all (fun el=>el.length==sz)=true:=by simpa using hl
 have ha':aD bytes ([]:List (List D)).length (els.map fun el=>el.map D.toR).length:=by simpa using ha
 simp only[jQ,upd,if_true,obs,X.elsOf,jM,mI,itS,opS,rdO,eS,oms,St.put,St.with,Nat.reduceEqDiff,if_false,i7,pD,Heap.take,Heap.row,Heap.nav,D.nav,D.rowOf,ha',hl',and_self]
 simp[Gk,upd,emp,X.rowId,D.rowOf,zWA,fT,Q0,oY,oQ,lV,Heap.take,Heap.row,Heap.nav,D.nav,nI,ha',hl',mI]
 rfl
theorem zYu(ns:List Int){j:Int}(h0:0≤j)(h1:j<ns.length):∃v,(aP ns)[j.toNat]? = some [DI v]∧ns[j.toNat]? = some v:=by
 have h2:j.toNat<ns.length:=by omega
 exact⟨ns[j.toNat],by simp[h2],by simp[h2]⟩
end Go.Ev
