import Derived.Test.YtcaonmepamlclaaGreatEvPTypes
import Derived.Test.YtcaonmepamlclaaGreatEvPVars2
import Derived.Test.YtcaonmepamlclaaGreatEvPUnit2
import Derived.Test.YtcaonmepamlclaaGreatEvPChk13
set_option linter.all false
set_option maxHeartbeats 4000000
namespace Go.Ev.G
structure LS where
 c:List ZD
 n:Int
 m:Int
def LS.put(z:LS)(t:ZD):LS:=⟨z.c++[t],z.n,z.m⟩
def LS.set(z:LS)(t:ZD):LS:=⟨z.c++[{t with fD:=z.n}],z.n+1,z.m⟩
def LS.reg(z:LS):LS:=⟨z.c,z.n+1,z.m⟩
def LS.lab(z:LS):LS:=⟨z.c,z.n,z.m+1⟩
structure LW where
 e:LS→Int×LS
 s:LS→LS
 b:LS→LS
 a:LS→List Int×LS
 d:LS→LS
def esK:List LW→LS→List Int×LS
 |[],z=>([],z)
 |k::ks,z=>((k.e z).1::(esK ks (k.e z).2).1,(esK ks (k.e z).2).2)
def ssK:List LW→LS→LS
 |[],z=>z
 |k::ks,z=>ssK ks (k.s z)
def eQ(v:Int):ZD:=⟨1,0,0,0,v,emS,[]⟩
def d7(d a:Int):ZD:=⟨2,d,a,0,0,emS,[]⟩
def kV(a b:Int):ZD:=⟨7,0,a,b,0,emS,[]⟩
def a8(l:Int):ZD:=⟨8,0,0,0,l,emS,[]⟩
def cW(l:Int):ZD:=⟨9,0,0,0,l,emS,[]⟩
def dG(a l:Int):ZD:=⟨10,0,a,0,l,emS,[]⟩
def zjA(a:Int):ZD:=⟨12,0,a,0,0,emS,[]⟩
def tGo(f:ByteArray)(as:List Int):ZD:=⟨14,0,0,0,0,f,as⟩
def fO(a:Int):ZD:=⟨17,0,a,0,0,emS,[]⟩
def A3(d b n:Int)(as:List Int):ZD:=⟨19,d,0,b,n,emS,as⟩
def cC(op a b:Int):ZD:=⟨op,0,a,b,0,emS,[]⟩
def ix(as:List Int)(k:Nat):Int:=as.getD k 0
def eM(op:Int)(tx:ByteArray)(v:Int)(as:List Int):ZD :=
 if op=19 then eQ v
 else if op=26 then⟨11,0,0,0,0,tx,as⟩
 else if op=27 then⟨15,0,ix as 0,0,0,emS,[]⟩
 else if op=28 then⟨20,0,ix as 0,0,0,emS,[]⟩
 else if op=29 then⟨22,0,ix as 0,ix as 1,0,emS,as.drop 2⟩
 else if op=30 then⟨23,0,0,0,0,emS,[]⟩
 else if op=31 then⟨24,0,0,0,0,tx,[]⟩
 else⟨op-21+3,0,ix as 0,ix as 1,0,emS,[]⟩
def rU(op:Int):Int :=
 if op=6 then 13 else if op=7 then 12 else if op=9 then 16 else if op=11 then 18 else if op=13 then 21 else if op=14 then 26 else if op=15 then 27 else if op=16 then 28 else 25
section
variable(W:List ZC)
def caK:List (Int×LW)→List Int→Int→LS→List Int×Int×LS
 |[],A,N,z=>(A,N,z)
 |k::ks,A,N,z =>
  if k.1=32 then caK ks (A++[1,ix (k.2.a z).1 0,0]) N (k.2.a z).2
  else if k.1=33 then caK ks (A++[2,ix (k.2.a z).1 0,ix (k.2.a z).1 1]) N (k.2.a z).2
  else caK ks A 1 z
def cb1(i D:Int)(z:LS):LS:=(((z.set (eQ i)).set (kV D z.n)).lab).put (dG (z.n+1) z.m)
def cbK(D B E:Int):Int→List (Int×ByteArray×LW)→LS→LS
 |_,[],z=>z
 |i,k::ks,z=>cbK D B E (i+1) ks (((k.2.2.d (if k.1=32 then(cb1 i D z).put (d7 (fx W k.2.1) B) else cb1 i D z)).put (cW E)).put (a8 z.m))
def zy1(ks:List (Int×ByteArray×LW))(z:LS):LS :=
 let r:=caK (ks.map fun k=>(k.1,k.2.2)) [] 0 z
 let s1:=(r.2.2.reg.reg.put (A3 r.2.2.n (r.2.2.n+1) r.2.1 r.1)).lab
 (cbK W r.2.2.n (r.2.2.n+1) r.2.2.m 0 ks s1).put (a8 r.2.2.m)
def zQl(a b:LW)(z:LS):LS:=(b.b ((a.e z).2.lab.put (dG (a.e z).1 (a.e z).2.m))).put (a8 (a.e z).2.m)
def zQt(a b:LW)(z:LS):LS:=b.b ((a.e z).2.lab.put (dG (a.e z).1 (a.e z).2.m))
def zQB(a b c:LW)(z:LS):LS:=(c.b (((zQt a b z).lab.put (cW (zQt a b z).m)).put (a8 (a.e z).2.m))).put (a8 (zQt a b z).m)
def whE(a:LW)(z:LS):Int×LS:=a.e (z.lab.put (a8 z.m))
def whK(a b:LW)(z:LS):LS:=((b.b ((whE a z).2.lab.put (dG (whE a z).1 (whE a z).2.m))).put (cW z.m)).put (a8 (whE a z).2.m)
def stE(op:Int)(tx:ByteArray)(r:List Int×LS):LS :=
 if op=2∨op=3 then r.2.put (d7 (fx W tx) (ix r.1 0))
 else if op=8 then r.2.put (tGo tx r.1)
 else if op=10 then(r.2.set (fO (ix r.1 0))).put (d7 (fx W tx) r.2.n)
 else if op=18 then r.2
 else if r.1.length=2 then r.2.put (cC (rU op) (ix r.1 0) (ix r.1 1))
 else r.2.put (cC (rU op) (ix r.1 0) 0)
def stK(op:Int)(tx:ByteArray)(ks:List (ZB×LW))(z:LS):LS :=
 if op=4 then(match ks with
  |[a,b]=>zQl a.2 b.2 z
  |[a,b,c]=>zQB a.2 b.2 c.2 z
  |_=>z)
 else if op=5 then(match ks with
  |[a,b]=>whK a.2 b.2 z
  |_=>z)
 else if op=12 then zy1 W (ks.map fun k=>(k.1.op,k.1.tx,k.2)) z
 else stE W op tx (esK (ks.map (·.2)) z)
def lwF(op:Int)(tx:ByteArray)(v:Int)(ks:List (ZB×LW)):LW where
 e:=fun z=>if op=20 then(fx W tx,z) else((esK (ks.map (·.2)) z).2.n,(esK (ks.map (·.2)) z).2.set (eM op tx v (esK (ks.map (·.2)) z).1))
 s:=stK W op tx ks
 b:=ssK (ks.map (·.2))
 a:=esK (ks.map (·.2)).dropLast
 d:=fun z=>match (ks.map (·.2)).getLast? with
  |some q=>q.b z
  |none=>z
def ZB.lw(x:ZB):LW:=x.fold (lwF W)
def lws(ks:List ZB):List LW:=ks.map (ZB.lw W)
theorem Hc{β:Type}(g:ZB→β)(ks:List ZB):((ks.map fun k=>(k,g k)).map fun k=>k.2)=ks.map g:=by
 rw[List.map_map]
 rfl
theorem zqB(op:Int)(tx:ByteArray)(v:Int)(ks:List ZB):(ZB.mk op tx v ks).lw W=lwF W op tx v (ks.map fun k=>(k,k.lw W)):=by
 unfold ZB.lw
 rw[ZB.fold_eq]
theorem zKI(op:Int)(tx:ByteArray)(v:Int)(ks:List ZB)(z:LS):((ZB.mk op tx v ks).lw W).e z=if op=20 then(fx W tx,z) else((esK (lws W ks) z).2.n,(esK (lws W ks) z).2.set (eM op tx v (esK (lws W ks) z).1)):=by
 rw[zqB]
 unfold lwF
 simp only[Hc]
 rfl
theorem z3y(op:Int)(tx:ByteArray)(v:Int)(ks:List ZB)(z:LS):((ZB.mk op tx v ks).lw W).b z=ssK (lws W ks) z:=by
 rw[zqB]
 unfold lwF
 simp only[Hc]
 rfl
theorem z4v(op:Int)(tx:ByteArray)(v:Int)(ks:List ZB)(z:LS):((ZB.mk op tx v ks).lw W).a z=esK (lws W ks).dropLast z:=by
 rw[zqB]
 unfold lwF
 simp only[Hc]
 rfl
theorem z48(op:Int)(tx:ByteArray)(v:Int)(ks:List ZB)(z:LS):((ZB.mk op tx v ks).lw W).d z=match (lws W ks).getLast? with
  |some q=>q.b z
  |none=>z:=by
 rw[zqB]
 unfold lwF
 simp only[Hc]
 rfl
theorem Yj(op:Int)(tx:ByteArray)(v:Int)(ks:List ZB)(z:LS):((ZB.mk op tx v ks).lw W).s z=stK W op tx (ks.map fun k=>(k,k.lw W)) z:=by
 rw[zqB]
 rfl
theorem He(ks:List LW):∀z,(esK ks z).1.length=ks.length:=by
 induction ks with
 |nil=>intro z;rfl
 |cons k ks ih=>intro z;rw[esK,lc,lc,ih]
structure Gr (k:Int) (z s':LS):Prop where
 c0:z.c.length≤s'.c.length
 c1:(s'.c.length:Int)≤z.c.length+k
 n0:z.n≤s'.n
 n1:s'.n≤z.n+k
 m0:z.m≤s'.m
 m1:s'.m≤z.m+k
 sm:∀t∈s'.c,t∈z.c∨t.sm
theorem Gr.refl(z:LS):Gr 0 z z:=⟨by omega,by omega,by omega,by omega,by omega,by omega,fun t h=> .inl h⟩
theorem Gr.mono{k k':Int}{z s':LS}(h:Gr k z s')(hk:k≤k'):Gr k' z s':=by
 obtain⟨a,b,c,d,e,f,g⟩:=h
 exact⟨a,by omega,c,by omega,e,by omega,g⟩
theorem Gr.trans{k j:Int}{z t u:LS}(h:Gr k z t)(h':Gr j t u):Gr (k+j) z u:=by
 obtain⟨a,b,c,d,e,f,g⟩:=h
 obtain⟨a',b',c',d',e',f',g'⟩:=h'
 exact⟨by omega,by omega,by omega,by omega,by omega,by omega,fun x hx=>(g' x hx).elim (fun h=>g x h) .inr⟩
theorem Gr.put{k:Int}{z s':LS}(h:Gr k z s'){t:ZD}(ht:t.sm):Gr (k+1) z (s'.put t):=by
 obtain⟨a,b,c,d,e,f,g⟩:=h
 refine⟨?_,?_,c,by simp only[LS.put];omega,e,by simp only[LS.put];omega,fun x hx=> ?_⟩
 ·simp only[LS.put,la];omega
 ·simp only[LS.put,la,lc,ln];omega
 ·rcases List.mem_append.1 hx with hx|hx
  ·exact g x hx
  ·rw[List.mem_singleton.1 hx];exact .inr ht
theorem Gr.set{k:Int}{z s':LS}(h:Gr k z s'){t:ZD}(ht:t.sm):Gr (k+1) z (s'.set t):=by
 obtain⟨a,b,c,d,e,f,g⟩:=h
 refine⟨?_,?_,by simp only[LS.set];omega,by simp only[LS.set];omega,e,by simp only[LS.set];omega,fun x hx=> ?_⟩
 ·simp only[LS.set,la];omega
 ·simp only[LS.set,la,lc,ln];omega
 ·rcases List.mem_append.1 hx with hx|hx
  ·exact g x hx
  ·rw[List.mem_singleton.1 hx];exact .inr ht
theorem Gr.reg{k:Int}{z s':LS}(h:Gr k z s'):Gr (k+1) z s'.reg:=by
 obtain⟨a,b,c,d,e,f,g⟩:=h
 exact⟨a,by simp only[LS.reg];omega,by simp only[LS.reg];omega,by simp only[LS.reg];omega,e,by simp only[LS.reg];omega,g⟩
theorem Gr.lab{k:Int}{z s':LS}(h:Gr k z s'):Gr (k+1) z s'.lab:=by
 obtain⟨a,b,c,d,e,f,g⟩:=h
 exact⟨a,by simp only[LS.lab];omega,c,by simp only[LS.lab];omega,by simp only[LS.lab];omega,by simp only[LS.lab];omega,g⟩
theorem zyQ:emS.size≤1048576:=by decide
theorem j3{op d a b n:Int}:(ZD.mk op d a b n emS []).sm:=⟨zyQ,by simp⟩
theorem z8v(op:Int)(tx:ByteArray)(v:Int)(as:List Int)(h1:tx.size≤1048576)(h2:as.length≤1048576):(eM op tx v as).sm:=by
 unfold eM
 repeat' split
 all_goals first|exact j3|exact⟨h1,h2⟩|exact⟨zyQ,Nat.le_trans (List.length_drop ▸ Nat.sub_le _ _) h2⟩|exact⟨h1,by simp⟩
theorem z3H(op:Int)(tx:ByteArray)(h1:tx.size≤1048576)(r:List Int×LS)(h2:r.1.length≤1048576):Gr 2 r.2 (stE W op tx r):=by
 unfold stE
 repeat' split
 ·exact((Gr.refl _).put j3).mono (by omega)
 ·exact((Gr.refl _).put ⟨h1,h2⟩).mono (by omega)
 ·exact(((Gr.refl _).set j3).put j3).mono (by omega)
 ·exact(Gr.refl _).mono (by omega)
 ·exact((Gr.refl _).put j3).mono (by omega)
 ·exact((Gr.refl _).put j3).mono (by omega)
end
end Go.Ev.G
set_option maxHeartbeats 4000000
namespace Go.Ev.G
theorem zqz(l r:List ZB):bH (l++r)=bH l+bH r:=by
 induction l with
 |nil=>rw[List.nil_append,oT];omega
 |cons x l ih=>rw[List.cons_append,dH,dH,ih];omega
def kK(ks:List ZB):Int:=8*(bH ks+ks.length)
theorem gC:kK []=0:=by unfold kK;rw[oT];rfl
theorem bO(k:ZB)(ks:List ZB):kK (k::ks)=8*(k.sz+1)+kK ks:=by unfold kK;rw[dH,lc];omega
theorem zjK(l r:List ZB):kK (l++r)=kK l+kK r:=by unfold kK;rw[zqz,la];omega
theorem K3(ks:List ZB):0≤kK ks:=by have:=dC ks;unfold kK;omega
theorem tJ(op:Int)(tx:ByteArray)(v:Int)(ks:List ZB):kK ks+8≤8*((ZB.mk op tx v ks).sz+1):=by rw[ZB.sz_eq];unfold kK;omega
def kA(x:ZB):Int:=kK x.ks.dropLast
def kD(x:ZB):Int:=kK x.ks-kK x.ks.dropLast
theorem kAD(x:ZB):0≤kA x∧0≤kD x∧kA x+kD x+8≤8*(x.sz+1):=by
 obtain⟨op,tx,v,ks⟩:=x
 have h1:=K3 ks.dropLast
 have h2:=tJ op tx v ks
 have h3:kK ks.dropLast≤kK ks:=by
  rcases List.eq_nil_or_concat ks with rfl|⟨l,z,rfl⟩
  ·simp
  ·rw[List.concat_eq_append,List.dropLast_concat,zjK];have:=K3 [z];omega
 unfold kA kD
 simp only[ZB.ks_mk] at *
 omega
section
variable(W:List ZC)
structure GrN (x:ZB):Prop where
 e:∀z,Gr (8*(x.sz+1)) z ((x.lw W).e z).2
 s:∀z,Gr (8*(x.sz+1)) z ((x.lw W).s z)
 b:∀z,Gr (8*(x.sz+1)) z ((x.lw W).b z)
 a:∀z,Gr (kA x) z ((x.lw W).a z).2
 d:∀z,Gr (kD x) z ((x.lw W).d z)
variable{W}
theorem Kk:∀{ks:List ZB},(∀y∈ks,GrN W y)→∀z,Gr (kK ks) z (esK (lws W ks) z).2
 |[],_,z=>by rw[gC];exact Gr.refl z
 |k::ks,h,z=>by
  rw[bO]
  exact((h k (by simp)).e z).trans (Kk (fun y hy=>h y (by simp[hy])) _)
theorem zX9:∀{ks:List ZB},(∀y∈ks,GrN W y)→∀z,Gr (kK ks) z (ssK (lws W ks) z)
 |[],_,z=>by rw[gC];exact Gr.refl z
 |k::ks,h,z=>by
  rw[bO]
  exact((h k (by simp)).s z).trans (zX9 (fun y hy=>h y (by simp[hy])) _)
def sAs:List ZB→Int
 |[]=>0
 |k::ks=>kA k+sAs ks
def sDs:List ZB→Int
 |[]=>0
 |k::ks=>kD k+7+sDs ks
theorem sAD:∀ks:List ZB,sAs ks+sDs ks≤kK ks∧0≤sAs ks∧0≤sDs ks
 |[]=>by rw[gC];simp[sAs,sDs]
 |k::ks=>by
  have h1:=kAD k
  have h2:=sAD ks
  rw[bO,sAs,sDs]
  omega
theorem zzO:∀{ks:List ZB},(∀y∈ks,GrN W y)→∀A N z,Gr (sAs ks) z (caK (ks.map fun k=>(k.op,k.lw W)) A N z).2.2
 |[],_,A,N,z=>Gr.refl z
 |k::ks,h,A,N,z=>by
  have h0:=(kAD k).1
  rw[mc,caK,sAs]
  have ih:=fun A N z=>zzO (fun y hy=>h y (by simp[hy]):∀y∈ks,GrN W y) A N z
  split
  ·exact((h k (by simp)).a z).trans (ih _ _ _)
  split
  ·exact((h k (by simp)).a z).trans (ih _ _ _)
  ·exact(ih _ _ _).mono (by omega)
theorem Hf:∀(ks:List (Int×LW)) A N z,((caK ks A N z).1.length:Int)≤A.length+3*ks.length
 |[],A,N,z=>by simp[caK]
 |k::ks,A,N,z=>by
  rw[caK]
  split
  ·refine Int.le_trans (Hf ks _ _ _) ?_
   simp only[la,lc,ln];omega
  split
  ·refine Int.le_trans (Hf ks _ _ _) ?_
   simp only[la,lc,ln];omega
  ·refine Int.le_trans (Hf ks _ _ _) ?_
   simp only[lc];omega
theorem z9P(i D:Int)(z:LS):Gr 4 z (cb1 i D z):=((((Gr.refl z).set j3).set j3).lab.put j3).mono (by omega)
theorem zz7(D B E:Int):∀{ks:List ZB},(∀y∈ks,GrN W y)→∀i z,Gr (sDs ks) z (cbK W D B E i (ks.map fun k=>(k.op,k.tx,k.lw W)) z)
 |[],_,i,z=>Gr.refl z
 |k::ks,h,i,z=>by
  rw[mc,cbK,sDs]
  refine Gr.trans ?_ (zz7 D B E (fun y hy=>h y (by simp[hy])) _ _)
  have h0:Gr 5 z (if k.op=32 then(cb1 i D z).put (d7 (fx W k.tx) B) else cb1 i D z):=by
   split
   ·exact((z9P i D z).put j3).mono (by omega)
   ·exact(z9P i D z).mono (by omega)
  exact(((h0.trans ((h k (by simp)).d _)).put j3).put j3).mono (by omega)
theorem zj6{ks:List ZB}(h:Pz 12 ks=true):ks.length≤4:=by
 unfold Pz at h
 simp only[decide_true,Bool.not_true,Bool.false_or] at h
 split at h
 ·simp only[decide_eq_true_eq] at h
  split at h<;>omega
 ·simp at h
theorem z8J{ks:List ZB}(hl:ks.length≤4)(h:∀y∈ks,GrN W y)(z:LS):Gr (kK ks+5) z (zy1 W (ks.map fun k=>(k.op,k.tx,k.lw W)) z):=by
 have h0:=sAD ks
 unfold zy1
 simp only[List.map_map]
 rw[show((fun k:Int×ByteArray×LW=>(k.1,k.2.2)) ∘ fun k:ZB=>(k.op,k.tx,k.lw W))=fun k:ZB=>(k.op,k.lw W) from rfl]
 have h1:=zzO h [] 0 z
 have h2:=Hf (ks.map fun k=>(k.op,k.lw W)) [] 0 z
 rw[lm,ln] at h2
 generalize caK (ks.map fun k=>(k.op,k.lw W)) [] 0 z=r at *
 have h3:=(h1.reg.reg.put (t:=A3 r.2.2.n (r.2.2.n+1) r.2.1 r.1) ⟨zyQ,by show r.1.length≤_;omega⟩).lab
 exact((h3.trans (zz7 _ _ _ h 0 _)).put j3).mono (by omega)
theorem z7Z{a b:ZB}(ha:GrN W a)(hb:GrN W b)(z:LS):Gr (kK [a,b]+3) z (zQl (a.lw W) (b.lw W) z):=by
 rw[bO,bO,gC]
 exact((((ha.e z).lab.put j3).trans (hb.b _)).put j3).mono (by omega)
theorem z8C{a b:ZB}(ha:GrN W a)(hb:GrN W b)(z:LS):Gr (kK [a,b]+2) z (zQt (a.lw W) (b.lw W) z):=by
 rw[bO,bO,gC]
 exact(((ha.e z).lab.put j3).trans (hb.b _)).mono (by omega)
theorem z7U{a b c:ZB}(ha:GrN W a)(hb:GrN W b)(hc:GrN W c)(z:LS):Gr (kK [a,b,c]+6) z (zQB (a.lw W) (b.lw W) (c.lw W) z):=by
 have h:=z8C ha hb z
 rw[bO,bO,gC] at h
 rw[bO,bO,bO,gC]
 exact((((h.lab.put j3).put j3).trans (hc.b _)).put j3).mono (by omega)
theorem z3j{a:ZB}(ha:GrN W a)(z:LS):Gr (kK [a]+2) z (whE (a.lw W) z).2:=by
 rw[bO,gC]
 exact(((Gr.refl z).lab.put j3).trans (ha.e _)).mono (by omega)
theorem z31{a b:ZB}(ha:GrN W a)(hb:GrN W b)(z:LS):Gr (kK [a,b]+6) z (whK (a.lw W) (b.lw W) z):=by
 have h:=z3j ha z
 rw[bO,gC] at h
 rw[bO,bO,gC]
 exact((((h.lab.put j3).trans (hb.b _)).put j3).put j3).mono (by omega)
theorem Lm(ks:List ZB):(lws W ks).length=ks.length:=List.length_map _
theorem grN(x:ZB)(hx:x.Sm)(hz:x.sel=true):GrN W x:=by
 refine ZB.ind (P:=fun x=>x.Sm→x.sel=true→GrN W x) (fun op tx v ks ih hx hz=> ?_) x hx hz
 have hk:=hx.ks
 have ht:=hx.tx
 simp only[ZB.ks_mk,ZB.tx_mk] at hk ht
 rw[sN,bE,List.all_eq_true] at hz
 have H:∀y∈ks,GrN W y:=fun y hy=>ih y hy (hk.2 y hy) (hz.2 y hy)
 have hle:=tJ op tx v ks
 have hK:=K3 ks
 have hes:∀z,Gr (kK ks) z (esK (lws W ks) z).2:=Kk H
 refine⟨fun z=> ?_,fun z=> ?_,fun z=> ?_,fun z=> ?_,fun z=> ?_⟩
 ·rw[zKI]
  split
  ·exact(Gr.refl z).mono (by omega)
  ·exact((hes z).set (z8v _ _ _ _ ht (by rw[He,Lm];omega))).mono (by omega)
 ·rw[Yj]
  unfold stK
  split
  ·match ks,H,hle with
   |[],_,_=>exact(Gr.refl z).mono (by omega)
   |[_],_,_=>exact(Gr.refl z).mono (by omega)
   |[a,b],H,hle=>exact(z7Z (H a (by simp)) (H b (by simp)) z).mono (by omega)
   |[a,b,c],H,hle=>exact(z7U (H a (by simp)) (H b (by simp)) (H c (by simp)) z).mono (by omega)
   |_::_::_::_::_,_,_=>exact(Gr.refl z).mono (by omega)
  split
  ·match ks,H,hle with
   |[],_,_=>exact(Gr.refl z).mono (by omega)
   |[_],_,_=>exact(Gr.refl z).mono (by omega)
   |[a,b],H,hle=>exact(z31 (H a (by simp)) (H b (by simp)) z).mono (by omega)
   |_::_::_::_,_,_=>exact(Gr.refl z).mono (by omega)
  split
  ·rename_i h12
   rw[List.map_map]
   exact(z8J (zj6 (by rw[←h12];exact hz.1)) H z).mono (by omega)
  ·rw[Hc]
   exact((hes z).trans (z3H W op tx ht _ (by rw[He,Lm];omega))).mono (by omega)
 ·rw[z3y]
  exact(zX9 H z).mono (by omega)
 ·rw[z4v]
  unfold kA lws
  rw[←List.map_dropLast]
  exact Kk (fun y hy=>H y (List.dropLast_subset ks hy)) z
 ·rw[z48]
  unfold kD lws
  rw[List.getLast?_map]
  rcases List.eq_nil_or_concat ks with rfl|⟨l0,y0,rfl⟩
  ·exact(Gr.refl z).mono (by simp only[ZB.ks_mk,List.dropLast_nil];omega)
  ·rw[List.concat_eq_append] at *
   simp only[List.getLast?_concat,oms,ZB.ks_mk,List.dropLast_concat,zjK,bO,gC]
   exact((H y0 (by simp)).b z).mono (by omega)
end
set_option maxRecDepth 8000
set_option maxHeartbeats 8000000
structure LS.bd (z:LS) (k:Int):Prop where
 l:(z.c.length:Int)≤k
 n0:0≤z.n
 n:z.n≤k
 m0:0≤z.m
 m:z.m≤k
theorem LS.bd.mono{z:LS}{k k':Int}(h:z.bd k)(hk:k≤k'):z.bd k':=⟨by have:=h.l;omega,h.n0,by have:=h.n;omega,h.m0,by have:=h.m;omega⟩
theorem LS.bd.gr{z s':LS}{k j:Int}(h:z.bd k)(g:Gr j z s'):s'.bd (k+j):=⟨by have:=h.l;have:=g.c1;omega,by have:=h.n0;have:=g.n0;omega,by have:=h.n;have:=g.n1;omega,by have:=h.m0;have:=g.m0;omega,by have:=h.m;have:=g.m1;omega⟩
abbrev d8(W:List ZC)(z:LS):D:= .s 4 [[.s 2 (W.map ZC.o),.s 7 (z.c.map ZD.o),DI z.n,DI z.m]]
abbrev lh(W:List ZC)(z:LS):Heap:=upd emp (0,0) (some (d8 W z))
abbrev lhl(W:List ZC)(z:LS)(as:List Int):Heap:=upd (upd emp (0,1) (some (.s 1 (bB as)))) (0,0) (some (d8 W z))
abbrev lp:X:= .ptr (0,0) [] 0 0
abbrev tXl(x:ZD)(k:Nat):X:= .agg [I x.fOp,I x.fD,I x.fA,I x.fB,I x.fN,Str x.fS,.ref (0,k) []]
abbrev tX0(x:ZD):X:= .agg [I x.fOp,I x.fD,I x.fA,I x.fB,I x.fN,Str x.fS,.d (.s 1 [])]
theorem zy0{α:Type}{k:Id}:(upd emp k none:Id→Option α)=emp:=by funext j;simp[upd,emp]
section
variable(W:List ZC)(z:LS)
theorem iS(hs:z.bd 1099511627776)(t:ZD)(ht:t.fArgs=[]):evCW tab aZ [lp,tX0 t] (lh W z) 1=some (.tup [],lh W (z.put t)):=by
 have h1:=hs.l
 rw[aP uP _ _ _ rfl,oJ]
 simp only[lh,d8]
 (repeat'(first|simp -implicitDefEqProofs (disch:=first|assumption|omega|(simp only[aE,aQ,aD,i64,sa,aC,lm,la,lc,ln];omega)) only[go_sem,simprocAttr,ZC.noR,ZD.noR]|((first|rw[aL]|rw[aF]|rw[aG]|rw[aM]|rw[aN]|rw[aH]|rw[aI]|rw[aO]|skip);split)))
 simp only[LS.put,ZD.o,List.map_append,mc,mn,ht,bB,mn]
theorem zjH(hs:z.bd 1099511627776)(t:ZD):evCW tab aZ [lp,tXl t 1] (lhl W z t.fArgs) 1=some (.tup [],lh W (z.put t)):=by
 have h1:=hs.l
 rw[aP uP _ _ _ rfl,oJ]
 simp only[lhl,d8]
 (repeat'(first|simp -implicitDefEqProofs (disch:=first|assumption|omega|(simp only[aE,aQ,aD,i64,sa,aC,lm,la,lc,ln];omega)) only[go_sem,simprocAttr,zy0,ZC.noR,ZD.noR]|((first|rw[aL]|rw[aF]|rw[aG]|rw[aM]|rw[aN]|rw[aH]|rw[aI]|rw[aO]|skip);split)))
 simp only[LS.put,ZD.o,List.map_append,mc,mn,lh,d8]
theorem z8P(hs:z.bd 1099511627776):evCW tab jQ [lp] (lh W z) 1=some (I z.n,lh W z.reg):=by
 have h1:=hs.n0;have h2:=hs.n
 rw[aP Ka _ _ _ rfl,uQ]
 simp only[lh,d8,LS.reg]
 (repeat'(first|simp -implicitDefEqProofs (disch:=first|assumption|omega|(simp only[aE,aQ,aD,i64,sa,aC,lm,la,lc,ln];omega)) only[go_sem,simprocAttr,show z.n+1-1=z.n by omega]|((first|rw[aL]|rw[aF]|rw[aG]|rw[aM]|rw[aN]|rw[aH]|rw[aI]|rw[aO]|skip);split)))
theorem zwa(hs:z.bd 1099511627776):evCW tab dB [lp] (lh W z) 1=some (I z.m,lh W z.lab):=by
 have h1:=hs.m0;have h2:=hs.m
 rw[aP F7 _ _ _ rfl,rO]
 simp only[lh,d8,LS.lab]
 (repeat'(first|simp -implicitDefEqProofs (disch:=first|assumption|omega|(simp only[aE,aQ,aD,i64,sa,aC,lm,la,lc,ln];omega)) only[go_sem,simprocAttr,show z.m+1-1=z.m by omega]|((first|rw[aL]|rw[aF]|rw[aG]|rw[aM]|rw[aN]|rw[aH]|rw[aI]|rw[aO]|skip);split)))
theorem So(hs:z.bd 1099511627775)(t:ZD)(ht:t.fArgs=[]):evCW tab bN [lp,tX0 t] (lh W z) 1=some (I z.n,lh W (z.set t)):=by
 have h1:=hs.l
 have g0:=z8P W z (hs.mono (by omega))
 have g1:=zjH W z.reg ⟨by have:=hs.l;show(z.c.length:Int)≤_;omega,by have:=hs.n0;show 0≤z.n+1;omega,by have:=hs.n;show z.n+1≤_;omega,hs.m0,by have:=hs.m;show z.m≤_;omega⟩ {t with fD:=z.n}
 rw[aP u7 _ _ _ rfl,oN]
 simp only[lhl,lh,d8,ht,bB,mn,tXl,LS.reg,LS.put] at g0 g1
 simp only[lh,d8]
 (repeat'(first|simp -implicitDefEqProofs (disch:=first|assumption|omega|(simp only[aE,aQ,aD,i64,sa,aC,lm,la,lc,ln];omega)) only[go_sem,simprocAttr,g0,g1,ZC.noR,ZD.noR,LS.set,ht]|((first|rw[aL]|rw[aF]|rw[aG]|rw[aM]|rw[aN]|rw[aH]|rw[aI]|rw[aO]|skip);split)))
theorem z4D(hs:z.bd 1099511627775)(t:ZD):evCW tab bN [lp,tXl t 1] (lhl W z t.fArgs) 1=some (I z.n,lh W (z.set t)):=by
 have h1:=hs.l
 have g0:=z8P W z (hs.mono (by omega))
 have g1:=zjH W z.reg ⟨by have:=hs.l;show(z.c.length:Int)≤_;omega,by have:=hs.n0;show 0≤z.n+1;omega,by have:=hs.n;show z.n+1≤_;omega,hs.m0,by have:=hs.m;show z.m≤_;omega⟩ {t with fD:=z.n}
 rw[aP u7 _ _ _ rfl,oN]
 simp only[lhl,lh,d8,tXl,LS.reg,LS.put] at g0 g1
 simp only[lhl,lh,d8]
 (repeat'(first|simp -implicitDefEqProofs (disch:=first|assumption|omega|(simp only[aE,aQ,aD,i64,sa,aC,lm,la,lc,ln];omega)) only[go_sem,simprocAttr,g0,g1,ZC.noR,ZD.noR,LS.set,zy0]|((first|rw[aL]|rw[aF]|rw[aG]|rw[aM]|rw[aN]|rw[aH]|rw[aI]|rw[aO]|skip);split)))
end
set_option maxRecDepth 8000
set_option maxHeartbeats 16000000
section
variable(W:List ZC)(hW:W.length≤16777216)
abbrev Js(y:ZB):Prop:=∀(z:LS) (k:Int),z.bd k→k+8*(y.sz+1)≤1099511627775→evCW tab fJ [lp,y.x] (lh W z) 1=some (I ((y.lw W).e z).1,lh W ((y.lw W).e z).2)
theorem zkz(ks:List ZB)(hks:ks.length≤1048576)(H:∀y∈ks,Js W y)(HG:∀y∈ks,GrN W y):∀(Bl:List ZB) (j:Nat) (A:List Int) (z:LS) (k:Int),ks.drop j=Bl→A.length=j→z.bd k→k+kK Bl≤1099511627775 →
  loopW tab [0,5,10,11,12] gF {env:=upd (upd (upd (upd (upd emp 12 (some (I (j:Int)))) 11 (some (I (ks.length:Int)))) 10 (some (.d (.r (ks.map ZB.r))))) 5 (some (.ref (1,0) []))) 0 (some lp),heap:=upd (lh W z) (1,0) (some (.s 1 (bB A))),fr:=1,next:=1} =
   some (.ext 0,{env:=upd emp 5 (some (.ref (1,0) [])),heap:=upd (lh W (esK (lws W Bl) z).2) (1,0) (some (.s 1 (bB (A++(esK (lws W Bl) z).1)))),fr:=1,next:=1})
 |[],j,A,z,k,hd,hA,hs,hk=>by
  have h1:=b9 (j:=(j:Int)) (by simpa using hd) (by omega)
  unfold loopW
  conv=>lhs;arg 1;unfold gF
  rw[show lws W []=[] from rfl,esK]
  simp only[List.append_nil]
  simp -implicitDefEqProofs (disch:=first|assumption|omega) only[go_sem,simprocAttr,h1,lh,d8]
 |y::Bl,j,A,z,k,hd,hA,hs,hk=>by
  have h1:=bK (j:=(j:Int)) (by simpa using hd) (by omega)
  have h5:=h1.2.1
  have h2:=eK ZB.r h1.1
  rw[ZB.r_def,Int.toNat_natCast] at h2
  rw[bO] at hk
  have hkn:=K3 Bl
  have hyn:=y.sz_nn
  have g0:=H y h1.2.2.2.1 z k hs (by omega)
  have gg:=(HG y h1.2.2.2.1).e z
  have ih:=zkz ks hks H HG Bl (j+1) (A++[((y.lw W).e z).1]) ((y.lw W).e z).2 _ (by have:=h1.2.2.1;simpa using this) (by rw[la,hA];rfl) (hs.gr gg) (by omega)
  rw[show(((j+1:Nat)):Int)=(j:Int)+1 by omega] at ih
  rw[show lws W (y::Bl)=y.lw W::lws W Bl from rfl,esK]
  rw[List.append_assoc] at ih
  rw[show [((y.lw W).e z).1]++(esK (lws W Bl) ((y.lw W).e z).2).1=((y.lw W).e z).1::(esK (lws W Bl) ((y.lw W).e z).2).1 from rfl] at ih
  rw[←ih]
  conv=>lhs;unfold loopW;arg 1;unfold gF
  simp only[lh,d8] at g0 ⊢
  have hn:bB (A++[((y.lw W).e z).1])=bB A++[[DI ((y.lw W).e z).1]]:=by simp[bB]
  rw[hn]
  simp -implicitDefEqProofs (disch:=first|assumption|omega|(simp only[aE,aQ,aD,i64,sa,aC,lm,la,lc,ln];omega)) only[go_sem,simprocAttr,h5,h2,g0,ZB.fzs,ZB.fzr,ZC.noR,ZD.noR,bB,lm,hA]
theorem Ur(ks:List ZB)(hks:ks.length≤1048576)(H:∀y∈ks,Js W y)(HG:∀y∈ks,GrN W y)(z:LS)(k:Int)(hs:z.bd k)(hk:k+kK ks≤1099511627775) :
  evCW tab gY [lp,.d (.r (ks.map ZB.r))] (lh W z) 1=some (.d (.s 1 (bB (esK (lws W ks) z).1)),lh W (esK (lws W ks) z).2):=by
 have h0:=zkz W ks hks H HG ks 0 [] z k rfl rfl hs hk
 rw[List.nil_append] at h0
 simp only[lh,d8,cK,show bB []=[] from rfl] at h0 ⊢
 rw[aP Ep _ _ _ rfl,rI]
 generalize esK (lws W ks) z=r at *
 simp -implicitDefEqProofs (disch:=first|assumption|omega) only[go_sem,simprocAttr,h0]
theorem Sh.ekids{op:Int}{tx:ByteArray}{v:Int}{ks:List ZB}(h:Sh 0 (.mk op tx v ks)):∀y∈ks,Sh 0 y:=by
 cases h with
 |ex0 h=>simp
 |ex1 h a=>simpa using a
 |ex2 h a b=>simpa using ⟨a,b⟩
 |ex3 a b c=>simpa using ⟨a,b,c⟩
 |cll h=>exact h
include hW in
theorem z5w(x:ZB)(hx:x.Sm)(hsl:x.sel=true)(hsh:Sh 0 x):Js W x:=by
 refine ZB.ind (P:=fun x=>x.Sm→x.sel=true→Sh 0 x→Js W x) (fun op tx v ks ih hx hsl hsh=> ?_) x hx hsl hsh
 intro z k hs hk
 have hk':=hx.ks
 have htx:=hx.tx
 simp only[ZB.ks_mk,ZB.tx_mk] at hk' htx
 have hk1:=hk'.1
 rw[sN,bE,List.all_eq_true] at hsl
 have H:∀y∈ks,Js W y:=fun y hy=>ih y hy (hk'.2 y hy) (hsl.2 y hy) (hsh.ekids y hy)
 have HG:∀y∈ks,GrN W y:=fun y hy=>grN y (hk'.2 y hy) (hsl.2 y hy)
 have hle:=tJ op tx v ks
 have hkn:=K3 ks
 have hop:=hsh.op.1 rfl
 simp only[ZB.op_mk] at hop
 rw[zKI]
 simp only[ZB.x,ZB.op_mk,ZB.tx_mk,ZB.v_mk,ZB.ks_mk]
 by_cases c20:op=20
 ·rw[if_pos c20]
  subst c20
  have g0:=kU W tx (by omega)
  rw[aP tL _ _ _ rfl,nT]
  simp only[lh,d8]
  simp -implicitDefEqProofs (disch:=first|assumption|omega) only[go_sem,simprocAttr,g0,ZC.fzs]
 rw[if_neg c20]
 have g0:=Ur W ks hk1 H HG z k hs (by omega)
 have hbd:=hs.gr (Kk HG z)
 have hlen:(esK (lws W ks) z).1.length=ks.length:=by rw[He,Lm]
 have gs:=fun t ht=>So W (esK (lws W ks) z).2 (hbd.mono (by omega)) t ht
 have gl:=fun t=>z4D W (esK (lws W ks) z).2 (hbd.mono (by omega)) t
 rw[aP tL _ _ _ rfl,nT]
 generalize esK (lws W ks) z=r at *
 obtain⟨as,s'⟩:=r
 simp only at g0 hlen gs gl hbd ⊢
 have hn:=hbd.n0
 have hF:∀xs:List Int,Ev.fzs (bB xs)=bB xs:=vK
 cases hsh with
 |ex0 h =>
  simp only[ln,List.length_eq_zero_iff] at hlen
  subst hlen
  rcases h with rfl|rfl|rfl|rfl
  ·have g1:=gs (eM 19 tx v []) rfl
   simp only[eM,if_true,eQ,tX0,lh,d8,bB,mn] at g0 g1 ⊢
   simp -implicitDefEqProofs (disch:=first|assumption|omega) only[go_sem,simprocAttr,g0,g1,ZC.noR,ZD.noR]
  ·exact absurd rfl c20
  ·have g1:=gs (eM 30 tx v []) rfl
   simp only[eM,Int.reduceEq,if_false,if_true,tX0,lh,d8,bB,mn] at g0 g1 ⊢
   simp -implicitDefEqProofs (disch:=first|assumption|omega) only[go_sem,simprocAttr,g0,g1,ZC.noR,ZD.noR]
  ·have g1:=gs (eM 31 tx v []) rfl
   simp only[eM,Int.reduceEq,if_false,if_true,tX0,lh,d8,bB,mn] at g0 g1 ⊢
   simp -implicitDefEqProofs (disch:=first|assumption|omega) only[go_sem,simprocAttr,g0,g1,ZC.noR,ZD.noR]
 |ex1 h a =>
  obtain⟨a0,rfl⟩:=zQT hlen
  rcases h with rfl|rfl
  ·have g1:=gs (eM 27 tx v [a0]) rfl
   simp only[eM,ix,List.getD_cons_zero,Int.reduceEq,if_false,if_true,tX0,lh,d8,bB,mc,mn] at g0 g1 ⊢
   simp -implicitDefEqProofs (disch:=first|assumption|omega) only[go_sem,simprocAttr,g0,g1,ZC.noR,ZD.noR]
  ·have g1:=gs (eM 28 tx v [a0]) rfl
   simp only[eM,ix,List.getD_cons_zero,Int.reduceEq,if_false,if_true,tX0,lh,d8,bB,mc,mn] at g0 g1 ⊢
   simp -implicitDefEqProofs (disch:=first|assumption|omega) only[go_sem,simprocAttr,g0,g1,ZC.noR,ZD.noR]
 |ex2 h a b =>
  obtain⟨a0,a1,rfl⟩:=zjm hlen
  have e:eM op tx v [a0,a1]=⟨op-21+3,0,a0,a1,0,emS,[]⟩:=by
   unfold eM
   rw[if_neg (by omega),if_neg (by omega),if_neg (by omega),if_neg (by omega),if_neg (by omega),if_neg (by omega),if_neg (by omega)]
   rfl
  have g1:=gs (eM op tx v [a0,a1]) (by rw[e])
  rw[e] at g1 ⊢
  have n19:(op=19)=False:=eq_false (by omega)
  have n26:(op=26)=False:=eq_false (by omega)
  have n27:(op=27)=False:=eq_false (by omega)
  have n28:(op=28)=False:=eq_false (by omega)
  have n29:(op=29)=False:=eq_false (by omega)
  have n30:(op=30)=False:=eq_false (by omega)
  have n31:(op=31)=False:=eq_false (by omega)
  simp only[tX0,lh,d8,bB,mc,mn] at g0 g1 ⊢
  simp -implicitDefEqProofs (disch:=first|assumption|omega) only[go_sem,simprocAttr,g0,g1,ZC.noR,ZD.noR,c20,n19,n26,n27,n28,n29,n30,n31]
 |ex3 a b c =>
  obtain⟨a0,a1,a2,rfl⟩:=zWG hlen
  have g1:=gl (eM 29 tx v [a0,a1,a2])
  simp only[eM,ix,List.getD_cons_zero,List.getD_cons_succ,Int.reduceEq,if_false,if_true,tXl,lhl,lh,d8,bB,mc,mn,List.drop_succ_cons,List.drop_zero] at g0 g1 ⊢
  simp -implicitDefEqProofs (disch:=first|assumption|omega) only[go_sem,simprocAttr,g0,g1,ZC.noR,ZD.noR]
 |cll h =>
  have g1:=gl (eM 26 tx v as)
  simp only[eM,Int.reduceEq,if_false,if_true,tXl,lhl,lh,d8] at g0 g1 ⊢
  simp -implicitDefEqProofs (disch:=first|assumption|omega) only[go_sem,simprocAttr,g0,g1,ZC.noR,ZD.noR]
end
set_option maxRecDepth 8000
set_option maxHeartbeats 16000000
theorem dK{z:LS}{k:Int}(h:z.bd k)(t:ZD):(z.put t).bd (k+1):=⟨by have:=h.l;simp only[LS.put,la,lc,ln];omega,h.n0,by have:=h.n;show z.n≤_;omega,h.m0,by have:=h.m;show z.m≤_;omega⟩
theorem Gq{z:LS}{k:Int}(h:z.bd k)(t:ZD):(z.set t).bd (k+1):=⟨by have:=h.l;simp only[LS.set,la,lc,ln];omega,by have:=h.n0;show 0≤z.n+1;omega,by have:=h.n;show z.n+1≤_;omega,h.m0,by have:=h.m;show z.m≤_;omega⟩
theorem pZ{z:LS}{k:Int}(h:z.bd k):z.lab.bd (k+1):=⟨by have:=h.l;show(z.c.length:Int)≤_;omega,h.n0,by have:=h.n;show z.n≤_;omega,by have:=h.m0;show 0≤z.m+1;omega,by have:=h.m;show z.m+1≤_;omega⟩
theorem zzD{z:LS}{k:Int}(h:z.bd k):z.reg.bd (k+1):=⟨by have:=h.l;show(z.c.length:Int)≤_;omega,by have:=h.n0;show 0≤z.n+1;omega,by have:=h.n;show z.n+1≤_;omega,h.m0,by have:=h.m;show z.m≤_;omega⟩
section
variable(W:List ZC)(hW:W.length≤16777216)
abbrev z5x(y:ZB):Prop:=∀(z:LS) (k:Int),z.bd k→k+8*(y.sz+1)≤1099511627775→evCW tab fL [lp,y.x] (lh W z) 1=some (.tup [],lh W ((y.lw W).s z))
abbrev Xi(y:ZB):Prop:=∀(z:LS) (k:Int),z.bd k→k+8*(y.sz+1)≤1099511627775→evCW tab d3 [lp,y.x] (lh W z) 1=some (.tup [],lh W ((y.lw W).b z))
include hW in
theorem Mt(z:LS)(k:Int)(hs:z.bd k)(hk:k≤1099511627776)(tx:ByteArray)(r:Int):evCW tab fU [lp,Str tx,I r] (lh W z) 1=some (.tup [],lh W (z.put (d7 (fx W tx) r))):=by
 have g0:=kU W tx (by omega)
 have g1:=iS W z (hs.mono hk) (d7 (fx W tx) r) rfl
 rw[aP Ec _ _ _ rfl,qG]
 simp only[lh,d8,tX0,d7] at g1 ⊢
 simp -implicitDefEqProofs (disch:=first|assumption|omega) only[go_sem,simprocAttr,g0,g1,ZC.fzs,ZC.noR,ZD.noR]
def yW(op:Int):Prop:=op=6∨op=7∨op=9∨op=11∨op=13∨op=14∨op=15∨op=16∨op=17
theorem kJ(op:Int)(h:yW op):call tab t6 [I op]=some (I (rU op)):=by
 rw[aJ Sk _ rfl,G2]
 rcases h with rfl|rfl|rfl|rfl|rfl|rfl|rfl|rfl|rfl<;>simp only[rU,Int.reduceEq,if_true,if_false]<;>simp -implicitDefEqProofs (disch:=first|assumption|omega) only[go_sem,simprocAttr]
theorem zkY(x:ZB)(hks:x.ks.length≤1048576)(H:∀y∈x.ks,z5x W y)(HG:∀y∈x.ks,GrN W y):∀(Bl:List ZB) (j:Nat) (z:LS) (k:Int),x.ks.drop j=Bl→z.bd k→k+kK Bl≤1099511627775 →
  loopW tab [0,7,8,9] gB {env:=upd (upd (upd (upd emp 9 (some (I (j:Int)))) 8 (some (I (x.ks.length:Int)))) 7 (some (.d (.r (x.ks.map ZB.r))))) 0 (some lp),heap:=lh W z,fr:=1,next:=0} =
   some (.ext 0,{env:=emp,heap:=lh W (ssK (lws W Bl) z),fr:=1,next:=0})
 |[],j,z,k,hd,hs,hk=>by
  have h1:=b9 (j:=(j:Int)) (by simpa using hd) (by omega)
  unfold loopW
  conv=>lhs;arg 1;unfold gB
  rw[show lws W []=[] from rfl,ssK]
  simp -implicitDefEqProofs (disch:=first|assumption|omega) only[go_sem,simprocAttr,h1,lh,d8]
 |y::Bl,j,z,k,hd,hs,hk=>by
  have h1:=bK (j:=(j:Int)) (by simpa using hd) (by omega)
  have h5:=h1.2.1
  have h2:=eK ZB.r h1.1
  rw[ZB.r_def,Int.toNat_natCast] at h2
  rw[bO] at hk
  have hkn:=K3 Bl
  have hyn:=y.sz_nn
  have g0:=H y h1.2.2.2.1 z k hs (by omega)
  have gg:=(HG y h1.2.2.2.1).s z
  have ih:=zkY x hks H HG Bl (j+1) ((y.lw W).s z) _ (by have:=h1.2.2.1;simpa using this) (hs.gr gg) (by omega)
  rw[show(((j+1:Nat)):Int)=(j:Int)+1 by omega] at ih
  rw[show lws W (y::Bl)=y.lw W::lws W Bl from rfl,ssK,←ih]
  conv=>lhs;unfold loopW;arg 1;unfold gB
  simp only[lh,d8] at g0 ⊢
  simp -implicitDefEqProofs (disch:=first|assumption|omega) only[go_sem,simprocAttr,h5,h2,g0,ZB.fzs,ZB.fzr,ZC.noR,ZD.noR]
theorem zY0(x:ZB)(hks:x.ks.length≤1048576)(H:∀y∈x.ks,z5x W y)(HG:∀y∈x.ks,GrN W y):Xi W x:=by
 intro z k hs hk
 have hle:=tJ x.op x.tx x.v x.ks
 rw[show ZB.mk x.op x.tx x.v x.ks=x from by cases x;rfl] at hle
 have h0:=zkY W x hks H HG x.ks 0 z k rfl hs (by omega)
 have e:((x.lw W).b z)=ssK (lws W x.ks) z:=by
  obtain⟨op,tx,v,ks⟩:=x
  exact z3y W op tx v ks z
 rw[e]
 have hl:=(show Low 1 (lh W (ssK (lws W x.ks) z)) from(Low.emp 0).upd (by omega) _).drop (Nat.le_refl 1)
 rw[aP Gl _ _ _ rfl,rY]
 generalize ssK (lws W x.ks) z=s' at *
 simp only[lh,d8,cK] at h0 hl ⊢
 simp -implicitDefEqProofs (disch:=first|assumption|omega) only[go_sem,simprocAttr,h0,hl]
theorem zxb(tx:ByteArray)(v:Int)(a b:ZB)(Ea:Js W a)(Bb:Xi W b)(Ga:GrN W a)(Gb:GrN W b)(z:LS)(k:Int)(hs:z.bd k)(hk:k+8*((ZB.mk 4 tx v [a,b]).sz+1)≤1099511627775) :
  evCW tab fX [lp,(ZB.mk 4 tx v [a,b]).x] (lh W z) 1=some (.tup [],lh W (zQl (a.lw W) (b.lw W) z)):=by
 have hle:=tJ 4 tx v [a,b]
 rw[bO,bO,gC] at hle
 have ha:=a.sz_nn
 have hb:=b.sz_nn
 have g1:=Ea z k hs (by omega)
 have b1:=hs.gr (Ga.e z)
 unfold zQl
 generalize (a.lw W).e z=r at *
 obtain⟨r,s1⟩:=r
 simp only at g1 b1 ⊢
 have g2:=zwa W s1 (b1.mono (by omega))
 have b2:=pZ b1
 have g3:=iS W s1.lab (b2.mono (by omega)) (dG r s1.m) rfl
 have b3:=dK b2 (dG r s1.m)
 have g4:=Bb _ _ b3 (by omega)
 have b4:=b3.gr (Gb.b (s1.lab.put (dG r s1.m)))
 have g5:=iS W _ (b4.mono (by omega)) (a8 s1.m) rfl
 generalize s1.lab.put (dG r s1.m)=s3 at *
 generalize (b.lw W).b s3=s4 at *
 generalize s4.put (a8 s1.m)=s5 at *
 generalize s1.lab=s2 at *
 rw[aP qB _ _ _ rfl,lD]
 simp only[lh,d8,tX0,dG,a8,ZB.x,ZB.op_mk,ZB.tx_mk,ZB.v_mk,ZB.ks_mk] at g1 g2 g3 g4 g5 ⊢
 simp -implicitDefEqProofs (disch:=first|assumption|omega) only[go_sem,simprocAttr,g1,g2,g3,g4,g5,ZB.r_def,mc,mn,lc,ln,ZB.fzs,ZB.fzr,ZC.noR,ZD.noR,hO]
theorem zxa(tx:ByteArray)(v:Int)(a b c:ZB)(Ea:Js W a)(Bb:Xi W b)(Bc:Xi W c)(Ga:GrN W a)(Gb:GrN W b)(Gc:GrN W c)(z:LS)(k:Int)(hs:z.bd k)(hk:k+8*((ZB.mk 4 tx v [a,b,c]).sz+1)≤1099511627775) :
  evCW tab fX [lp,(ZB.mk 4 tx v [a,b,c]).x] (lh W z) 1=some (.tup [],lh W (zQB (a.lw W) (b.lw W) (c.lw W) z)):=by
 have hle:=tJ 4 tx v [a,b,c]
 rw[bO,bO,bO,gC] at hle
 have ha:=a.sz_nn
 have hb:=b.sz_nn
 have hc:=c.sz_nn
 have g1:=Ea z k hs (by omega)
 have b1:=hs.gr (Ga.e z)
 unfold zQB zQt
 generalize (a.lw W).e z=r at *
 obtain⟨r,s1⟩:=r
 simp only at g1 b1 ⊢
 have g2:=zwa W s1 (b1.mono (by omega))
 have b2:=pZ b1
 have g3:=iS W s1.lab (b2.mono (by omega)) (dG r s1.m) rfl
 have b3:=dK b2 (dG r s1.m)
 have g4:=Bb _ _ b3 (by omega)
 have b4:=b3.gr (Gb.b (s1.lab.put (dG r s1.m)))
 generalize s1.lab.put (dG r s1.m)=s3 at *
 generalize (b.lw W).b s3=s4 at *
 have g5:=zwa W s4 (b4.mono (by omega))
 have b5:=pZ b4
 have g6:=iS W s4.lab (b5.mono (by omega)) (cW s4.m) rfl
 have b6:=dK b5 (cW s4.m)
 have g7:=iS W _ (b6.mono (by omega)) (a8 s1.m) rfl
 have b7:=dK b6 (a8 s1.m)
 have g8:=Bc _ _ b7 (by omega)
 have b8:=b7.gr (Gc.b ((s4.lab.put (cW s4.m)).put (a8 s1.m)))
 have g9:=iS W _ (b8.mono (by omega)) (a8 s4.m) rfl
 generalize (s4.lab.put (cW s4.m)).put (a8 s1.m)=s7 at *
 generalize (c.lw W).b s7=s8 at *
 generalize s8.put (a8 s4.m)=s9 at *
 generalize s4.lab.put (cW s4.m)=s6 at *
 generalize s4.lab=s5 at *
 generalize s1.lab=s2 at *
 rw[aP qB _ _ _ rfl,lD]
 simp only[lh,d8,tX0,dG,a8,cW,ZB.x,ZB.op_mk,ZB.tx_mk,ZB.v_mk,ZB.ks_mk] at g1 g2 g3 g4 g5 g6 g7 g8 g9 ⊢
 simp -implicitDefEqProofs (disch:=first|assumption|omega) only[go_sem,simprocAttr,g1,g2,g3,g4,g5,g6,g7,g8,g9,ZB.r_def,mc,mn,lc,ln,ZB.fzs,ZB.fzr,ZC.noR,ZD.noR]
theorem zXq(tx:ByteArray)(v:Int)(a b:ZB)(Ea:Js W a)(Bb:Xi W b)(Ga:GrN W a)(Gb:GrN W b)(z:LS)(k:Int)(hs:z.bd k)(hk:k+8*((ZB.mk 5 tx v [a,b]).sz+1)≤1099511627775) :
  evCW tab lQ [lp,(ZB.mk 5 tx v [a,b]).x] (lh W z) 1=some (.tup [],lh W (whK (a.lw W) (b.lw W) z)):=by
 have hle:=tJ 5 tx v [a,b]
 rw[bO,bO,gC] at hle
 have ha:=a.sz_nn
 have hb:=b.sz_nn
 have g1:=zwa W z (hs.mono (by omega))
 have b1:=pZ hs
 have g2:=iS W z.lab (b1.mono (by omega)) (a8 z.m) rfl
 have b2:=dK b1 (a8 z.m)
 have g3:=Ea _ _ b2 (by omega)
 have b3:=b2.gr (Ga.e (z.lab.put (a8 z.m)))
 unfold whK whE
 generalize (a.lw W).e (z.lab.put (a8 z.m))=r at *
 obtain⟨r,s3⟩:=r
 simp only at g3 b3 ⊢
 have g4:=zwa W s3 (b3.mono (by omega))
 have b4:=pZ b3
 have g5:=iS W s3.lab (b4.mono (by omega)) (dG r s3.m) rfl
 have b5:=dK b4 (dG r s3.m)
 have g6:=Bb _ _ b5 (by omega)
 have b6:=b5.gr (Gb.b (s3.lab.put (dG r s3.m)))
 have g7:=iS W _ (b6.mono (by omega)) (cW z.m) rfl
 have b7:=dK b6 (cW z.m)
 have g8:=iS W _ (b7.mono (by omega)) (a8 s3.m) rfl
 generalize s3.lab.put (dG r s3.m)=s5 at *
 generalize (b.lw W).b s5=s6 at *
 generalize (s6.put (cW z.m)).put (a8 s3.m)=s8 at *
 generalize s6.put (cW z.m)=s7 at *
 generalize s3.lab=s4 at *
 generalize z.lab.put (a8 z.m)=s2 at *
 generalize z.lab=s1 at *
 rw[aP H1 _ _ _ rfl,tK]
 simp only[lh,d8,tX0,dG,a8,cW,ZB.x,ZB.op_mk,ZB.tx_mk,ZB.v_mk,ZB.ks_mk] at g1 g2 g3 g4 g5 g6 g7 g8 ⊢
 simp -implicitDefEqProofs (disch:=first|assumption|omega) only[go_sem,simprocAttr,g1,g2,g3,g4,g5,g6,g7,g8,ZB.r_def,mc,mn,lc,ln,ZB.fzs,ZB.fzr,ZC.noR,ZD.noR]
end
set_option maxRecDepth 8000
set_option maxHeartbeats 16000000
structure CsOk (LE LB:ZB→Prop) (W:List ZC) (y:ZB):Prop where
 sh:Sh 3 y
 sm:y.Sm
 gr:GrN W y
 kd:∀z∈y.ks,(Sh 0 z→LE z)∧(Sh 2 z→LB z)∧GrN W z
abbrev caL(ks:List ZB)(W:List ZC):List (Int×LW):=ks.map fun k=>(k.op,k.lw W)
abbrev cbL(ks:List ZB)(W:List ZC):List (Int×ByteArray×LW):=ks.map fun k=>(k.op,k.tx,k.lw W)
theorem L4(a b:List Int):bB (a++b)=bB a++bB b:=by simp[bB]
theorem wT(a:List Int):(bB a).length=a.length:=by simp[bB]
section
variable(W:List ZC)(hW:W.length≤16777216)
abbrev tbx(N:Int)(A:List Int):D:= .s 7 [[DI 19,DI 0,DI 0,DI 0,DI N,DS emS,.s 1 (bB A)]]
theorem Zt(x:ZB)(hks:x.ks.length≤4)(H:∀y∈x.ks,CsOk (Js W) (Xi W) W y):∀(Bl:List ZB) (j:Nat) (A:List Int) (N:Int) (z:LS) (k:Int),x.ks.drop j=Bl→A.length≤3*j→z.bd k→k+sAs Bl≤1099511627775 →
  loopW tab [0,3,4,17,18,19] cZ {env:=upd (upd (upd (upd (upd (upd emp 19 (some (I (j:Int)))) 18 (some (I (x.ks.length:Int)))) 17 (some (.d (.r (x.ks.map ZB.r))))) 4 (some (.ptr (1,0) [] 0 0))) 3 (some (nvp x))) 0 (some lp),heap:=upd (lh W z) (1,0) (some (tbx N A)),fr:=1,next:=1} =
   some (.ext 0,{env:=upd (upd (upd emp 4 (some (.ptr (1,0) [] 0 0))) 3 (some (nvp x))) 0 (some lp),heap:=upd (lh W (caK (caL Bl W) A N z).2.2) (1,0) (some (tbx (caK (caL Bl W) A N z).2.1 (caK (caL Bl W) A N z).1)),fr:=1,next:=1})
 |[],j,A,N,z,k,hd,hA,hs,hk=>by
  have h1:=b9 (j:=(j:Int)) (by simpa using hd) (by omega)
  unfold loopW
  conv=>lhs;arg 1;unfold cZ
  rw[show caL [] W=[] from rfl,caK]
  simp -implicitDefEqProofs (disch:=first|assumption|omega) only[go_sem,simprocAttr,h1,lh,d8,nvp,tbx]
 |y::Bl,j,A,N,z,k,hd,hA,hs,hk=>by
  have h1:=bK (j:=(j:Int)) (by simpa using hd) (by omega)
  have h5:=h1.2.1
  have h2:=eK ZB.r h1.1
  rw[ZB.r_def,Int.toNat_natCast] at h2
  rw[sAs] at hk
  have hj:j≤3:=by omega
  have hkn:=(sAD Bl).2.1
  have hkA:=kAD y
  have hy:=H y h1.2.2.2.1
  have gA:=hy.gr.a z
  have ih:=fun A N z k=>Zt x hks H Bl (j+1) A N z k (by have:=h1.2.2.1;simpa using this)
  rw[show(((j+1:Nat)):Int)=(j:Int)+1 by omega] at ih
  rw[show caL (y::Bl) W=(y.op,y.lw W)::caL Bl W from rfl,caK]
  obtain⟨op,tx,v,ks⟩:=y
  have hkd:=hy.kd
  have hsh:=hy.sh
  simp only[ZB.ks_mk,ZB.op_mk,ZB.tx_mk,ZB.v_mk] at *
  rw[z4v] at gA ⊢
  cases hsh with
  |tak ha hb =>
   rename_i a b
   have g0:=(hkd a (by simp)).1 ha z k hs (by have:=a.sz_nn;have:=b.sz_nn;unfold kA at *;simp only[ZB.ks_mk,List.dropLast_cons_cons,List.dropLast_singleton,bO,gC] at *;omega)
   simp only[lws,mc,mn,List.dropLast_cons_cons,List.dropLast_singleton,esK,ix,List.getD_cons_zero,if_true] at gA ⊢
   have ih':=ih (A++[1,((a.lw W).e z).1,0]) N ((a.lw W).e z).2 _ (by simp only[la,lc,ln];omega) (hs.gr gA) (by omega)
   rw[←ih']
   conv=>lhs;unfold loopW;arg 1;unfold cZ
   simp only[lh,d8,tbx,nvp,L4] at g0 ⊢
   generalize (a.lw W).e z=r at *
   simp only[show bB [1,r.1,0]=[[DI 1],[DI r.1],[DI 0]] from rfl,ZB.r_def,mc,mn] at h2 ⊢
   simp -implicitDefEqProofs (disch:=first|assumption|omega|(simp only[aE,aQ,aD,i64,sa,aC,lm,la,lc,ln];omega)) only[go_sem,simprocAttr,h5,h2,g0,ZB.fzs,ZB.fzr,ZC.noR,ZD.noR,wT]
  |giv ha hb hc =>
   rename_i a b c
   have he:∀y∈[a,b],Js W y:=by
    intro y hy
    simp only[List.mem_cons,List.not_mem_nil,or_false] at hy
    rcases hy with rfl|rfl
    ·exact(hkd _ (by simp)).1 ha
    ·exact(hkd _ (by simp)).1 hb
   have hg:∀y∈[a,b],GrN W y:=by
    intro y hy
    simp only[List.mem_cons,List.not_mem_nil,or_false] at hy
    rcases hy with rfl|rfl
    ·exact(hkd _ (by simp)).2.2
    ·exact(hkd _ (by simp)).2.2
   have g0:=Ur W [a,b] (by simp) he hg z k hs (by unfold kA at *;simp only[ZB.ks_mk,List.dropLast_cons_cons,List.dropLast_singleton] at *;omega)
   have e:(lws W [a,b,c]).dropLast=lws W [a,b]:=rfl
   rw[e] at gA ⊢
   have hl:(esK (lws W [a,b]) z).1.length=2:=He _ _
   generalize esK (lws W [a,b]) z=r at *
   obtain⟨as,z'⟩:=r
   obtain⟨a0,a1,rfl⟩:=zjm hl
   simp only[Int.reduceEq,if_false,if_true,ix,List.getD_cons_zero,List.getD_cons_succ] at gA g0 ⊢
   have ih':=ih (A++[2,a0,a1]) N z' _ (by simp only[la,lc,ln];omega) (hs.gr gA) (by omega)
   rw[←ih']
   conv=>lhs;unfold loopW;arg 1;unfold cZ
   simp only[lh,d8,tbx,nvp,L4] at g0 ⊢
   simp only[show bB [2,a0,a1]=[[DI 2],[DI a0],[DI a1]] from rfl,show bB [a0,a1]=[[DI a0],[DI a1]] from rfl,ZB.r_def,mc,mn] at h2 g0 ⊢
   simp -implicitDefEqProofs (disch:=first|assumption|omega|(simp only[aE,aQ,aD,i64,sa,aC,lm,la,lc,ln];omega)) only[go_sem,simprocAttr,h5,h2,g0,ZB.fzs,ZB.fzr,ZC.noR,ZD.noR,wT,List.all_cons,List.all_nil,lc,ln,List.take_succ_cons,List.take_zero,List.drop_zero]
  |els hb =>
   rename_i b
   simp only[Int.reduceEq,if_false]
   have ih':=ih A 1 z k (by omega) hs (by omega)
   rw[←ih']
   conv=>lhs;unfold loopW;arg 1;unfold cZ
   simp only[lh,d8,tbx,nvp] at ⊢
   simp -implicitDefEqProofs (disch:=first|assumption|omega|(simp only[aE,aQ,aD,i64,sa,aC,lm,la,lc,ln];omega)) only[go_sem,simprocAttr,h5,h2,ZB.fzs,ZB.fzr,ZC.noR,ZD.noR]
abbrev tby(D0 B0 N:Int):D:= .s 7 [[DI 19,DI D0,DI 0,DI B0,DI N,DS emS,.u]]
include hW in
theorem zzd(x:ZB)(hks:x.ks.length≤4)(H:∀y∈x.ks,CsOk (Js W) (Xi W) W y)(D0 B0 N E0:Int):∀(Bl:List ZB) (j:Nat) (z:LS) (k:Int),x.ks.drop j=Bl→z.bd k→k+sDs Bl≤1099511627775 →
  loopW tab [0,4,9,71,72,73] cY {env:=upd (upd (upd (upd (upd (upd emp 73 (some (I (j:Int)))) 72 (some (I (x.ks.length:Int)))) 71 (some (.d (.r (x.ks.map ZB.r))))) 9 (some (I E0))) 4 (some (.ptr (1,0) [] 0 0))) 0 (some lp),heap:=upd (lh W z) (1,0) (some (tby D0 B0 N)),fr:=1,next:=1} =
   some (.ext 3,{env:=upd (upd emp 9 (some (I E0))) 0 (some lp),heap:=lh W (cbK W D0 B0 E0 j (cbL Bl W) z),fr:=1,next:=0})
 |[],j,z,k,hd,hs,hk=>by
  have h1:=b9 (j:=(j:Int)) (by simpa using hd) (by omega)
  unfold loopW
  conv=>lhs;arg 1;unfold cY
  rw[show cbL [] W=[] from rfl,cbK]
  simp -implicitDefEqProofs (disch:=first|assumption|omega) only[go_sem,simprocAttr,h1,lh,d8,tby]
 |y::Bl,j,z,k,hd,hs,hk=>by
  have h1:=bK (j:=(j:Int)) (by simpa using hd) (by omega)
  have h5:=h1.2.1
  have h2:=eK ZB.r h1.1
  rw[ZB.r_def,Int.toNat_natCast] at h2
  rw[sDs] at hk
  have hkn:=(sAD Bl).2.2
  have hkA:=kAD y
  have hy:=H y h1.2.2.2.1
  have ih:=fun z k=>zzd x hks H D0 B0 N E0 Bl (j+1) z k (by have:=h1.2.2.1;simpa using this)
  rw[show(((j+1:Nat)):Int)=(j:Int)+1 by omega] at ih
  rw[show cbL (y::Bl) W=(y.op,y.tx,y.lw W)::cbL Bl W from rfl,cbK]
  have g1:=So W z (hs.mono (by omega)) (eQ j) rfl
  have b1:=Gq hs (eQ j)
  have g2:=So W (z.set (eQ j)) (b1.mono (by omega)) (kV D0 z.n) rfl
  have b2:=Gq b1 (kV D0 z.n)
  have g3:=zwa W ((z.set (eQ j)).set (kV D0 z.n)) (b2.mono (by omega))
  have b3:=pZ b2
  have g4:=iS W (((z.set (eQ j)).set (kV D0 z.n)).lab) (b3.mono (by omega)) (dG (z.n+1) z.m) rfl
  have b4:=dK b3 (dG (z.n+1) z.m)
  rw[show(((z.set (eQ j)).set (kV D0 z.n)).lab).put (dG (z.n+1) z.m)=cb1 j D0 z from rfl] at g4 b4
  rw[show(z.set (eQ j)).n=z.n+1 from rfl] at g2
  rw[show((z.set (eQ j)).set (kV D0 z.n)).m=z.m from rfl] at g3
  generalize hc1:cb1 j D0 z=z4 at *
  generalize ((z.set (eQ j)).set (kV D0 z.n)).lab=z3 at *
  generalize (z.set (eQ j)).set (kV D0 z.n)=z2 at *
  generalize z.set (eQ j)=z1 at *
  obtain⟨op,tx,v,ks⟩:=y
  have hkd:=hy.kd
  have hsh:=hy.sh
  have gD:=hy.gr.d
  simp only[ZB.ks_mk,ZB.op_mk,ZB.tx_mk,ZB.v_mk] at *
  have ed:∀(q:ZB) (q0:LS),(lws W ks).getLast? = some (q.lw W)→((ZB.mk op tx v ks).lw W).d q0=(q.lw W).b q0:=fun q q0 e=>by rw[z48,e]
  have kb:∀(q:ZB),ks.getLast? = some q→∀(l0:List ZB),ks=l0++[q]→8*(q.sz+1)≤kD (ZB.mk op tx v ks):=fun q _ l0 e=>by
   unfold kD
   simp only[ZB.ks_mk]
   rw[e,List.dropLast_concat,zjK,bO,gC]
   omega
  cases hsh with
  |tak ha hb =>
   rename_i a b
   have e0:=ed b
   have hbk:=kb b rfl [a] rfl
   simp only[Int.reduceEq,if_true]
   have g5:=Mt W hW z4 _ b4 (by omega) tx B0
   have b5:=dK b4 (d7 (fx W tx) B0)
   generalize z4.put (d7 (fx W tx) B0)=z5 at *
   have g6:=(hkd b (by simp)).2.1 hb z5 _ b5 (by omega)
   have b6:=b5.gr (gD z5)
   rw[e0 z5 rfl] at b6 ⊢
   generalize (b.lw W).b z5=z6 at *
   have g7:=iS W z6 (b6.mono (by omega)) (cW E0) rfl
   have b7:=dK b6 (cW E0)
   generalize z6.put (cW E0)=z7 at *
   have g8:=iS W z7 (b7.mono (by omega)) (a8 z.m) rfl
   have b8:=dK b7 (a8 z.m)
   have ih':=ih (z7.put (a8 z.m)) _ b8 (by omega)
   generalize z7.put (a8 z.m)=z8 at *
   rw[←ih']
   conv=>lhs;unfold loopW;arg 1;unfold cY
   simp only[lh,d8,tby,tX0,eQ,kV,dG,cW,a8,ZB.r_def,mc,mn] at h2 g1 g2 g3 g4 g5 g6 g7 g8 ⊢
   simp -implicitDefEqProofs (disch:=first|assumption|omega|(simp only[aE,aQ,aD,i64,sa,aC,lm,la,lc,ln];omega)) only[go_sem,simprocAttr,h5,h2,g1,g2,g3,g4,g5,g6,g7,g8,ZB.fzs,ZB.fzr,ZC.noR,ZD.noR,lc,ln]
  |giv ha hb hc =>
   rename_i a b c
   have e0:=ed c
   have hbk:=kb c rfl [a,b] rfl
   simp only[Int.reduceEq,if_false]
   have b5:=b4
   have g6:=(hkd c (by simp)).2.1 hc z4 _ b5 (by omega)
   have b6:=b5.gr (gD z4)
   rw[e0 z4 rfl] at b6 ⊢
   generalize (c.lw W).b z4=z6 at *
   have g7:=iS W z6 (b6.mono (by omega)) (cW E0) rfl
   have b7:=dK b6 (cW E0)
   generalize z6.put (cW E0)=z7 at *
   have g8:=iS W z7 (b7.mono (by omega)) (a8 z.m) rfl
   have b8:=dK b7 (a8 z.m)
   have ih':=ih (z7.put (a8 z.m)) _ b8 (by omega)
   generalize z7.put (a8 z.m)=z8 at *
   rw[←ih']
   conv=>lhs;unfold loopW;arg 1;unfold cY
   simp only[lh,d8,tby,tX0,eQ,kV,dG,cW,a8,ZB.r_def,mc,mn] at h2 g1 g2 g3 g4 g6 g7 g8 ⊢
   simp -implicitDefEqProofs (disch:=first|assumption|omega|(simp only[aE,aQ,aD,i64,sa,aC,lm,la,lc,ln];omega)) only[go_sem,simprocAttr,h5,h2,g1,g2,g3,g4,g6,g7,g8,ZB.fzs,ZB.fzr,ZC.noR,ZD.noR,lc,ln]
  |els hb =>
   rename_i b
   have e0:=ed b
   have hbk:=kb b rfl [] rfl
   simp only[Int.reduceEq,if_false]
   have b5:=b4
   have g6:=(hkd b (by simp)).2.1 hb z4 _ b5 (by omega)
   have b6:=b5.gr (gD z4)
   rw[e0 z4 rfl] at b6 ⊢
   generalize (b.lw W).b z4=z6 at *
   have g7:=iS W z6 (b6.mono (by omega)) (cW E0) rfl
   have b7:=dK b6 (cW E0)
   generalize z6.put (cW E0)=z7 at *
   have g8:=iS W z7 (b7.mono (by omega)) (a8 z.m) rfl
   have b8:=dK b7 (a8 z.m)
   have ih':=ih (z7.put (a8 z.m)) _ b8 (by omega)
   generalize z7.put (a8 z.m)=z8 at *
   rw[←ih']
   conv=>lhs;unfold loopW;arg 1;unfold cY
   simp only[lh,d8,tby,tX0,eQ,kV,dG,cW,a8,ZB.r_def,mc,mn] at h2 g1 g2 g3 g4 g6 g7 g8 ⊢
   simp -implicitDefEqProofs (disch:=first|assumption|omega|(simp only[aE,aQ,aD,i64,sa,aC,lm,la,lc,ln];omega)) only[go_sem,simprocAttr,h5,h2,g1,g2,g3,g4,g6,g7,g8,ZB.fzs,ZB.fzr,ZC.noR,ZD.noR,lc,ln]
end
set_option maxRecDepth 8000
set_option maxHeartbeats 16000000
section
variable(W:List ZC)(hW:W.length≤16777216)
include hW in
theorem zQ6(tx:ByteArray)(v:Int)(ks:List ZB)(hks:ks.length≤4)(H:∀y∈ks,CsOk (Js W) (Xi W) W y)(z:LS)(k:Int)(hs:z.bd k)(hk:k+kK ks≤1099511627767) :
  evCW tab jC [lp,(ZB.mk 12 tx v ks).x] (lh W z) 1=some (.tup [],lh W (zy1 W (cbL ks W) z)):=by
 have hsum:=sAD ks
 have h0:=Zt W (.mk 12 tx v ks) hks H ks 0 [] 0 z k rfl (by simp) hs (by omega)
 have hl:=Hf (caL ks W) [] 0 z
 have b1:=hs.gr (zzO (fun y hy=>(H y hy).gr) [] 0 z)
 unfold zy1
 simp only[List.map_map]
 rw[show((fun k:Int×ByteArray×LW=>(k.1,k.2.2)) ∘ fun k:ZB=>(k.op,k.tx,k.lw W))=fun k:ZB=>(k.op,k.lw W) from rfl]
 generalize caK (ks.map fun k=>(k.op,k.lw W)) [] 0 z=r at *
 obtain⟨A,N,z1⟩:=r
 simp only at h0 hl b1 ⊢
 have g1:=z8P W z1 (b1.mono (by omega))
 have b2:=zzD b1
 have g2:=z8P W z1.reg (b2.mono (by omega))
 have b3:=zzD b2
 rw[show z1.reg.n=z1.n+1 from rfl] at g2
 have g3:=zjH W z1.reg.reg (b3.mono (by omega)) (A3 z1.n (z1.n+1) N A)
 have b4:=dK b3 (A3 z1.n (z1.n+1) N A)
 have g4:=zwa W (z1.reg.reg.put (A3 z1.n (z1.n+1) N A)) (b4.mono (by omega))
 have b5:=pZ b4
 rw[show(z1.reg.reg.put (A3 z1.n (z1.n+1) N A)).m=z1.m from rfl] at g4
 have h1:=zzd W hW (.mk 12 tx v ks) hks H z1.n (z1.n+1) N z1.m ks 0 _ _ rfl b5 (by omega)
 have b6:=b5.gr (zz7 (W:=W) z1.n (z1.n+1) z1.m (fun y hy=>(H y hy).gr) 0 (z1.reg.reg.put (A3 z1.n (z1.n+1) N A)).lab)
 rw[cK] at h1
 have g6:=iS W _ (b6.mono (by omega)) (a8 z1.m) rfl
 generalize cbK W z1.n (z1.n+1) z1.m 0 (ks.map fun k=>(k.op,k.tx,k.lw W)) (z1.reg.reg.put (A3 z1.n (z1.n+1) N A)).lab=z6 at *
 generalize (z1.reg.reg.put (A3 z1.n (z1.n+1) N A)).lab=z5 at *
 generalize z1.reg.reg.put (A3 z1.n (z1.n+1) N A)=z4 at *
 generalize z1.reg.reg=z3 at *
 generalize z1.reg=z2 at *
 generalize z6.put (a8 z1.m)=z7 at *
 rw[aP Ef _ _ _ rfl,qF]
 simp only[lh,lhl,d8,tbx,tby,nvp,tX0,tXl,A3,a8,cK,show bB []=[] from rfl,ZB.x,ZB.op_mk,ZB.tx_mk,ZB.v_mk,ZB.ks_mk] at h0 h1 g1 g2 g3 g4 g6 ⊢
 simp -implicitDefEqProofs (disch:=first|assumption|omega|(simp only[aE,aQ,aD,i64,sa,aC,lm,la,lc,ln];omega)) only[go_sem,simprocAttr,h0,h1,g1,g2,g3,g4,g6,ZB.fzs,ZB.fzr,ZC.noR,ZD.noR,uK]
theorem z55(op:Int)(tx:ByteArray)(v:Int)(ks:List ZB)(z:LS)(h4:op≠4)(h5:op≠5)(h12:op≠12):((ZB.mk op tx v ks).lw W).s z=stE W op tx (esK (lws W ks) z):=by
 rw[Yj]
 unfold stK
 rw[if_neg h4,if_neg h5,if_neg h12,Hc]
 rfl
include hW in
theorem zVY(op:Int)(tx:ByteArray)(v:Int)(ks:List ZB)(hks:ks.length≤1048576)(hsh:Sh 1 (.mk op tx v ks))(h4:op≠4)(h5:op≠5)(h12:op≠12)(H:∀y∈ks,Js W y)(HG:∀y∈ks,GrN W y):z5x W (.mk op tx v ks):=by
 intro z k hs hk
 have hle:=tJ op tx v ks
 have g0:=Ur W ks hks H HG z k hs (by omega)
 have hbd:=hs.gr (Kk HG z)
 have hlen:(esK (lws W ks) z).1.length=ks.length:=by rw[He,Lm]
 rw[z55 W op tx v ks z h4 h5 h12]
 have gs:=fun t ht=>So W (esK (lws W ks) z).2 (hbd.mono (by omega)) t ht
 have gl:=fun t=>zjH W (esK (lws W ks) z).2 (hbd.mono (by omega)) t
 have gc:=fun tx r=>Mt W hW (esK (lws W ks) z).2 _ hbd (by omega) tx r
 have gc2:=fun t tx r=>Mt W hW ((esK (lws W ks) z).2.set t) _ (Gq hbd t) (by omega) tx r
 generalize esK (lws W ks) z=r at *
 obtain⟨as,z'⟩:=r
 simp only at g0 hlen gs gl gc gc2 ⊢
 have hl1:=(show Low 1 (lh W z') from(Low.emp 0).upd (by omega) _).drop (Nat.le_refl 1)
 rw[aP i9 _ _ _ rfl,fW]
 cases hsh with
 |st1 h a =>
  obtain⟨a0,rfl⟩:=zQT hlen
  rcases h with rfl|rfl|rfl|rfl|rfl|rfl|rfl|rfl|rfl
  ·have g1:=gc tx a0
   simp only[stE,ix,List.getD_cons_zero,Int.reduceEq,true_or,or_true,if_true,lh,d8,bB,mc,mn,ZB.x,ZB.op_mk,ZB.tx_mk,ZB.v_mk,ZB.ks_mk] at g0 g1 ⊢
   simp -implicitDefEqProofs (disch:=first|assumption|omega) only[go_sem,simprocAttr,g0,g1,ZC.noR,ZD.noR]
  ·have g1:=gc tx a0
   simp only[stE,ix,List.getD_cons_zero,Int.reduceEq,true_or,or_true,if_true,lh,d8,bB,mc,mn,ZB.x,ZB.op_mk,ZB.tx_mk,ZB.v_mk,ZB.ks_mk] at g0 g1 ⊢
   simp -implicitDefEqProofs (disch:=first|assumption|omega) only[go_sem,simprocAttr,g0,g1,ZC.noR,ZD.noR]
  ·have gp:=kJ 6 (by unfold yW;simp)
   have g1:=gl (cC (rU 6) a0 0)
   simp only[stE,ix,List.getD_cons_zero,List.getD_cons_succ,Int.reduceEq,true_or,or_true,or_false,or_self,if_true,if_false,lc,ln,Nat.reduceAdd,Nat.reduceEqDiff,Nat.zero_add,tX0,tXl,cC,tGo,fO,d7,lh,lhl,d8,bB,mc,mn,ZB.x,ZB.op_mk,ZB.tx_mk,ZB.v_mk,ZB.ks_mk] at g0 g1 ⊢
   simp -implicitDefEqProofs (disch:=first|assumption|omega) only[go_sem,simprocAttr,g0,g1,gp,ZC.noR,ZD.noR]
  ·have gp:=kJ 7 (by unfold yW;simp)
   have g1:=gl (cC (rU 7) a0 0)
   simp only[stE,ix,List.getD_cons_zero,List.getD_cons_succ,Int.reduceEq,true_or,or_true,or_false,or_self,if_true,if_false,lc,ln,Nat.reduceAdd,Nat.reduceEqDiff,Nat.zero_add,tX0,tXl,cC,tGo,fO,d7,lh,lhl,d8,bB,mc,mn,ZB.x,ZB.op_mk,ZB.tx_mk,ZB.v_mk,ZB.ks_mk] at g0 g1 ⊢
   simp -implicitDefEqProofs (disch:=first|assumption|omega) only[go_sem,simprocAttr,g0,g1,gp,ZC.noR,ZD.noR]
  ·have g1:=gs (fO a0) rfl
   have g2:=gc2 (fO a0) tx z'.n
   simp only[stE,ix,List.getD_cons_zero,List.getD_cons_succ,Int.reduceEq,true_or,or_true,or_false,or_self,if_true,if_false,lc,ln,Nat.reduceAdd,Nat.reduceEqDiff,Nat.zero_add,tX0,tXl,cC,tGo,fO,d7,lh,lhl,d8,bB,mc,mn,ZB.x,ZB.op_mk,ZB.tx_mk,ZB.v_mk,ZB.ks_mk] at g0 g1 ⊢
   simp only[lh,d8] at g2
   simp only[fO,d7] at g2
   simp -implicitDefEqProofs (disch:=first|assumption|omega) only[go_sem,simprocAttr,g0,g1,g2,ZC.noR,ZD.noR]
  ·have gp:=kJ 11 (by unfold yW;simp)
   have g1:=gl (cC (rU 11) a0 0)
   simp only[stE,ix,List.getD_cons_zero,List.getD_cons_succ,Int.reduceEq,true_or,or_true,or_false,or_self,if_true,if_false,lc,ln,Nat.reduceAdd,Nat.reduceEqDiff,Nat.zero_add,tX0,tXl,cC,tGo,fO,d7,lh,lhl,d8,bB,mc,mn,ZB.x,ZB.op_mk,ZB.tx_mk,ZB.v_mk,ZB.ks_mk] at g0 g1 ⊢
   simp -implicitDefEqProofs (disch:=first|assumption|omega) only[go_sem,simprocAttr,g0,g1,gp,ZC.noR,ZD.noR]
  ·have gp:=kJ 16 (by unfold yW;simp)
   have g1:=gl (cC (rU 16) a0 0)
   simp only[stE,ix,List.getD_cons_zero,List.getD_cons_succ,Int.reduceEq,true_or,or_true,or_false,or_self,if_true,if_false,lc,ln,Nat.reduceAdd,Nat.reduceEqDiff,Nat.zero_add,tX0,tXl,cC,tGo,fO,d7,lh,lhl,d8,bB,mc,mn,ZB.x,ZB.op_mk,ZB.tx_mk,ZB.v_mk,ZB.ks_mk] at g0 g1 ⊢
   simp -implicitDefEqProofs (disch:=first|assumption|omega) only[go_sem,simprocAttr,g0,g1,gp,ZC.noR,ZD.noR]
  ·have gp:=kJ 17 (by unfold yW;simp)
   have g1:=gl (cC (rU 17) a0 0)
   simp only[stE,ix,List.getD_cons_zero,List.getD_cons_succ,Int.reduceEq,true_or,or_true,or_false,or_self,if_true,if_false,lc,ln,Nat.reduceAdd,Nat.reduceEqDiff,Nat.zero_add,tX0,tXl,cC,tGo,fO,d7,lh,lhl,d8,bB,mc,mn,ZB.x,ZB.op_mk,ZB.tx_mk,ZB.v_mk,ZB.ks_mk] at g0 g1 ⊢
   simp -implicitDefEqProofs (disch:=first|assumption|omega) only[go_sem,simprocAttr,g0,g1,gp,ZC.noR,ZD.noR]
  ·have g1:=hl1
   simp only[stE,ix,List.getD_cons_zero,List.getD_cons_succ,Int.reduceEq,true_or,or_true,or_false,or_self,if_true,if_false,lc,ln,Nat.reduceAdd,Nat.reduceEqDiff,Nat.zero_add,tX0,tXl,cC,tGo,fO,d7,lh,lhl,d8,bB,mc,mn,ZB.x,ZB.op_mk,ZB.tx_mk,ZB.v_mk,ZB.ks_mk] at g0 g1 ⊢
   simp -implicitDefEqProofs (disch:=first|assumption|omega) only[go_sem,simprocAttr,g0,g1,ZC.noR,ZD.noR]
 |st2 h a b =>
  obtain⟨a0,a1,rfl⟩:=zjm hlen
  rcases h with rfl|rfl|rfl|rfl
  ·have gp:=kJ 9 (by unfold yW;simp)
   have g1:=gl (cC (rU 9) a0 a1)
   simp only[stE,ix,List.getD_cons_zero,List.getD_cons_succ,Int.reduceEq,true_or,or_true,or_false,or_self,if_true,if_false,lc,ln,Nat.reduceAdd,Nat.reduceEqDiff,Nat.zero_add,tX0,tXl,cC,tGo,fO,d7,lh,lhl,d8,bB,mc,mn,ZB.x,ZB.op_mk,ZB.tx_mk,ZB.v_mk,ZB.ks_mk] at g0 g1 ⊢
   simp -implicitDefEqProofs (disch:=first|assumption|omega) only[go_sem,simprocAttr,g0,g1,gp,ZC.noR,ZD.noR]
  ·have gp:=kJ 13 (by unfold yW;simp)
   have g1:=gl (cC (rU 13) a0 a1)
   simp only[stE,ix,List.getD_cons_zero,List.getD_cons_succ,Int.reduceEq,true_or,or_true,or_false,or_self,if_true,if_false,lc,ln,Nat.reduceAdd,Nat.reduceEqDiff,Nat.zero_add,tX0,tXl,cC,tGo,fO,d7,lh,lhl,d8,bB,mc,mn,ZB.x,ZB.op_mk,ZB.tx_mk,ZB.v_mk,ZB.ks_mk] at g0 g1 ⊢
   simp -implicitDefEqProofs (disch:=first|assumption|omega) only[go_sem,simprocAttr,g0,g1,gp,ZC.noR,ZD.noR]
  ·have gp:=kJ 14 (by unfold yW;simp)
   have g1:=gl (cC (rU 14) a0 a1)
   simp only[stE,ix,List.getD_cons_zero,List.getD_cons_succ,Int.reduceEq,true_or,or_true,or_false,or_self,if_true,if_false,lc,ln,Nat.reduceAdd,Nat.reduceEqDiff,Nat.zero_add,tX0,tXl,cC,tGo,fO,d7,lh,lhl,d8,bB,mc,mn,ZB.x,ZB.op_mk,ZB.tx_mk,ZB.v_mk,ZB.ks_mk] at g0 g1 ⊢
   simp -implicitDefEqProofs (disch:=first|assumption|omega) only[go_sem,simprocAttr,g0,g1,gp,ZC.noR,ZD.noR]
  ·have gp:=kJ 15 (by unfold yW;simp)
   have g1:=gl (cC (rU 15) a0 a1)
   simp only[stE,ix,List.getD_cons_zero,List.getD_cons_succ,Int.reduceEq,true_or,or_true,or_false,or_self,if_true,if_false,lc,ln,Nat.reduceAdd,Nat.reduceEqDiff,Nat.zero_add,tX0,tXl,cC,tGo,fO,d7,lh,lhl,d8,bB,mc,mn,ZB.x,ZB.op_mk,ZB.tx_mk,ZB.v_mk,ZB.ks_mk] at g0 g1 ⊢
   simp -implicitDefEqProofs (disch:=first|assumption|omega) only[go_sem,simprocAttr,g0,g1,gp,ZC.noR,ZD.noR]
 |go_ h =>
  have g1:=gl (tGo tx as)
  simp only[stE,ix,Int.reduceEq,or_false,or_self,if_true,if_false,tXl,tGo,lh,lhl,d8,ZB.x,ZB.op_mk,ZB.tx_mk,ZB.v_mk,ZB.ks_mk] at g0 g1 ⊢
  simp -implicitDefEqProofs (disch:=first|assumption|omega) only[go_sem,simprocAttr,g0,g1,ZC.noR,ZD.noR]
 |if1 _ _=>exact absurd rfl h4
 |if2 _ _ _=>exact absurd rfl h4
 |whl _ _=>exact absurd rfl h5
 |sel _=>exact absurd rfl h12
end
set_option maxRecDepth 8000
set_option maxHeartbeats 16000000
structure LwOk (W:List ZC) (y:ZB):Prop where
 e:Sh 0 y→Js W y
 s:Sh 1 y→z5x W y
 b:Sh 2 y→Xi W y
 c:∀z∈y.ks,(Sh 0 z→Js W z)∧(Sh 2 z→Xi W z)
theorem Sh.of1{op:Int}{tx:ByteArray}{v:Int}{ks:List ZB}(h:Sh 1 (.mk op tx v ks)):(op=4∧((∃a b,ks=[a,b]∧Sh 0 a∧Sh 2 b)∨∃a b c,ks=[a,b,c]∧Sh 0 a∧Sh 2 b∧Sh 2 c))∨(op=5∧∃a b,ks=[a,b]∧Sh 0 a∧Sh 2 b)∨(op=12∧∀y∈ks,Sh 3 y)∨(op≠4∧op≠5∧op≠12∧∀y∈ks,Sh 0 y):=by
 cases h with
 |st1 h a=>exact .inr (.inr (.inr ⟨by omega,by omega,by omega,by simpa using a⟩))
 |st2 h a b=>exact .inr (.inr (.inr ⟨by omega,by omega,by omega,by simpa using ⟨a,b⟩⟩))
 |go_ h=>exact .inr (.inr (.inr ⟨by omega,by omega,by omega,h⟩))
 |if1 a b=>exact .inl ⟨rfl,.inl ⟨_,_,rfl,a,b⟩⟩
 |if2 a b c=>exact .inl ⟨rfl,.inr ⟨_,_,_,rfl,a,b,c⟩⟩
 |whl a b=>exact .inr (.inl ⟨rfl,_,_,rfl,a,b⟩)
 |sel h=>exact .inr (.inr (.inl ⟨rfl,h⟩))
theorem Sh.of2{op:Int}{tx:ByteArray}{v:Int}{ks:List ZB}(h:Sh 2 (.mk op tx v ks)):∀y∈ks,Sh 1 y:=by
 cases h with
 |blk h=>exact h
section
variable(W:List ZC)(hW:W.length≤16777216)
theorem zZu(tx:ByteArray)(v:Int)(ks:List ZB)(z z':LS)(g:evCW tab fX [lp,(ZB.mk 4 tx v ks).x] (lh W z) 1=some (.tup [],lh W z')):evCW tab fL [lp,(ZB.mk 4 tx v ks).x] (lh W z) 1=some (.tup [],lh W z'):=by
 rw[aP i9 _ _ _ rfl,fW]
 simp only[lh,d8,ZB.x,ZB.op_mk,ZB.tx_mk,ZB.v_mk,ZB.ks_mk] at g ⊢
 simp -implicitDefEqProofs (disch:=first|assumption|omega) only[go_sem,simprocAttr,g,ZB.fzs,ZB.fzr,ZC.noR,ZD.noR]
theorem zyf(tx:ByteArray)(v:Int)(ks:List ZB)(z z':LS)(g:evCW tab lQ [lp,(ZB.mk 5 tx v ks).x] (lh W z) 1=some (.tup [],lh W z')):evCW tab fL [lp,(ZB.mk 5 tx v ks).x] (lh W z) 1=some (.tup [],lh W z'):=by
 rw[aP i9 _ _ _ rfl,fW]
 simp only[lh,d8,ZB.x,ZB.op_mk,ZB.tx_mk,ZB.v_mk,ZB.ks_mk] at g ⊢
 simp -implicitDefEqProofs (disch:=first|assumption|omega) only[go_sem,simprocAttr,g,ZB.fzs,ZB.fzr,ZC.noR,ZD.noR]
theorem zvk(tx:ByteArray)(v:Int)(ks:List ZB)(z z':LS)(g:evCW tab jC [lp,(ZB.mk 12 tx v ks).x] (lh W z) 1=some (.tup [],lh W z')):evCW tab fL [lp,(ZB.mk 12 tx v ks).x] (lh W z) 1=some (.tup [],lh W z'):=by
 rw[aP i9 _ _ _ rfl,fW]
 simp only[lh,d8,ZB.x,ZB.op_mk,ZB.tx_mk,ZB.v_mk,ZB.ks_mk] at g ⊢
 simp -implicitDefEqProofs (disch:=first|assumption|omega) only[go_sem,simprocAttr,g,ZB.fzs,ZB.fzr,ZC.noR,ZD.noR]
include hW in
theorem z1F(x:ZB)(hx:x.Sm)(hsl:x.sel=true):LwOk W x:=by
 refine ZB.ind (P:=fun x=>x.Sm→x.sel=true→LwOk W x) (fun op tx v ks ih hx hsl=> ?_) x hx hsl
 have hk:=hx.ks
 simp only[ZB.ks_mk] at hk
 have hsl':=hsl
 rw[sN,bE,List.all_eq_true] at hsl'
 have H:∀y∈ks,LwOk W y:=fun y hy=>ih y hy (hk.2 y hy) (hsl'.2 y hy)
 have HG:∀y∈ks,GrN W y:=fun y hy=>grN y (hk.2 y hy) (hsl'.2 y hy)
 refine⟨fun h=>z5w W hW _ hx hsl h,fun h=> ?_,fun h=> ?_,fun y hy=>⟨(H y hy).e,(H y hy).b⟩⟩
 ·rcases h.of1 with⟨rfl,h1⟩|⟨rfl,h1⟩|⟨rfl,h1⟩|⟨h4,h5,h12,h1⟩
  ·rcases h1 with⟨a,b,rfl,ha,hb⟩|⟨a,b,c,rfl,ha,hb,hc⟩
   ·intro z k hs hk'
    rw[Yj]
    exact zZu W tx v _ z _ (zxb W tx v a b ((H a (by simp)).e ha) ((H b (by simp)).b hb) (HG a (by simp)) (HG b (by simp)) z k hs hk')
   ·intro z k hs hk'
    rw[Yj]
    exact zZu W tx v _ z _ (zxa W tx v a b c ((H a (by simp)).e ha) ((H b (by simp)).b hb) ((H c (by simp)).b hc) (HG a (by simp)) (HG b (by simp)) (HG c (by simp)) z k hs hk')
  ·obtain⟨a,b,rfl,ha,hb⟩:=h1
   intro z k hs hk'
   rw[Yj]
   exact zyf W tx v _ z _ (zXq W tx v a b ((H a (by simp)).e ha) ((H b (by simp)).b hb) (HG a (by simp)) (HG b (by simp)) z k hs hk')
  ·intro z k hs hk'
   have hle:=tJ 12 tx v ks
   have hl:=zj6 hsl'.1
   rw[Yj]
   unfold stK
   rw[if_neg (by decide),if_neg (by decide),if_pos rfl,List.map_map]
   refine zvk W tx v _ z _ (zQ6 W hW tx v ks hl (fun y hy=>⟨h1 y hy,hk.2 y hy,HG y hy,fun q hq=>⟨((H y hy).c q hq).1,((H y hy).c q hq).2,?_⟩⟩) z k hs ?_)
   ·have hy1:=(hk.2 y hy).ks
    have hy2:=hsl'.2 y hy
    obtain⟨op1,tx1,v1,ks1⟩:=y
    rw[sN,bE,List.all_eq_true] at hy2
    exact grN q (hy1.2 q hq) (hy2.2 q hq)
   ·omega
  ·exact zVY W hW op tx v ks hk.1 h h4 h5 h12 (fun y hy=>(H y hy).e (h1 y hy)) HG
 ·exact zY0 W _ hk.1 (fun y hy=>(H y hy).s (h.of2 y hy)) HG
end
set_option maxRecDepth 8000
set_option maxHeartbeats 16000000
def Jx:Nat→Int→LS→LS
 |0,_,z=>z
 |n+1,j,z=>Jx n (j+1) (z.put ⟨1,j,0,0,0,emS,[]⟩)
theorem Rz:∀(n:Nat) (j:Int) (z:LS),Gr n z (Jx n j z)
 |0,j,z=>(Gr.refl z).mono (by omega)
 |n+1,j,z=>(((Gr.refl z).put j3).trans (Rz n (j+1) _)).mono (by omega)
def z5b(f:ZA):LS :=
 let W:=cS f
 let z1:=(f.fBody.lw W).b (Jx (W.length-f.fParams.length) f.fParams.length ⟨[],W.length,0⟩)
 (z1.set (eQ 0)).put (zjA z1.n)
def m4(f:ZA):ZE:=⟨f.fName,f.fParams.length,(z5b f).n,(z5b f).c⟩
theorem zjD(f:ZA):f.fParams.length≤(cS f).length:=by
 obtain⟨R,hR⟩:=zjF f.fBody f.fParams
 unfold cS
 rw[hR,la]
 omega
abbrev fvp(f:ZA):X:= .vp [Str f.fName,.d (.r (f.fParams.map ZC.r)),I f.fBody.op,Str f.fBody.tx,I f.fBody.v,.d (.r (f.fBody.ks.map ZB.r))]
abbrev u0b:D:= .s 4 [[DS emS,DI 0,DI 0,.s 7 []]]
abbrev lh2(W:List ZC)(z:LS):Heap:=upd (upd emp (0,1) (some (d8 W z))) (0,0) (some u0b)
theorem zko(f:ZA)(W:List ZC)(hW:W.length≤16777216):∀(n:Nat) (j:Int) (z:LS) (k:Int),j+n=W.length→0≤j→z.bd k→k+n≤1099511627775 →
  loopW tab [1,2,3,4] pT {env:=upd (upd (upd (upd emp 4 (some (I j))) 3 (some (.ptr (0,1) [] 0 0))) 2 (some (.ptr (0,0) [] 0 0))) 1 (some (fvp f)),heap:=lh2 W z,fr:=0,next:=2} =
   some (.ext 0,{env:=upd (upd (upd emp 3 (some (.ptr (0,1) [] 0 0))) 2 (some (.ptr (0,0) [] 0 0))) 1 (some (fvp f)),heap:=lh2 W (Jx n j z),fr:=0,next:=2})
 |0,j,z,k,hj,h0,hs,hk=>by
  conv=>lhs;unfold loopW;arg 1;unfold pT
  rw[Jx]
  have hj':¬j<(W.length:Int):=by omega
  simp -implicitDefEqProofs (disch:=first|assumption|omega) only[go_sem,simprocAttr,hj',lh2,d8,fvp,u0b,lm]
 |n+1,j,z,k,hj,h0,hs,hk=>by
  have g0:=iS W z (hs.mono (by omega)) ⟨1,j,0,0,0,emS,[]⟩ rfl
  have ih:=zko f W hW n (j+1) (z.put ⟨1,j,0,0,0,emS,[]⟩) _ (by omega) (by omega) (dK hs _) (by omega)
  have hj':j<(W.length:Int):=by omega
  rw[Jx,←ih]
  conv=>lhs;unfold loopW;arg 1;unfold pT
  simp only[lh,d8,tX0,lh2,fvp,u0b] at g0 ⊢
  simp -implicitDefEqProofs (disch:=first|assumption|omega) only[go_sem,simprocAttr,g0,hj',ZC.noR,ZD.noR,lm]
theorem z9W(f:ZA)(hf:f.Sm)(hz:f.sz≤1048576)(hsh:Sh 2 f.fBody)(hsl:f.fBody.sel=true):call tab Cp [f.x]=some (m4 f).xo:=by
 have hW:=Lk hz
 have hge:=zjD f
 have gv:=Lb f hf hz
 rw[show f.fBody.le f.fParams=cS f from rfl] at gv
 have hb:=f.fBody.sz_nn
 have hp:=hf.ps.1
 have hfz:f.fBody.sz≤1048576:=by
  have h1:=(ZC.szs_nn f.fParams).1
  have h2:0≤(f.fName.size:Int):=by omega
  unfold ZA.sz at hz
  omega
 have b0:(LS.mk [] (cS f).length 0).bd 16777216:=⟨by simp,by show 0≤((cS f).length:Int);omega,by show((cS f).length:Int)≤_;omega,by show(0:Int)≤0;omega,by show(0:Int)≤_;omega⟩
 have h0:=zko f (cS f) hW ((cS f).length-f.fParams.length) f.fParams.length ⟨[],(cS f).length,0⟩ _ (by omega) (by omega) b0 (by omega)
 have b1:=b0.gr (Rz ((cS f).length-f.fParams.length) f.fParams.length ⟨[],(cS f).length,0⟩)
 have hG:=grN (W:=cS f) f.fBody hf.bd hsl
 have hL:=(z1F (cS f) hW f.fBody hf.bd hsl).b hsh
 unfold m4 z5b
 simp only
 generalize hz1:Jx ((cS f).length-f.fParams.length) f.fParams.length ⟨[],(cS f).length,0⟩=z1 at *
 have g1:=hL z1 _ b1 (by omega)
 have b2:=b1.gr (hG.b z1)
 generalize (f.fBody.lw (cS f)).b z1=z2 at *
 have g2:=So (cS f) z2 (b2.mono (by omega)) (eQ 0) rfl
 have b3:=Gq b2 (eQ 0)
 have g3:=iS (cS f) (z2.set (eQ 0)) (b3.mono (by omega)) (zjA z2.n) rfl
 generalize (z2.set (eQ 0)).put (zjA z2.n)=z4 at *
 generalize z2.set (eQ 0)=z3 at *
 generalize cS f=W at *
 rw[aJ zjU _ rfl,Ln]
 simp only[lh,lh2,d8,tX0,eQ,zjA,fvp,u0b,ZB.x,ZA.x,ZE.xo,mn] at h0 g1 g2 g3 gv ⊢
 simp -implicitDefEqProofs (disch:=first|assumption|omega|(simp only[aE,aQ,aD,i64,sa,aC,lm,la,lc,ln];omega)) only[go_sem,simprocAttr,h0,g1,g2,g3,gv,ZB.fzs,ZB.fzr,ZC.noR,ZD.noR,lm]
end Go.Ev.G
