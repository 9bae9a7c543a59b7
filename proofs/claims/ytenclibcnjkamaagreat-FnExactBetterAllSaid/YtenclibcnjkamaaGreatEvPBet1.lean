import Derived.Test.YtenclibcnjkamaaGreatEvPLiv5
import Derived.Test.YtenclibcnjkamaaGreatEvPSrt9
import Derived.Test.YtenclibcnjkamaaGreatEvAlt
set_option linter.all false
namespace Go.Ev.G
set_option maxRecDepth 8000
set_option maxHeartbeats 8000000
theorem zkP(n:Int):bits .and .i64 n 4294967295=n % 4294967296:=by
 have h:((BitVec.ofInt 64 n) &&& (BitVec.ofInt 64 4294967295)).toNat=(n % 4294967296).toNat:=by
  rw[BitVec.toNat_and,BitVec.toNat_ofInt,BitVec.toNat_ofInt,show((4294967295:Int) % ((2 ^ 64:Nat):Int)).toNat=2 ^ 32-1 by decide,Nat.and_two_pow_sub_one_eq_mod]
  omega
 have h2:bits .and .i64 n 4294967295=IntKind.wrap .i64 (((BitVec.ofInt 64 n) &&& (BitVec.ofInt 64 4294967295)).toNat:Int):=rfl
 rw[h2,h,w64 ⟨by omega,by omega⟩]
 omega
def Iq(n:Int):Int:=IntKind.wrap .i32 n
theorem zqB(n:Int):Iq n=if 2147483648≤n % 4294967296 then n % 4294967296-4294967296 else n % 4294967296:=by
 simp only[Iq,IntKind.wrap,IntKind.signed,IntKind.bits,bta,zqd,ge_iff_le,Nat.reduceSub,Int.reducePow]
theorem zW1(n:Int): -2147483648≤Iq n∧Iq n≤2147483647:=by
 rw[zqB]
 split<;>omega
theorem tF(n:Int):call tab rJ [I n]=some (I (Iq n)):=by
 have hb:=zW1 n
 have e:IntKind.wrap .i64 (IntKind.wrap .i32 n)=Iq n:=w64 ⟨by show _≤Iq n;omega,by show Iq n≤_;omega⟩
 rw[aQ S8 _ rfl,Fj]
 simp -implicitDefEqProofs (disch:=first|assumption|omega|(simp only[aE,aF,aD,i64,sa,aB,lm,la,lc,ln];omega)) only[go_sem,simprocAttr,e]
theorem uE(n:Int):call tab rH [I n]=some (I (Iq n)):=by
 have e:=zkP n
 have h2:=zqB n
 rw[aQ Tk _ rfl,Fa,h2]
 by_cases h:2147483648≤n % 4294967296
 ·rw[if_pos h]
  simp -implicitDefEqProofs (disch:=first|assumption|omega|(simp only[aE,aF,aD,i64,sa,aB,lm,la,lc,ln];omega)) only[go_sem,simprocAttr,e,show 2147483647<n % 4294967296 by omega]
 ·rw[if_neg h]
  simp -implicitDefEqProofs (disch:=first|assumption|omega|(simp only[aE,aF,aD,i64,sa,aB,lm,la,lc,ln];omega)) only[go_sem,simprocAttr,e,show ¬2147483647<n % 4294967296 by omega]
def Dm(op a b:Int):Int:=if op=3 then Iq (IntKind.wrap .i64 (a+b)) else if op=4 then Iq (IntKind.wrap .i64 (a-b)) else if op=5 then Iq (IntKind.wrap .i64 (a*b)) else if op=6 then(if a<b then 1 else 0) else(if a=b then 1 else 0)
theorem Qi{op:Int}(h:3≤op∧op≤7):op=3∨op=4∨op=5∨op=6∨op=7:=by omega
theorem Jf(op a b:Int)(h:3≤op∧op≤7):call tab wB [I op,I a,I b]=some (I (Dm op a b)):=by
 rw[aQ Kd _ rfl,Bb,Dm]
 rcases Qi h with rfl|rfl|rfl|rfl|rfl
 ·simp -implicitDefEqProofs (disch:=first|assumption|omega|(simp only[aE,aF,aD,i64,sa,aB,lm,la,lc,ln];omega)) only[go_sem,simprocAttr,tF]
 ·simp -implicitDefEqProofs (disch:=first|assumption|omega|(simp only[aE,aF,aD,i64,sa,aB,lm,la,lc,ln];omega)) only[go_sem,simprocAttr,tF]
 ·simp -implicitDefEqProofs (disch:=first|assumption|omega|(simp only[aE,aF,aD,i64,sa,aB,lm,la,lc,ln];omega)) only[go_sem,simprocAttr,tF]
 ·by_cases h2:a<b
  ·simp -implicitDefEqProofs (disch:=first|assumption|omega|(simp only[aE,aF,aD,i64,sa,aB,lm,la,lc,ln];omega)) only[go_sem,simprocAttr,h2]
  ·simp -implicitDefEqProofs (disch:=first|assumption|omega|(simp only[aE,aF,aD,i64,sa,aB,lm,la,lc,ln];omega)) only[go_sem,simprocAttr,h2]
 ·by_cases h2:a=b
  ·subst h2;simp -implicitDefEqProofs (disch:=first|assumption|omega|(simp only[aE,aF,aD,i64,sa,aB,lm,la,lc,ln];omega)) only[go_sem,simprocAttr]
  ·simp -implicitDefEqProofs (disch:=first|assumption|omega|(simp only[aE,aF,aD,i64,sa,aB,lm,la,lc,ln];omega)) only[go_sem,simprocAttr,h2]
theorem Pl(b:Bool):call tab xK [B b]=some (I (if b=true then 1 else 0)):=by
 rw[aQ Si _ rfl,Fn]
 cases b<;>simp -implicitDefEqProofs (disch:=first|assumption|omega|(simp only[aE,aF,aD,i64,sa,aB,lm,la,lc,ln];omega)) only[go_sem,simprocAttr]
theorem M5(op a b:Int)(h:3≤op∧op≤7):call tab zQ [I op,I a,I b]=some (I (Dm op a b)):=by
 rw[aQ Ox _ rfl,C9,Dm]
 have g:=Pl
 rcases Qi h with rfl|rfl|rfl|rfl|rfl
 ·simp -implicitDefEqProofs (disch:=first|assumption|omega|(simp only[aE,aF,aD,i64,sa,aB,lm,la,lc,ln];omega)) only[go_sem,simprocAttr,uE]
 ·simp -implicitDefEqProofs (disch:=first|assumption|omega|(simp only[aE,aF,aD,i64,sa,aB,lm,la,lc,ln];omega)) only[go_sem,simprocAttr,uE]
 ·simp -implicitDefEqProofs (disch:=first|assumption|omega|(simp only[aE,aF,aD,i64,sa,aB,lm,la,lc,ln];omega)) only[go_sem,simprocAttr,uE]
 ·by_cases h2:a<b
  ·simp -implicitDefEqProofs (disch:=first|assumption|omega|(simp only[aE,aF,aD,i64,sa,aB,lm,la,lc,ln];omega)) only[go_sem,simprocAttr,h2,g]
  ·simp -implicitDefEqProofs (disch:=first|assumption|omega|(simp only[aE,aF,aD,i64,sa,aB,lm,la,lc,ln];omega)) only[go_sem,simprocAttr,h2,g]
 ·by_cases h2:a=b
  ·subst h2;simp -implicitDefEqProofs (disch:=first|assumption|omega|(simp only[aE,aF,aD,i64,sa,aB,lm,la,lc,ln];omega)) only[go_sem,simprocAttr,g]
  ·simp -implicitDefEqProofs (disch:=first|assumption|omega|(simp only[aE,aF,aD,i64,sa,aB,lm,la,lc,ln];omega)) only[go_sem,simprocAttr,h2,g]
def tV(K:BL)(r:Int):Bool:=(K[r.toNat]?).getD false
abbrev fdH(K:BL)(W:List Int):Heap:=upd emp (0,0) (some (.s 2 [[.s 1 (bR K),.s 1 (aP W)]]))
theorem bQ(x:Option D):a8 1 (upd emp (0,0) x)=upd emp (0,0) x:=by
 funext id
 simp only[a8]
 split
 ·rename_i h
  have:id≠(0,0):=fun e=>by rw[e] at h;simp at h
  simp[upd,this,emp]
 ·rfl
theorem y8(K:BL):(bR K).length=K.length:=by simp
theorem bC(W:List Int):(aP W).length=W.length:=by simp[aP]
theorem eY{K:BL}{r:Int}(h:r.toNat<K.length):(bR K)[r.toNat]? = some [DB (tV K r)]:=by
 rw[List.getElem?_map,List.getElem?_eq_getElem h]
 simp[tV,h]
theorem tP(K:BL)(W:List Int)(hl:K.length=W.length)(hm:W.length≤250)(r n:Int)(h0:0≤r)(h1:r<W.length):evCW tab fH [.ptr (0,0) [] 0 0,I r,I n] (fdH K W) 1=some (.tup [],fdH (K.set r.toNat true) (W.set r.toNat n)):=by
 have hd:=bQ
 have e1:=sS K r.toNat true
 have e2:=oJ W r.toNat n
 have f1:=eY (K:=K) (r:=r) (by omega)
 have f2:=(fF (zs:=W) h0 h1).1
 have l1:=y8 K
 have l2:=bC W
 simp only[fdH,←e1,←e2]
 generalize bR K=A at *
 generalize aP W=Z at *
 rw[bU Cs _ _ _ rfl,pG]
 simp -implicitDefEqProofs (disch:=first|assumption|omega|(simp only[aE,aF,aD,i64,sa,aB,lm,la,lc,ln];omega)) only[go_sem,simprocAttr,hd,f1,f2,l1,l2]
theorem nL(K:BL)(W:List Int)(hl:K.length=W.length)(hm:W.length≤250)(r n:Int)(h0:0≤r)(h1:r<W.length):evCW tab lE [.ptr (0,0) [] 0 0,I r,I n] (fdH K W) 1=some (.tup [],fdH (K.set r.toNat true) (W.set r.toNat n)):=by
 have hd:=bQ
 have e1:=sS K r.toNat true
 have e2:=oJ W r.toNat n
 have f1:=eY (K:=K) (r:=r) (by omega)
 have f2:=(fF (zs:=W) h0 h1).1
 have l1:=y8 K
 have l2:=bC W
 simp only[fdH,←e1,←e2]
 generalize bR K=A at *
 generalize aP W=Z at *
 rw[bU I5 _ _ _ rfl,yF]
 simp -implicitDefEqProofs (disch:=first|assumption|omega|(simp only[aE,aF,aD,i64,sa,aB,lm,la,lc,ln];omega)) only[go_sem,simprocAttr,hd,f1,f2,l1,l2]
def Pa(d n:Int):ZA:=⟨1,d,0,0,n,⟨#[]⟩,[]⟩
def zqi(n:Int):ZA:=⟨9,0,0,0,n,⟨#[]⟩,[]⟩
def eO(K:BL)(W:List Int)(t:ZA):(BL×List Int)×(ZA×Bool)×Bool :=
 if t.fOp=8 then((List.replicate K.length false,W),(t,false),true)
 else if t.fOp=1 then((K.set t.fD.toNat true,W.set t.fD.toNat t.fN),(t,false),true)
 else if t.fOp=2∧tV K t.fA=true then((K.set t.fD.toNat true,W.set t.fD.toNat (gO W t.fA)),(Pa t.fD (gO W t.fA),true),true)
 else if (3≤t.fOp∧t.fOp≤7)∧(tV K t.fA&&tV K t.fB)=true then((K.set t.fD.toNat true,W.set t.fD.toNat (Dm t.fOp (gO W t.fA) (gO W t.fB))),(Pa t.fD (Dm t.fOp (gO W t.fA) (gO W t.fB)),true),true)
 else if t.fOp=10∧tV K t.fA=true then((K,W),(zqi t.fN,true),decide (gO W t.fA=0))
 else((bO false K (aY t),W),(t,false),true)
def fx(p:ZA×Bool):X:=if p.2=true then p.1.xo else p.1.x
def qC(p:ZA×Bool):List D:=if p.2=true then p.1.o else p.1.r
structure FOk (m:Nat) (t:ZA):Prop where
 a:t.fOp=2∨(3≤t.fOp∧t.fOp≤7)∨t.fOp=10→0≤t.fA∧t.fA<m
 b:3≤t.fOp∧t.fOp≤7→0≤t.fB∧t.fB<m
 d:1≤t.fOp∧t.fOp≤7→0≤t.fD∧t.fD<m
 s:∀r∈aY t,0≤r∧r<m
abbrev zk0(t:ZA):X:= .vp [I t.fOp,I t.fD,I t.fA,I t.fB,I t.fN,Str t.fS,.d (.r (aP t.fArgs))]
theorem zK2(W:List Int)(t:ZA)(cells:List D)(S:List Int)(hS:S.length≤250):∀(Bl:List Int) (j:Int) (K:BL),S.drop j.toNat=Bl→0≤j→K.length≤250→(∀r∈Bl,0≤r∧r<K.length) →
  loopW tab [0,3,4,135,136,137] eR {env:=upd (upd (upd (upd (upd (upd emp 137 (some (I j))) 136 (some (I (S.length:Int)))) 135 (some (.d (.r (aP S))))) 4 (some (.ptr (1,0) [] 0 0))) 3 (some (zk0 t))) 0 (some (.ptr (0,0) [] 0 0)),heap:=upd (fdH K W) (1,0) (some (.s 7 [cells])),fr:=1,next:=1} =
  some (.ext 1,{env:=upd (upd emp 4 (some (.ptr (1,0) [] 0 0))) 3 (some (zk0 t)),heap:=upd (fdH (bO false K Bl) W) (1,0) (some (.s 7 [cells])),fr:=1,next:=1})
 |[],j,K,hd,hj,hK,hr=>by
  have hh:=dW hd hj
  have hdr:=bQ
  unfold loopW
  conv=>lhs;arg 1;unfold eR
  simp -implicitDefEqProofs (disch:=first|assumption|omega) only[go_sem,simprocAttr,hh,hdr,bO,List.foldl_nil]
 |r::Bl,j,K,hd,hj,hK,hr=>by
  have hc:=b7 hd hj
  have hdr:=bQ
  have h2:=kH (fun n=>[DI n]) hc.1
  have h4:=hc.2.1
  obtain⟨r0,r1⟩:=hr r (by simp)
  have ih:=zK2 W t cells S hS Bl (j+1) (K.set r.toNat false) hc.2.2.1 (by omega) (by simpa using hK) (fun r h=>by rw[List.length_set];exact hr r (by simp[h]))
  have e1:=sS K r.toNat false
  have f1:=eY (K:=K) (r:=r) (by omega)
  have l1:=y8 K
  rw[bO,List.foldl_cons,←bO,←ih]
  clear ih
  simp only[fdH,←e1]
  generalize bR K=A at *
  conv=>lhs;unfold loopW;arg 1;unfold eR
  simp -implicitDefEqProofs (disch:=first|assumption|omega|(simp only[aE,aF,aD,i64,sa,aB,lm,la,lc,ln];omega)) only[go_sem,simprocAttr,h2,h4,hdr,f1,l1]
end Go.Ev.G
