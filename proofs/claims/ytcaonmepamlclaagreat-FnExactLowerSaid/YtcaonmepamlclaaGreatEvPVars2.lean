import Derived.Test.YtcaonmepamlclaaGreatEvQUnit2
import Derived.Test.YtcaonmepamlclaaGreatEvPTypes
import Derived.Test.YtcaonmepamlclaaGreatEvPKw
import Derived.Test.YtcaonmepamlclaaGreatEvQText
set_option linter.all false
namespace Go.Ev.G
set_option maxRecDepth 8000
set_option maxHeartbeats 4000000
def Low(fr:Nat)(h:Heap):Prop:=∀id:Id,fr≤id.1→h id=none
theorem Low.drop{fr k:Nat}{h:Heap}(hl:Low fr h)(hk:fr≤k):bS k h=h:=by
 funext id
 unfold bS
 split
 ·rename_i e
  exact(hl id (by omega)).symm
 ·rfl
theorem Low.mono{fr k:Nat}{h:Heap}(hl:Low fr h)(hk:fr≤k):Low k h:=fun id hi=>hl id (by omega)
theorem Low.emp(fr:Nat):Low fr emp:=fun id _=>rfl
theorem Low.upd{fr k n:Nat}{h:Heap}(hl:Low fr h)(hk:fr<k)(d:Option D):Low k (upd h (fr,n) d):=fun id hi=>by
 simp only[Ev.upd]
 split
 ·rename_i e
  rw[e] at hi
  simp at hi
  omega
 ·exact hl id (by omega)
theorem w5(f:Nat)(p:ZB→Bool)(h:Heap)(fr:Nat)(hh:bS fr h=h)(xs:List ZB)(hx:xs.length≤140737488351232)(c kc:Nat)(h1:c<fr)(hf:∀x∈xs,evCW tab f [x.x,.ptr (c,kc) [] 0 0] h (fr+1)=some (B (p x),h)):∀(Bl:List ZB) (j:Int),xs.drop j.toNat=Bl→0≤j →
  loopW tab [0,1,7,8] bV {env:=upd (upd (upd (upd emp 8 (some (I j))) 7 (some (I (xs.length:Int)))) 1 (some (.clo f [.ptr (c,kc) [] 0 0]))) 0 (some (.d (.r (xs.map (ZB.r))))),heap:=h,fr:=fr,next:=0}=if aS p j Bl= -1 then some (.ext 0,{env:=emp,heap:=h,fr:=fr,next:=0}) else some (.ret,{env:=upd emp 4 (some (I (aS p j Bl))),heap:=h,fr:=fr,next:=0})
 |[],j,hd,hj=>by
  unfold loopW
  conv=>lhs;arg 1;unfold bV
  have:=b9 hd hj
  simp only[aS,if_true]
  simp -implicitDefEqProofs (disch:=first|assumption|omega|(simp only[aE,aQ,aD,i64,sa,aC,lm,la,lc,ln];omega)) only[go_sem,simprocAttr,hh,show ¬c=fr from by omega]
 |x::Bl,j,hd,hj=>by
  unfold loopW
  conv=>lhs;arg 1;unfold bV
  have h4:=(bK hd hj).2.1
  have ih:=w5 f p h fr hh xs hx c kc h1 hf Bl (j+1) (bK hd hj).2.2.1 (by omega)
  have h2:=eK (ZB.r) (bK hd hj).1
  rw[ZB.r_def] at h2
  have h3:=hf x (bK hd hj).2.2.2.1
  rw[aS]
  by_cases hp:p x=true
  ·rw[if_pos hp,if_neg (by omega)]
   simp -implicitDefEqProofs (disch:=first|assumption|omega|(simp only[aE,aQ,aD,i64,sa,aC,lm,la,lc,ln];omega)) only[go_sem,simprocAttr,h2,show ¬c=fr from by omega,h3,hh]
  ·rw[if_neg hp,←ih]
   simp -implicitDefEqProofs (disch:=first|assumption|omega|(simp only[aE,aQ,aD,i64,sa,aC,lm,la,lc,ln];omega)) only[go_sem,simprocAttr,h2,show ¬c=fr from by omega,h3,hh]
theorem yD(f:Nat)(p:ZB→Bool)(h:Heap)(fr:Nat)(hh:bS fr h=h)(xs:List ZB)(hx:xs.length≤140737488351232)(c kc:Nat)(h1:c<fr)(hf:∀x∈xs,evCW tab f [x.x,.ptr (c,kc) [] 0 0] h (fr+1)=some (B (p x),h)):evCW tab dO [.d (.r (xs.map (ZB.r))),.clo f [.ptr (c,kc) [] 0 0]] h fr=some (I (aS p 0 xs),h):=by
 rw[aP mA _ _ _ rfl,fI]
 have h0:=w5 f p h fr hh xs hx c kc h1 hf xs 0 rfl (by omega)
 by_cases hp:aS p 0 xs= -1
 ·rw[if_pos hp] at h0
  simp -implicitDefEqProofs (disch:=first|assumption|omega|(simp only[aE,aQ,aD,i64,sa,aC,lm,la,lc,ln];omega)) only[go_sem,simprocAttr,hh,h0,hp,show ¬c=fr from by omega]
 ·rw[if_neg hp] at h0
  simp -implicitDefEqProofs (disch:=first|assumption|omega|(simp only[aE,aQ,aD,i64,sa,aC,lm,la,lc,ln];omega)) only[go_sem,simprocAttr,hh,h0,hp,show ¬c=fr from by omega]
theorem lS(f:Nat)(p:ZB→Bool)(h:Heap)(fr:Nat)(hh:bS fr h=h)(hh':bS (fr+1) h=h)(xs:List ZB)(hx:xs.length≤140737488351232)(c kc:Nat)(h1:c<fr)(hf:∀x∈xs,evCW tab f [x.x,.ptr (c,kc) [] 0 0] h (fr+2)=some (B (p x),h)):evCW tab bX [.d (.r (xs.map (ZB.r))),.clo f [.ptr (c,kc) [] 0 0]] h fr=some (B (xs.any p),h):=by
 rw[aP kN _ _ _ rfl,eN]
 have h0:=yD f p h (fr+1) hh' xs hx c kc (by omega) hf
 rw[pB p 0 (by omega)]
 simp -implicitDefEqProofs (disch:=first|assumption|omega|(simp only[aE,aQ,aD,i64,sa,aC,lm,la,lc,ln];omega)) only[go_sem,simprocAttr,hh,h0,show ¬c=fr from by omega]
def NodeFn(g:Nat)(p:ZB→Bool)(x:ZB):Prop:=∀(h:Heap) (fr:Nat),Low fr h→evCW tab g [x.x] h fr=some (B (p x),h)
theorem Xv{g:Nat}{p:ZB→Bool}{x:ZB}(hg:NodeFn g p x)(h:Heap)(fr c kc:Nat)(hl:Low fr h)(hc:c<fr)(hk:h (c,kc)=some (.s 1 [[.v (.func (.func g) #[] #[])]])):evCW tab oC [x.x,.ptr (c,kc) [] 0 0] h fr=some (B (!p x),h):=by
 have h1:=hg h (fr+1) (hl.mono (by omega))
 have h2:=hl.drop (Nat.le_refl fr)
 rw[aP Lh _ _ _ rfl,w8]
 simp -implicitDefEqProofs (disch:=first|assumption|omega|(simp only[aE,aQ,aD,i64,sa,aC,lm,la,lc,ln];omega)) only[go_sem,simprocAttr,hk,h1,h2,show ¬c=fr from by omega]
theorem oS{g:Nat}{p:ZB→Bool}{xs:List ZB}(hx:xs.length≤140737488351232)(hg:∀x∈xs,NodeFn g p x)(h:Heap)(fr:Nat)(hl:Low fr h):evCW tab eC [.d (.r (xs.map ZB.r)),.d (.v (.func (.func g) #[] #[]))] h fr=some (B (xs.all p),h):=by
 have hl1:Low (fr+1) (upd h (fr,0) (some (.s 1 [[.v (.func (.func g) #[] #[])]]))):=hl.upd (by omega) _
 have h0:=lS oC (fun x=> !p x) (upd h (fr,0) (some (.s 1 [[.v (.func (.func g) #[] #[])]]))) (fr+1) (hl1.drop (Nat.le_refl _)) (hl1.drop (by omega)) xs hx fr 0 (by omega) (fun x hxm=>Xv (hg x hxm) _ _ _ _ (hl1.mono (by omega)) (by omega) (by simp[Ev.upd]))
 have h1:bS fr (upd h (fr,0) (some (.s 1 [[.v (.func (.func g) #[] #[])]])))=h:=by
  funext id
  unfold bS
  split
  ·rename_i e
   exact(hl id (by omega)).symm
  ·rename_i e
   simp only[Ev.upd]
   rw[if_neg (by rintro rfl;exact e rfl)]
 have h2:(xs.any fun x=> !p x)= !(xs.all p):=by
  rw[List.all_eq_not_any_not,Bool.not_not]
 rw[h2] at h0
 rw[aP Qj _ _ _ rfl,Dj]
 simp -implicitDefEqProofs (disch:=first|assumption|omega|(simp only[aE,aQ,aD,i64,sa,aC,lm,la,lc,ln];omega)) only[go_sem,simprocAttr,h0,h1,hl.drop (Nat.le_refl fr)]
set_option maxRecDepth 8000
set_option maxHeartbeats 4000000
theorem zzn(p:Int→Bool):∀l:List UInt8,decide (((Jp p l:Nat):Int)=l.length)=l.all fun b=>p b.toNat
 |[]=>by simp[Jp]
 |b::r=>by
  have ih:=zzn p r
  have h1:=zx8 p r
  rw[Jp,List.all_cons]
  cases hp:p b.toNat
  ·simp
   omega
  ·simp only[if_true,bta,lc,←ih]
   exact decide_eq_decide.2 (by omega)
theorem fF(s:ByteArray)(hs:s.size≤1048576):call tab iQ [Str s]=some (B (eL kwB s)):=by
 have h0:=zkx qV n4 emp 1 ((Low.emp 0).drop (by omega)) s hs 0 (by omega) (fun b=>zk8 b.toNat emp 2 ((Low.emp 0).drop (by omega)))
 have h1:=Q2 s
 have h2:=zzn n4 s.data.toList
 have h3:((s.data.toList.length:Nat):Int)=s.size:=by rw[Array.length_toList];rfl
 rw[h3] at h2
 simp only[List.drop_zero,Int.toNat_zero] at h0
 have hw:call tab cM [I (s.size:Int),I 1,I 10]=some (B (decide (1≤(s.size:Int)∧(s.size:Int)≤10))):=by
  rw[bU,inB,Bool.decide_and]
 have hN:eL kwB s=(decide (1≤(s.size:Int)∧(s.size:Int)≤10)&&decide (((Jp n4 s.data.toList:Nat):Int)=s.size)&& !kwB s):=by
  rw[h2];rfl
 rw[hN]
 generalize decide (1≤(s.size:Int)∧(s.size:Int)≤10)=z1 at *
 obtain⟨z3,hz3⟩:∃z,kwB s=z:=⟨_,rfl⟩
 rw[hz3] at h1 ⊢
 generalize Jp n4 s.data.toList=n at *
 rw[aJ Yt _ rfl,H3]
 by_cases c2:(n:Int)=s.size
 ·cases z1<;>cases z3<;>simp -implicitDefEqProofs (disch:=first|assumption|omega) only[go_sem,simprocAttr,hw,h0,h1,c2,decide_true,bta,bfa,Bool.not_true,Bool.not_false,bat,bA]
 ·cases z1<;>cases z3<;>simp -implicitDefEqProofs (disch:=first|assumption|omega) only[go_sem,simprocAttr,hw,h0,h1,c2,decide_false,bta,bfa,Bool.not_true,Bool.not_false,bat,bA]
theorem Gs(s:ByteArray)(hs:s.size≤1048576):∀(Bl:List UInt8) (j:Int),s.data.toList.drop j.toNat=Bl→0≤j →
  loopW tab [0,3] n5 {env:=upd (upd emp 3 (some (I j))) 0 (some (Str s)),heap:=emp,fr:=0,next:=0}=if (Bl.all fun b=>n4 b.toNat)=true then some (.ext 0,{env:=upd emp 0 (some (Str s)),heap:=emp,fr:=0,next:=0}) else some (.ret,{env:=upd emp 2 (some (B false)),heap:=emp,fr:=0,next:=0})
 |[],j,hd,hj=>by
  have h2:=z2J hd hj
  unfold loopW
  conv=>lhs;arg 1;unfold n5
  simp only[List.all_nil,if_true]
  simp -implicitDefEqProofs (disch:=first|assumption|omega) only[go_sem,simprocAttr]
 |b::r,j,hd,hj=>by
  obtain⟨g1,g2,g3,g4⟩:=z2X hd hj
  have ih:=Gs s hs r (j+1) g3 (by omega)
  have g5:=N8 b.toNat
  unfold loopW
  conv=>lhs;arg 1;unfold n5
  rw[List.all_cons]
  cases hp:n4 b.toNat<;>rw[hp] at g5
  ·simp only[bfa,Bool.false_eq_true,if_false]
   simp -implicitDefEqProofs (disch:=first|assumption|omega) only[go_sem,simprocAttr,g1,g5]
  ·simp only[bta]
   rw[←ih]
   simp -implicitDefEqProofs (disch:=first|assumption|omega) only[go_sem,simprocAttr,g1,g5]
theorem dV(s:ByteArray)(hs:s.size≤1048576):call tab rT [Str s]=some (B (eL kwB s)):=by
 have h0:=Gs s hs s.data.toList 0 rfl (by omega)
 have h1:=Rf s
 have hw:call tab cH [I (s.size:Int),I 1,I 10]=some (B (decide (1≤(s.size:Int)∧(s.size:Int)≤10))):=by
  rw[bR,inB,Bool.decide_and]
 have hN:eL kwB s=(decide (1≤(s.size:Int)∧(s.size:Int)≤10)&&(s.data.toList.all fun b=>n4 b.toNat)&& !kwB s):=rfl
 rw[hN]
 generalize decide (1≤(s.size:Int)∧(s.size:Int)≤10)=z1 at *
 generalize (s.data.toList.all fun b=>n4 b.toNat)=z2 at *
 obtain⟨z3,hz3⟩:∃z,kwB s=z:=⟨_,rfl⟩
 rw[hz3] at h1 ⊢
 rw[aJ Ye _ rfl,Ix]
 cases z2<;>simp only[Bool.false_eq_true,if_false,if_true] at h0
 ·cases z1<;>simp -implicitDefEqProofs (disch:=first|assumption|omega) only[go_sem,simprocAttr,h0,bA,bfa]
 ·cases z1<;>cases z3<;>simp -implicitDefEqProofs (disch:=first|assumption|omega) only[go_sem,simprocAttr,h0,h1,hw,bta,bfa,Bool.not_true,Bool.not_false,bat,bA]
theorem z2x(ks:List ZB):((ks.map fun k=>(k,k.td kwB)).all fun k=>k.2.e)=ks.all fun y=>(y.td kwB).e:=by rw[List.all_map];rfl
theorem z20(ks:List ZB):((ks.map fun k=>(k,k.td kwB)).all fun k=>k.2.s)=ks.all fun y=>(y.td kwB).s:=by rw[List.all_map];rfl
theorem z21(ks:List ZB):((ks.map fun k=>(k,k.td kwB)).all fun k=>k.2.c)=ks.all fun y=>(y.td kwB).c:=by rw[List.all_map];rfl
theorem zkH{x:ZB}(hx:x.Sm)(ih:∀y∈x.ks,NodeFn gL (fun y=>(y.td kwB).e) y):NodeFn gL (fun y=>(y.td kwB).e) x:=by
 intro h fr hl
 obtain⟨op,tx,v,ks⟩:=x
 have hks:=hx.ks.1
 have htx:=hx.tx
 simp only[ZB.ks,ZB.tx] at hks htx ih
 have ha:=oS (by omega) ih h (fr+1) (hl.mono (by omega))
 have hn:=fF tx htx
 have hd:=hl.drop (Nat.le_refl fr)
 have hw:call tab cM [I v,I (-2147483647),I 2147483647]=some (B (decide (-2147483647≤v∧v≤2147483647))):=by
  rw[bU,inB,Bool.decide_and]
 have hT:((ZB.mk op tx v ks).td kwB).e=(lP kwB op tx v ks.length&&ks.all fun y=>(y.td kwB).e):=by
  rw[wB]
  simp only[tdF,lm,z2x]
 simp only[hT]
 generalize (ks.all fun y=>(y.td kwB).e)=al at *
 obtain⟨nz,hnz⟩:∃z,eL kwB tx=z:=⟨_,rfl⟩
 rw[hnz] at hn
 obtain⟨wz,hwz⟩:∃z,decide (-2147483647≤v∧v≤2147483647)=z:=⟨_,rfl⟩
 rw[hwz] at hw
 rw[aP Py _ _ _ rfl,Do]
 by_cases hop:op=19∨op=20∨op=21∨op=22∨op=23∨op=24∨op=25∨op=26∨op=27∨op=28∨op=29∨op=30∨op=31
 ·rcases hop with rfl|rfl|rfl|rfl|rfl|rfl|rfl|rfl|rfl|rfl|rfl|rfl|rfl
  ·cases wz<;>((repeat'(first|simp -implicitDefEqProofs (disch:=first|assumption|omega|(simp only[aE,aQ,aD,i64,sa,aC,lm,la,lc,ln];omega)) only[go_sem,simprocAttr,ha,hn,hw,hd]|((first|rw[aL]|rw[aF]|rw[aG]|rw[aM]|rw[aN]|rw[aH]|rw[aI]|rw[aO]|skip);split)))<;>simp_all[lP]<;>(try(intros;omega)))
  ·cases nz<;>((repeat'(first|simp -implicitDefEqProofs (disch:=first|assumption|omega|(simp only[aE,aQ,aD,i64,sa,aC,lm,la,lc,ln];omega)) only[go_sem,simprocAttr,ha,hn,hw,hd]|((first|rw[aL]|rw[aF]|rw[aG]|rw[aM]|rw[aN]|rw[aH]|rw[aI]|rw[aO]|skip);split)))<;>(try simp_all[lP])<;>(try(intros;omega)))
  all_goals(first|((repeat'(first|simp -implicitDefEqProofs (disch:=first|assumption|omega|(simp only[aE,aQ,aD,i64,sa,aC,lm,la,lc,ln];omega)) only[go_sem,simprocAttr,ha,hn,hw,hd]|((first|rw[aL]|rw[aF]|rw[aG]|rw[aM]|rw[aN]|rw[aH]|rw[aI]|rw[aO]|skip);split)))<;>(try simp_all[lP])<;>(try(intros;omega));done)|(cases nz<;>((repeat'(first|simp -implicitDefEqProofs (disch:=first|assumption|omega|(simp only[aE,aQ,aD,i64,sa,aC,lm,la,lc,ln];omega)) only[go_sem,simprocAttr,ha,hn,hw,hd]|((first|rw[aL]|rw[aF]|rw[aG]|rw[aM]|rw[aN]|rw[aH]|rw[aI]|rw[aO]|skip);split)))<;>(try simp_all[lP])<;>(try(intros;omega)))))
 ·simp only[not_or] at hop
  obtain⟨c1,c2,c3,c4,c5,c6,c7,c8,c9,c10,c11,c12,c13⟩:=hop
  have hE:lP kwB op tx v ks.length=false:=by simp[lP, *]
  rw[hE]
  (repeat'(first|simp -implicitDefEqProofs (disch:=first|assumption|omega|(simp only[aE,aQ,aD,i64,sa,aC,lm,la,lc,ln];omega)) only[go_sem,simprocAttr,ha,hn,hw,hd]|((first|rw[aL]|rw[aF]|rw[aG]|rw[aM]|rw[aN]|rw[aH]|rw[aI]|rw[aO]|skip);split)))<;>simp_all
set_option maxRecDepth 8000
set_option maxHeartbeats 4000000
abbrev eFn(x:ZB):Prop:=NodeFn gL (fun y=>(y.td kwB).e) x
abbrev bFn(x:ZB):Prop:=NodeFn dT (fun y=>(y.td kwB).b) x
abbrev sFn(x:ZB):Prop:=NodeFn bJ (fun y=>(y.td kwB).s) x
abbrev cFn(x:ZB):Prop:=NodeFn xN (fun y=>(y.td kwB).c) x
theorem NodeFn.call{g:Nat}{p:ZB→Bool}{x:ZB}(h:NodeFn g p x):Ev.call tab g [x.x]=some (B (p x)):=by
 unfold Ev.call
 rw[h emp 0 (Low.emp 0)]
 rfl
theorem zzv{x:ZB}(hx:x.Sm)(ih:∀y∈x.ks,sFn y):bFn x:=by
 intro h fr hl
 obtain⟨op,tx,v,ks⟩:=x
 have hks:=hx.ks.1
 simp only[ZB.ks] at hks ih
 have ha:=oS (by omega) ih h (fr+1) (hl.mono (by omega))
 have hd:=hl.drop (Nat.le_refl fr)
 have hT:((ZB.mk op tx v ks).td kwB).b=(decide (op=1)&&decide (tx=emS)&&decide (v=0)&&ks.all fun y=>(y.td kwB).s):=by
  rw[wB]
  simp only[tdF,z20]
 simp only[hT]
 clear hT
 generalize (ks.all fun y=>(y.td kwB).s)=al at *
 rw[aP Ms _ _ _ rfl,A0]
 (repeat'(first|simp -implicitDefEqProofs (disch:=first|assumption|omega|(simp only[aE,aQ,aD,i64,sa,aC,lm,la,lc,ln];omega)) only[go_sem,simprocAttr,ha,hd]|((first|rw[aL]|rw[aF]|rw[aG]|rw[aM]|rw[aN]|rw[aH]|rw[aI]|rw[aO]|skip);split)))<;>simp_all
theorem bY(ks:List ZB)(n:Nat):(ks.map ZB.r).take n=(ks.take n).map ZB.r:=by rw[List.map_take]
theorem bZ(ks:List ZB)(n:Nat):(ks.map ZB.r).drop n=(ks.drop n).map ZB.r:=by rw[List.map_drop]
theorem zWj(ks:List ZB)(n:Nat):(((ks.map fun k=>(k,k.td kwB)).take n).all fun k=>k.2.e)=(ks.take n).all fun y=>(y.td kwB).e:=by rw[←List.map_take,List.all_map];rfl
theorem z9b(ks:List ZB)(n:Nat):(((ks.map fun k=>(k,k.td kwB)).drop n).all fun k=>k.2.b)=(ks.drop n).all fun y=>(y.td kwB).b:=by rw[←List.map_drop,List.all_map];rfl
theorem bC(ks:List ZB):((ks.map ZB.r).all fun el=>el.length==4)=true:=by
 rw[List.all_map]
 exact List.all_eq_true.2 (fun x _=>by simp[ZB.r_def])
theorem zq5{x:ZB}(hx:x.Sm)(ih:∀y∈x.ks,eFn y∧bFn y):cFn x:=by
 intro h fr hl
 obtain⟨op,tx,v,ks⟩:=x
 have hks:=hx.ks.1
 have htx:=hx.tx
 simp only[ZB.ks,ZB.tx] at hks htx ih
 have hn:=fF tx htx
 have hd:=hl.drop (Nat.le_refl fr)
 have ht:=fun es=>oS (xs:=ks.take es) (by rw[List.length_take];omega) (fun y hy=>(ih y (List.mem_of_mem_take hy)).1) h (fr+1) (hl.mono (by omega))
 have hT:((ZB.mk op tx v ks).td kwB).c=(match Gz kwB op tx with
  |some (nm,es)=>nm&&decide (v=0)&&decide (ks.length=es+1)&&((ks.take es).all fun y=>(y.td kwB).e)&&((ks.drop es).all fun y=>(y.td kwB).b)
  |none=>false):=by
  rw[wB]
  simp only[tdF,lm]
  cases Gz kwB op tx with
  |none=>rfl
  |some p=>simp only[zWj,z9b]
 simp only[hT]
 clear hT
 rw[aP Qo _ _ _ rfl,Ds]
 by_cases c32:op=32
 ·subst c32
  simp only[Gz,if_true]
  obtain⟨nz,hnz⟩:∃z,eL kwB tx=z:=⟨_,rfl⟩
  rw[hnz] at hn ⊢
  by_cases c:ks.length=1+1
  ·match ks,c with
   |[a,b],_ =>
    have h1:=ht 1
    have h2:call tab dT [b.x]=some (B (b.td kwB).b):=(ih b (by simp)).2.call
    simp only[List.take_succ_cons,List.take_zero,List.drop_succ_cons,List.drop_zero,List.all_cons,List.all_nil,bat,mc,mn,ZB.r_def] at h1 ⊢
    generalize (a.td kwB).e=z0 at *
    generalize (b.td kwB).b=z9 at *
    cases nz<;>cases z0<;>((repeat'(first|simp -implicitDefEqProofs (disch:=first|assumption|omega|(simp only[aE,aQ,aD,i64,sa,aC,lm,la,lc,ln];omega)) only[go_sem,simprocAttr,hn,hd,h1,h2,mc,mn,ZB.r_def,lc,ln]|((first|rw[aL]|rw[aF]|rw[aG]|rw[aM]|rw[aN]|rw[aH]|rw[aI]|rw[aO]|skip);split)))<;>(try simp_all))
  ·have hlen:¬(ks.length:Int)=1+1:=by omega
   cases nz<;>((repeat'(first|simp -implicitDefEqProofs (disch:=first|assumption|omega|(simp only[aE,aQ,aD,i64,sa,aC,lm,la,lc,ln];omega)) only[go_sem,simprocAttr,hn,hd,hlen]|((first|rw[aL]|rw[aF]|rw[aG]|rw[aM]|rw[aN]|rw[aH]|rw[aI]|rw[aO]|skip);split)))<;>(try simp_all)<;>(try(intros;omega)))
 by_cases c33:op=33
 ·subst c33
  simp only[Gz,if_true,show ¬(33:Int)=32 from by decide,if_false]
  by_cases c:ks.length=2+1
  ·match ks,c with
   |[a,b,c],_ =>
    have h1:=ht 2
    have h2:call tab dT [c.x]=some (B (c.td kwB).b):=(ih c (by simp)).2.call
    simp only[List.take_succ_cons,List.take_zero,List.drop_succ_cons,List.drop_zero,List.all_cons,List.all_nil,bat,mc,mn,ZB.r_def] at h1 ⊢
    generalize (a.td kwB).e=z0 at *
    generalize (b.td kwB).e=z1 at *
    generalize (c.td kwB).b=z9 at *
    cases z0<;>cases z1<;>((repeat'(first|simp -implicitDefEqProofs (disch:=first|assumption|omega|(simp only[aE,aQ,aD,i64,sa,aC,lm,la,lc,ln];omega)) only[go_sem,simprocAttr,hn,hd,h1,h2,mc,mn,ZB.r_def,lc,ln]|((first|rw[aL]|rw[aF]|rw[aG]|rw[aM]|rw[aN]|rw[aH]|rw[aI]|rw[aO]|skip);split)))<;>(try simp_all))
  ·have hlen:¬(ks.length:Int)=2+1:=by omega
   ((repeat'(first|simp -implicitDefEqProofs (disch:=first|assumption|omega|(simp only[aE,aQ,aD,i64,sa,aC,lm,la,lc,ln];omega)) only[go_sem,simprocAttr,hn,hd,hlen]|((first|rw[aL]|rw[aF]|rw[aG]|rw[aM]|rw[aN]|rw[aH]|rw[aI]|rw[aO]|skip);split)))<;>(try simp_all)<;>(try(intros;omega)))
 by_cases c34:op=34
 ·subst c34
  simp only[Gz,if_true,show ¬(34:Int)=32 from by decide,show ¬(34:Int)=33 from by decide,if_false]
  by_cases c:ks.length=0+1
  ·match ks,c with
   |[a],_ =>
    have h1:=ht 0
    have h2:call tab dT [a.x]=some (B (a.td kwB).b):=(ih a (by simp)).2.call
    simp only[List.take_succ_cons,List.take_zero,List.drop_succ_cons,List.drop_zero,List.all_cons,List.all_nil,bat,mc,mn,ZB.r_def] at h1 ⊢
    generalize (a.td kwB).b=z9 at *
    ((repeat'(first|simp -implicitDefEqProofs (disch:=first|assumption|omega|(simp only[aE,aQ,aD,i64,sa,aC,lm,la,lc,ln];omega)) only[go_sem,simprocAttr,hn,hd,h1,h2,mc,mn,ZB.r_def,lc,ln]|((first|rw[aL]|rw[aF]|rw[aG]|rw[aM]|rw[aN]|rw[aH]|rw[aI]|rw[aO]|skip);split)))<;>(try simp_all))
  ·have hlen:¬(ks.length:Int)=0+1:=by omega
   ((repeat'(first|simp -implicitDefEqProofs (disch:=first|assumption|omega|(simp only[aE,aQ,aD,i64,sa,aC,lm,la,lc,ln];omega)) only[go_sem,simprocAttr,hn,hd,hlen]|((first|rw[aL]|rw[aF]|rw[aG]|rw[aM]|rw[aN]|rw[aH]|rw[aI]|rw[aO]|skip);split)))<;>(try simp_all)<;>(try(intros;omega)))
 have hC:Gz kwB op tx=none:=by simp[Gz, *]
 rw[hC]
 (repeat'(first|simp -implicitDefEqProofs (disch:=first|assumption|omega|(simp only[aE,aQ,aD,i64,sa,aC,lm,la,lc,ln];omega)) only[go_sem,simprocAttr,hn,hd]|((first|rw[aL]|rw[aF]|rw[aG]|rw[aM]|rw[aN]|rw[aH]|rw[aI]|rw[aO]|skip);split)))
set_option maxRecDepth 8000
set_option maxHeartbeats 8000000
theorem Hv{op:Int}{tx:ByteArray}{v:Int}{ks:List ZB}{nm:Bool}{es bs:Nat}(h12:op≠12)(hm:zzp kwB op tx ks.length=some (nm,es,bs)):((ZB.mk op tx v ks).td kwB).s=(nm&&decide (v=0)&&decide (ks.length=es+bs)&&((ks.take es).all fun y=>(y.td kwB).e)&&((ks.drop es).all fun y=>(y.td kwB).b)):=by
 rw[wB]
 simp only[tdF,lm]
 rw[if_neg h12,hm]
 simp only[zWj,z9b]
section
variable{tx:ByteArray}{v:Int}{ks:List ZB}{h:Heap}{fr:Nat}
structure SW (tx:ByteArray) (ks:List ZB) (h:Heap) (fr:Nat):Prop where
 hl:Low fr h
 hks:ks.length≤1048576
 htx:tx.size≤1048576
 ih:∀y∈ks,eFn y∧bFn y∧cFn y
theorem SW.take(w:SW tx ks h fr)(es:Nat):evCW tab eC [.d (.r ((ks.take es).map ZB.r)),.d (.v (.func (.func gL) #[] #[]))] h (fr+1)=some (B ((ks.take es).all fun y=>(y.td kwB).e),h) :=
 oS (xs:=ks.take es) (by rw[List.length_take];have:=w.hks;omega) (fun y hy=>(w.ih y (List.mem_of_mem_take hy)).1) h (fr+1) (w.hl.mono (by omega))
theorem SW.drop(w:SW tx ks h fr)(es:Nat):evCW tab eC [.d (.r ((ks.drop es).map ZB.r)),.d (.v (.func (.func dT) #[] #[]))] h (fr+1)=some (B ((ks.drop es).all fun y=>(y.td kwB).b),h) :=
 oS (xs:=ks.drop es) (by rw[List.length_drop];have:=w.hks;omega) (fun y hy=>(w.ih y (List.mem_of_mem_drop hy)).2.1) h (fr+1) (w.hl.mono (by omega))
theorem bD(ks:List ZB):(ks.map ZB.r).take ks.length=ks.map ZB.r:=List.take_of_length_le (by rw[lm];omega)
theorem z2e(w:SW tx ks h fr):evCW tab bJ [(ZB.mk 2 tx v ks).x] h fr=some (B ((ZB.mk 2 tx v ks).td kwB).s,h):=by
 have hd:=w.hl.drop (Nat.le_refl fr)
 have h1:=w.take 1
 have h2:=w.drop 1
 have hks:=w.hks
 rw[Hv (nm:=eL kwB tx) (es:=1) (bs:=0) (by decide) rfl]
 obtain⟨nz,hnz⟩:∃z,eL kwB tx=z:=⟨_,rfl⟩
 have hn:=fF tx w.htx
 rw[hnz] at hn ⊢
 generalize ((ks.take 1).all fun y=>(y.td kwB).e)=z1 at *
 generalize ((ks.drop 1).all fun y=>(y.td kwB).b)=z2 at *
 rw[aP bI _ _ _ rfl,bF]
 by_cases c2:v=0
 ·by_cases c3:ks.length=1+0
  ·have c4:(ks.length:Int)=1:=by omega
   have htl:ks.take 1=ks:=List.take_of_length_le (by omega)
   rw[htl] at h1
   cases nz<;>cases z1<;>simp -implicitDefEqProofs (disch:=first|assumption|omega) only[go_sem,simprocAttr,htl,hd,h1,h2,bY,bZ,bD,bC,List.drop_zero,hn,c2,c3,c4,decide_true,decide_false,bta,bfa,bat,bA]
  ·have c4:¬(ks.length:Int)=1:=by omega
   cases nz<;>simp -implicitDefEqProofs (disch:=first|assumption|omega) only[go_sem,simprocAttr,hd,h1,h2,bY,bZ,bD,bC,List.drop_zero,hn,c2,c3,c4,decide_true,decide_false,bta,bfa,bat,bA]
 ·cases nz<;>simp -implicitDefEqProofs (disch:=first|assumption|omega) only[go_sem,simprocAttr,hd,h1,h2,bY,bZ,bD,bC,List.drop_zero,hn,c2,decide_true,decide_false,bta,bfa,bat,bA]
theorem z4T(w:SW tx ks h fr):evCW tab bJ [(ZB.mk 3 tx v ks).x] h fr=some (B ((ZB.mk 3 tx v ks).td kwB).s,h):=by
 have hd:=w.hl.drop (Nat.le_refl fr)
 have h1:=w.take 1
 have h2:=w.drop 1
 have hks:=w.hks
 rw[Hv (nm:=eL kwB tx) (es:=1) (bs:=0) (by decide) rfl]
 obtain⟨nz,hnz⟩:∃z,eL kwB tx=z:=⟨_,rfl⟩
 have hn:=fF tx w.htx
 rw[hnz] at hn ⊢
 generalize ((ks.take 1).all fun y=>(y.td kwB).e)=z1 at *
 generalize ((ks.drop 1).all fun y=>(y.td kwB).b)=z2 at *
 rw[aP bI _ _ _ rfl,bF]
 by_cases c2:v=0
 ·by_cases c3:ks.length=1+0
  ·have c4:(ks.length:Int)=1:=by omega
   have htl:ks.take 1=ks:=List.take_of_length_le (by omega)
   rw[htl] at h1
   cases nz<;>cases z1<;>simp -implicitDefEqProofs (disch:=first|assumption|omega) only[go_sem,simprocAttr,htl,hd,h1,h2,bY,bZ,bD,bC,List.drop_zero,hn,c2,c3,c4,decide_true,decide_false,bta,bfa,bat,bA]
  ·have c4:¬(ks.length:Int)=1:=by omega
   cases nz<;>simp -implicitDefEqProofs (disch:=first|assumption|omega) only[go_sem,simprocAttr,hd,h1,h2,bY,bZ,bD,bC,List.drop_zero,hn,c2,c3,c4,decide_true,decide_false,bta,bfa,bat,bA]
 ·cases nz<;>simp -implicitDefEqProofs (disch:=first|assumption|omega) only[go_sem,simprocAttr,hd,h1,h2,bY,bZ,bD,bC,List.drop_zero,hn,c2,decide_true,decide_false,bta,bfa,bat,bA]
theorem z7r(w:SW tx ks h fr):evCW tab bJ [(ZB.mk 10 tx v ks).x] h fr=some (B ((ZB.mk 10 tx v ks).td kwB).s,h):=by
 have hd:=w.hl.drop (Nat.le_refl fr)
 have h1:=w.take 1
 have h2:=w.drop 1
 have hks:=w.hks
 rw[Hv (nm:=eL kwB tx) (es:=1) (bs:=0) (by decide) rfl]
 obtain⟨nz,hnz⟩:∃z,eL kwB tx=z:=⟨_,rfl⟩
 have hn:=fF tx w.htx
 rw[hnz] at hn ⊢
 generalize ((ks.take 1).all fun y=>(y.td kwB).e)=z1 at *
 generalize ((ks.drop 1).all fun y=>(y.td kwB).b)=z2 at *
 rw[aP bI _ _ _ rfl,bF]
 by_cases c2:v=0
 ·by_cases c3:ks.length=1+0
  ·have c4:(ks.length:Int)=1:=by omega
   have htl:ks.take 1=ks:=List.take_of_length_le (by omega)
   rw[htl] at h1
   cases nz<;>cases z1<;>simp -implicitDefEqProofs (disch:=first|assumption|omega) only[go_sem,simprocAttr,htl,hd,h1,h2,bY,bZ,bD,bC,List.drop_zero,hn,c2,c3,c4,decide_true,decide_false,bta,bfa,bat,bA]
  ·have c4:¬(ks.length:Int)=1:=by omega
   cases nz<;>simp -implicitDefEqProofs (disch:=first|assumption|omega) only[go_sem,simprocAttr,hd,h1,h2,bY,bZ,bD,bC,List.drop_zero,hn,c2,c3,c4,decide_true,decide_false,bta,bfa,bat,bA]
 ·cases nz<;>simp -implicitDefEqProofs (disch:=first|assumption|omega) only[go_sem,simprocAttr,hd,h1,h2,bY,bZ,bD,bC,List.drop_zero,hn,c2,decide_true,decide_false,bta,bfa,bat,bA]
theorem z3P(w:SW tx ks h fr):evCW tab bJ [(ZB.mk 6 tx v ks).x] h fr=some (B ((ZB.mk 6 tx v ks).td kwB).s,h):=by
 have hd:=w.hl.drop (Nat.le_refl fr)
 have h1:=w.take 1
 have h2:=w.drop 1
 have hks:=w.hks
 rw[Hv (nm:=decide (tx=emS)) (es:=1) (bs:=0) (by decide) rfl]
 generalize ((ks.take 1).all fun y=>(y.td kwB).e)=z1 at *
 generalize ((ks.drop 1).all fun y=>(y.td kwB).b)=z2 at *
 rw[aP bI _ _ _ rfl,bF]
 by_cases c2:v=0
 ·by_cases c3:ks.length=1+0
  ·have c4:(ks.length:Int)=1:=by omega
   have htl:ks.take 1=ks:=List.take_of_length_le (by omega)
   rw[htl] at h1
   by_cases c1:tx=emS<;>cases z1<;>simp -implicitDefEqProofs (disch:=first|assumption|omega) only[go_sem,simprocAttr,htl,hd,h1,h2,bY,bZ,bD,bC,List.drop_zero,c1,c2,c3,c4,decide_true,decide_false,bta,bfa,bat,bA]
  ·have c4:¬(ks.length:Int)=1:=by omega
   by_cases c1:tx=emS<;>simp -implicitDefEqProofs (disch:=first|assumption|omega) only[go_sem,simprocAttr,hd,h1,h2,bY,bZ,bD,bC,List.drop_zero,c1,c2,c3,c4,decide_true,decide_false,bta,bfa,bat,bA]
 ·by_cases c1:tx=emS<;>simp -implicitDefEqProofs (disch:=first|assumption|omega) only[go_sem,simprocAttr,hd,h1,h2,bY,bZ,bD,bC,List.drop_zero,c1,c2,decide_true,decide_false,bta,bfa,bat,bA]
theorem z4K(w:SW tx ks h fr):evCW tab bJ [(ZB.mk 7 tx v ks).x] h fr=some (B ((ZB.mk 7 tx v ks).td kwB).s,h):=by
 have hd:=w.hl.drop (Nat.le_refl fr)
 have h1:=w.take 1
 have h2:=w.drop 1
 have hks:=w.hks
 rw[Hv (nm:=decide (tx=emS)) (es:=1) (bs:=0) (by decide) rfl]
 generalize ((ks.take 1).all fun y=>(y.td kwB).e)=z1 at *
 generalize ((ks.drop 1).all fun y=>(y.td kwB).b)=z2 at *
 rw[aP bI _ _ _ rfl,bF]
 by_cases c2:v=0
 ·by_cases c3:ks.length=1+0
  ·have c4:(ks.length:Int)=1:=by omega
   have htl:ks.take 1=ks:=List.take_of_length_le (by omega)
   rw[htl] at h1
   by_cases c1:tx=emS<;>cases z1<;>simp -implicitDefEqProofs (disch:=first|assumption|omega) only[go_sem,simprocAttr,htl,hd,h1,h2,bY,bZ,bD,bC,List.drop_zero,c1,c2,c3,c4,decide_true,decide_false,bta,bfa,bat,bA]
  ·have c4:¬(ks.length:Int)=1:=by omega
   by_cases c1:tx=emS<;>simp -implicitDefEqProofs (disch:=first|assumption|omega) only[go_sem,simprocAttr,hd,h1,h2,bY,bZ,bD,bC,List.drop_zero,c1,c2,c3,c4,decide_true,decide_false,bta,bfa,bat,bA]
 ·by_cases c1:tx=emS<;>simp -implicitDefEqProofs (disch:=first|assumption|omega) only[go_sem,simprocAttr,hd,h1,h2,bY,bZ,bD,bC,List.drop_zero,c1,c2,decide_true,decide_false,bta,bfa,bat,bA]
theorem z7I(w:SW tx ks h fr):evCW tab bJ [(ZB.mk 11 tx v ks).x] h fr=some (B ((ZB.mk 11 tx v ks).td kwB).s,h):=by
 have hd:=w.hl.drop (Nat.le_refl fr)
 have h1:=w.take 1
 have h2:=w.drop 1
 have hks:=w.hks
 rw[Hv (nm:=decide (tx=emS)) (es:=1) (bs:=0) (by decide) rfl]
 generalize ((ks.take 1).all fun y=>(y.td kwB).e)=z1 at *
 generalize ((ks.drop 1).all fun y=>(y.td kwB).b)=z2 at *
 rw[aP bI _ _ _ rfl,bF]
 by_cases c2:v=0
 ·by_cases c3:ks.length=1+0
  ·have c4:(ks.length:Int)=1:=by omega
   have htl:ks.take 1=ks:=List.take_of_length_le (by omega)
   rw[htl] at h1
   by_cases c1:tx=emS<;>cases z1<;>simp -implicitDefEqProofs (disch:=first|assumption|omega) only[go_sem,simprocAttr,htl,hd,h1,h2,bY,bZ,bD,bC,List.drop_zero,c1,c2,c3,c4,decide_true,decide_false,bta,bfa,bat,bA]
  ·have c4:¬(ks.length:Int)=1:=by omega
   by_cases c1:tx=emS<;>simp -implicitDefEqProofs (disch:=first|assumption|omega) only[go_sem,simprocAttr,hd,h1,h2,bY,bZ,bD,bC,List.drop_zero,c1,c2,c3,c4,decide_true,decide_false,bta,bfa,bat,bA]
 ·by_cases c1:tx=emS<;>simp -implicitDefEqProofs (disch:=first|assumption|omega) only[go_sem,simprocAttr,hd,h1,h2,bY,bZ,bD,bC,List.drop_zero,c1,c2,decide_true,decide_false,bta,bfa,bat,bA]
theorem z7N(w:SW tx ks h fr):evCW tab bJ [(ZB.mk 16 tx v ks).x] h fr=some (B ((ZB.mk 16 tx v ks).td kwB).s,h):=by
 have hd:=w.hl.drop (Nat.le_refl fr)
 have h1:=w.take 1
 have h2:=w.drop 1
 have hks:=w.hks
 rw[Hv (nm:=decide (tx=emS)) (es:=1) (bs:=0) (by decide) rfl]
 generalize ((ks.take 1).all fun y=>(y.td kwB).e)=z1 at *
 generalize ((ks.drop 1).all fun y=>(y.td kwB).b)=z2 at *
 rw[aP bI _ _ _ rfl,bF]
 by_cases c2:v=0
 ·by_cases c3:ks.length=1+0
  ·have c4:(ks.length:Int)=1:=by omega
   have htl:ks.take 1=ks:=List.take_of_length_le (by omega)
   rw[htl] at h1
   by_cases c1:tx=emS<;>cases z1<;>simp -implicitDefEqProofs (disch:=first|assumption|omega) only[go_sem,simprocAttr,htl,hd,h1,h2,bY,bZ,bD,bC,List.drop_zero,c1,c2,c3,c4,decide_true,decide_false,bta,bfa,bat,bA]
  ·have c4:¬(ks.length:Int)=1:=by omega
   by_cases c1:tx=emS<;>simp -implicitDefEqProofs (disch:=first|assumption|omega) only[go_sem,simprocAttr,hd,h1,h2,bY,bZ,bD,bC,List.drop_zero,c1,c2,c3,c4,decide_true,decide_false,bta,bfa,bat,bA]
 ·by_cases c1:tx=emS<;>simp -implicitDefEqProofs (disch:=first|assumption|omega) only[go_sem,simprocAttr,hd,h1,h2,bY,bZ,bD,bC,List.drop_zero,c1,c2,decide_true,decide_false,bta,bfa,bat,bA]
theorem z6M(w:SW tx ks h fr):evCW tab bJ [(ZB.mk 17 tx v ks).x] h fr=some (B ((ZB.mk 17 tx v ks).td kwB).s,h):=by
 have hd:=w.hl.drop (Nat.le_refl fr)
 have h1:=w.take 1
 have h2:=w.drop 1
 have hks:=w.hks
 rw[Hv (nm:=decide (tx=emS)) (es:=1) (bs:=0) (by decide) rfl]
 generalize ((ks.take 1).all fun y=>(y.td kwB).e)=z1 at *
 generalize ((ks.drop 1).all fun y=>(y.td kwB).b)=z2 at *
 rw[aP bI _ _ _ rfl,bF]
 by_cases c2:v=0
 ·by_cases c3:ks.length=1+0
  ·have c4:(ks.length:Int)=1:=by omega
   have htl:ks.take 1=ks:=List.take_of_length_le (by omega)
   rw[htl] at h1
   by_cases c1:tx=emS<;>cases z1<;>simp -implicitDefEqProofs (disch:=first|assumption|omega) only[go_sem,simprocAttr,htl,hd,h1,h2,bY,bZ,bD,bC,List.drop_zero,c1,c2,c3,c4,decide_true,decide_false,bta,bfa,bat,bA]
  ·have c4:¬(ks.length:Int)=1:=by omega
   by_cases c1:tx=emS<;>simp -implicitDefEqProofs (disch:=first|assumption|omega) only[go_sem,simprocAttr,hd,h1,h2,bY,bZ,bD,bC,List.drop_zero,c1,c2,c3,c4,decide_true,decide_false,bta,bfa,bat,bA]
 ·by_cases c1:tx=emS<;>simp -implicitDefEqProofs (disch:=first|assumption|omega) only[go_sem,simprocAttr,hd,h1,h2,bY,bZ,bD,bC,List.drop_zero,c1,c2,decide_true,decide_false,bta,bfa,bat,bA]
theorem z7R(w:SW tx ks h fr):evCW tab bJ [(ZB.mk 18 tx v ks).x] h fr=some (B ((ZB.mk 18 tx v ks).td kwB).s,h):=by
 have hd:=w.hl.drop (Nat.le_refl fr)
 have h1:=w.take 1
 have h2:=w.drop 1
 have hks:=w.hks
 rw[Hv (nm:=decide (tx=emS)) (es:=1) (bs:=0) (by decide) rfl]
 generalize ((ks.take 1).all fun y=>(y.td kwB).e)=z1 at *
 generalize ((ks.drop 1).all fun y=>(y.td kwB).b)=z2 at *
 rw[aP bI _ _ _ rfl,bF]
 by_cases c2:v=0
 ·by_cases c3:ks.length=1+0
  ·have c4:(ks.length:Int)=1:=by omega
   have htl:ks.take 1=ks:=List.take_of_length_le (by omega)
   rw[htl] at h1
   by_cases c1:tx=emS<;>cases z1<;>simp -implicitDefEqProofs (disch:=first|assumption|omega) only[go_sem,simprocAttr,htl,hd,h1,h2,bY,bZ,bD,bC,List.drop_zero,c1,c2,c3,c4,decide_true,decide_false,bta,bfa,bat,bA]
  ·have c4:¬(ks.length:Int)=1:=by omega
   by_cases c1:tx=emS<;>simp -implicitDefEqProofs (disch:=first|assumption|omega) only[go_sem,simprocAttr,hd,h1,h2,bY,bZ,bD,bC,List.drop_zero,c1,c2,c3,c4,decide_true,decide_false,bta,bfa,bat,bA]
 ·by_cases c1:tx=emS<;>simp -implicitDefEqProofs (disch:=first|assumption|omega) only[go_sem,simprocAttr,hd,h1,h2,bY,bZ,bD,bC,List.drop_zero,c1,c2,decide_true,decide_false,bta,bfa,bat,bA]
theorem z4A(w:SW tx ks h fr):evCW tab bJ [(ZB.mk 9 tx v ks).x] h fr=some (B ((ZB.mk 9 tx v ks).td kwB).s,h):=by
 have hd:=w.hl.drop (Nat.le_refl fr)
 have h1:=w.take 2
 have h2:=w.drop 2
 have hks:=w.hks
 rw[Hv (nm:=decide (tx=emS)) (es:=2) (bs:=0) (by decide) rfl]
 generalize ((ks.take 2).all fun y=>(y.td kwB).e)=z1 at *
 generalize ((ks.drop 2).all fun y=>(y.td kwB).b)=z2 at *
 rw[aP bI _ _ _ rfl,bF]
 by_cases c2:v=0
 ·by_cases c3:ks.length=2+0
  ·have c4:(ks.length:Int)=2:=by omega
   have htl:ks.take 2=ks:=List.take_of_length_le (by omega)
   rw[htl] at h1
   by_cases c1:tx=emS<;>cases z1<;>simp -implicitDefEqProofs (disch:=first|assumption|omega) only[go_sem,simprocAttr,htl,hd,h1,h2,bY,bZ,bD,bC,List.drop_zero,c1,c2,c3,c4,decide_true,decide_false,bta,bfa,bat,bA]
  ·have c4:¬(ks.length:Int)=2:=by omega
   by_cases c1:tx=emS<;>simp -implicitDefEqProofs (disch:=first|assumption|omega) only[go_sem,simprocAttr,hd,h1,h2,bY,bZ,bD,bC,List.drop_zero,c1,c2,c3,c4,decide_true,decide_false,bta,bfa,bat,bA]
 ·by_cases c1:tx=emS<;>simp -implicitDefEqProofs (disch:=first|assumption|omega) only[go_sem,simprocAttr,hd,h1,h2,bY,bZ,bD,bC,List.drop_zero,c1,c2,decide_true,decide_false,bta,bfa,bat,bA]
theorem z6n(w:SW tx ks h fr):evCW tab bJ [(ZB.mk 13 tx v ks).x] h fr=some (B ((ZB.mk 13 tx v ks).td kwB).s,h):=by
 have hd:=w.hl.drop (Nat.le_refl fr)
 have h1:=w.take 2
 have h2:=w.drop 2
 have hks:=w.hks
 rw[Hv (nm:=decide (tx=emS)) (es:=2) (bs:=0) (by decide) rfl]
 generalize ((ks.take 2).all fun y=>(y.td kwB).e)=z1 at *
 generalize ((ks.drop 2).all fun y=>(y.td kwB).b)=z2 at *
 rw[aP bI _ _ _ rfl,bF]
 by_cases c2:v=0
 ·by_cases c3:ks.length=2+0
  ·have c4:(ks.length:Int)=2:=by omega
   have htl:ks.take 2=ks:=List.take_of_length_le (by omega)
   rw[htl] at h1
   by_cases c1:tx=emS<;>cases z1<;>simp -implicitDefEqProofs (disch:=first|assumption|omega) only[go_sem,simprocAttr,htl,hd,h1,h2,bY,bZ,bD,bC,List.drop_zero,c1,c2,c3,c4,decide_true,decide_false,bta,bfa,bat,bA]
  ·have c4:¬(ks.length:Int)=2:=by omega
   by_cases c1:tx=emS<;>simp -implicitDefEqProofs (disch:=first|assumption|omega) only[go_sem,simprocAttr,hd,h1,h2,bY,bZ,bD,bC,List.drop_zero,c1,c2,c3,c4,decide_true,decide_false,bta,bfa,bat,bA]
 ·by_cases c1:tx=emS<;>simp -implicitDefEqProofs (disch:=first|assumption|omega) only[go_sem,simprocAttr,hd,h1,h2,bY,bZ,bD,bC,List.drop_zero,c1,c2,decide_true,decide_false,bta,bfa,bat,bA]
theorem z80(w:SW tx ks h fr):evCW tab bJ [(ZB.mk 14 tx v ks).x] h fr=some (B ((ZB.mk 14 tx v ks).td kwB).s,h):=by
 have hd:=w.hl.drop (Nat.le_refl fr)
 have h1:=w.take 2
 have h2:=w.drop 2
 have hks:=w.hks
 rw[Hv (nm:=decide (tx=emS)) (es:=2) (bs:=0) (by decide) rfl]
 generalize ((ks.take 2).all fun y=>(y.td kwB).e)=z1 at *
 generalize ((ks.drop 2).all fun y=>(y.td kwB).b)=z2 at *
 rw[aP bI _ _ _ rfl,bF]
 by_cases c2:v=0
 ·by_cases c3:ks.length=2+0
  ·have c4:(ks.length:Int)=2:=by omega
   have htl:ks.take 2=ks:=List.take_of_length_le (by omega)
   rw[htl] at h1
   by_cases c1:tx=emS<;>cases z1<;>simp -implicitDefEqProofs (disch:=first|assumption|omega) only[go_sem,simprocAttr,htl,hd,h1,h2,bY,bZ,bD,bC,List.drop_zero,c1,c2,c3,c4,decide_true,decide_false,bta,bfa,bat,bA]
  ·have c4:¬(ks.length:Int)=2:=by omega
   by_cases c1:tx=emS<;>simp -implicitDefEqProofs (disch:=first|assumption|omega) only[go_sem,simprocAttr,hd,h1,h2,bY,bZ,bD,bC,List.drop_zero,c1,c2,c3,c4,decide_true,decide_false,bta,bfa,bat,bA]
 ·by_cases c1:tx=emS<;>simp -implicitDefEqProofs (disch:=first|assumption|omega) only[go_sem,simprocAttr,hd,h1,h2,bY,bZ,bD,bC,List.drop_zero,c1,c2,decide_true,decide_false,bta,bfa,bat,bA]
theorem z8r(w:SW tx ks h fr):evCW tab bJ [(ZB.mk 15 tx v ks).x] h fr=some (B ((ZB.mk 15 tx v ks).td kwB).s,h):=by
 have hd:=w.hl.drop (Nat.le_refl fr)
 have h1:=w.take 2
 have h2:=w.drop 2
 have hks:=w.hks
 rw[Hv (nm:=decide (tx=emS)) (es:=2) (bs:=0) (by decide) rfl]
 generalize ((ks.take 2).all fun y=>(y.td kwB).e)=z1 at *
 generalize ((ks.drop 2).all fun y=>(y.td kwB).b)=z2 at *
 rw[aP bI _ _ _ rfl,bF]
 by_cases c2:v=0
 ·by_cases c3:ks.length=2+0
  ·have c4:(ks.length:Int)=2:=by omega
   have htl:ks.take 2=ks:=List.take_of_length_le (by omega)
   rw[htl] at h1
   by_cases c1:tx=emS<;>cases z1<;>simp -implicitDefEqProofs (disch:=first|assumption|omega) only[go_sem,simprocAttr,htl,hd,h1,h2,bY,bZ,bD,bC,List.drop_zero,c1,c2,c3,c4,decide_true,decide_false,bta,bfa,bat,bA]
  ·have c4:¬(ks.length:Int)=2:=by omega
   by_cases c1:tx=emS<;>simp -implicitDefEqProofs (disch:=first|assumption|omega) only[go_sem,simprocAttr,hd,h1,h2,bY,bZ,bD,bC,List.drop_zero,c1,c2,c3,c4,decide_true,decide_false,bta,bfa,bat,bA]
 ·by_cases c1:tx=emS<;>simp -implicitDefEqProofs (disch:=first|assumption|omega) only[go_sem,simprocAttr,hd,h1,h2,bY,bZ,bD,bC,List.drop_zero,c1,c2,decide_true,decide_false,bta,bfa,bat,bA]
theorem z3L(w:SW tx ks h fr):evCW tab bJ [(ZB.mk 5 tx v ks).x] h fr=some (B ((ZB.mk 5 tx v ks).td kwB).s,h):=by
 have hd:=w.hl.drop (Nat.le_refl fr)
 have h1:=w.take 1
 have h2:=w.drop 1
 have hks:=w.hks
 rw[Hv (nm:=decide (tx=emS)) (es:=1) (bs:=1) (by decide) rfl]
 generalize ((ks.take 1).all fun y=>(y.td kwB).e)=z1 at *
 generalize ((ks.drop 1).all fun y=>(y.td kwB).b)=z2 at *
 rw[aP bI _ _ _ rfl,bF]
 by_cases c2:v=0
 ·by_cases c3:ks.length=1+1
  ·have c4:(ks.length:Int)=2:=by omega
   have htl:ks.take 2=ks:=List.take_of_length_le (by omega)
   by_cases c1:tx=emS<;>cases z1<;>simp -implicitDefEqProofs (disch:=first|assumption|omega) only[go_sem,simprocAttr,htl,hd,h1,h2,bY,bZ,bD,bC,List.drop_zero,c1,c2,c3,c4,decide_true,decide_false,bta,bfa,bat,bA]
  ·have c4:¬(ks.length:Int)=2:=by omega
   by_cases c1:tx=emS<;>simp -implicitDefEqProofs (disch:=first|assumption|omega) only[go_sem,simprocAttr,hd,h1,h2,bY,bZ,bD,bC,List.drop_zero,c1,c2,c3,c4,decide_true,decide_false,bta,bfa,bat,bA]
 ·by_cases c1:tx=emS<;>simp -implicitDefEqProofs (disch:=first|assumption|omega) only[go_sem,simprocAttr,hd,h1,h2,bY,bZ,bD,bC,List.drop_zero,c1,c2,decide_true,decide_false,bta,bfa,bat,bA]
theorem z4Z(w:SW tx ks h fr):evCW tab bJ [(ZB.mk 8 tx v ks).x] h fr=some (B ((ZB.mk 8 tx v ks).td kwB).s,h):=by
 have hd:=w.hl.drop (Nat.le_refl fr)
 have h1:=w.take ks.length
 have h2:=w.drop ks.length
 have hks:=w.hks
 have hn:=fF tx w.htx
 rw[Hv (nm:=eL kwB tx) (es:=ks.length) (bs:=0) (by decide) rfl]
 obtain⟨nz,hnz⟩:∃z,eL kwB tx=z:=⟨_,rfl⟩
 rw[hnz] at hn ⊢
 have htl:ks.take ks.length=ks:=List.take_of_length_le (by omega)
 rw[htl] at h1 ⊢
 generalize (ks.all fun y=>(y.td kwB).e)=z1 at *
 generalize ((ks.drop ks.length).all fun y=>(y.td kwB).b)=z2 at *
 rw[aP bI _ _ _ rfl,bF]
 by_cases c2:v=0
 ·cases nz<;>cases z1<;>simp -implicitDefEqProofs (disch:=first|assumption|omega) only[go_sem,simprocAttr,htl,hd,h1,h2,bY,bZ,bD,bC,List.drop_zero,hn,c2,Nat.add_zero,Int.add_zero,decide_true,decide_false,bta,bfa,bat,bA]
 ·cases nz<;>simp -implicitDefEqProofs (disch:=first|assumption|omega) only[go_sem,simprocAttr,hd,h1,h2,hn,c2,decide_true,decide_false,bta,bfa,bat,bA]
theorem z4O(w:SW tx ks h fr):evCW tab bJ [(ZB.mk 4 tx v ks).x] h fr=some (B ((ZB.mk 4 tx v ks).td kwB).s,h):=by
 have hd:=w.hl.drop (Nat.le_refl fr)
 have h1:=w.take 1
 have h2:=w.drop 1
 have hks:=w.hks
 rw[Hv (nm:=decide (tx=emS)) (es:=1) (bs:=if ks.length=3 then 2 else 1) (by decide) rfl]
 generalize ((ks.take 1).all fun y=>(y.td kwB).e)=z1 at *
 generalize ((ks.drop 1).all fun y=>(y.td kwB).b)=z2 at *
 rw[aP bI _ _ _ rfl,bF]
 by_cases c5:ks.length=3
 ·have c4:(ks.length:Int)=3:=by omega
  have htl:ks.take 3=ks:=List.take_of_length_le (by omega)
  rw[if_pos c5]
  by_cases c2:v=0
  ·by_cases c1:tx=emS<;>cases z1<;>simp -implicitDefEqProofs (disch:=first|assumption|omega) only[go_sem,simprocAttr,htl,hd,h1,h2,bY,bZ,bD,bC,List.drop_zero,c1,c2,c4,c5,decide_true,decide_false,bta,bfa,bat,bA]
  ·by_cases c1:tx=emS<;>simp -implicitDefEqProofs (disch:=first|assumption|omega) only[go_sem,simprocAttr,hd,c1,c2,c4,c5,decide_true,decide_false,bta,bfa,bat,bA]
 ·have c5':¬(ks.length:Int)=3:=by omega
  rw[if_neg c5]
  by_cases c2:v=0
  ·by_cases c3:ks.length=1+1
   ·have c4:(ks.length:Int)=2:=by omega
    have htl:ks.take 2=ks:=List.take_of_length_le (by omega)
    by_cases c1:tx=emS<;>cases z1<;>simp -implicitDefEqProofs (disch:=first|assumption|omega) only[go_sem,simprocAttr,htl,hd,h1,h2,bY,bZ,bD,bC,List.drop_zero,c1,c2,c3,c4,decide_true,decide_false,bta,bfa,bat,bA]
   ·have c4:¬(ks.length:Int)=2:=by omega
    by_cases c1:tx=emS<;>simp -implicitDefEqProofs (disch:=first|assumption|omega) only[go_sem,simprocAttr,hd,c1,c2,c3,c4,c5,c5',decide_true,decide_false,bta,bfa,bat,bA]
  ·by_cases c1:tx=emS<;>simp -implicitDefEqProofs (disch:=first|assumption|omega) only[go_sem,simprocAttr,hd,c1,c2,c5,c5',decide_true,decide_false,bta,bfa,bat,bA]
theorem z6J(w:SW tx ks h fr):evCW tab bJ [(ZB.mk 12 tx v ks).x] h fr=some (B ((ZB.mk 12 tx v ks).td kwB).s,h):=by
 have hd:=w.hl.drop (Nat.le_refl fr)
 have hks:=w.hks
 have h1:=oS (xs:=ks) (by omega) (fun y hy=>(w.ih y hy).2.2) h (fr+1) (w.hl.mono (by omega))
 have hT:((ZB.mk 12 tx v ks).td kwB).s=(decide (tx=emS)&&decide (v=0)&&ks.all fun y=>(y.td kwB).c):=by
  rw[wB]
  simp only[tdF,if_true,z21]
 rw[hT]
 generalize (ks.all fun y=>(y.td kwB).c)=z1 at *
 rw[aP bI _ _ _ rfl,bF]
 by_cases c2:v=0<;>by_cases c1:tx=emS<;>simp -implicitDefEqProofs (disch:=first|assumption|omega) only[go_sem,simprocAttr,hd,h1,c1,c2,decide_true,decide_false,bta,bfa,bat,bA]
theorem z8u{op:Int}(w:SW tx ks h fr)(c:¬(2≤op∧op≤18)):evCW tab bJ [(ZB.mk op tx v ks).x] h fr=some (B ((ZB.mk op tx v ks).td kwB).s,h):=by
 have hd:=w.hl.drop (Nat.le_refl fr)
 have hks:=w.hks
 have hT:((ZB.mk op tx v ks).td kwB).s=false:=by
  cases hz:((ZB.mk op tx v ks).td kwB).s with
  |false=>rfl
  |true=>exact absurd (z2K kwB hz) c
 rw[hT]
 rw[aP bI _ _ _ rfl,bF]
 by_cases c2:v=0<;>by_cases c1:tx=emS<;>simp -implicitDefEqProofs (disch:=first|assumption|omega) only[go_sem,simprocAttr,hd,c1,c2,show ¬op=2 from by omega,show ¬op=3 from by omega,show ¬op=4 from by omega,show ¬op=5 from by omega,show ¬op=6 from by omega,show ¬op=7 from by omega,show ¬op=8 from by omega,show ¬op=9 from by omega,show ¬op=10 from by omega,show ¬op=11 from by omega,show ¬op=12 from by omega,show ¬op=13 from by omega,show ¬op=14 from by omega,show ¬op=15 from by omega,show ¬op=16 from by omega,show ¬op=17 from by omega,show ¬op=18 from by omega,decide_true,decide_false,bta,bfa,bat,bA]
theorem zvE{x:ZB}(hx:x.Sm)(ih:∀y∈x.ks,eFn y∧bFn y∧cFn y):sFn x:=by
 intro h fr hl
 obtain⟨op,tx,v,ks⟩:=x
 have w:SW tx ks h fr:=⟨hl,hx.ks.1,hx.tx,ih⟩
 by_cases c:2≤op∧op≤18
 ·have hop:op=2∨op=3∨op=4∨op=5∨op=6∨op=7∨op=8∨op=9∨op=10∨op=11∨op=12∨op=13∨op=14∨op=15∨op=16∨op=17∨op=18:=by omega
  rcases hop with rfl|rfl|rfl|rfl|rfl|rfl|rfl|rfl|rfl|rfl|rfl|rfl|rfl|rfl|rfl|rfl|rfl
  ·exact z2e w
  ·exact z4T w
  ·exact z4O w
  ·exact z3L w
  ·exact z3P w
  ·exact z4K w
  ·exact z4Z w
  ·exact z4A w
  ·exact z7r w
  ·exact z7I w
  ·exact z6J w
  ·exact z6n w
  ·exact z80 w
  ·exact z8r w
  ·exact z7N w
  ·exact z6M w
  ·exact z7R w
 ·exact z8u w c
theorem z8i(x:ZB)(hx:x.Sm):eFn x∧bFn x∧sFn x∧cFn x:=by
 refine ZB.ind (P:=fun x=>x.Sm→eFn x∧bFn x∧sFn x∧cFn x) (fun op tx v ks ih hx=> ?_) x hx
 have hk:=hx.ks.2
 exact⟨zkH hx (fun y hy=>(ih y hy (hk y hy)).1),zzv hx (fun y hy=>(ih y hy (hk y hy)).2.2.1),zvE hx (fun y hy=>⟨(ih y hy (hk y hy)).1,(ih y hy (hk y hy)).2.1,(ih y hy (hk y hy)).2.2.2⟩),zq5 hx (fun y hy=>⟨(ih y hy (hk y hy)).1,(ih y hy (hk y hy)).2.1⟩)⟩
end
set_option maxRecDepth 8000
set_option maxHeartbeats 4000000
theorem qS(x lo hi:Int):call tab cH [I x,I lo,I hi]=some (B (decide (lo≤x∧x≤hi))):=by rw[bR,inB,Bool.decide_and]
theorem M7(op:Int):call tab nZ [I op]=some (B (decide (19≤op∧op≤31))):=by
 have h0:=qS op 19 31
 rw[aJ Df _ rfl,sT]
 simp -implicitDefEqProofs (disch:=first|assumption|omega) only[go_sem,simprocAttr,h0]
abbrev N7(y:ZB):Prop:=call tab cN [y.x]=some (B (y.sTd kwB))
def okE(y:ZB):Bool:=decide (19≤y.op∧y.op≤31)&&y.sTd kwB
def okB(y:ZB):Bool:=decide (y.op=1)&&y.sTd kwB
def okS(y:ZB):Bool:=decide (2≤y.op∧y.op≤18)&&y.sTd kwB
abbrev vpx(x:ZB):X:= .vp [I x.op,Str x.tx,I x.v,.d (.r (x.ks.map ZB.r))]
theorem C7(x:ZB)(hx:x.ks.length≤1048576)(H:∀y∈x.ks,N7 y)(m:Nat)(hm:m≤x.ks.length):∀(Bl:List ZB) (j:Int),x.ks.drop j.toNat=Bl→0≤j→j≤m →
  loopW tab [1,2,5] jR {env:=upd (upd (upd emp 5 (some (I j))) 2 (some (vpx x))) 1 (some (I (m:Int))),heap:=emp,fr:=0,next:=0}=if ((Bl.take (m-j.toNat)).all okE)=true then some (.ext 0,{env:=emp,heap:=emp,fr:=0,next:=0}) else some (.ret,{env:=upd emp 4 (some (B false)),heap:=emp,fr:=0,next:=0})
 |[],j,hd,hj,hjm=>by
  have h1:=b9 hd hj
  unfold loopW
  conv=>lhs;arg 1;unfold jR
  simp only[List.take_nil,List.all_nil,if_true]
  have h2:¬j<(m:Int):=by omega
  simp -implicitDefEqProofs (disch:=first|assumption|omega) only[go_sem,simprocAttr,h2]
 |y::Bl,j,hd,hj,hjm=>by
  have h1:=bK hd hj
  by_cases hlt:j<(m:Int)
  ·have h2:=eK ZB.r h1.1
   rw[ZB.r_def] at h2
   have h3:=H y h1.2.2.2.1
   have h4:=M7 y.op
   have h5:=h1.2.1
   have ih:=C7 x hx H m hm Bl (j+1) h1.2.2.1 (by omega) (by omega)
   unfold loopW
   conv=>lhs;arg 1;unfold jR
   rw[show m-j.toNat=(m-(j+1).toNat)+1 by omega,List.take_succ_cons,List.all_cons]
   cases hz:okE y
   ·simp only[bfa,Bool.false_eq_true,if_false]
    unfold okE at hz
    cases hz1:decide (19≤y.op∧y.op≤31)<;>rw[hz1] at h4 hz
    ·simp -implicitDefEqProofs (disch:=first|assumption|omega) only[go_sem,simprocAttr,hlt,h2,h4]
    ·rw[bta] at hz
     unfold N7 at h3
     rw[hz] at h3
     simp -implicitDefEqProofs (disch:=first|assumption|omega) only[go_sem,simprocAttr,hlt,h2,h3,h4]
   ·simp only[bta]
    rw[←ih]
    unfold okE at hz
    rw[bE] at hz
    unfold N7 at h3
    rw[hz.2] at h3
    rw[hz.1] at h4
    simp -implicitDefEqProofs (disch:=first|assumption|omega) only[go_sem,simprocAttr,hlt,h2,h3,h4]
  ·rw[show m-j.toNat=0 by omega,List.take_zero,List.all_nil,if_pos rfl]
   unfold loopW
   conv=>lhs;arg 1;unfold jR
   simp -implicitDefEqProofs (disch:=first|assumption|omega) only[go_sem,simprocAttr,hlt]
theorem aW(x:ZB)(hx:x.ks.length≤1048576)(H:∀y∈x.ks,N7 y)(m:Nat)(hm:m≤1048576):call tab gH [x.x,I (m:Int)]=some (B (aT (x.ks.map fun k=>(k,k.sTd kwB)) m)):=by
 have hs:aT (x.ks.map fun k=>(k,k.sTd kwB)) m=(decide (m≤x.ks.length)&&(x.ks.take m).all okE):=by
  unfold aT
  rw[lm,←List.map_take,List.all_map]
  rfl
 rw[hs]
 rw[aJ Tq _ rfl,Fs]
 by_cases c:m≤x.ks.length
 ·have h0:=C7 x hx H m c x.ks 0 rfl (by omega) (by omega)
  rw[show m-(0:Int).toNat=m from rfl] at h0
  have c':¬(x.ks.length:Int)<m:=by omega
  rw[decide_eq_true c,bta]
  cases hz:(x.ks.take m).all okE<;>rw[hz] at h0<;>simp only[Bool.false_eq_true,if_false,if_true] at h0
  ·simp -implicitDefEqProofs (disch:=first|assumption|omega) only[go_sem,simprocAttr,c',h0]
  ·simp -implicitDefEqProofs (disch:=first|assumption|omega) only[go_sem,simprocAttr,c',h0]
 ·have c':(x.ks.length:Int)<m:=by omega
  rw[decide_eq_false c,bfa]
  simp -implicitDefEqProofs (disch:=first|assumption|omega) only[go_sem,simprocAttr,c']
theorem Aq(x:ZB)(hx:x.ks.length≤1048576)(H:∀y∈x.ks,N7 y):∀(Bl:List ZB) (j:Int),x.ks.drop j.toNat=Bl→0≤j →
  loopW tab [2,5] lU {env:=upd (upd emp 5 (some (I j))) 2 (some (vpx x)),heap:=emp,fr:=0,next:=0}=if (Bl.all okB)=true then some (.ext 0,{env:=emp,heap:=emp,fr:=0,next:=0}) else some (.ret,{env:=upd emp 4 (some (B false)),heap:=emp,fr:=0,next:=0})
 |[],j,hd,hj=>by
  have h1:=b9 hd hj
  unfold loopW
  conv=>lhs;arg 1;unfold lU
  simp only[List.all_nil,if_true]
  simp -implicitDefEqProofs (disch:=first|assumption|omega) only[go_sem,simprocAttr,h1]
 |y::Bl,j,hd,hj=>by
  have h1:=bK hd hj
  have h2:=eK ZB.r h1.1
  rw[ZB.r_def] at h2
  have h3:=H y h1.2.2.2.1
  have h5:=h1.2.1
  have ih:=Aq x hx H Bl (j+1) h1.2.2.1 (by omega)
  unfold loopW
  conv=>lhs;arg 1;unfold lU
  rw[List.all_cons]
  unfold N7 at h3
  by_cases c:y.op=1
  ·have c':(y.op=1)=True:=eq_true c
   cases hz:y.sTd kwB<;>rw[hz] at h3
   ·simp only[okB,hz,bA,bfa,Bool.false_eq_true,if_false]
    simp -implicitDefEqProofs (disch:=first|assumption|omega) only[go_sem,simprocAttr,h5,h2,h3,c',decide_true]
   ·simp only[okB,hz,c',decide_true,bat,bta]
    rw[←ih]
    simp -implicitDefEqProofs (disch:=first|assumption|omega) only[go_sem,simprocAttr,h5,h2,h3,c',decide_true]
  ·simp only[okB,c,decide_false,bfa,Bool.false_eq_true,if_false]
   simp -implicitDefEqProofs (disch:=first|assumption|omega) only[go_sem,simprocAttr,h5,h2,c]
theorem jL(x:ZB)(hx:x.ks.length≤1048576)(H:∀y∈x.ks,N7 y)(m:Nat):call tab kW [x.x,I (m:Int)]=some (B (cP (x.ks.map fun k=>(k,k.sTd kwB)) m)):=by
 have hs:cP (x.ks.map fun k=>(k,k.sTd kwB)) m=(x.ks.drop m).all okB:=by
  unfold cP
  rw[←List.map_drop,List.all_map]
  rfl
 have h0:=Aq x hx H (x.ks.drop m) (m:Int) (by rw[Int.toNat_natCast]) (by omega)
 rw[hs]
 rw[aJ Qh _ rfl,C2]
 cases hz:(x.ks.drop m).all okB<;>rw[hz] at h0<;>simp only[Bool.false_eq_true,if_false,if_true] at h0
 ·simp -implicitDefEqProofs (disch:=first|assumption|omega) only[go_sem,simprocAttr,h0]
 ·simp -implicitDefEqProofs (disch:=first|assumption|omega) only[go_sem,simprocAttr,h0]
theorem C1(x:ZB)(hx:x.ks.length≤1048576)(H:∀y∈x.ks,N7 y):∀(Bl:List ZB) (j:Int),x.ks.drop j.toNat=Bl→0≤j →
  loopW tab [1,3] mY {env:=upd (upd emp 3 (some (I j))) 1 (some (vpx x)),heap:=emp,fr:=0,next:=0}=if (Bl.all okS)=true then some (.ext 0,{env:=emp,heap:=emp,fr:=0,next:=0}) else some (.ret,{env:=upd emp 2 (some (B false)),heap:=emp,fr:=0,next:=0})
 |[],j,hd,hj=>by
  have h1:=b9 hd hj
  unfold loopW
  conv=>lhs;arg 1;unfold mY
  simp only[List.all_nil,if_true]
  simp -implicitDefEqProofs (disch:=first|assumption|omega) only[go_sem,simprocAttr,h1]
 |y::Bl,j,hd,hj=>by
  have h1:=bK hd hj
  have h2:=eK ZB.r h1.1
  rw[ZB.r_def] at h2
  have h3:=H y h1.2.2.2.1
  have h4:=qS y.op 2 18
  have h5:=h1.2.1
  have ih:=C1 x hx H Bl (j+1) h1.2.2.1 (by omega)
  unfold loopW
  conv=>lhs;arg 1;unfold mY
  rw[List.all_cons]
  unfold N7 at h3
  cases hz1:decide (2≤y.op∧y.op≤18)<;>rw[hz1] at h4
  ·simp only[okS,hz1,bfa,Bool.false_eq_true,if_false]
   simp -implicitDefEqProofs (disch:=first|assumption|omega) only[go_sem,simprocAttr,h5,h2,h4]
  ·cases hz:y.sTd kwB<;>rw[hz] at h3
   ·simp only[okS,hz,bA,bfa,Bool.false_eq_true,if_false]
    simp -implicitDefEqProofs (disch:=first|assumption|omega) only[go_sem,simprocAttr,h5,h2,h3,h4]
   ·simp only[okS,hz,hz1,bat,bta]
    rw[←ih]
    simp -implicitDefEqProofs (disch:=first|assumption|omega) only[go_sem,simprocAttr,h5,h2,h3,h4]
theorem Q9(x:ZB)(hx:x.ks.length≤1048576)(H:∀y∈x.ks,N7 y):call tab Bi [x.x]=some (B (x.ks.all okS)):=by
 have h0:=C1 x hx H x.ks 0 rfl (by omega)
 rw[aJ Tu _ rfl,Fu]
 cases hz:x.ks.all okS<;>rw[hz] at h0<;>simp only[Bool.false_eq_true,if_false,if_true] at h0
 ·simp -implicitDefEqProofs (disch:=first|assumption|omega) only[go_sem,simprocAttr,h0]
 ·simp -implicitDefEqProofs (disch:=first|assumption|omega) only[go_sem,simprocAttr,h0]
theorem Dt(x:ZB)(hx:x.ks.length≤1048576)(H:∀y∈x.ks,N7 y):∀(Bl:List ZB) (j:Int),x.ks.drop j.toNat=Bl→0≤j →
  loopW tab [1,3] m9 {env:=upd (upd emp 3 (some (I j))) 1 (some (vpx x)),heap:=emp,fr:=0,next:=0}=if pM (Bl.map fun k=>(k,k.sTd kwB))=true then some (.ext 0,{env:=emp,heap:=emp,fr:=0,next:=0}) else some (.ret,{env:=upd emp 2 (some (B false)),heap:=emp,fr:=0,next:=0})
 |[],j,hd,hj=>by
  have h1:=b9 hd hj
  unfold loopW
  conv=>lhs;arg 1;unfold m9
  simp only[mn,pM,if_true]
  simp -implicitDefEqProofs (disch:=first|assumption|omega) only[go_sem,simprocAttr,h1]
 |y::Bl,j,hd,hj=>by
  have h1:=bK hd hj
  have h2:=eK ZB.r h1.1
  rw[ZB.r_def] at h2
  have h3:=H y h1.2.2.2.1
  have h4:=qS y.op 32 34
  have h5:=h1.2.1
  have h6:=h1.2.2.2.2
  have ih:=Dt x hx H Bl (j+1) h1.2.2.1 (by omega)
  rw[mc,pM]
  have hE:(Bl.map fun k=>(k,k.sTd kwB)).isEmpty=decide (Bl.length=0):=by cases Bl<;>simp
  rw[hE]
  unfold loopW
  conv=>lhs;arg 1;unfold m9
  unfold N7 at h3
  cases hz1:decide (32≤y.op∧y.op≤34)<;>rw[hz1] at h4
  ·simp only[hz1,bfa,Bool.false_eq_true,if_false]
   simp -implicitDefEqProofs (disch:=first|assumption|omega) only[go_sem,simprocAttr,h5,h2,h4]
  ·by_cases c:y.op=34
   ·have c':(y.op=34)=True:=eq_true c
    by_cases cl:Bl.length=0
    ·have hlt:¬j<(x.ks.length:Int)-1:=by omega
     cases hz:y.sTd kwB<;>rw[hz] at h3
     ·simp only[hz1,c',cl,decide_true,Bool.not_true,bA,Bool.not_false,bat,bfa,Bool.false_eq_true,if_false]
      simp -implicitDefEqProofs (disch:=first|assumption|omega) only[go_sem,simprocAttr,h5,h2,h3,h4,c',hlt,decide_true,decide_false]
     ·simp only[hz1,c',cl,decide_true,Bool.not_true,bA,Bool.not_false,bat,bta]
      rw[←ih]
      simp -implicitDefEqProofs (disch:=first|assumption|omega) only[go_sem,simprocAttr,h5,h2,h3,h4,c',hlt,decide_true,decide_false]
    ·have hlt:j<(x.ks.length:Int)-1:=by omega
     simp only[hz1,c',cl,decide_true,decide_false,Bool.not_true,bA,Bool.not_false,bat,bfa,Bool.false_eq_true,if_false]
     simp -implicitDefEqProofs (disch:=first|assumption|omega) only[go_sem,simprocAttr,h5,h2,h4,c',hlt,decide_true,decide_false]
   ·have c':(y.op=34)=False:=eq_false c
    cases hz:y.sTd kwB<;>rw[hz] at h3
    ·simp only[hz1,c',decide_false,bfa,Bool.not_false,bat,bA,Bool.false_eq_true,if_false]
     simp -implicitDefEqProofs (disch:=first|assumption|omega) only[go_sem,simprocAttr,h5,h2,h3,h4,c',decide_true,decide_false]
    ·simp only[hz1,c',decide_false,bfa,Bool.not_false,bat,bta]
     rw[←ih]
     simp -implicitDefEqProofs (disch:=first|assumption|omega) only[go_sem,simprocAttr,h5,h2,h3,h4,c',decide_true,decide_false]
theorem Qr(x:ZB)(hx:x.ks.length≤1048576)(H:∀y∈x.ks,N7 y):call tab B2 [x.x]=some (B (pM (x.ks.map fun k=>(k,k.sTd kwB)))):=by
 have h0:=Dt x hx H x.ks 0 rfl (by omega)
 rw[aJ Uz _ rfl,Em]
 cases hz:pM (x.ks.map fun k=>(k,k.sTd kwB))<;>rw[hz] at h0<;>simp only[Bool.false_eq_true,if_false,if_true] at h0
 ·simp -implicitDefEqProofs (disch:=first|assumption|omega) only[go_sem,simprocAttr,h0]
 ·simp -implicitDefEqProofs (disch:=first|assumption|omega) only[go_sem,simprocAttr,h0]
set_option maxRecDepth 8000
set_option maxHeartbeats 8000000
section
variable{tx:ByteArray}{v:Int}{ks:List ZB}
theorem hH:((1:Nat):Int)=1:=rfl
theorem hO:((2:Nat):Int)=2:=rfl
theorem iB:((3:Nat):Int)=3:=rfl
theorem cK:((0:Nat):Int)=0:=rfl
abbrev Pk(ks:List ZB):List (ZB×Bool):=ks.map fun k=>(k,k.sTd kwB)
theorem eG(ks:List ZB):(Pk ks).length=ks.length:=List.length_map _
theorem z2f(hks:ks.length≤1048576)(H:∀y∈ks,N7 y):call tab a9 [(ZB.mk 1 tx v ks).x]=some (B (aU 1 (Pk ks))):=by
 rw[show aU 1 (Pk ks)=(Pk ks).all (fun k=>decide (2≤k.1.op∧k.1.op≤18)&&k.2) from rfl,List.all_map,show((fun k:ZB×Bool=>decide (2≤k.1.op∧k.1.op≤18)&&k.2) ∘ fun k=>(k,k.sTd kwB))=okS from rfl]
 have e1:=Q9 (.mk 1 tx v ks) hks H
 simp only[ZB.x,ZB.op_mk,ZB.tx_mk,ZB.v_mk,ZB.ks_mk,cK,hH,hO,iB] at e1 ⊢
 rw[aJ aY _ rfl,aX]
 simp -implicitDefEqProofs (disch:=first|assumption|omega) only[go_sem,simprocAttr,e1]
theorem z3M(hks:ks.length≤1048576)(H:∀y∈ks,N7 y):call tab a9 [(ZB.mk 2 tx v ks).x]=some (B (aU 2 (Pk ks))):=by
 rw[show aU 2 (Pk ks)=(decide ((Pk ks).length=1)&&aT (Pk ks) 1) from rfl,eG]
 have e1:=aW (.mk 2 tx v ks) hks H 1 (by omega)
 simp only[ZB.x,ZB.op_mk,ZB.tx_mk,ZB.v_mk,ZB.ks_mk,cK,hH,hO,iB] at e1 ⊢
 generalize aT (Pk ks) 1=z at *
 rw[aJ aY _ rfl,aX]
 by_cases c:ks.length=1
 ·have c':(ks.length:Int)=1:=by omega
  simp -implicitDefEqProofs (disch:=first|assumption|omega) only[go_sem,simprocAttr,e1,c,c',decide_true,decide_false,bta,bfa,bat,bA]
 ·have c':¬(ks.length:Int)=1:=by omega
  simp -implicitDefEqProofs (disch:=first|assumption|omega) only[go_sem,simprocAttr,c,c',decide_true,decide_false,bta,bfa,bat,bA]
theorem z4C(hks:ks.length≤1048576)(H:∀y∈ks,N7 y):call tab a9 [(ZB.mk 3 tx v ks).x]=some (B (aU 3 (Pk ks))):=by
 rw[show aU 3 (Pk ks)=(decide ((Pk ks).length=1)&&aT (Pk ks) 1) from rfl,eG]
 have e1:=aW (.mk 3 tx v ks) hks H 1 (by omega)
 simp only[ZB.x,ZB.op_mk,ZB.tx_mk,ZB.v_mk,ZB.ks_mk,cK,hH,hO,iB] at e1 ⊢
 generalize aT (Pk ks) 1=z at *
 rw[aJ aY _ rfl,aX]
 by_cases c:ks.length=1
 ·have c':(ks.length:Int)=1:=by omega
  simp -implicitDefEqProofs (disch:=first|assumption|omega) only[go_sem,simprocAttr,e1,c,c',decide_true,decide_false,bta,bfa,bat,bA]
 ·have c':¬(ks.length:Int)=1:=by omega
  simp -implicitDefEqProofs (disch:=first|assumption|omega) only[go_sem,simprocAttr,c,c',decide_true,decide_false,bta,bfa,bat,bA]
theorem z3T(hks:ks.length≤1048576)(H:∀y∈ks,N7 y):call tab a9 [(ZB.mk 4 tx v ks).x]=some (B (aU 4 (Pk ks))):=by
 rw[show aU 4 (Pk ks)=(decide (2≤(Pk ks).length∧(Pk ks).length≤3)&&aT (Pk ks) 1&&cP (Pk ks) 1) from rfl,eG]
 have e1:=aW (.mk 4 tx v ks) hks H 1 (by omega)
 have b1:=jL (.mk 4 tx v ks) hks H 1
 simp only[ZB.x,ZB.op_mk,ZB.tx_mk,ZB.v_mk,ZB.ks_mk,cK,hH,hO,iB] at e1 b1 ⊢
 generalize aT (Pk ks) 1=z at *
 generalize cP (Pk ks) 1=z2 at *
 have i1:=qS (ks.length:Int) 2 3
 have hi:decide (2≤(ks.length:Int)∧(ks.length:Int)≤3)=decide (2≤ks.length∧ks.length≤3):=decide_eq_decide.2 (by omega)
 rw[hi] at i1
 generalize decide (2≤ks.length∧ks.length≤3)=z3 at *
 rw[aJ aY _ rfl,aX]
 cases z3<;>cases z<;>simp -implicitDefEqProofs (disch:=first|assumption|omega) only[go_sem,simprocAttr,e1,b1,i1,decide_true,decide_false,bta,bfa,bat,bA]
theorem z3o(hks:ks.length≤1048576)(H:∀y∈ks,N7 y):call tab a9 [(ZB.mk 5 tx v ks).x]=some (B (aU 5 (Pk ks))):=by
 rw[show aU 5 (Pk ks)=(decide ((Pk ks).length=2)&&aT (Pk ks) 1&&cP (Pk ks) 1) from rfl,eG]
 have e1:=aW (.mk 5 tx v ks) hks H 1 (by omega)
 have b1:=jL (.mk 5 tx v ks) hks H 1
 simp only[ZB.x,ZB.op_mk,ZB.tx_mk,ZB.v_mk,ZB.ks_mk,cK,hH,hO,iB] at e1 b1 ⊢
 generalize aT (Pk ks) 1=z at *
 generalize cP (Pk ks) 1=z2 at *
 rw[aJ aY _ rfl,aX]
 by_cases c:ks.length=2
 ·have c':(ks.length:Int)=2:=by omega
  cases z<;>simp -implicitDefEqProofs (disch:=first|assumption|omega) only[go_sem,simprocAttr,e1,b1,c,c',decide_true,decide_false,bta,bfa,bat,bA]
 ·have c':¬(ks.length:Int)=2:=by omega
  simp -implicitDefEqProofs (disch:=first|assumption|omega) only[go_sem,simprocAttr,c,c',decide_true,decide_false,bta,bfa,bat,bA]
theorem z4U(hks:ks.length≤1048576)(H:∀y∈ks,N7 y):call tab a9 [(ZB.mk 6 tx v ks).x]=some (B (aU 6 (Pk ks))):=by
 rw[show aU 6 (Pk ks)=(decide ((Pk ks).length=1)&&aT (Pk ks) 1) from rfl,eG]
 have e1:=aW (.mk 6 tx v ks) hks H 1 (by omega)
 simp only[ZB.x,ZB.op_mk,ZB.tx_mk,ZB.v_mk,ZB.ks_mk,cK,hH,hO,iB] at e1 ⊢
 generalize aT (Pk ks) 1=z at *
 rw[aJ aY _ rfl,aX]
 by_cases c:ks.length=1
 ·have c':(ks.length:Int)=1:=by omega
  simp -implicitDefEqProofs (disch:=first|assumption|omega) only[go_sem,simprocAttr,e1,c,c',decide_true,decide_false,bta,bfa,bat,bA]
 ·have c':¬(ks.length:Int)=1:=by omega
  simp -implicitDefEqProofs (disch:=first|assumption|omega) only[go_sem,simprocAttr,c,c',decide_true,decide_false,bta,bfa,bat,bA]
theorem z3c(hks:ks.length≤1048576)(H:∀y∈ks,N7 y):call tab a9 [(ZB.mk 7 tx v ks).x]=some (B (aU 7 (Pk ks))):=by
 rw[show aU 7 (Pk ks)=(decide ((Pk ks).length=1)&&aT (Pk ks) 1) from rfl,eG]
 have e1:=aW (.mk 7 tx v ks) hks H 1 (by omega)
 simp only[ZB.x,ZB.op_mk,ZB.tx_mk,ZB.v_mk,ZB.ks_mk,cK,hH,hO,iB] at e1 ⊢
 generalize aT (Pk ks) 1=z at *
 rw[aJ aY _ rfl,aX]
 by_cases c:ks.length=1
 ·have c':(ks.length:Int)=1:=by omega
  simp -implicitDefEqProofs (disch:=first|assumption|omega) only[go_sem,simprocAttr,e1,c,c',decide_true,decide_false,bta,bfa,bat,bA]
 ·have c':¬(ks.length:Int)=1:=by omega
  simp -implicitDefEqProofs (disch:=first|assumption|omega) only[go_sem,simprocAttr,c,c',decide_true,decide_false,bta,bfa,bat,bA]
theorem z3G(hks:ks.length≤1048576)(H:∀y∈ks,N7 y):call tab a9 [(ZB.mk 8 tx v ks).x]=some (B (aU 8 (Pk ks))):=by
 rw[show aU 8 (Pk ks)=aT (Pk ks) (Pk ks).length from rfl,eG]
 have e1:=aW (.mk 8 tx v ks) hks H ks.length (by omega)
 simp only[ZB.x,ZB.op_mk,ZB.tx_mk,ZB.v_mk,ZB.ks_mk,cK,hH,hO,iB] at e1 ⊢
 rw[aJ aY _ rfl,aX]
 simp -implicitDefEqProofs (disch:=first|assumption|omega) only[go_sem,simprocAttr,e1]
theorem z4B(hks:ks.length≤1048576)(H:∀y∈ks,N7 y):call tab a9 [(ZB.mk 9 tx v ks).x]=some (B (aU 9 (Pk ks))):=by
 rw[show aU 9 (Pk ks)=(decide ((Pk ks).length=2)&&aT (Pk ks) 2) from rfl,eG]
 have e1:=aW (.mk 9 tx v ks) hks H 2 (by omega)
 simp only[ZB.x,ZB.op_mk,ZB.tx_mk,ZB.v_mk,ZB.ks_mk,cK,hH,hO,iB] at e1 ⊢
 generalize aT (Pk ks) 2=z at *
 rw[aJ aY _ rfl,aX]
 by_cases c:ks.length=2
 ·have c':(ks.length:Int)=2:=by omega
  simp -implicitDefEqProofs (disch:=first|assumption|omega) only[go_sem,simprocAttr,e1,c,c',decide_true,decide_false,bta,bfa,bat,bA]
 ·have c':¬(ks.length:Int)=2:=by omega
  simp -implicitDefEqProofs (disch:=first|assumption|omega) only[go_sem,simprocAttr,c,c',decide_true,decide_false,bta,bfa,bat,bA]
theorem z76(hks:ks.length≤1048576)(H:∀y∈ks,N7 y):call tab a9 [(ZB.mk 10 tx v ks).x]=some (B (aU 10 (Pk ks))):=by
 rw[show aU 10 (Pk ks)=(decide ((Pk ks).length=1)&&aT (Pk ks) 1) from rfl,eG]
 have e1:=aW (.mk 10 tx v ks) hks H 1 (by omega)
 simp only[ZB.x,ZB.op_mk,ZB.tx_mk,ZB.v_mk,ZB.ks_mk,cK,hH,hO,iB] at e1 ⊢
 generalize aT (Pk ks) 1=z at *
 rw[aJ aY _ rfl,aX]
 by_cases c:ks.length=1
 ·have c':(ks.length:Int)=1:=by omega
  simp -implicitDefEqProofs (disch:=first|assumption|omega) only[go_sem,simprocAttr,e1,c,c',decide_true,decide_false,bta,bfa,bat,bA]
 ·have c':¬(ks.length:Int)=1:=by omega
  simp -implicitDefEqProofs (disch:=first|assumption|omega) only[go_sem,simprocAttr,c,c',decide_true,decide_false,bta,bfa,bat,bA]
theorem z6H(hks:ks.length≤1048576)(H:∀y∈ks,N7 y):call tab a9 [(ZB.mk 11 tx v ks).x]=some (B (aU 11 (Pk ks))):=by
 rw[show aU 11 (Pk ks)=(decide ((Pk ks).length=1)&&aT (Pk ks) 1) from rfl,eG]
 have e1:=aW (.mk 11 tx v ks) hks H 1 (by omega)
 simp only[ZB.x,ZB.op_mk,ZB.tx_mk,ZB.v_mk,ZB.ks_mk,cK,hH,hO,iB] at e1 ⊢
 generalize aT (Pk ks) 1=z at *
 rw[aJ aY _ rfl,aX]
 by_cases c:ks.length=1
 ·have c':(ks.length:Int)=1:=by omega
  simp -implicitDefEqProofs (disch:=first|assumption|omega) only[go_sem,simprocAttr,e1,c,c',decide_true,decide_false,bta,bfa,bat,bA]
 ·have c':¬(ks.length:Int)=1:=by omega
  simp -implicitDefEqProofs (disch:=first|assumption|omega) only[go_sem,simprocAttr,c,c',decide_true,decide_false,bta,bfa,bat,bA]
theorem z8W(hks:ks.length≤1048576)(H:∀y∈ks,N7 y):call tab a9 [(ZB.mk 12 tx v ks).x]=some (B (aU 12 (Pk ks))):=by
 rw[show aU 12 (Pk ks)=pM (Pk ks) from rfl]
 have e1:=Qr (.mk 12 tx v ks) hks H
 simp only[ZB.x,ZB.op_mk,ZB.tx_mk,ZB.v_mk,ZB.ks_mk,cK,hH,hO,iB] at e1 ⊢
 rw[aJ aY _ rfl,aX]
 simp -implicitDefEqProofs (disch:=first|assumption|omega) only[go_sem,simprocAttr,e1]
theorem z8D(hks:ks.length≤1048576)(H:∀y∈ks,N7 y):call tab a9 [(ZB.mk 13 tx v ks).x]=some (B (aU 13 (Pk ks))):=by
 rw[show aU 13 (Pk ks)=(decide ((Pk ks).length=2)&&aT (Pk ks) 2) from rfl,eG]
 have e1:=aW (.mk 13 tx v ks) hks H 2 (by omega)
 simp only[ZB.x,ZB.op_mk,ZB.tx_mk,ZB.v_mk,ZB.ks_mk,cK,hH,hO,iB] at e1 ⊢
 generalize aT (Pk ks) 2=z at *
 rw[aJ aY _ rfl,aX]
 by_cases c:ks.length=2
 ·have c':(ks.length:Int)=2:=by omega
  simp -implicitDefEqProofs (disch:=first|assumption|omega) only[go_sem,simprocAttr,e1,c,c',decide_true,decide_false,bta,bfa,bat,bA]
 ·have c':¬(ks.length:Int)=2:=by omega
  simp -implicitDefEqProofs (disch:=first|assumption|omega) only[go_sem,simprocAttr,c,c',decide_true,decide_false,bta,bfa,bat,bA]
theorem z6k(hks:ks.length≤1048576)(H:∀y∈ks,N7 y):call tab a9 [(ZB.mk 14 tx v ks).x]=some (B (aU 14 (Pk ks))):=by
 rw[show aU 14 (Pk ks)=(decide ((Pk ks).length=2)&&aT (Pk ks) 2) from rfl,eG]
 have e1:=aW (.mk 14 tx v ks) hks H 2 (by omega)
 simp only[ZB.x,ZB.op_mk,ZB.tx_mk,ZB.v_mk,ZB.ks_mk,cK,hH,hO,iB] at e1 ⊢
 generalize aT (Pk ks) 2=z at *
 rw[aJ aY _ rfl,aX]
 by_cases c:ks.length=2
 ·have c':(ks.length:Int)=2:=by omega
  simp -implicitDefEqProofs (disch:=first|assumption|omega) only[go_sem,simprocAttr,e1,c,c',decide_true,decide_false,bta,bfa,bat,bA]
 ·have c':¬(ks.length:Int)=2:=by omega
  simp -implicitDefEqProofs (disch:=first|assumption|omega) only[go_sem,simprocAttr,c,c',decide_true,decide_false,bta,bfa,bat,bA]
theorem z7h(hks:ks.length≤1048576)(H:∀y∈ks,N7 y):call tab a9 [(ZB.mk 15 tx v ks).x]=some (B (aU 15 (Pk ks))):=by
 rw[show aU 15 (Pk ks)=(decide ((Pk ks).length=2)&&aT (Pk ks) 2) from rfl,eG]
 have e1:=aW (.mk 15 tx v ks) hks H 2 (by omega)
 simp only[ZB.x,ZB.op_mk,ZB.tx_mk,ZB.v_mk,ZB.ks_mk,cK,hH,hO,iB] at e1 ⊢
 generalize aT (Pk ks) 2=z at *
 rw[aJ aY _ rfl,aX]
 by_cases c:ks.length=2
 ·have c':(ks.length:Int)=2:=by omega
  simp -implicitDefEqProofs (disch:=first|assumption|omega) only[go_sem,simprocAttr,e1,c,c',decide_true,decide_false,bta,bfa,bat,bA]
 ·have c':¬(ks.length:Int)=2:=by omega
  simp -implicitDefEqProofs (disch:=first|assumption|omega) only[go_sem,simprocAttr,c,c',decide_true,decide_false,bta,bfa,bat,bA]
theorem z5I(hks:ks.length≤1048576)(H:∀y∈ks,N7 y):call tab a9 [(ZB.mk 16 tx v ks).x]=some (B (aU 16 (Pk ks))):=by
 rw[show aU 16 (Pk ks)=(decide ((Pk ks).length=1)&&aT (Pk ks) 1) from rfl,eG]
 have e1:=aW (.mk 16 tx v ks) hks H 1 (by omega)
 simp only[ZB.x,ZB.op_mk,ZB.tx_mk,ZB.v_mk,ZB.ks_mk,cK,hH,hO,iB] at e1 ⊢
 generalize aT (Pk ks) 1=z at *
 rw[aJ aY _ rfl,aX]
 by_cases c:ks.length=1
 ·have c':(ks.length:Int)=1:=by omega
  simp -implicitDefEqProofs (disch:=first|assumption|omega) only[go_sem,simprocAttr,e1,c,c',decide_true,decide_false,bta,bfa,bat,bA]
 ·have c':¬(ks.length:Int)=1:=by omega
  simp -implicitDefEqProofs (disch:=first|assumption|omega) only[go_sem,simprocAttr,c,c',decide_true,decide_false,bta,bfa,bat,bA]
theorem z5h(hks:ks.length≤1048576)(H:∀y∈ks,N7 y):call tab a9 [(ZB.mk 17 tx v ks).x]=some (B (aU 17 (Pk ks))):=by
 rw[show aU 17 (Pk ks)=(decide ((Pk ks).length=1)&&aT (Pk ks) 1) from rfl,eG]
 have e1:=aW (.mk 17 tx v ks) hks H 1 (by omega)
 simp only[ZB.x,ZB.op_mk,ZB.tx_mk,ZB.v_mk,ZB.ks_mk,cK,hH,hO,iB] at e1 ⊢
 generalize aT (Pk ks) 1=z at *
 rw[aJ aY _ rfl,aX]
 by_cases c:ks.length=1
 ·have c':(ks.length:Int)=1:=by omega
  simp -implicitDefEqProofs (disch:=first|assumption|omega) only[go_sem,simprocAttr,e1,c,c',decide_true,decide_false,bta,bfa,bat,bA]
 ·have c':¬(ks.length:Int)=1:=by omega
  simp -implicitDefEqProofs (disch:=first|assumption|omega) only[go_sem,simprocAttr,c,c',decide_true,decide_false,bta,bfa,bat,bA]
theorem z7y(hks:ks.length≤1048576)(H:∀y∈ks,N7 y):call tab a9 [(ZB.mk 18 tx v ks).x]=some (B (aU 18 (Pk ks))):=by
 rw[show aU 18 (Pk ks)=(decide ((Pk ks).length=1)&&aT (Pk ks) 1) from rfl,eG]
 have e1:=aW (.mk 18 tx v ks) hks H 1 (by omega)
 simp only[ZB.x,ZB.op_mk,ZB.tx_mk,ZB.v_mk,ZB.ks_mk,cK,hH,hO,iB] at e1 ⊢
 generalize aT (Pk ks) 1=z at *
 rw[aJ aY _ rfl,aX]
 by_cases c:ks.length=1
 ·have c':(ks.length:Int)=1:=by omega
  simp -implicitDefEqProofs (disch:=first|assumption|omega) only[go_sem,simprocAttr,e1,c,c',decide_true,decide_false,bta,bfa,bat,bA]
 ·have c':¬(ks.length:Int)=1:=by omega
  simp -implicitDefEqProofs (disch:=first|assumption|omega) only[go_sem,simprocAttr,c,c',decide_true,decide_false,bta,bfa,bat,bA]
theorem z6W(hks:ks.length≤1048576)(H:∀y∈ks,N7 y):call tab a9 [(ZB.mk 21 tx v ks).x]=some (B (aU 21 (Pk ks))):=by
 rw[show aU 21 (Pk ks)=(decide ((Pk ks).length=2)&&aT (Pk ks) 2) from rfl,eG]
 have e1:=aW (.mk 21 tx v ks) hks H 2 (by omega)
 simp only[ZB.x,ZB.op_mk,ZB.tx_mk,ZB.v_mk,ZB.ks_mk,cK,hH,hO,iB] at e1 ⊢
 generalize aT (Pk ks) 2=z at *
 rw[aJ aY _ rfl,aX]
 by_cases c:ks.length=2
 ·have c':(ks.length:Int)=2:=by omega
  simp -implicitDefEqProofs (disch:=first|assumption|omega) only[go_sem,simprocAttr,e1,c,c',decide_true,decide_false,bta,bfa,bat,bA]
 ·have c':¬(ks.length:Int)=2:=by omega
  simp -implicitDefEqProofs (disch:=first|assumption|omega) only[go_sem,simprocAttr,c,c',decide_true,decide_false,bta,bfa,bat,bA]
theorem z8A(hks:ks.length≤1048576)(H:∀y∈ks,N7 y):call tab a9 [(ZB.mk 22 tx v ks).x]=some (B (aU 22 (Pk ks))):=by
 rw[show aU 22 (Pk ks)=(decide ((Pk ks).length=2)&&aT (Pk ks) 2) from rfl,eG]
 have e1:=aW (.mk 22 tx v ks) hks H 2 (by omega)
 simp only[ZB.x,ZB.op_mk,ZB.tx_mk,ZB.v_mk,ZB.ks_mk,cK,hH,hO,iB] at e1 ⊢
 generalize aT (Pk ks) 2=z at *
 rw[aJ aY _ rfl,aX]
 by_cases c:ks.length=2
 ·have c':(ks.length:Int)=2:=by omega
  simp -implicitDefEqProofs (disch:=first|assumption|omega) only[go_sem,simprocAttr,e1,c,c',decide_true,decide_false,bta,bfa,bat,bA]
 ·have c':¬(ks.length:Int)=2:=by omega
  simp -implicitDefEqProofs (disch:=first|assumption|omega) only[go_sem,simprocAttr,c,c',decide_true,decide_false,bta,bfa,bat,bA]
theorem z85(hks:ks.length≤1048576)(H:∀y∈ks,N7 y):call tab a9 [(ZB.mk 23 tx v ks).x]=some (B (aU 23 (Pk ks))):=by
 rw[show aU 23 (Pk ks)=(decide ((Pk ks).length=2)&&aT (Pk ks) 2) from rfl,eG]
 have e1:=aW (.mk 23 tx v ks) hks H 2 (by omega)
 simp only[ZB.x,ZB.op_mk,ZB.tx_mk,ZB.v_mk,ZB.ks_mk,cK,hH,hO,iB] at e1 ⊢
 generalize aT (Pk ks) 2=z at *
 rw[aJ aY _ rfl,aX]
 by_cases c:ks.length=2
 ·have c':(ks.length:Int)=2:=by omega
  simp -implicitDefEqProofs (disch:=first|assumption|omega) only[go_sem,simprocAttr,e1,c,c',decide_true,decide_false,bta,bfa,bat,bA]
 ·have c':¬(ks.length:Int)=2:=by omega
  simp -implicitDefEqProofs (disch:=first|assumption|omega) only[go_sem,simprocAttr,c,c',decide_true,decide_false,bta,bfa,bat,bA]
theorem z8y(hks:ks.length≤1048576)(H:∀y∈ks,N7 y):call tab a9 [(ZB.mk 24 tx v ks).x]=some (B (aU 24 (Pk ks))):=by
 rw[show aU 24 (Pk ks)=(decide ((Pk ks).length=2)&&aT (Pk ks) 2) from rfl,eG]
 have e1:=aW (.mk 24 tx v ks) hks H 2 (by omega)
 simp only[ZB.x,ZB.op_mk,ZB.tx_mk,ZB.v_mk,ZB.ks_mk,cK,hH,hO,iB] at e1 ⊢
 generalize aT (Pk ks) 2=z at *
 rw[aJ aY _ rfl,aX]
 by_cases c:ks.length=2
 ·have c':(ks.length:Int)=2:=by omega
  simp -implicitDefEqProofs (disch:=first|assumption|omega) only[go_sem,simprocAttr,e1,c,c',decide_true,decide_false,bta,bfa,bat,bA]
 ·have c':¬(ks.length:Int)=2:=by omega
  simp -implicitDefEqProofs (disch:=first|assumption|omega) only[go_sem,simprocAttr,c,c',decide_true,decide_false,bta,bfa,bat,bA]
theorem z79(hks:ks.length≤1048576)(H:∀y∈ks,N7 y):call tab a9 [(ZB.mk 25 tx v ks).x]=some (B (aU 25 (Pk ks))):=by
 rw[show aU 25 (Pk ks)=(decide ((Pk ks).length=2)&&aT (Pk ks) 2) from rfl,eG]
 have e1:=aW (.mk 25 tx v ks) hks H 2 (by omega)
 simp only[ZB.x,ZB.op_mk,ZB.tx_mk,ZB.v_mk,ZB.ks_mk,cK,hH,hO,iB] at e1 ⊢
 generalize aT (Pk ks) 2=z at *
 rw[aJ aY _ rfl,aX]
 by_cases c:ks.length=2
 ·have c':(ks.length:Int)=2:=by omega
  simp -implicitDefEqProofs (disch:=first|assumption|omega) only[go_sem,simprocAttr,e1,c,c',decide_true,decide_false,bta,bfa,bat,bA]
 ·have c':¬(ks.length:Int)=2:=by omega
  simp -implicitDefEqProofs (disch:=first|assumption|omega) only[go_sem,simprocAttr,c,c',decide_true,decide_false,bta,bfa,bat,bA]
theorem z5l(hks:ks.length≤1048576)(H:∀y∈ks,N7 y):call tab a9 [(ZB.mk 26 tx v ks).x]=some (B (aU 26 (Pk ks))):=by
 rw[show aU 26 (Pk ks)=aT (Pk ks) (Pk ks).length from rfl,eG]
 have e1:=aW (.mk 26 tx v ks) hks H ks.length (by omega)
 simp only[ZB.x,ZB.op_mk,ZB.tx_mk,ZB.v_mk,ZB.ks_mk,cK,hH,hO,iB] at e1 ⊢
 rw[aJ aY _ rfl,aX]
 simp -implicitDefEqProofs (disch:=first|assumption|omega) only[go_sem,simprocAttr,e1]
theorem z5v(hks:ks.length≤1048576)(H:∀y∈ks,N7 y):call tab a9 [(ZB.mk 27 tx v ks).x]=some (B (aU 27 (Pk ks))):=by
 rw[show aU 27 (Pk ks)=(decide ((Pk ks).length=1)&&aT (Pk ks) 1) from rfl,eG]
 have e1:=aW (.mk 27 tx v ks) hks H 1 (by omega)
 simp only[ZB.x,ZB.op_mk,ZB.tx_mk,ZB.v_mk,ZB.ks_mk,cK,hH,hO,iB] at e1 ⊢
 generalize aT (Pk ks) 1=z at *
 rw[aJ aY _ rfl,aX]
 by_cases c:ks.length=1
 ·have c':(ks.length:Int)=1:=by omega
  simp -implicitDefEqProofs (disch:=first|assumption|omega) only[go_sem,simprocAttr,e1,c,c',decide_true,decide_false,bta,bfa,bat,bA]
 ·have c':¬(ks.length:Int)=1:=by omega
  simp -implicitDefEqProofs (disch:=first|assumption|omega) only[go_sem,simprocAttr,c,c',decide_true,decide_false,bta,bfa,bat,bA]
theorem z6t(hks:ks.length≤1048576)(H:∀y∈ks,N7 y):call tab a9 [(ZB.mk 28 tx v ks).x]=some (B (aU 28 (Pk ks))):=by
 rw[show aU 28 (Pk ks)=(decide ((Pk ks).length=1)&&aT (Pk ks) 1) from rfl,eG]
 have e1:=aW (.mk 28 tx v ks) hks H 1 (by omega)
 simp only[ZB.x,ZB.op_mk,ZB.tx_mk,ZB.v_mk,ZB.ks_mk,cK,hH,hO,iB] at e1 ⊢
 generalize aT (Pk ks) 1=z at *
 rw[aJ aY _ rfl,aX]
 by_cases c:ks.length=1
 ·have c':(ks.length:Int)=1:=by omega
  simp -implicitDefEqProofs (disch:=first|assumption|omega) only[go_sem,simprocAttr,e1,c,c',decide_true,decide_false,bta,bfa,bat,bA]
 ·have c':¬(ks.length:Int)=1:=by omega
  simp -implicitDefEqProofs (disch:=first|assumption|omega) only[go_sem,simprocAttr,c,c',decide_true,decide_false,bta,bfa,bat,bA]
theorem z6q(hks:ks.length≤1048576)(H:∀y∈ks,N7 y):call tab a9 [(ZB.mk 29 tx v ks).x]=some (B (aU 29 (Pk ks))):=by
 rw[show aU 29 (Pk ks)=(decide ((Pk ks).length=3)&&aT (Pk ks) 3) from rfl,eG]
 have e1:=aW (.mk 29 tx v ks) hks H 3 (by omega)
 simp only[ZB.x,ZB.op_mk,ZB.tx_mk,ZB.v_mk,ZB.ks_mk,cK,hH,hO,iB] at e1 ⊢
 generalize aT (Pk ks) 3=z at *
 rw[aJ aY _ rfl,aX]
 by_cases c:ks.length=3
 ·have c':(ks.length:Int)=3:=by omega
  simp -implicitDefEqProofs (disch:=first|assumption|omega) only[go_sem,simprocAttr,e1,c,c',decide_true,decide_false,bta,bfa,bat,bA]
 ·have c':¬(ks.length:Int)=3:=by omega
  simp -implicitDefEqProofs (disch:=first|assumption|omega) only[go_sem,simprocAttr,c,c',decide_true,decide_false,bta,bfa,bat,bA]
theorem z5B(hks:ks.length≤1048576)(H:∀y∈ks,N7 y):call tab a9 [(ZB.mk 32 tx v ks).x]=some (B (aU 32 (Pk ks))):=by
 rw[show aU 32 (Pk ks)=(decide ((Pk ks).length=2)&&aT (Pk ks) 1&&cP (Pk ks) 1) from rfl,eG]
 have e1:=aW (.mk 32 tx v ks) hks H 1 (by omega)
 have b1:=jL (.mk 32 tx v ks) hks H 1
 simp only[ZB.x,ZB.op_mk,ZB.tx_mk,ZB.v_mk,ZB.ks_mk,cK,hH,hO,iB] at e1 b1 ⊢
 generalize aT (Pk ks) 1=z at *
 generalize cP (Pk ks) 1=z2 at *
 rw[aJ aY _ rfl,aX]
 by_cases c:ks.length=2
 ·have c':(ks.length:Int)=2:=by omega
  cases z<;>simp -implicitDefEqProofs (disch:=first|assumption|omega) only[go_sem,simprocAttr,e1,b1,c,c',decide_true,decide_false,bta,bfa,bat,bA]
 ·have c':¬(ks.length:Int)=2:=by omega
  simp -implicitDefEqProofs (disch:=first|assumption|omega) only[go_sem,simprocAttr,c,c',decide_true,decide_false,bta,bfa,bat,bA]
theorem z6x(hks:ks.length≤1048576)(H:∀y∈ks,N7 y):call tab a9 [(ZB.mk 33 tx v ks).x]=some (B (aU 33 (Pk ks))):=by
 rw[show aU 33 (Pk ks)=(decide ((Pk ks).length=3)&&aT (Pk ks) 2&&cP (Pk ks) 2) from rfl,eG]
 have e1:=aW (.mk 33 tx v ks) hks H 2 (by omega)
 have b1:=jL (.mk 33 tx v ks) hks H 2
 simp only[ZB.x,ZB.op_mk,ZB.tx_mk,ZB.v_mk,ZB.ks_mk,cK,hH,hO,iB] at e1 b1 ⊢
 generalize aT (Pk ks) 2=z at *
 generalize cP (Pk ks) 2=z2 at *
 rw[aJ aY _ rfl,aX]
 by_cases c:ks.length=3
 ·have c':(ks.length:Int)=3:=by omega
  cases z<;>simp -implicitDefEqProofs (disch:=first|assumption|omega) only[go_sem,simprocAttr,e1,b1,c,c',decide_true,decide_false,bta,bfa,bat,bA]
 ·have c':¬(ks.length:Int)=3:=by omega
  simp -implicitDefEqProofs (disch:=first|assumption|omega) only[go_sem,simprocAttr,c,c',decide_true,decide_false,bta,bfa,bat,bA]
theorem z8H(hks:ks.length≤1048576)(H:∀y∈ks,N7 y):call tab a9 [(ZB.mk 34 tx v ks).x]=some (B (aU 34 (Pk ks))):=by
 rw[show aU 34 (Pk ks)=(decide ((Pk ks).length=1)&&cP (Pk ks) 0) from rfl,eG]
 have b1:=jL (.mk 34 tx v ks) hks H 0
 simp only[ZB.x,ZB.op_mk,ZB.tx_mk,ZB.v_mk,ZB.ks_mk,cK,hH,hO,iB] at b1 ⊢
 generalize cP (Pk ks) 0=z2 at *
 rw[aJ aY _ rfl,aX]
 by_cases c:ks.length=1
 ·have c':(ks.length:Int)=1:=by omega
  simp -implicitDefEqProofs (disch:=first|assumption|omega) only[go_sem,simprocAttr,b1,c,c',decide_true,decide_false,bta,bfa,bat,bA]
 ·have c':¬(ks.length:Int)=1:=by omega
  simp -implicitDefEqProofs (disch:=first|assumption|omega) only[go_sem,simprocAttr,c,c',decide_true,decide_false,bta,bfa,bat,bA]
theorem z5d{op:Int}(hks:ks.length≤1048576)(h:op=19∨op=20∨op=30∨op=31∨op<1∨34<op):call tab a9 [(ZB.mk op tx v ks).x]=some (B (aU op (Pk ks))):=by
 have hk:aU op (Pk ks)=decide (ks.length=0):=by
  unfold aU
  rw[if_neg (by omega),if_neg (by omega),if_neg (by omega),if_neg (by omega),if_neg (by omega),if_neg (by omega),if_neg (by omega),if_neg (by omega),if_neg (by omega),if_neg (by omega),eG]
 rw[hk]
 simp only[ZB.x,ZB.op_mk,ZB.tx_mk,ZB.v_mk,ZB.ks_mk]
 rw[aJ aY _ rfl,aX]
 by_cases c:ks.length=0
 ·have c':(ks.length:Int)=0:=by omega
  simp -implicitDefEqProofs (disch:=first|assumption|omega) only[go_sem,simprocAttr,c,c',show ¬op=1 from by omega,show ¬op=2 from by omega,show ¬op=3 from by omega,show ¬op=4 from by omega,show ¬op=5 from by omega,show ¬op=6 from by omega,show ¬op=7 from by omega,show ¬op=8 from by omega,show ¬op=9 from by omega,show ¬op=10 from by omega,show ¬op=11 from by omega,show ¬op=12 from by omega,show ¬op=13 from by omega,show ¬op=14 from by omega,show ¬op=15 from by omega,show ¬op=16 from by omega,show ¬op=17 from by omega,show ¬op=18 from by omega,show ¬op=21 from by omega,show ¬op=22 from by omega,show ¬op=23 from by omega,show ¬op=24 from by omega,show ¬op=25 from by omega,show ¬op=26 from by omega,show ¬op=27 from by omega,show ¬op=28 from by omega,show ¬op=29 from by omega,show ¬op=32 from by omega,show ¬op=33 from by omega,show ¬op=34 from by omega,decide_true,decide_false,bta,bfa,bat,bA]
 ·have c':¬(ks.length:Int)=0:=by omega
  simp -implicitDefEqProofs (disch:=first|assumption|omega) only[go_sem,simprocAttr,c,c',show ¬op=1 from by omega,show ¬op=2 from by omega,show ¬op=3 from by omega,show ¬op=4 from by omega,show ¬op=5 from by omega,show ¬op=6 from by omega,show ¬op=7 from by omega,show ¬op=8 from by omega,show ¬op=9 from by omega,show ¬op=10 from by omega,show ¬op=11 from by omega,show ¬op=12 from by omega,show ¬op=13 from by omega,show ¬op=14 from by omega,show ¬op=15 from by omega,show ¬op=16 from by omega,show ¬op=17 from by omega,show ¬op=18 from by omega,show ¬op=21 from by omega,show ¬op=22 from by omega,show ¬op=23 from by omega,show ¬op=24 from by omega,show ¬op=25 from by omega,show ¬op=26 from by omega,show ¬op=27 from by omega,show ¬op=28 from by omega,show ¬op=29 from by omega,show ¬op=32 from by omega,show ¬op=33 from by omega,show ¬op=34 from by omega,decide_true,decide_false,bta,bfa,bat,bA]
theorem q8{op:Int}(hks:ks.length≤1048576)(H:∀y∈ks,N7 y):call tab a9 [(ZB.mk op tx v ks).x]=some (B (aU op (Pk ks))):=by
 by_cases h:op=19∨op=20∨op=30∨op=31∨op<1∨34<op
 ·exact z5d hks h
 ·have hop:op=1∨op=2∨op=3∨op=4∨op=5∨op=6∨op=7∨op=8∨op=9∨op=10∨op=11∨op=12∨op=13∨op=14∨op=15∨op=16∨op=17∨op=18∨op=21∨op=22∨op=23∨op=24∨op=25∨op=26∨op=27∨op=28∨op=29∨op=32∨op=33∨op=34:=by omega
  rcases hop with rfl|rfl|rfl|rfl|rfl|rfl|rfl|rfl|rfl|rfl|rfl|rfl|rfl|rfl|rfl|rfl|rfl|rfl|rfl|rfl|rfl|rfl|rfl|rfl|rfl|rfl|rfl|rfl|rfl|rfl
  ·exact z2f hks H
  ·exact z3M hks H
  ·exact z4C hks H
  ·exact z3T hks H
  ·exact z3o hks H
  ·exact z4U hks H
  ·exact z3c hks H
  ·exact z3G hks H
  ·exact z4B hks H
  ·exact z76 hks H
  ·exact z6H hks H
  ·exact z8W hks H
  ·exact z8D hks H
  ·exact z6k hks H
  ·exact z7h hks H
  ·exact z5I hks H
  ·exact z5h hks H
  ·exact z7y hks H
  ·exact z6W hks H
  ·exact z8A hks H
  ·exact z85 hks H
  ·exact z8y hks H
  ·exact z79 hks H
  ·exact z5l hks H
  ·exact z5v hks H
  ·exact z6t hks H
  ·exact z6q hks H
  ·exact z5B hks H
  ·exact z6x hks H
  ·exact z8H hks H
end
set_option maxRecDepth 8000
set_option maxHeartbeats 8000000
section
variable{tx:ByteArray}{v:Int}{ks:List ZB}
theorem zZw(tx:ByteArray):((tx=emS)=True)∨((tx=emS)=False):=by
 by_cases c:tx=emS
 ·exact .inl (eq_true c)
 ·exact .inr (eq_false c)
theorem z3Q(htx:tx.size≤1048576)(hks:ks.length≤1048576)(H:∀y∈ks,N7 y):call tab cN [(ZB.mk 2 tx v ks).x]=some (B (sF kwB 2 tx v (Pk ks))):=by
 have k1:=q8 (op:=2) (tx:=tx) (v:=v) hks H
 have n1:=dV tx htx
 rw[show sF kwB 2 tx v (Pk ks)=(aU 2 (Pk ks)&& !(!decide (v=0)&&true)&&eL kwB tx) from rfl]
 generalize aU 2 (Pk ks)=z1 at *
 generalize eL kwB tx=z2 at *
 simp only[ZB.x,ZB.op_mk,ZB.tx_mk,ZB.v_mk,ZB.ks_mk] at k1 ⊢
 rw[aJ eD _ rfl,dU]
 by_cases c:v=0
 ·have c':(v=0)=True:=eq_true c
  cases z1<;>simp -implicitDefEqProofs (disch:=first|assumption|omega) only[go_sem,simprocAttr,k1,n1,c',decide_true,decide_false,bta,bfa,bat,bA,Bool.not_true,Bool.not_false]
 ·cases z1<;>simp -implicitDefEqProofs (disch:=first|assumption|omega) only[go_sem,simprocAttr,k1,n1,c,decide_true,decide_false,bta,bfa,bat,bA,Bool.not_true,Bool.not_false]
theorem z3R(htx:tx.size≤1048576)(hks:ks.length≤1048576)(H:∀y∈ks,N7 y):call tab cN [(ZB.mk 3 tx v ks).x]=some (B (sF kwB 3 tx v (Pk ks))):=by
 have k1:=q8 (op:=3) (tx:=tx) (v:=v) hks H
 have n1:=dV tx htx
 rw[show sF kwB 3 tx v (Pk ks)=(aU 3 (Pk ks)&& !(!decide (v=0)&&true)&&eL kwB tx) from rfl]
 generalize aU 3 (Pk ks)=z1 at *
 generalize eL kwB tx=z2 at *
 simp only[ZB.x,ZB.op_mk,ZB.tx_mk,ZB.v_mk,ZB.ks_mk] at k1 ⊢
 rw[aJ eD _ rfl,dU]
 by_cases c:v=0
 ·have c':(v=0)=True:=eq_true c
  cases z1<;>simp -implicitDefEqProofs (disch:=first|assumption|omega) only[go_sem,simprocAttr,k1,n1,c',decide_true,decide_false,bta,bfa,bat,bA,Bool.not_true,Bool.not_false]
 ·cases z1<;>simp -implicitDefEqProofs (disch:=first|assumption|omega) only[go_sem,simprocAttr,k1,n1,c,decide_true,decide_false,bta,bfa,bat,bA,Bool.not_true,Bool.not_false]
theorem z4N(htx:tx.size≤1048576)(hks:ks.length≤1048576)(H:∀y∈ks,N7 y):call tab cN [(ZB.mk 8 tx v ks).x]=some (B (sF kwB 8 tx v (Pk ks))):=by
 have k1:=q8 (op:=8) (tx:=tx) (v:=v) hks H
 have n1:=dV tx htx
 rw[show sF kwB 8 tx v (Pk ks)=(aU 8 (Pk ks)&& !(!decide (v=0)&&true)&&eL kwB tx) from rfl]
 generalize aU 8 (Pk ks)=z1 at *
 generalize eL kwB tx=z2 at *
 simp only[ZB.x,ZB.op_mk,ZB.tx_mk,ZB.v_mk,ZB.ks_mk] at k1 ⊢
 rw[aJ eD _ rfl,dU]
 by_cases c:v=0
 ·have c':(v=0)=True:=eq_true c
  cases z1<;>simp -implicitDefEqProofs (disch:=first|assumption|omega) only[go_sem,simprocAttr,k1,n1,c',decide_true,decide_false,bta,bfa,bat,bA,Bool.not_true,Bool.not_false]
 ·cases z1<;>simp -implicitDefEqProofs (disch:=first|assumption|omega) only[go_sem,simprocAttr,k1,n1,c,decide_true,decide_false,bta,bfa,bat,bA,Bool.not_true,Bool.not_false]
theorem z6y(htx:tx.size≤1048576)(hks:ks.length≤1048576)(H:∀y∈ks,N7 y):call tab cN [(ZB.mk 10 tx v ks).x]=some (B (sF kwB 10 tx v (Pk ks))):=by
 have k1:=q8 (op:=10) (tx:=tx) (v:=v) hks H
 have n1:=dV tx htx
 rw[show sF kwB 10 tx v (Pk ks)=(aU 10 (Pk ks)&& !(!decide (v=0)&&true)&&eL kwB tx) from rfl]
 generalize aU 10 (Pk ks)=z1 at *
 generalize eL kwB tx=z2 at *
 simp only[ZB.x,ZB.op_mk,ZB.tx_mk,ZB.v_mk,ZB.ks_mk] at k1 ⊢
 rw[aJ eD _ rfl,dU]
 by_cases c:v=0
 ·have c':(v=0)=True:=eq_true c
  cases z1<;>simp -implicitDefEqProofs (disch:=first|assumption|omega) only[go_sem,simprocAttr,k1,n1,c',decide_true,decide_false,bta,bfa,bat,bA,Bool.not_true,Bool.not_false]
 ·cases z1<;>simp -implicitDefEqProofs (disch:=first|assumption|omega) only[go_sem,simprocAttr,k1,n1,c,decide_true,decide_false,bta,bfa,bat,bA,Bool.not_true,Bool.not_false]
theorem z6A(htx:tx.size≤1048576)(hks:ks.length≤1048576)(H:∀y∈ks,N7 y):call tab cN [(ZB.mk 20 tx v ks).x]=some (B (sF kwB 20 tx v (Pk ks))):=by
 have k1:=q8 (op:=20) (tx:=tx) (v:=v) hks H
 have n1:=dV tx htx
 rw[show sF kwB 20 tx v (Pk ks)=(aU 20 (Pk ks)&& !(!decide (v=0)&&true)&&eL kwB tx) from rfl]
 generalize aU 20 (Pk ks)=z1 at *
 generalize eL kwB tx=z2 at *
 simp only[ZB.x,ZB.op_mk,ZB.tx_mk,ZB.v_mk,ZB.ks_mk] at k1 ⊢
 rw[aJ eD _ rfl,dU]
 by_cases c:v=0
 ·have c':(v=0)=True:=eq_true c
  cases z1<;>simp -implicitDefEqProofs (disch:=first|assumption|omega) only[go_sem,simprocAttr,k1,n1,c',decide_true,decide_false,bta,bfa,bat,bA,Bool.not_true,Bool.not_false]
 ·cases z1<;>simp -implicitDefEqProofs (disch:=first|assumption|omega) only[go_sem,simprocAttr,k1,n1,c,decide_true,decide_false,bta,bfa,bat,bA,Bool.not_true,Bool.not_false]
theorem z6V(htx:tx.size≤1048576)(hks:ks.length≤1048576)(H:∀y∈ks,N7 y):call tab cN [(ZB.mk 26 tx v ks).x]=some (B (sF kwB 26 tx v (Pk ks))):=by
 have k1:=q8 (op:=26) (tx:=tx) (v:=v) hks H
 have n1:=dV tx htx
 rw[show sF kwB 26 tx v (Pk ks)=(aU 26 (Pk ks)&& !(!decide (v=0)&&true)&&eL kwB tx) from rfl]
 generalize aU 26 (Pk ks)=z1 at *
 generalize eL kwB tx=z2 at *
 simp only[ZB.x,ZB.op_mk,ZB.tx_mk,ZB.v_mk,ZB.ks_mk] at k1 ⊢
 rw[aJ eD _ rfl,dU]
 by_cases c:v=0
 ·have c':(v=0)=True:=eq_true c
  cases z1<;>simp -implicitDefEqProofs (disch:=first|assumption|omega) only[go_sem,simprocAttr,k1,n1,c',decide_true,decide_false,bta,bfa,bat,bA,Bool.not_true,Bool.not_false]
 ·cases z1<;>simp -implicitDefEqProofs (disch:=first|assumption|omega) only[go_sem,simprocAttr,k1,n1,c,decide_true,decide_false,bta,bfa,bat,bA,Bool.not_true,Bool.not_false]
theorem z8I(htx:tx.size≤1048576)(hks:ks.length≤1048576)(H:∀y∈ks,N7 y):call tab cN [(ZB.mk 31 tx v ks).x]=some (B (sF kwB 31 tx v (Pk ks))):=by
 have k1:=q8 (op:=31) (tx:=tx) (v:=v) hks H
 have n1:=dV tx htx
 rw[show sF kwB 31 tx v (Pk ks)=(aU 31 (Pk ks)&& !(!decide (v=0)&&true)&&eL kwB tx) from rfl]
 generalize aU 31 (Pk ks)=z1 at *
 generalize eL kwB tx=z2 at *
 simp only[ZB.x,ZB.op_mk,ZB.tx_mk,ZB.v_mk,ZB.ks_mk] at k1 ⊢
 rw[aJ eD _ rfl,dU]
 by_cases c:v=0
 ·have c':(v=0)=True:=eq_true c
  cases z1<;>simp -implicitDefEqProofs (disch:=first|assumption|omega) only[go_sem,simprocAttr,k1,n1,c',decide_true,decide_false,bta,bfa,bat,bA,Bool.not_true,Bool.not_false]
 ·cases z1<;>simp -implicitDefEqProofs (disch:=first|assumption|omega) only[go_sem,simprocAttr,k1,n1,c,decide_true,decide_false,bta,bfa,bat,bA,Bool.not_true,Bool.not_false]
theorem z7Y(htx:tx.size≤1048576)(hks:ks.length≤1048576)(H:∀y∈ks,N7 y):call tab cN [(ZB.mk 32 tx v ks).x]=some (B (sF kwB 32 tx v (Pk ks))):=by
 have k1:=q8 (op:=32) (tx:=tx) (v:=v) hks H
 have n1:=dV tx htx
 rw[show sF kwB 32 tx v (Pk ks)=(aU 32 (Pk ks)&& !(!decide (v=0)&&true)&&eL kwB tx) from rfl]
 generalize aU 32 (Pk ks)=z1 at *
 generalize eL kwB tx=z2 at *
 simp only[ZB.x,ZB.op_mk,ZB.tx_mk,ZB.v_mk,ZB.ks_mk] at k1 ⊢
 rw[aJ eD _ rfl,dU]
 by_cases c:v=0
 ·have c':(v=0)=True:=eq_true c
  cases z1<;>simp -implicitDefEqProofs (disch:=first|assumption|omega) only[go_sem,simprocAttr,k1,n1,c',decide_true,decide_false,bta,bfa,bat,bA,Bool.not_true,Bool.not_false]
 ·cases z1<;>simp -implicitDefEqProofs (disch:=first|assumption|omega) only[go_sem,simprocAttr,k1,n1,c,decide_true,decide_false,bta,bfa,bat,bA,Bool.not_true,Bool.not_false]
theorem z6B(htx:tx.size≤1048576)(hks:ks.length≤1048576)(H:∀y∈ks,N7 y):call tab cN [(ZB.mk 19 tx v ks).x]=some (B (sF kwB 19 tx v (Pk ks))):=by
 have k1:=q8 (op:=19) (tx:=tx) (v:=v) hks H
 have n1:=qS v (-2147483647) 2147483647
 rw[show sF kwB 19 tx v (Pk ks)=(aU 19 (Pk ks)&& !(!decide (v=0)&&false)&&(decide (tx=emS)&&decide (-2147483647≤v∧v≤2147483647))) from rfl]
 generalize aU 19 (Pk ks)=z1 at *
 generalize decide (-2147483647≤v∧v≤2147483647)=z2 at *
 simp only[ZB.x,ZB.op_mk,ZB.tx_mk,ZB.v_mk,ZB.ks_mk] at k1 ⊢
 rw[aJ eD _ rfl,dU]
 have e0:(v=0)=(v=0):=rfl
 by_cases c:v=0
 ·have c':(v=0)=True:=eq_true c
  cases z1<;>rcases zZw tx with c1|c1<;>simp -implicitDefEqProofs (disch:=first|assumption|omega) only[go_sem,simprocAttr,k1,n1,c',c1,decide_true,decide_false,bta,bfa,bat,bA,Bool.not_true,Bool.not_false]
 ·cases z1<;>rcases zZw tx with c1|c1<;>simp -implicitDefEqProofs (disch:=first|assumption|omega) only[go_sem,simprocAttr,k1,n1,c,c1,decide_true,decide_false,bta,bfa,bat,bA,Bool.not_true,Bool.not_false]
theorem z60{op:Int}(h:¬(op=2∨op=3∨op=8∨op=10∨op=20∨op=26∨op=31∨op=32))(h19:op≠19)(hks:ks.length≤1048576)(H:∀y∈ks,N7 y):call tab cN [(ZB.mk op tx v ks).x]=some (B (sF kwB op tx v (Pk ks))):=by
 have k1:=q8 (op:=op) (tx:=tx) (v:=v) hks H
 have n1:=qS op 1 34
 have hF:sF kwB op tx v (Pk ks)=(aU op (Pk ks)&& !(!decide (v=0)&&true)&&(decide (tx=emS)&&decide (1≤op∧op≤34))):=by
  unfold sF
  rw[if_neg h,if_neg h19,decide_eq_false h19]
  rfl
 rw[hF]
 generalize aU op (Pk ks)=z1 at *
 generalize decide (1≤op∧op≤34)=z2 at *
 simp only[ZB.x,ZB.op_mk,ZB.tx_mk,ZB.v_mk,ZB.ks_mk] at k1 ⊢
 rw[aJ eD _ rfl,dU]
 by_cases c:v=0
 ·have c':(v=0)=True:=eq_true c
  cases z1<;>rcases zZw tx with c1|c1<;>simp -implicitDefEqProofs (disch:=first|assumption|omega) only[go_sem,simprocAttr,k1,n1,c',c1,h19,show ¬op=2 from by omega,show ¬op=3 from by omega,show ¬op=8 from by omega,show ¬op=10 from by omega,show ¬op=20 from by omega,show ¬op=26 from by omega,show ¬op=31 from by omega,show ¬op=32 from by omega,decide_true,decide_false,bta,bfa,bat,bA,Bool.not_true,Bool.not_false]
 ·cases z1<;>rcases zZw tx with c1|c1<;>simp -implicitDefEqProofs (disch:=first|assumption|omega) only[go_sem,simprocAttr,k1,n1,c,c1,h19,show ¬op=2 from by omega,show ¬op=3 from by omega,show ¬op=8 from by omega,show ¬op=10 from by omega,show ¬op=20 from by omega,show ¬op=26 from by omega,show ¬op=31 from by omega,show ¬op=32 from by omega,decide_true,decide_false,bta,bfa,bat,bA,Bool.not_true,Bool.not_false]
theorem zKK(x:ZB)(hx:x.Sm):N7 x:=by
 refine ZB.ind (P:=fun x=>x.Sm→N7 x) (fun op tx v ks ih hx=> ?_) x hx
 have hk:=hx.ks
 have H:∀y∈ks,N7 y:=fun y hy=>ih y hy (hk.2 y hy)
 have htx:tx.size≤1048576:=hx.tx
 have hks:ks.length≤1048576:=hk.1
 unfold N7
 rw[Jk]
 by_cases h:op=2∨op=3∨op=8∨op=10∨op=20∨op=26∨op=31∨op=32
 ·rcases h with rfl|rfl|rfl|rfl|rfl|rfl|rfl|rfl
  ·exact z3Q htx hks H
  ·exact z3R htx hks H
  ·exact z4N htx hks H
  ·exact z6y htx hks H
  ·exact z6A htx hks H
  ·exact z6V htx hks H
  ·exact z8I htx hks H
  ·exact z7Y htx hks H
 ·by_cases h19:op=19
  ·subst h19
   exact z6B htx hks H
  ·exact z60 h h19 hks H
end
set_option maxRecDepth 8000
set_option maxHeartbeats 4000000
theorem w7(f:Nat)(p:ZC→Bool)(h:Heap)(fr:Nat)(hh:bS fr h=h)(xs:List ZC)(hx:xs.length≤140737488351232)(hf:∀x∈xs,evCW tab f [x.x] h (fr+1)=some (B (p x),h)):∀(Bl:List ZC) (j:Int),xs.drop j.toNat=Bl→0≤j →
  loopW tab [0,1,7,8] a7 {env:=upd (upd (upd (upd emp 8 (some (I j))) 7 (some (I (xs.length:Int)))) 1 (some (.d (.v (.func (.func f) #[] #[]))))) 0 (some (.d (.r (xs.map (ZC.r))))),heap:=h,fr:=fr,next:=0}=if aS p j Bl= -1 then some (.ext 0,{env:=emp,heap:=h,fr:=fr,next:=0}) else some (.ret,{env:=upd emp 4 (some (I (aS p j Bl))),heap:=h,fr:=fr,next:=0})
 |[],j,hd,hj=>by
  unfold loopW
  conv=>lhs;arg 1;unfold a7
  have:=b9 hd hj
  simp only[aS,if_true]
  simp -implicitDefEqProofs (disch:=first|assumption|omega|(simp only[aE,aQ,aD,i64,sa,aC,lm,la,lc,ln];omega)) only[go_sem,simprocAttr,hh]
 |x::Bl,j,hd,hj=>by
  unfold loopW
  conv=>lhs;arg 1;unfold a7
  have h4:=(bK hd hj).2.1
  have ih:=w7 f p h fr hh xs hx hf Bl (j+1) (bK hd hj).2.2.1 (by omega)
  have h2:=eK (ZC.r) (bK hd hj).1
  simp only[ZC.r] at h2
  have h3:=hf x (bK hd hj).2.2.2.1
  rw[aS]
  by_cases hp:p x=true
  ·rw[if_pos hp,if_neg (by omega)]
   simp -implicitDefEqProofs (disch:=first|assumption|omega|(simp only[aE,aQ,aD,i64,sa,aC,lm,la,lc,ln];omega)) only[go_sem,simprocAttr,h2,h3,hh]
  ·rw[if_neg hp,←ih]
   simp -implicitDefEqProofs (disch:=first|assumption|omega|(simp only[aE,aQ,aD,i64,sa,aC,lm,la,lc,ln];omega)) only[go_sem,simprocAttr,h2,h3,hh]
theorem yX(f:Nat)(p:ZC→Bool)(h:Heap)(fr:Nat)(hh:bS fr h=h)(xs:List ZC)(hx:xs.length≤140737488351232)(hf:∀x∈xs,evCW tab f [x.x] h (fr+1)=some (B (p x),h)):evCW tab bP [.d (.r (xs.map (ZC.r))),.d (.v (.func (.func f) #[] #[]))] h fr=some (I (aS p 0 xs),h):=by
 rw[aP eU _ _ _ rfl,cT]
 have h0:=w7 f p h fr hh xs hx hf xs 0 rfl (by omega)
 by_cases hp:aS p 0 xs= -1
 ·rw[if_pos hp] at h0
  simp -implicitDefEqProofs (disch:=first|assumption|omega|(simp only[aE,aQ,aD,i64,sa,aC,lm,la,lc,ln];omega)) only[go_sem,simprocAttr,hh,h0,hp]
 ·rw[if_neg hp] at h0
  simp -implicitDefEqProofs (disch:=first|assumption|omega|(simp only[aE,aQ,aD,i64,sa,aC,lm,la,lc,ln];omega)) only[go_sem,simprocAttr,hh,h0,hp]
theorem lY(f:Nat)(p:ZC→Bool)(h:Heap)(fr:Nat)(hh:bS fr h=h)(hh':bS (fr+1) h=h)(xs:List ZC)(hx:xs.length≤140737488351232)(hf:∀x∈xs,evCW tab f [x.x] h (fr+2)=some (B (p x),h)):evCW tab bL [.d (.r (xs.map (ZC.r))),.d (.v (.func (.func f) #[] #[]))] h fr=some (B (xs.any p),h):=by
 rw[aP jX _ _ _ rfl,eA]
 have h0:=yX f p h (fr+1) hh' xs hx hf
 rw[pB p 0 (by omega)]
 simp -implicitDefEqProofs (disch:=first|assumption|omega|(simp only[aE,aQ,aD,i64,sa,aC,lm,la,lc,ln];omega)) only[go_sem,simprocAttr,hh,h0]
set_option maxRecDepth 8000
set_option maxHeartbeats 4000000
mutual
def ZB.dp:ZB→Int
 |.mk _ _ _ ks=>IntKind.i64.wrap (wY 0 ks+1)
def wY:Int→List ZB→Int
 |m,[]=>m
 |m,x::xs=>wY (if m>x.dp then m else x.dp) xs
end
theorem zWL(a b:Int):call tab Ki [I a,I b]=some (I (if a>b then a else b)):=by
 rw[aJ zzE _ rfl,Ll]
 by_cases c:a>b
 ·simp only[if_pos c];simp -implicitDefEqProofs (disch:=first|assumption|omega) only[go_sem,simprocAttr]
 ·simp only[if_neg c];simp -implicitDefEqProofs (disch:=first|assumption|omega) only[go_sem,simprocAttr]
theorem Md(x:ZB)(hx:x.ks.length≤1048576)(H:∀y∈x.ks,call tab t9 [y.x]=some (I y.dp)):∀(Bl:List ZB) (j:Int) (m:Int),x.ks.drop j.toNat=Bl→0≤j →
  loopW tab [1,3,4] rD {env:=upd (upd (upd emp 4 (some (I j))) 3 (some (I m))) 1 (some (.vp [I x.op,Str x.tx,I x.v,.d (.r (x.ks.map ZB.r))])),heap:=emp,fr:=0,next:=0}=some (.ext 0,{env:=upd emp 3 (some (I (wY m Bl))),heap:=emp,fr:=0,next:=0})
 |[],j,m,hd,hj=>by
  unfold loopW
  conv=>lhs;arg 1;unfold rD
  have h1:=b9 hd hj
  simp -implicitDefEqProofs (disch:=first|assumption|omega) only[go_sem,simprocAttr,wY]
 |y::Bl,j,m,hd,hj=>by
  unfold loopW
  conv=>lhs;arg 1;unfold rD
  have h1:=bK hd hj
  have h5:=h1.2.1
  have h2:=eK ZB.r h1.1
  rw[ZB.r_def] at h2
  have g0:=H y h1.2.2.2.1
  have g1:=zWL m y.dp
  have ih:=Md x hx H Bl (j+1) (if m>y.dp then m else y.dp) h1.2.2.1 (by omega)
  rw[wY]
  generalize (if m>y.dp then m else y.dp)=u at *
  simp -implicitDefEqProofs (disch:=first|assumption|omega) only[go_sem,simprocAttr,h2,g0,g1,ih]
theorem Ku(ks:List ZB)(hx:ks.length≤1048576)(H:∀y∈ks,call tab uB [y.x]=some (I y.dp)):∀(Bl:List ZB) (j:Int) (m:Int),ks.drop j.toNat=Bl→0≤j →
  loopW tab [3,7,8,9] rF {env:=upd (upd (upd (upd emp 9 (some (I j))) 8 (some (I (ks.length:Int)))) 7 (some (.d (.r (ks.map ZB.r))))) 3 (some (I m)),heap:=emp,fr:=0,next:=0}=some (.ext 0,{env:=upd emp 3 (some (I (wY m Bl))),heap:=emp,fr:=0,next:=0})
 |[],j,m,hd,hj=>by
  unfold loopW
  conv=>lhs;arg 1;unfold rF
  have h1:=b9 hd hj
  simp -implicitDefEqProofs (disch:=first|assumption|omega) only[go_sem,simprocAttr,wY]
 |y::Bl,j,m,hd,hj=>by
  unfold loopW
  conv=>lhs;arg 1;unfold rF
  have h1:=bK hd hj
  have h5:=h1.2.1
  have h2:=eK ZB.r h1.1
  rw[ZB.r_def] at h2
  have g0:=H y h1.2.2.2.1
  have ih:=Ku ks hx H Bl (j+1) (if m>y.dp then m else y.dp) h1.2.2.1 (by omega)
  rw[wY]
  rcases Int.lt_trichotomy m y.dp with c|c|c
  ·rw[if_neg (by omega)] at ih ⊢
   simp -implicitDefEqProofs (disch:=first|assumption|omega) only[go_sem,simprocAttr,h2,g0,ih]
  ·rw[if_neg (by omega)] at ih ⊢
   rw[c]
   simp -implicitDefEqProofs (disch:=first|assumption|omega) only[go_sem,simprocAttr,h2,g0,ih]
  ·rw[if_pos c] at ih ⊢
   simp -implicitDefEqProofs (disch:=first|assumption|omega) only[go_sem,simprocAttr,h2,g0,ih]
theorem zxY(x:ZB)(hx:x.Sm):call tab t9 [x.x]=some (I x.dp)∧call tab uB [x.x]=some (I x.dp):=by
 refine ZB.ind (P:=fun x=>x.Sm→call tab t9 [x.x]=some (I x.dp)∧call tab uB [x.x]=some (I x.dp)) (fun op tx v ks ih hx=> ?_) x hx
 have hk:=hx.ks
 have h0:=Md (.mk op tx v ks) hk.1 (fun y hy=>(ih y hy (hk.2 y hy)).1) ks 0 0 rfl (by omega)
 have h1:=Ku ks hk.1 (fun y hy=>(ih y hy (hk.2 y hy)).2) ks 0 0 rfl (by omega)
 simp only[ZB.op_mk,ZB.tx_mk,ZB.v_mk,ZB.ks_mk] at h0
 rw[ZB.dp]
 refine⟨?_,?_⟩
 ·rw[aJ zkn _ rfl,O6]
  simp -implicitDefEqProofs (disch:=first|assumption|omega) only[go_sem,simprocAttr,h0]
 ·rw[aJ zvO _ rfl,O2]
  simp -implicitDefEqProofs (disch:=first|assumption|omega) only[go_sem,simprocAttr,h1]
theorem ZB.fzlr(x:ZB):Ev.fzl x.r=x.r:=by
 refine ZB.ind (P:=fun x=>Ev.fzl x.r=x.r) (fun op tx v ks ih=> ?_) x
 rw[ZB.r_eq]
 have h:Ev.fzs (ks.map ZB.r)=ks.map ZB.r:=by
  induction ks with
  |nil=>simp only[mn,Ev.fzs]
  |cons k ks ih2=>simp only[mc,Ev.fzs,ih k (by simp),ih2 (fun y hy=>ih y (by simp[hy]))]
 simp only[Ev.fzl,D.fz,h]
theorem ZB.fzr(xs:List ZB):Ev.fzs (xs.map ZB.r)=xs.map ZB.r:=mV _ _ ZB.fzlr xs
theorem ZA.fzlr(x:ZA):Ev.fzl x.r=x.r:=by simp only[ZA.r,Ev.fzl,D.fz,ZC.fzr,ZB.fzr]
theorem ZA.fzr(xs:List ZA):Ev.fzs (xs.map ZA.r)=xs.map ZA.r:=mV _ _ ZA.fzlr xs
set_option maxRecDepth 8000
set_option maxHeartbeats 4000000
def pmB(f:ZA):Bool:=f.fParams.any fun p=> !eL kwB p.fName
def tdI(f:ZA):Bool:=eL kwB f.fName&& !pmB f&& !decide (f.fBody.dp>20)&&(f.fBody.td kwB).b
def tdS(f:ZA):Bool:= !pmB f&&(eL kwB f.fName&&decide (f.fBody.op=1)&& !decide (f.fBody.dp>20)&&f.fBody.sTd kwB)
theorem Vz(p:ZC)(hp:p.sm)(h:Heap)(fr:Nat)(hl:bS fr h=h):evCW tab rN [p.x] h fr=some (B (!eL kwB p.fName),h):=by
 have h0:=fF p.fName hp
 rw[aP X8 _ _ _ rfl,H9]
 simp -implicitDefEqProofs (disch:=first|assumption|omega) only[go_sem,simprocAttr,h0,hl]
theorem zyL(ps:List ZC)(hp:ps.length≤1048576∧∀y∈ps,y.sm)(n:Nat)(d:D):evCW tab bL [.d (.r (ps.map ZC.r)),.d (.v (.func (.func rN) #[] #[]))] (upd emp (0,n) (some d)) 1=some (B (ps.any fun p=> !eL kwB p.fName),upd emp (0,n) (some d)):=by
 have hl:Low 1 (upd emp (0,n) (some d)):=(Low.emp 0).upd (by omega) _
 exact lY rN (fun p=> !eL kwB p.fName) _ 1 (hl.drop (by omega)) (hl.drop (by omega)) ps (by have:=hp.1;omega) (fun x hx=>Vz x (hp.2 x hx) _ _ (hl.drop (by omega)))
theorem Kn(F:List ZA)(hF:F.length≤1048576∧∀y∈F,ZA.Sm y):∀(Bl:List ZA) (j:Int),F.drop j.toNat=Bl→0≤j →
  loopW tab [0,5,6,7] qZ {env:=upd (upd (upd (upd emp 7 (some (I j))) 6 (some (I (F.length:Int)))) 5 (some (.d (.r (F.map ZA.r))))) 0 (some (.d (.r (F.map ZA.r)))),heap:=emp,fr:=0,next:=0}=if (Bl.all tdI)=true then some (.ext 0,{env:=upd emp 0 (some (.d (.r (F.map ZA.r)))),heap:=emp,fr:=0,next:=0}) else some (.ret,{env:=upd emp 2 (some (B false)),heap:=emp,fr:=0,next:=0})
 |[],j,hd,hj=>by
  have h1:=b9 hd hj
  unfold loopW
  conv=>lhs;arg 1;unfold qZ
  simp only[List.all_nil,if_true]
  simp -implicitDefEqProofs (disch:=first|assumption|omega) only[go_sem,simprocAttr,h1]
 |f::Bl,j,hd,hj=>by
  have h1:=bK hd hj
  have h2:=eK ZA.r h1.1
  have h5:=h1.2.1
  have hlen:=hF.1
  have hS:=hF.2 f h1.2.2.2.1
  have n1:=fF f.fName hS.nm
  have p1:=zyL f.fParams hS.ps
  have d1:=(zxY f.fBody hS.bd).2
  have b1:call tab dT [f.fBody.x]=some (B (f.fBody.td kwB).b):=(z8i f.fBody hS.bd).2.1.call
  have ih:=Kn F hF Bl (j+1) h1.2.2.1 (by omega)
  rw[List.all_cons,tdI]
  change ∀(n:Nat) (d:D),_=some (B (pmB f),_) at p1
  simp only[ZA.r] at h2
  generalize (f.fBody.td kwB).b=z4 at *
  generalize pmB f=z2 at *
  generalize eL kwB f.fName=z1 at *
  unfold loopW
  conv=>lhs;arg 1;unfold qZ
  cases z1
  ·simp only[bfa,Bool.false_eq_true,if_false]
   simp -implicitDefEqProofs (disch:=first|assumption|omega) only[go_sem,simprocAttr,h5,h2,n1]
  ·cases z2
   ·by_cases c:f.fBody.dp>20
    ·simp only[c,decide_true,Bool.not_true,bA,bfa,Bool.false_eq_true,if_false]
     simp -implicitDefEqProofs (disch:=first|assumption|omega) only[go_sem,simprocAttr,h5,h2,n1,p1,d1,c,ZB.fzs,ZC.fzr,ZB.fzr]
    ·cases z4
     ·simp only[bA,bfa,Bool.false_eq_true,if_false]
      simp -implicitDefEqProofs (disch:=first|assumption|omega) only[go_sem,simprocAttr,h5,h2,n1,p1,d1,b1,c]
     ·simp only[c,decide_false,Bool.not_false,bat,bta]
      rw[←ih]
      simp -implicitDefEqProofs (disch:=first|assumption|omega) only[go_sem,simprocAttr,h5,h2,n1,p1,d1,b1,c]
   ·simp only[Bool.not_true,bA,bfa,Bool.false_eq_true,if_false]
    simp -implicitDefEqProofs (disch:=first|assumption|omega) only[go_sem,simprocAttr,h5,h2,n1,p1]
theorem zzL(F:List ZA)(hF:F.length≤1048576∧∀y∈F,ZA.Sm y):call tab Mw [.d (.r (F.map ZA.r))]=some (B (F.all tdI&&decide (F.length≤40))):=by
 have h0:=Kn F hF F 0 rfl (by omega)
 have hlen:=hF.1
 have hc:decide (F.length≤40)=decide ((F.length:Int)≤40):=decide_eq_decide.2 (by omega)
 rw[hc]
 rw[aJ zvd _ rfl,Om]
 cases hz:F.all tdI<;>rw[hz] at h0<;>simp only[Bool.false_eq_true,if_false,if_true] at h0
 ·simp -implicitDefEqProofs (disch:=first|assumption|omega) only[go_sem,simprocAttr,h0,bfa]
 ·by_cases c:(F.length:Int)≤40
  ·simp -implicitDefEqProofs (disch:=first|assumption|omega) only[go_sem,simprocAttr,h0,c,bta,decide_true]
  ·simp -implicitDefEqProofs (disch:=first|assumption|omega) only[go_sem,simprocAttr,h0,c,bta,decide_false]
theorem Kt(F:List ZA)(j:Int)(f:ZA)(hS:ZA.Sm f):∀(Bl:List ZC) (k:Int),f.fParams.drop k.toNat=Bl→0≤k →
  loopW tab [0,3,4,5] q9 {env:=upd (upd (upd (upd emp 5 (some (I k))) 4 (some (.ptr (0,0) [] 0 0))) 3 (some (I j))) 0 (some (.d (.r (F.map ZA.r)))),heap:=upd emp (0,0) (some (.s 6 [f.r])),fr:=0,next:=1}=if (Bl.any fun p=> !eL kwB p.fName)=true then some (.ret,{env:=upd emp 2 (some (B false)),heap:=emp,fr:=0,next:=0}) else some (.ext 2,{env:=upd (upd (upd emp 4 (some (.ptr (0,0) [] 0 0))) 3 (some (I j))) 0 (some (.d (.r (F.map ZA.r)))),heap:=upd emp (0,0) (some (.s 6 [f.r])),fr:=0,next:=1})
 |[],k,hd,hk=>by
  have h1:=b9 hd hk
  unfold loopW
  conv=>lhs;arg 1;unfold q9
  simp only[List.any_nil,Bool.false_eq_true,if_false,ZA.r]
  simp -implicitDefEqProofs (disch:=first|assumption|omega) only[go_sem,simprocAttr,h1]
 |p::Bl,k,hd,hk=>by
  have h1:=bK hd hk
  have h2:=eK ZC.r h1.1
  have h5:=h1.2.1
  have hlen:=hS.ps.1
  have n1:=dV p.fName (hS.ps.2 p h1.2.2.2.1)
  have ih:=Kt F j f hS Bl (k+1) h1.2.2.1 (by omega)
  rw[List.any_cons]
  simp only[ZA.r,ZC.r] at h2 ih ⊢
  unfold loopW
  conv=>lhs;arg 1;unfold q9
  cases hz:eL kwB p.fName<;>rw[hz] at n1
  ·simp only[Bool.not_false,Bool.true_or,if_true]
   simp -implicitDefEqProofs (disch:=first|assumption|omega) only[go_sem,simprocAttr,h5,h2,n1]
  ·simp only[Bool.not_true,Bool.false_or]
   rw[←ih]
   simp -implicitDefEqProofs (disch:=first|assumption|omega) only[go_sem,simprocAttr,h5,h2,n1]
theorem Mc(F:List ZA)(hF:F.length≤1048576∧∀y∈F,ZA.Sm y):∀(Bl:List ZA) (j:Int),F.drop j.toNat=Bl→0≤j →
  loopW tab [0,3] rA {env:=upd (upd emp 3 (some (I j))) 0 (some (.d (.r (F.map ZA.r)))),heap:=emp,fr:=0,next:=0}=if (Bl.all tdS)=true then some (.ext 0,{env:=upd emp 0 (some (.d (.r (F.map ZA.r)))),heap:=emp,fr:=0,next:=0}) else some (.ret,{env:=upd emp 2 (some (B false)),heap:=emp,fr:=0,next:=0})
 |[],j,hd,hj=>by
  have h1:=b9 hd hj
  unfold loopW
  conv=>lhs;arg 1;unfold rA
  simp only[List.all_nil,if_true]
  simp -implicitDefEqProofs (disch:=first|assumption|omega) only[go_sem,simprocAttr,h1]
 |f::Bl,j,hd,hj=>by
  have h1:=bK hd hj
  have h2:=eK ZA.r h1.1
  have h5:=h1.2.1
  have hlen:=hF.1
  have hS:=hF.2 f h1.2.2.2.1
  have n1:=dV f.fName hS.nm
  have l0:=Kt F j f hS f.fParams 0 rfl (by omega)
  have d1:=(zxY f.fBody hS.bd).1
  have b1:=zKK f.fBody hS.bd
  unfold N7 at b1
  have ih:=Mc F hF Bl (j+1) h1.2.2.1 (by omega)
  rw[List.all_cons,tdS]
  change _=if pmB f=true then _ else _ at l0
  simp only[ZA.r] at h2 l0
  generalize f.fBody.sTd kwB=z4 at *
  generalize pmB f=z2 at *
  generalize eL kwB f.fName=z1 at *
  unfold loopW
  conv=>lhs;arg 1;unfold rA
  cases z2<;>simp only[Bool.false_eq_true,if_false,if_true] at l0
  ·cases z1
   ·simp only[bfa,bA,Bool.false_eq_true,if_false]
    simp -implicitDefEqProofs (disch:=first|assumption|omega) only[go_sem,simprocAttr,h5,h2,l0,n1]
   ·rcases Classical.em (f.fBody.op=1) with c1|c1
    ·have c1':(f.fBody.op=1)=True:=eq_true c1
     by_cases c:f.fBody.dp>20
     ·simp only[c,c1',decide_true,Bool.not_true,bA,bfa,Bool.false_eq_true,if_false]
      simp -implicitDefEqProofs (disch:=first|assumption|omega) only[go_sem,simprocAttr,h5,h2,l0,n1,d1,c,c1',decide_true]
     ·cases z4
      ·simp only[bA,bfa,Bool.false_eq_true,if_false]
       simp -implicitDefEqProofs (disch:=first|assumption|omega) only[go_sem,simprocAttr,h5,h2,l0,n1,d1,b1,c,c1',decide_true]
      ·simp only[c,c1',decide_true,decide_false,Bool.not_false,bat,bta]
       rw[←ih]
       simp -implicitDefEqProofs (disch:=first|assumption|omega) only[go_sem,simprocAttr,h5,h2,l0,n1,d1,b1,c,c1',decide_true]
    ·have c1':(f.fBody.op=1)=False:=eq_false c1
     simp only[c1',decide_false,bA,bfa,Bool.false_eq_true,if_false]
     simp -implicitDefEqProofs (disch:=first|assumption|omega) only[go_sem,simprocAttr,h5,h2,l0,n1,c1',decide_false]
  ·simp only[Bool.not_true,bfa,Bool.false_eq_true,if_false]
   simp -implicitDefEqProofs (disch:=first|assumption|omega) only[go_sem,simprocAttr,h5,h2,l0]
theorem zzu(F:List ZA)(hF:F.length≤1048576∧∀y∈F,ZA.Sm y):call tab Mu [.d (.r (F.map ZA.r))]=some (B (F.all tdS&&decide (F.length≤40))):=by
 have h0:=Mc F hF F 0 rfl (by omega)
 have hlen:=hF.1
 have hc:decide (F.length≤40)=decide ((F.length:Int)≤40):=decide_eq_decide.2 (by omega)
 rw[hc]
 rw[aJ zqV _ rfl,On]
 cases hz:F.all tdS<;>rw[hz] at h0<;>simp only[Bool.false_eq_true,if_false,if_true] at h0
 ·simp -implicitDefEqProofs (disch:=first|assumption|omega) only[go_sem,simprocAttr,h0,bfa]
 ·by_cases c:(F.length:Int)≤40
  ·simp -implicitDefEqProofs (disch:=first|assumption|omega) only[go_sem,simprocAttr,h0,c,bta,decide_true]
  ·simp -implicitDefEqProofs (disch:=first|assumption|omega) only[go_sem,simprocAttr,h0,c,bta,decide_false]
theorem z71(f:ZA):(tdS f=true∧f.fBody.sel=true)↔(tdI f=true∧f.fBody.crowd=false):=by
 have h:=zKO kwB f.fBody
 unfold nX at h
 simp only[tdS,tdI,bE,decide_eq_true_eq]
 constructor
 ·rintro ⟨⟨a,⟨⟨b,c⟩,d⟩,e⟩,g⟩
  obtain⟨h1,h2⟩:=h.1 ⟨e,g⟩
  rw[zw4 kwB c] at h1
  exact⟨⟨⟨⟨b,a⟩,d⟩,h1⟩,h2⟩
 ·rintro ⟨⟨⟨⟨b,a⟩,d⟩,e⟩,g⟩
  have c:=z2q kwB e
  obtain⟨h1,h2⟩:=h.2 ⟨by rw[zw4 kwB c];exact e,g⟩
  exact⟨⟨a,⟨⟨b,c⟩,d⟩,h1⟩,h2⟩
set_option maxRecDepth 8000
set_option maxHeartbeats 4000000
theorem vQ(f:Nat)(p:ZC→Bool)(h:Heap)(fr:Nat)(hh:bS fr h=h)(xs:List ZC)(hx:xs.length≤140737488351232)(c kc:Nat)(h1:c<fr)(hf:∀x∈xs,evCW tab f [x.x,.ptr (c,kc) [] 0 0] h (fr+1)=some (B (p x),h)):∀(Bl:List ZC) (j:Int),xs.drop j.toNat=Bl→0≤j →
  loopW tab [0,1,7,8] a7 {env:=upd (upd (upd (upd emp 8 (some (I j))) 7 (some (I (xs.length:Int)))) 1 (some (.clo f [.ptr (c,kc) [] 0 0]))) 0 (some (.d (.r (xs.map (ZC.r))))),heap:=h,fr:=fr,next:=0}=if aS p j Bl= -1 then some (.ext 0,{env:=emp,heap:=h,fr:=fr,next:=0}) else some (.ret,{env:=upd emp 4 (some (I (aS p j Bl))),heap:=h,fr:=fr,next:=0})
 |[],j,hd,hj=>by
  unfold loopW
  conv=>lhs;arg 1;unfold a7
  have:=b9 hd hj
  simp only[aS,if_true]
  simp -implicitDefEqProofs (disch:=first|assumption|omega|(simp only[aE,aQ,aD,i64,sa,aC,lm,la,lc,ln];omega)) only[go_sem,simprocAttr,hh,show ¬c=fr from by omega]
 |x::Bl,j,hd,hj=>by
  unfold loopW
  conv=>lhs;arg 1;unfold a7
  have h4:=(bK hd hj).2.1
  have ih:=vQ f p h fr hh xs hx c kc h1 hf Bl (j+1) (bK hd hj).2.2.1 (by omega)
  have h2:=eK (ZC.r) (bK hd hj).1
  simp only[ZC.r] at h2
  have h3:=hf x (bK hd hj).2.2.2.1
  rw[aS]
  by_cases hp:p x=true
  ·rw[if_pos hp,if_neg (by omega)]
   simp -implicitDefEqProofs (disch:=first|assumption|omega|(simp only[aE,aQ,aD,i64,sa,aC,lm,la,lc,ln];omega)) only[go_sem,simprocAttr,h2,show ¬c=fr from by omega,h3,hh]
  ·rw[if_neg hp,←ih]
   simp -implicitDefEqProofs (disch:=first|assumption|omega|(simp only[aE,aQ,aD,i64,sa,aC,lm,la,lc,ln];omega)) only[go_sem,simprocAttr,h2,show ¬c=fr from by omega,h3,hh]
theorem wK(f:Nat)(p:ZC→Bool)(h:Heap)(fr:Nat)(hh:bS fr h=h)(xs:List ZC)(hx:xs.length≤140737488351232)(c kc:Nat)(h1:c<fr)(hf:∀x∈xs,evCW tab f [x.x,.ptr (c,kc) [] 0 0] h (fr+1)=some (B (p x),h)):evCW tab bP [.d (.r (xs.map (ZC.r))),.clo f [.ptr (c,kc) [] 0 0]] h fr=some (I (aS p 0 xs),h):=by
 rw[aP eU _ _ _ rfl,cT]
 have h0:=vQ f p h fr hh xs hx c kc h1 hf xs 0 rfl (by omega)
 by_cases hp:aS p 0 xs= -1
 ·rw[if_pos hp] at h0
  simp -implicitDefEqProofs (disch:=first|assumption|omega|(simp only[aE,aQ,aD,i64,sa,aC,lm,la,lc,ln];omega)) only[go_sem,simprocAttr,hh,h0,hp,show ¬c=fr from by omega]
 ·rw[if_neg hp] at h0
  simp -implicitDefEqProofs (disch:=first|assumption|omega|(simp only[aE,aQ,aD,i64,sa,aC,lm,la,lc,ln];omega)) only[go_sem,simprocAttr,hh,h0,hp,show ¬c=fr from by omega]
theorem Hl{h:Heap}{fr n:Nat}(hl:Low fr h)(d:Option D):bS fr (upd h (fr,n) d)=h:=by
 funext id
 unfold bS
 split
 ·rename_i e
  exact(hl id (by omega)).symm
 ·rename_i e
  simp only[Ev.upd]
  rw[if_neg (by rintro rfl;exact e rfl)]
theorem K2(p:ZC)(s:ByteArray)(h:Heap)(fr c kc:Nat)(hl:bS fr h=h)(hc:c<fr)(hk:h (c,kc)=some (.s 1 [[DS s]])):evCW tab pP [p.x,.ptr (c,kc) [] 0 0] h fr=some (B (decide (p.fName=s)),h):=by
 rw[aP Oi _ _ _ rfl,Az]
 simp -implicitDefEqProofs (disch:=first|assumption|omega|(simp only[aE,aQ,aD,i64,sa,aC,lm,la,lc,ln];omega)) only[go_sem,simprocAttr,hk,hl,show ¬c=fr from by omega]
theorem Ql(V:List ZC)(s:ByteArray)(hV:V.length≤140737488351232)(h:Heap)(fr:Nat)(hl:Low fr h):evCW tab kH [.d (.r (V.map ZC.r)),Str s] h fr=some (I (fx V s),h):=by
 have hl1:Low (fr+1) (upd h (fr,0) (some (.s 1 [[DS s]]))):=hl.upd (by omega) _
 have h0:=wK pP (fun p=>decide (p.fName=s)) (upd h (fr,0) (some (.s 1 [[DS s]]))) (fr+1) (hl1.drop (Nat.le_refl _)) V hV fr 0 (by omega) (fun x hx=>K2 x s _ _ _ _ (hl1.drop (by omega)) (by omega) (by simp[Ev.upd]))
 have h1:=Hl hl (n:=0) (some (.s 1 [[DS s]]))
 rw[show aS (fun p=>decide (p.fName=s)) 0 V=fx V s from rfl] at h0
 rw[aP Tc _ _ _ rfl,E4]
 simp -implicitDefEqProofs (disch:=first|assumption|omega|(simp only[aE,aQ,aD,i64,sa,aC,lm,la,lc,ln];omega)) only[go_sem,simprocAttr,h0,h1,hl.drop (Nat.le_refl fr)]
theorem zQI{f:Nat}{xs:List X}{v:X}(h:evCW tab f xs emp 0=some (v,emp)):call tab f xs=some v:=by
 unfold Ev.call
 rw[h]
 rfl
theorem kU(V:List ZC)(s:ByteArray)(hV:V.length≤140737488351232):call tab kH [.d (.r (V.map ZC.r)),Str s]=some (I (fx V s)):=zQI (Ql V s hV emp 0 (Low.emp 0))
theorem Fy(V:List ZC)(s:ByteArray)(hV:V.length≤140737488351232):∀(Bl:List ZC) (j:Int),V.drop j.toNat=Bl→0≤j →
  loopW tab [0,1,5] n6 {env:=upd (upd (upd emp 5 (some (I j))) 1 (some (Str s))) 0 (some (.d (.r (V.map ZC.r)))),heap:=emp,fr:=0,next:=0}=if aS (fun p=>decide (p.fName=s)) j Bl= -1 then some (.ext 0,{env:=emp,heap:=emp,fr:=0,next:=0}) else some (.ret,{env:=upd emp 4 (some (I (aS (fun p=>decide (p.fName=s)) j Bl))),heap:=emp,fr:=0,next:=0})
 |[],j,hd,hj=>by
  unfold loopW
  conv=>lhs;arg 1;unfold n6
  have h1:=b9 hd hj
  simp only[aS,if_true]
  simp -implicitDefEqProofs (disch:=first|assumption|omega) only[go_sem,simprocAttr,h1]
 |p::Bl,j,hd,hj=>by
  unfold loopW
  conv=>lhs;arg 1;unfold n6
  have h1:=bK hd hj
  have h5:=h1.2.1
  have h2:=eK ZC.r h1.1
  simp only[ZC.r] at h2
  have ih:=Fy V s hV Bl (j+1) h1.2.2.1 (by omega)
  rw[aS]
  by_cases hp:p.fName=s
  ·rw[if_pos (show decide (p.fName=s)=true from by simp[hp]),if_neg (by omega)]
   simp -implicitDefEqProofs (disch:=first|assumption|omega) only[go_sem,simprocAttr,h5,h2,eq_true hp]
  ·rw[if_neg (show ¬decide (p.fName=s)=true from by simp[hp]),←ih]
   simp -implicitDefEqProofs (disch:=first|assumption|omega) only[go_sem,simprocAttr,h5,h2,hp]
theorem gP(V:List ZC)(s:ByteArray)(hV:V.length≤140737488351232):call tab iI [.d (.r (V.map ZC.r)),Str s]=some (I (fx V s)):=by
 have h0:=Fy V s hV V 0 rfl (by omega)
 rw[aJ Yg _ rfl,I9]
 unfold fx
 by_cases hp:aS (fun p=>decide (p.fName=s)) 0 V= -1
 ·rw[if_pos hp] at h0
  simp -implicitDefEqProofs (disch:=first|assumption|omega) only[go_sem,simprocAttr,h0,hp]
 ·rw[if_neg hp] at h0
  simp -implicitDefEqProofs (disch:=first|assumption|omega) only[go_sem,simprocAttr,h0]
theorem zqg(V:List ZC)(s:ByteArray): -1≤fx V s∧(fx V s:Int)<(V.length:Int)+0∨fx V s= -1:=by
 rcases oW (fun p=>decide (p.fName=s)) V 0 (by omega) with⟨h1,_⟩|⟨h1,h2,_,_⟩
 ·exact .inr h1
 ·left;unfold fx;omega
theorem zz9{V:List ZC}{s:ByteArray}(h:0≤fx V s):∃p,V[(fx V s).toNat]? = some p∧(V.map ZC.r)[(fx V s).toNat]? = some p.r∧iH V s=p.fChan:=by
 have h1:=zqc h
 refine⟨V[(fx V s).toNat],by simp[h1],by simp[h1],?_⟩
 unfold iH zVG
 rw[List.getElem?_eq_getElem h1]
 simp[h]
theorem Ue{V:List ZC}{s:ByteArray}(h:¬0≤fx V s):iH V s=false:=by
 unfold iH
 simp[h]
theorem Fk(V:List ZC)(x:ZB)(hV:V.length≤140737488351232):call tab mF [.d (.r (V.map ZC.r)),x.x]=some (B (jM V x)):=by
 have h0:=kU V x.tx hV
 have hb:=zqg V x.tx
 unfold jM
 rw[aJ Ik _ rfl,xR]
 by_cases c:x.op=20
 ·have c':=eq_true c
  by_cases d:0≤fx V x.tx
  ·obtain⟨p,_,h2,h3⟩:=zz9 d
   simp only[ZC.r] at h2
   simp only[h3,c',if_true]
   simp -implicitDefEqProofs (disch:=first|assumption|omega) only[go_sem,simprocAttr,h0,c',d,h2]
  ·simp only[Ue d,c',if_true]
   simp -implicitDefEqProofs (disch:=first|assumption|omega) only[go_sem,simprocAttr,h0,c',d]
 ·have c':=eq_false c
  simp only[c',if_false]
  simp -implicitDefEqProofs (disch:=first|assumption|omega) only[go_sem,simprocAttr,c']
theorem p6(V:List ZC)(x:ZB)(hV:V.length≤140737488351232):call tab oX [x.x,.d (.r (V.map ZC.r))]=some (B (jM V x)):=by
 have h0:=gP V x.tx hV
 have hb:=zqg V x.tx
 unfold jM
 rw[aJ X7 _ rfl,Ij]
 by_cases e:x.op=27
 ·have e':=eq_true e
  simp only[show(x.op=20)=False from eq_false (by omega),if_false,e',decide_true]
  simp -implicitDefEqProofs (disch:=first|assumption|omega) only[go_sem,simprocAttr,e']
 have e':=eq_false e
 by_cases c:x.op=20
 ·have c':=eq_true c
  by_cases d:0≤fx V x.tx
  ·obtain⟨p,_,h2,h3⟩:=zz9 d
   simp only[ZC.r] at h2
   simp only[h3,c',if_true]
   simp -implicitDefEqProofs (disch:=first|assumption|omega) only[go_sem,simprocAttr,h0,c',e',d,h2]
  ·simp only[Ue d,c',if_true]
   simp -implicitDefEqProofs (disch:=first|assumption|omega) only[go_sem,simprocAttr,h0,c',e',d]
 ·have c':=eq_false c
  simp only[c',e',if_false,decide_false]
  simp -implicitDefEqProofs (disch:=first|assumption|omega) only[go_sem,simprocAttr,h0,c',e']
set_option maxRecDepth 8000
set_option maxHeartbeats 4000000
theorem Wb{l:List ZB}(h:∀y∈l,∀V:List ZC,((y.le V).length:Int)≤V.length+y.sz+1):∀V:List ZC,((les l V).length:Int)≤V.length+bH l+l.length:=by
 induction l with
 |nil=>intro V;simp[les,oT]
 |cons k l ih =>
  intro V
  have h1:=h k (by simp) V
  have h2:=ih (fun y hy=>h y (by simp[hy])) (k.le V)
  rw[les,dH,lc]
  omega
theorem Jo(x:ZB):∀V:List ZC,((x.le V).length:Int)≤V.length+x.sz+1:=by
 refine ZB.ind (P:=fun x=>∀V:List ZC,((x.le V).length:Int)≤V.length+x.sz+1) (fun op tx v ks ih=> ?_) x
 intro V
 have h:=Wb ih V
 rw[uG,ZB.sz_eq]
 have h2:=dC ks
 split
 ·cases ks with
  |nil=>simp;omega
  |cons k ks=>simp only[la,lc,ln];rw[lc] at h;omega
 ·omega
theorem R4(l:List ZB)(V:List ZC):((les l V).length:Int)≤V.length+bH l+l.length:=Wb (fun y _=>Jo y) V
abbrev Nb(f:Nat)(x:ZB):Prop:=∀V:List ZC,(V.length:Int)+x.sz+1≤16777216→(evCW tab).give f [x.x,.ref (0,0) []] (upd emp (0,0) (some (.s 2 (V.map ZC.o)))) 1=some (.d (.s 2 ((x.le V).map ZC.o)),emp)
theorem kT(id:Id):upd (emp:Heap) id none=emp:=by
 funext k
 simp only[Ev.upd]
 split<;>rfl
theorem zx9(f:Nat)(a:List X)(h:Heap)(fr:Nat):(evCW tab).give f a h fr=(evCW tab f a h fr).bind fun r=>Gd r.2 r.1:=rfl
abbrev vst(x:ZB)(ks:List ZB)(c:Nat)(V:List ZC)(e:Env):St:={env:=upd (upd e 2 (some (.vp [I x.op,Str x.tx,I x.v,.d (.r (ks.map ZB.r))]))) 1 (some (.ref (c,0) [])),heap:=upd emp (c,0) (some (.s 2 (V.map ZC.o))),fr:=1,next:=c}
theorem Kv(x:ZB)(ks:List ZB)(hks:ks.length≤1048576)(H:∀y∈ks,Nb uD y):∀(Bl:List ZB) (V:List ZC) (j:Int) (c:Nat),c=0∨c=1→ks.drop j.toNat=Bl→0≤j→(V.length:Int)+bH Bl+Bl.length≤16777216 →
  loopW tab [1,2,8,9,10] q5 (vst x ks c V (upd (upd (upd emp 10 (some (I j))) 9 (some (I (ks.length:Int)))) 8 (some (.d (.r (ks.map ZB.r))))))=some (.ext 0,vst x ks (if Bl=[] then c else 1) (les Bl V) emp)
 |[],V,j,c,hc,hd,hj,hs=>by
  unfold loopW
  conv=>lhs;arg 1;unfold q5
  have h1:=b9 hd hj
  rw[les,if_pos rfl]
  rcases hc with rfl|rfl<;>simp -implicitDefEqProofs (disch:=first|assumption|omega) only[go_sem,simprocAttr,h1,vst]
 |y::Bl,V,j,c,hc,hd,hj,hs=>by
  unfold loopW
  conv=>lhs;arg 1;unfold q5
  have h1:=bK hd hj
  have h5:=h1.2.1
  have h2:=eK ZB.r h1.1
  rw[ZB.r_def] at h2
  rw[dH,lc] at hs
  have hn:=dC Bl
  obtain⟨⟨r,h⟩,g0,g1⟩:=mR.1 (H y h1.2.2.2.1 V (by omega))
  have gl:=Jo y V
  have ih:=Kv x ks hks H Bl (y.le V) (j+1) 1 (.inr rfl) h1.2.2.1 (by omega) (by omega)
  rw[les,if_neg (by simp)]
  rw[show(if Bl=[] then 1 else 1)=1 by split<;>rfl] at ih
  rw[←ih]
  rcases hc with rfl|rfl<;>simp -implicitDefEqProofs (disch:=first|assumption|omega) only[go_sem,simprocAttr,h5,h2,g0,g1,kT,vst,ZB.fzs,ZB.fzr,ZC.noR]
theorem zzy(x:ZB)(hx:x.Sm):Nb uD x:=by
 refine ZB.ind (P:=fun x=>x.Sm→Nb uD x) (fun op tx v ks ih hx=> ?_) x hx
 intro V hV
 have hk:=hx.ks
 simp only[ZB.ks_mk] at hk
 rw[ZB.sz_eq] at hV
 have h0:=Kv (.mk op tx v ks) ks hk.1 (fun y hy=>ih y hy (hk.2 y hy)) ks V 0 0 (.inl rfl) rfl (by omega) (by omega)
 have hl:=R4 ks V
 have hn:=dC ks
 simp only[vst,ZB.op_mk,ZB.tx_mk,ZB.v_mk] at h0
 simp only[ZB.x,ZB.op_mk,ZB.tx_mk,ZB.v_mk,ZB.ks_mk]
 have hk1:=hk.1
 rw[uG]
 rw[zx9,aP zq2 _ _ _ rfl,Ov]
 by_cases c:op=2
 ·cases ks with
  |nil =>
   simp only[c,if_true,mn,les,ln,cK] at h0 ⊢
   simp -implicitDefEqProofs (disch:=first|assumption|omega) only[go_sem,simprocAttr,h0,kT]
  |cons k ks =>
   have g0:=Fk (les (k::ks) V) k (by omega)
   have lb:(les (k::ks) V).length≤16777216:=by omega
   generalize les (k::ks) V=W at *
   simp only[if_neg (show ¬k::ks=[] by simp),mc,lc] at h0 hk1 ⊢
   rw[ZB.r_def] at h0 ⊢
   simp only[c,if_true] at h0 ⊢
   simp -implicitDefEqProofs (disch:=first|assumption|omega|(simp only[aE,aQ,aD,i64,sa,aC,lm,la,lc,ln];omega)) only[go_sem,simprocAttr,h0,g0,ZC.fzs,ZB.r_def,kT,List.map_append,mc,mn,ZC.o]
 ·simp only[if_neg c]
  have c':=c
  by_cases d:ks=[]
  ·rw[if_pos d] at h0
   simp -implicitDefEqProofs (disch:=first|assumption|omega) only[go_sem,simprocAttr,h0,c,kT]
  ·rw[if_neg d] at h0
   simp -implicitDefEqProofs (disch:=first|assumption|omega) only[go_sem,simprocAttr,h0,c,kT]
theorem Fz(x:ZB)(ks:List ZB)(hks:ks.length≤1048576)(H:∀y∈ks,Nb pA y):∀(Bl:List ZB) (V:List ZC) (j:Int) (c:Nat),c=0∨c=1→ks.drop j.toNat=Bl→0≤j→(V.length:Int)+bH Bl+Bl.length≤16777216 →
  loopW tab [1,2,5] oG (vst x ks c V (upd emp 5 (some (I j))))=some (.ext 0,vst x ks (if Bl=[] then c else 1) (les Bl V) emp)
 |[],V,j,c,hc,hd,hj,hs=>by
  unfold loopW
  conv=>lhs;arg 1;unfold oG
  have h1:=b9 hd hj
  rw[les,if_pos rfl]
  rcases hc with rfl|rfl<;>simp -implicitDefEqProofs (disch:=first|assumption|omega) only[go_sem,simprocAttr,h1,vst]
 |y::Bl,V,j,c,hc,hd,hj,hs=>by
  unfold loopW
  conv=>lhs;arg 1;unfold oG
  have h1:=bK hd hj
  have h5:=h1.2.1
  have h2:=eK ZB.r h1.1
  rw[ZB.r_def] at h2
  rw[dH,lc] at hs
  have hn:=dC Bl
  obtain⟨⟨r,h⟩,g0,g1⟩:=mR.1 (H y h1.2.2.2.1 V (by omega))
  have gl:=Jo y V
  have ih:=Fz x ks hks H Bl (y.le V) (j+1) 1 (.inr rfl) h1.2.2.1 (by omega) (by omega)
  rw[les,if_neg (by simp)]
  rw[show(if Bl=[] then 1 else 1)=1 by split<;>rfl] at ih
  rw[←ih]
  rcases hc with rfl|rfl<;>simp -implicitDefEqProofs (disch:=first|assumption|omega) only[go_sem,simprocAttr,h5,h2,g0,g1,kT,vst,ZB.fzs,ZB.fzr,ZC.noR]
theorem U4(x:ZB)(hx:x.Sm):Nb pA x:=by
 refine ZB.ind (P:=fun x=>x.Sm→Nb pA x) (fun op tx v ks ih hx=> ?_) x hx
 intro V hV
 have hk:=hx.ks
 simp only[ZB.ks_mk] at hk
 rw[ZB.sz_eq] at hV
 have h0:=Fz (.mk op tx v ks) ks hk.1 (fun y hy=>ih y hy (hk.2 y hy)) ks V 0 0 (.inl rfl) rfl (by omega) (by omega)
 have hl:=R4 ks V
 have hn:=dC ks
 simp only[vst,ZB.op_mk,ZB.tx_mk,ZB.v_mk] at h0
 simp only[ZB.x,ZB.op_mk,ZB.tx_mk,ZB.v_mk,ZB.ks_mk]
 have hk1:=hk.1
 rw[uG]
 rw[zx9,aP Xl _ _ _ rfl,Ir]
 by_cases c:op=2
 ·cases ks with
  |nil =>
   simp only[c,if_true,mn,les,ln,cK] at h0 ⊢
   simp -implicitDefEqProofs (disch:=first|assumption|omega) only[go_sem,simprocAttr,h0,kT]
  |cons k ks =>
   have g0:=p6 (les (k::ks) V) k (by omega)
   have lb:(les (k::ks) V).length≤16777216:=by omega
   generalize les (k::ks) V=W at *
   simp only[if_neg (show ¬k::ks=[] by simp),mc,lc] at h0 hk1 ⊢
   rw[ZB.r_def] at h0 ⊢
   simp only[c,if_true] at h0 ⊢
   simp -implicitDefEqProofs (disch:=first|assumption|omega|(simp only[aE,aQ,aD,i64,sa,aC,lm,la,lc,ln];omega)) only[go_sem,simprocAttr,h0,g0,ZC.fzs,ZB.r_def,kT,List.map_append,mc,mn,ZC.o]
 ·simp only[if_neg c]
  have c':=c
  by_cases d:ks=[]
  ·rw[if_pos d] at h0
   simp -implicitDefEqProofs (disch:=first|assumption|omega) only[go_sem,simprocAttr,h0,c,kT]
  ·rw[if_neg d] at h0
   simp -implicitDefEqProofs (disch:=first|assumption|omega) only[go_sem,simprocAttr,h0,c,kT]
theorem ZC.toRs(xs:List ZC):(xs.map ZC.r).map (fun el=>el.map D.toR)=xs.map ZC.o:=by
 rw[List.map_map]
 rfl
theorem ZC.all2(xs:List ZC):(xs.map ZC.o).all (fun el=>el.length==2)=true:=by
 rw[List.all_map,List.all_eq_true]
 intro x _
 rfl
theorem Mh(f:ZA)(hf:f.Sm)(hz:f.sz≤1048576):call tab Ho [f.x]=some (.d (.s 2 ((f.fBody.le f.fParams).map ZC.o))):=by
 have hp:=hf.ps.1
 have hb:=f.fBody.sz_nn
 have hpz:=(ZC.szs_nn f.fParams).1
 have hfn:0≤(f.fName.size:Int):=by omega
 obtain⟨⟨r,h⟩,g0,g1⟩:=mR.1 (U4 f.fBody hf.bd f.fParams (by unfold ZA.sz at hz;omega))
 rw[aJ zvz _ rfl,Ox]
 simp -implicitDefEqProofs (disch:=first|assumption|omega|(simp only[aE,aQ,aD,i64,sa,aC,lm,la,lc,ln];omega)) only[go_sem,simprocAttr,g0,g1,kT,ZC.noR,ZC.toRs,ZC.all2]
theorem Lb(f:ZA)(hf:f.Sm)(hz:f.sz≤1048576):call tab Hg [f.x]=some (.d (.s 2 ((f.fBody.le f.fParams).map ZC.o))):=by
 have hp:=hf.ps.1
 have hb:=f.fBody.sz_nn
 have hpz:=(ZC.szs_nn f.fParams).1
 have hfn:0≤(f.fName.size:Int):=by omega
 have h0:=zw2 nL (f.fParams.map ZC.r) (by simp[aD];omega) (by simp[ZC.r])
 rw[ZC.toRs] at h0
 obtain⟨⟨r,h⟩,g0,g1⟩:=mR.1 (zzy f.fBody hf.bd f.fParams (by unfold ZA.sz at hz;omega))
 rw[aJ zqd _ rfl,Pf]
 simp -implicitDefEqProofs (disch:=first|assumption|omega|(simp only[aE,aQ,aD,i64,sa,aC,lm,la,lc,ln];omega)) only[go_sem,simprocAttr,h0,g0,g1,kT,ZC.noR]
end Go.Ev.G
