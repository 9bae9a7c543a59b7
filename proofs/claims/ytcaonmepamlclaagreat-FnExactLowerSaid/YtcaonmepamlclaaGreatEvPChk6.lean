import Derived.Test.YtcaonmepamlclaaGreatEvPVars2
import Derived.Test.YtcaonmepamlclaaGreatEvPTypes
set_option linter.all false
namespace Go.Ev.G
set_option maxRecDepth 8000
set_option maxHeartbeats 4000000
theorem w9(f:Nat)(p:ZA→Bool)(h:Heap)(fr:Nat)(hh:bS fr h=h)(xs:List ZA)(hx:xs.length≤140737488351232)(c kc:Nat)(h1:c<fr)(hf:∀x∈xs,evCW tab f [x.x,.ptr (c,kc) [] 0 0] h (fr+1)=some (B (p x),h)):∀(Bl:List ZA) (j:Int),xs.drop j.toNat=Bl→0≤j →
  loopW tab [0,1,7,8] bW {env:=upd (upd (upd (upd emp 8 (some (I j))) 7 (some (I (xs.length:Int)))) 1 (some (.clo f [.ptr (c,kc) [] 0 0]))) 0 (some (.d (.r (xs.map (ZA.r))))),heap:=h,fr:=fr,next:=0}=if aS p j Bl= -1 then some (.ext 0,{env:=emp,heap:=h,fr:=fr,next:=0}) else some (.ret,{env:=upd emp 4 (some (I (aS p j Bl))),heap:=h,fr:=fr,next:=0})
 |[],j,hd,hj=>by
  unfold loopW
  conv=>lhs;arg 1;unfold bW
  have:=b9 hd hj
  simp only[aS,if_true]
  simp -implicitDefEqProofs (disch:=first|assumption|omega|(simp only[aE,aQ,aD,i64,sa,aC,lm,la,lc,ln];omega)) only[go_sem,simprocAttr,hh,show ¬c=fr from by omega]
 |x::Bl,j,hd,hj=>by
  unfold loopW
  conv=>lhs;arg 1;unfold bW
  have h4:=(bK hd hj).2.1
  have ih:=w9 f p h fr hh xs hx c kc h1 hf Bl (j+1) (bK hd hj).2.2.1 (by omega)
  have h2:=eK (ZA.r) (bK hd hj).1
  simp only[ZA.r] at h2
  have h3:=hf x (bK hd hj).2.2.2.1
  rw[aS]
  by_cases hp:p x=true
  ·rw[if_pos hp,if_neg (by omega)]
   simp -implicitDefEqProofs (disch:=first|assumption|omega|(simp only[aE,aQ,aD,i64,sa,aC,lm,la,lc,ln];omega)) only[go_sem,simprocAttr,h2,show ¬c=fr from by omega,h3,hh]
  ·rw[if_neg hp,←ih]
   simp -implicitDefEqProofs (disch:=first|assumption|omega|(simp only[aE,aQ,aD,i64,sa,aC,lm,la,lc,ln];omega)) only[go_sem,simprocAttr,h2,show ¬c=fr from by omega,h3,hh]
theorem yN(f:Nat)(p:ZA→Bool)(h:Heap)(fr:Nat)(hh:bS fr h=h)(xs:List ZA)(hx:xs.length≤140737488351232)(c kc:Nat)(h1:c<fr)(hf:∀x∈xs,evCW tab f [x.x,.ptr (c,kc) [] 0 0] h (fr+1)=some (B (p x),h)):evCW tab dP [.d (.r (xs.map (ZA.r))),.clo f [.ptr (c,kc) [] 0 0]] h fr=some (I (aS p 0 xs),h):=by
 rw[aP l9 _ _ _ rfl,fE]
 have h0:=w9 f p h fr hh xs hx c kc h1 hf xs 0 rfl (by omega)
 by_cases hp:aS p 0 xs= -1
 ·rw[if_pos hp] at h0
  simp -implicitDefEqProofs (disch:=first|assumption|omega|(simp only[aE,aQ,aD,i64,sa,aC,lm,la,lc,ln];omega)) only[go_sem,simprocAttr,hh,h0,hp,show ¬c=fr from by omega]
 ·rw[if_neg hp] at h0
  simp -implicitDefEqProofs (disch:=first|assumption|omega|(simp only[aE,aQ,aD,i64,sa,aC,lm,la,lc,ln];omega)) only[go_sem,simprocAttr,hh,h0,hp,show ¬c=fr from by omega]
theorem ZA.all6(F:List ZA):(F.map ZA.r).all (fun el=>el.length==6)=true:=by
 rw[List.all_map,List.all_eq_true]
 intro x _
 rfl
abbrev Hw(F:List ZA)(i:Int)(W:List ZC):D:= .s 3 [[.r (F.map ZA.r),DI i,.s 2 (W.map ZC.o)]]
abbrev ch(F:List ZA)(i:Int)(W:List ZC):Heap:=upd emp (0,0) (some (Hw F i W))
theorem zvM(f:ZA)(s:ByteArray)(h:Heap)(fr c kc:Nat)(hl:bS fr h=h)(hc:c<fr)(hk:h (c,kc)=some (.s 1 [[DS s]])):evCW tab hX [f.x,.ptr (c,kc) [] 0 0] h fr=some (B (decide (f.fName=s)),h):=by
 rw[aP zP _ _ _ rfl,oZ]
 simp -implicitDefEqProofs (disch:=first|assumption|omega|(simp only[aE,aQ,aD,i64,sa,aC,lm,la,lc,ln];omega)) only[go_sem,simprocAttr,hk,hl,show ¬c=fr from by omega]
def fKt(F:List ZA)(tx:ByteArray)(many:Nat):Int:=aS (fun f=>decide (f.fName=tx)) 0 (F.take many)
theorem N5(F:List ZA)(hF:F.length≤1048576)(i:Int)(W:List ZC)(tx:ByteArray)(many:Nat)(hm:many≤F.length):evCW tab jD [.ptr (0,0) [] 0 0,Str tx,I (many:Int)] (ch F i W) 1=some (I (fKt F tx many),ch F i W):=by
 have hl0:Low 1 (ch F i W):=(Low.emp 0).upd (by omega) _
 have hl1:Low 2 (upd (ch F i W) (1,0) (some (.s 1 [[DS tx]]))):=hl0.upd (by omega) _
 have h0:=yN hX (fun f=>decide (f.fName=tx)) _ 2 (hl1.drop (Nat.le_refl _)) (F.take many) (by rw[List.length_take];omega) 1 0 (by omega) (fun x hx=>zvM x tx _ _ _ _ (hl1.drop (by omega)) (by omega) (by simp[Ev.upd]))
 have h1:=Hl hl0 (n:=0) (some (.s 1 [[DS tx]]))
 have h2:(F.map ZA.r).take many=(F.take many).map ZA.r:=(List.map_take ..).symm
 have h3:=hl0.drop (Nat.le_refl 1)
 have h4:=ZA.all6 F
 rw[show aS (fun f=>decide (f.fName=tx)) 0 (F.take many)=fKt F tx many from rfl] at h0
 simp only[ch,Hw] at h0 h1 h3 ⊢
 rw[aP D9 _ _ _ rfl,qI]
 simp -implicitDefEqProofs (disch:=first|assumption|omega|(simp only[aE,aQ,aD,i64,sa,aC,lm,la,lc,ln];omega)) only[go_sem,simprocAttr,h0,h1,h2,h3,h4,List.drop_zero]
theorem zYo(F:List ZA)(tx:ByteArray)(many:Nat)(hm:many≤F.length):fKt F tx many=if fK F tx<many then fK F tx else -1:=by
 have key:∀(xs:List ZA) (m:Nat) (j:Int),m≤xs.length→0≤j→aS (fun f=>decide (f.fName=tx)) j (xs.take m)=if aS (fun f=>decide (f.fName=tx)) j xs<j+m then aS (fun f=>decide (f.fName=tx)) j xs else -1:=by
  intro xs
  induction xs with
  |nil=>intro m j hm hj;rw[List.take_nil];exact(ite_self _).symm
  |cons x xs ih =>
   intro m j hm hj
   cases m with
   |zero =>
    rw[List.take_zero]
    have h:=oW (fun f:ZA=>decide (f.fName=tx)) (x::xs) j hj
    show -1=_
    generalize aS (fun f:ZA=>decide (f.fName=tx)) j (x::xs)=z at h ⊢
    split
    ·rcases h with⟨h,_⟩|⟨h,_⟩<;>omega
    ·rfl
   |succ m =>
    rw[List.take_succ_cons]
    have e1:∀r:List ZA,aS (fun f:ZA=>decide (f.fName=tx)) j (x::r)=if decide (x.fName=tx)=true then j else aS (fun f:ZA=>decide (f.fName=tx)) (j+1) r:=fun r=>rfl
    by_cases hp:decide (x.fName=tx)=true
    ·have e2:∀r:List ZA,aS (fun f:ZA=>decide (f.fName=tx)) j (x::r)=j:=fun r=>by rw[e1,if_pos hp]
     rw[e2 (xs.take m)]
     generalize hz:aS (fun f:ZA=>decide (f.fName=tx)) j (x::xs)=z
     rw[e2] at hz
     rw[if_pos (by omega)]
     exact hz
    ·have e2:∀r:List ZA,aS (fun f:ZA=>decide (f.fName=tx)) j (x::r)=aS (fun f:ZA=>decide (f.fName=tx)) (j+1) r:=fun r=>by rw[e1,if_neg hp]
     rw[e2 (xs.take m),ih m (j+1) (by simpa using hm) (by omega)]
     have:=e2 xs
     generalize aS (fun f:ZA=>decide (f.fName=tx)) j (x::xs)=z at this ⊢
     rw[←this,show j+1+(m:Int)=j+((m+1:Nat):Int) by omega]
 unfold fKt fK
 rw[key F many 0 hm (by omega),Int.zero_add]
theorem zxX(F:List ZA)(tx:ByteArray):fK F tx= -1∨(0≤fK F tx∧fK F tx<F.length):=by
 rcases oW (fun f:ZA=>decide (f.fName=tx)) F 0 (by omega) with⟨h1,_⟩|⟨h1,h2,_,_⟩
 ·exact .inl h1
 ·right;unfold fK;omega
theorem zwj{F:List ZA}{tx:ByteArray}(h:0≤fK F tx):∃f,F[(fK F tx).toNat]? = some f∧(F.map ZA.r)[(fK F tx).toNat]? = some f.r∧Te F (fK F tx)=f.fParams.length∧x5 F (fK F tx)=f.fParams:=by
 have h1:(fK F tx).toNat<F.length:=by rcases zxX F tx with h|h<;>omega
 refine⟨F[(fK F tx).toNat],by simp[h1],by simp[h1],?_,?_⟩
 ·unfold Te;rw[List.getElem?_eq_getElem h1]
 ·unfold x5;rw[List.getElem?_eq_getElem h1]
theorem Z3(F:List ZA)(hF:F.length≤1048576∧∀y∈F,ZA.Sm y)(i:Nat)(hi:i<F.length)(W:List ZC)(x:ZB)(hx:x.ks.length≤1048576):(cok F i x.op x.tx x.ks.length=true∧∃f,F[(fK F x.tx).toNat]? = some f∧x5 F (fK F x.tx)=f.fParams∧evCW tab fV [.ptr (0,0) [] 0 0,x.x] (ch F i W) 1=some (.tup [f.x,B true],ch F i W)) ∨
  (cok F i x.op x.tx x.ks.length=false∧evCW tab fV [.ptr (0,0) [] 0 0,x.x] (ch F i W) 1=some (.tup [.agg [Str ⟨#[]⟩,.d (.s 2 []),I 0,Str ⟨#[]⟩,I 0,.d (.s 4 [])],B false],ch F i W)):=by
 have hl0:Low 1 (ch F i W):=(Low.emp 0).upd (by omega) _
 have h3:=hl0.drop (Nat.le_refl 1)
 have hlen:=hF.1
 have ho:=zxX F x.tx
 have hfm:=N5 F hF.1 i W x.tx F.length (Nat.le_refl _)
 have hfi:=N5 F hF.1 i W x.tx i (by omega)
 rw[zYo F x.tx _ (by omega)] at hfm hfi
 simp only[ch,Hw] at hfm hfi h3 ⊢
 by_cases hk:0≤fK F x.tx
 ·obtain⟨f,g1,g2,g3,g4⟩:=zwj hk
  simp only[ZA.r] at g2
  have hm1:fK F x.tx<(F.length:Int):=by omega
  rw[if_pos hm1] at hfm
  have hpl:=(hF.2 f (List.mem_of_getElem? g1)).ps.1
  have nk:¬fK F x.tx<0:=by omega
  unfold cok
  generalize fK F x.tx=K at *
  by_cases c26:x.op=26
  ·by_cases hki:K<(i:Int)
   ·rw[if_pos hki] at hfi
    by_cases hn:f.fParams.length=x.ks.length
    ·left
     refine⟨by simp[hk,hki,g3,hn],f,g1,g4,?_⟩
     rw[aP cR _ _ _ rfl,cG]
     simp -implicitDefEqProofs (disch:=first|assumption|omega) only[go_sem,simprocAttr,hfi,h3,eq_true c26,hk,nk,g2,hn]
    ·right
     refine⟨by simp[c26,hk,hki,g3,hn],?_⟩
     rw[aP cR _ _ _ rfl,cG]
     simp -implicitDefEqProofs (disch:=first|assumption|omega) only[go_sem,simprocAttr,hfi,h3,eq_true c26,hk,nk,g2,hn]
   ·right
    rw[if_neg hki] at hfi
    refine⟨by simp[c26,hk,hki],?_⟩
    rw[aP cR _ _ _ rfl,cG]
    simp -implicitDefEqProofs (disch:=first|assumption|omega) only[go_sem,simprocAttr,hfi,h3,eq_true c26]
  ·by_cases c31:x.op=31
   ·left
    refine⟨by simp[hk,c31],f,g1,g4,?_⟩
    rw[aP cR _ _ _ rfl,cG]
    simp -implicitDefEqProofs (disch:=first|assumption|omega) only[go_sem,simprocAttr,hfm,h3,eq_true c31,hk,nk,g2]
   ·by_cases hn:f.fParams.length=x.ks.length
    ·left
     refine⟨by simp[hk,c26,g3,hn],f,g1,g4,?_⟩
     rw[aP cR _ _ _ rfl,cG]
     simp -implicitDefEqProofs (disch:=first|assumption|omega) only[go_sem,simprocAttr,hfm,h3,c26,c31,hk,nk,g2,hn]
    ·right
     refine⟨by simp[c26,c31,hk,g3,hn],?_⟩
     rw[aP cR _ _ _ rfl,cG]
     simp -implicitDefEqProofs (disch:=first|assumption|omega) only[go_sem,simprocAttr,hfm,h3,c26,c31,hk,nk,g2,hn]
 ·right
  have e1:fK F x.tx= -1:=by omega
  rw[e1,ite_self] at hfm hfi
  refine⟨by simp[cok,hk],?_⟩
  rw[aP cR _ _ _ rfl,cG]
  by_cases c26:x.op=26
  ·simp -implicitDefEqProofs (disch:=first|assumption|omega) only[go_sem,simprocAttr,hfi,h3,eq_true c26]
  ·simp -implicitDefEqProofs (disch:=first|assumption|omega) only[go_sem,simprocAttr,hfm,h3,c26]
set_option maxRecDepth 8000
set_option maxHeartbeats 4000000
abbrev Tg(N:List ByteArray):D:= .s 1 [[.s 1 (Ad N)]]
abbrev mh(F:List ZA)(i:Int)(W:List ZC)(N:List ByteArray):Heap:=upd (upd emp (0,1) (some (Tg N))) (0,0) (some (Hw F i W))
theorem Jw(a b c:Option D):upd (upd (upd (emp:Heap) (0,1) a) (0,0) b) (0,1) c=upd (upd emp (0,1) c) (0,0) b:=by
 funext k
 simp only[Ev.upd]
 by_cases h1:k=(0,1)
 ·subst h1;simp
 ·by_cases h0:k=(0,0)<;>simp[h0,h1]
theorem J4{cok:Int→ByteArray→Nat→Bool}:∀{r:List ZB},(∀y∈r,∀N M,y.nm cok N=some M→(M.length:Int)≤N.length+y.sz+1)→∀N M,nms cok r N=some M→(M.length:Int)≤N.length+bH r+r.length
 |[],_,N,M,h=>by
  simp only[nms,oi] at h
  subst h
  simp[oT]
 |y::r,H,N,M,h=>by
  rw[nms,Option.bind_eq_some_iff] at h
  obtain⟨N1,h1,h2⟩:=h
  have g1:=H y (by simp) N N1 h1
  have g2:=J4 (fun z hz=>H z (by simp[hz])) N1 M h2
  rw[dH,lc]
  omega
theorem zVq{cok:Int→ByteArray→Nat→Bool}(x:ZB):∀N M,x.nm cok N=some M→(M.length:Int)≤N.length+x.sz+1:=by
 refine ZB.ind (P:=fun x=>∀N M,x.nm cok N=some M→(M.length:Int)≤N.length+x.sz+1) (fun op tx v ks ih=> ?_) x
 intro N M h
 rw[zxO] at h
 split at h
 ·simp at h
 split at h
 ·simp at h
 rw[Option.map_eq_some_iff] at h
 obtain⟨N1,h1,rfl⟩:=h
 have:=J4 ih N N1 h1
 rw[ZB.sz_eq]
 split
 ·simp;omega
 ·omega
theorem Tl(N M:List ByteArray):Ad (N++M)=Ad N++Ad M:=by simp[Ad]
theorem cF(N:List ByteArray):D.noR.noRss (Ad N)=true:=by
 unfold Ad
 exact oP _ (fun x=>by simp only[D.noR.noRs,D.noR,bat]) N
section
variable(F:List ZA)(i:Nat)(W:List ZC)
abbrev zWa(y:ZB):Prop:=∀N:List ByteArray,(N.length:Int)+y.sz+1≤1048577→∃N',evCW tab hY [.ptr (0,0) [] 0 0,y.x,.ptr (0,1) [] 0 0] (mh F i W N) 1=some (B (y.nm (cok F i) N).isNone,mh F i W N')∧∀M,y.nm (cok F i) N=some M→N'=M
theorem Pm(x:ZB)(ks:List ZB)(hks:ks.length≤1048576)(H:∀y∈ks,zWa F i W y):∀(Bl:List ZB) (N:List ByteArray) (j:Int),ks.drop j.toNat=Bl→0≤j→(N.length:Int)+bH Bl+Bl.length≤1048576 →
  ∃N',loopW tab [0,2,4,38,39,40] dM {env:=upd (upd (upd (upd (upd (upd emp 40 (some (I j))) 39 (some (I (ks.length:Int)))) 38 (some (.d (.r (ks.map ZB.r))))) 4 (some (.vp [I x.op,Str x.tx,I x.v,.d (.r (ks.map ZB.r))]))) 2 (some (.ptr (0,1) [] 0 0))) 0 (some (.ptr (0,0) [] 0 0)),heap:=mh F i W N,fr:=1,next:=0} =
   (match nms (cok F i) Bl N with
    |some M=>some (.ext 1,{env:=upd (upd emp 4 (some (.vp [I x.op,Str x.tx,I x.v,.d (.r (ks.map ZB.r))]))) 2 (some (.ptr (0,1) [] 0 0)),heap:=mh F i W M,fr:=1,next:=0})
    |none=>some (.ret,{env:=upd emp 6 (some (B true)),heap:=mh F i W N',fr:=1,next:=0}))
 |[],N,j,hd,hj,hs=>by
  have h1:=b9 hd hj
  refine⟨N,?_⟩
  unfold loopW
  conv=>lhs;arg 1;unfold dM
  simp only[nms]
  simp -implicitDefEqProofs (disch:=first|assumption|omega) only[go_sem,simprocAttr,h1]
 |y::Bl,N,j,hd,hj,hs=>by
  have h1:=bK hd hj
  have h5:=h1.2.1
  have h2:=eK ZB.r h1.1
  rw[ZB.r_def] at h2
  rw[dH,lc] at hs
  have hn:=dC Bl
  obtain⟨N1,g0,g1⟩:=H y h1.2.2.2.1 N (by omega)
  rw[nms]
  cases hy:y.nm (cok F i) N with
  |none =>
   refine⟨N1,?_⟩
   rw[hy] at g0
   simp only[Option.bind_none,Option.isNone_none] at g0 ⊢
   unfold loopW
   conv=>lhs;arg 1;unfold dM
   simp -implicitDefEqProofs (disch:=first|assumption|omega) only[go_sem,simprocAttr,h5,h2,g0,ZB.fzs,ZB.fzr,ZC.noR,Jw,cF]
  |some M =>
   have:=g1 M hy
   subst this
   rw[hy] at g0
   have gl:=zVq y N N1 hy
   obtain⟨N2,ih⟩:=Pm x ks hks H Bl N1 (j+1) h1.2.2.1 (by omega) (by omega)
   refine⟨N2,?_⟩
   simp only[obs,Option.isNone_some] at g0 ⊢
   unfold loopW
   conv=>lhs;arg 1;unfold dM
   rw[←ih]
   simp -implicitDefEqProofs (disch:=first|assumption|omega) only[go_sem,simprocAttr,h5,h2,g0,ZB.fzs,ZB.fzr,ZC.noR,Jw,cF]
end
set_option maxRecDepth 8000
set_option maxHeartbeats 4000000
def ZB.has(p:ZB→Bool)(x:ZB):Bool:=x.fold fun op tx v ks=>p (.mk op tx v (ks.map (·.1)))||ks.any (·.2)
theorem zyO(p:ZB→Bool)(op:Int)(tx:ByteArray)(v:Int)(ks:List ZB):(ZB.mk op tx v ks).has p=(p (.mk op tx v ks)||ks.any (ZB.has p)):=by
 unfold ZB.has
 rw[ZB.fold_eq,zzW,List.any_map]
 try rfl
theorem zJy(x:ZB):x.crowd=x.has fun y=>nI y.op y.ks:=by
 refine ZB.ind (P:=fun x=>x.crowd=x.has fun y=>nI y.op y.ks) (fun op tx v ks ih=> ?_) x
 rw[F0,zyO]
 rw[zxf ih]
 rfl
abbrev fnX(g:Nat):X:= .d (.v (.func (.func g) #[] #[]))
theorem Sq{g:Nat}{p:ZB→Bool}{y:ZB}(H:∀(h:Heap) (fr:Nat),Low fr h→evCW tab o7 [y.x,fnX g] h fr=some (B (y.has p),h))(h:Heap)(fr c kc:Nat)(hl:Low fr h)(hc:c<fr)(hk:h (c,kc)=some (.s 1 [[.v (.func (.func g) #[] #[])]])):evCW tab wZ [y.x,.ptr (c,kc) [] 0 0] h fr=some (B (y.has p),h):=by
 have h1:=H h (fr+1) (hl.mono (by omega))
 have h2:=hl.drop (Nat.le_refl fr)
 rw[aP X9 _ _ _ rfl,I8]
 simp -implicitDefEqProofs (disch:=first|assumption|omega) only[go_sem,simprocAttr,hk,h1,h2,show ¬c=fr from by omega]
theorem B5{g:Nat}{p:ZB→Bool}(hg:∀x:ZB,x.Sm→NodeFn g p x)(x:ZB)(hx:x.Sm):∀(h:Heap) (fr:Nat),Low fr h→evCW tab o7 [x.x,fnX g] h fr=some (B (x.has p),h):=by
 refine ZB.ind (P:=fun x=>x.Sm→∀(h:Heap) (fr:Nat),Low fr h→evCW tab o7 [x.x,fnX g] h fr=some (B (x.has p),h)) (fun op tx v ks ih hx=> ?_) x hx
 intro h fr hl
 have hk:=hx.ks
 have hks:=hk.1
 simp only[ZB.ks_mk] at hk hks
 have hl1:Low (fr+1) (upd h (fr,32) (some (.s 1 [[.v (.func (.func g) #[] #[])]]))):=hl.upd (by omega) _
 have g0:=hg _ hx _ (fr+1) hl1
 have g1:=lS wZ (ZB.has p) _ (fr+1) (hl1.drop (Nat.le_refl _)) (hl1.drop (by omega)) ks (by omega) fr 32 (by omega) (fun y hy=>Sq (ih y hy (hk.2 y hy)) _ _ _ _ (hl1.mono (by omega)) (by omega) (by simp[Ev.upd]))
 have h1:=Hl hl (n:=32) (some (.s 1 [[.v (.func (.func g) #[] #[])]]))
 rw[zyO]
 simp only[ZB.x,ZB.op_mk,ZB.tx_mk,ZB.v_mk,ZB.ks_mk] at g0 ⊢
 rw[aP zky _ _ _ rfl,O1]
 cases hz:p (.mk op tx v ks)<;>rw[hz] at g0
 ·simp only[Bool.false_or]
  simp -implicitDefEqProofs (disch:=first|assumption|omega) only[go_sem,simprocAttr,g0,g1,h1,hl.drop (Nat.le_refl fr)]
 ·simp only[Bool.true_or]
  simp -implicitDefEqProofs (disch:=first|assumption|omega) only[go_sem,simprocAttr,g0,h1,hl.drop (Nat.le_refl fr)]
def Qn(op:Int):Bool:=decide (op=13∨op=14∨op=15∨op=16∨op=17∨op=28∨op=29∨op=30∨op=31)
def wO(op:Int):Bool:=decide (op=6∨op=8∨op=9∨op=10∨op=11∨op=12∨op=27)
theorem Zd(x:ZB):NodeFn Cn (fun y=>Qn y.op) x:=by
 intro h fr hl
 have hd:=hl.drop (Nat.le_refl fr)
 rw[aP zjo _ _ _ rfl,K5]
 by_cases c:x.op=13∨x.op=14∨x.op=15∨x.op=16∨x.op=17∨x.op=28∨x.op=29∨x.op=30∨x.op=31
 ·have e:Qn x.op=true:=by simp[Qn,c]
  simp only[e]
  rcases c with c|c|c|c|c|c|c|c|c<;>simp -implicitDefEqProofs (disch:=first|assumption|omega) only[go_sem,simprocAttr,hd,eq_true c]
 ·have e:Qn x.op=false:=by simp only[Qn,c,decide_false]
  simp only[e]
  simp -implicitDefEqProofs (disch:=first|assumption|omega) only[go_sem,simprocAttr,hd,eq_false (show ¬x.op=13 from fun h=>c (by omega)),eq_false (show ¬x.op=14 from fun h=>c (by omega)),eq_false (show ¬x.op=15 from fun h=>c (by omega)),eq_false (show ¬x.op=16 from fun h=>c (by omega)),eq_false (show ¬x.op=17 from fun h=>c (by omega)),eq_false (show ¬x.op=28 from fun h=>c (by omega)),eq_false (show ¬x.op=29 from fun h=>c (by omega)),eq_false (show ¬x.op=30 from fun h=>c (by omega)),eq_false (show ¬x.op=31 from fun h=>c (by omega))]
theorem Vi(x:ZB):NodeFn xH (fun y=>wO y.op) x:=by
 intro h fr hl
 have hd:=hl.drop (Nat.le_refl fr)
 rw[aP Xb _ _ _ rfl,Iq]
 by_cases c:x.op=6∨x.op=8∨x.op=9∨x.op=10∨x.op=11∨x.op=12∨x.op=27
 ·have e:wO x.op=true:=by simp[wO,c]
  simp only[e]
  rcases c with c|c|c|c|c|c|c<;>simp -implicitDefEqProofs (disch:=first|assumption|omega) only[go_sem,simprocAttr,hd,eq_true c]
 ·have e:wO x.op=false:=by simp only[wO,c,decide_false]
  simp only[e]
  simp -implicitDefEqProofs (disch:=first|assumption|omega) only[go_sem,simprocAttr,hd,eq_false (show ¬x.op=6 from fun h=>c (by omega)),eq_false (show ¬x.op=8 from fun h=>c (by omega)),eq_false (show ¬x.op=9 from fun h=>c (by omega)),eq_false (show ¬x.op=10 from fun h=>c (by omega)),eq_false (show ¬x.op=11 from fun h=>c (by omega)),eq_false (show ¬x.op=12 from fun h=>c (by omega)),eq_false (show ¬x.op=27 from fun h=>c (by omega))]
def cnt(l:List ZB):Nat:=(l.filter fun k=> !decide (k.op=34)).length
def J1(l:List ZB):Bool:=l.dropLast.any fun k=>decide (k.op=34)
theorem zqn(y:ZB)(r:List ZB):J1 (y::r)=(!r.isEmpty&&decide (y.op=34)||J1 r):=by
 cases r with
 |nil=>rfl
 |cons z r=>simp[J1]
theorem zXp(y:ZB)(r:List ZB):cnt (y::r)=(if y.op=34 then 0 else 1)+cnt r:=by
 unfold cnt
 rw[List.filter_cons]
 by_cases c:y.op=34
 ·simp[c]
 ·simp[c];omega
theorem Jq(x:ZB)(ks:List ZB)(hks:ks.length≤1048576)(h:Heap)(fr:Nat)(hl:bS fr h=h)(hlo:Low fr h):∀(Bl:List ZB) (j c:Int),ks.drop j.toNat=Bl→0≤j→0≤c∧c≤j →
  loopW tab [1,3,10,11,12] gO {env:=upd (upd (upd (upd (upd emp 12 (some (I j))) 11 (some (I (ks.length:Int)))) 10 (some (.d (.r (ks.map ZB.r))))) 3 (some (I c))) 1 (some (.vp [I x.op,Str x.tx,I x.v,.d (.r (ks.map ZB.r))])),heap:=h,fr:=fr,next:=0} =
   if J1 Bl=true then some (.ret,{env:=upd emp 2 (some (B true)),heap:=h,fr:=fr,next:=0}) else some (.ext 0,{env:=upd emp 3 (some (I (c+cnt Bl))),heap:=h,fr:=fr,next:=0})
 |[],j,c,hd,hj,hc=>by
  have h1:=b9 hd hj
  rw[if_neg (by simp[J1])]
  unfold loopW
  conv=>lhs;arg 1;unfold gO
  simp only[cnt,List.filter_nil,ln]
  simp -implicitDefEqProofs (disch:=first|assumption|omega) only[go_sem,simprocAttr,h1,hl,cK,Int.add_zero]
 |y::Bl,j,c,hd,hj,hc=>by
  have h1:=bK hd hj
  have h5:=h1.2.1
  have h2:=eK ZB.r h1.1
  rw[ZB.r_def] at h2
  have hlen:(ks.length:Int)=j+1+Bl.length:=h1.2.2.2.2
  rw[zqn,zXp]
  have hdu:∀(n:Nat) (d:Option D),bS fr (upd h (fr,n) d)=h:=fun n d=>Hl hlo d
  by_cases c34:y.op=34
  ·have ih:=Jq x ks hks h fr hl hlo Bl (j+1) c h1.2.2.1 (by omega) (by omega)
   by_cases hb:Bl=[]
   ·subst hb
    simp only[ln,cK] at hlen
    simp only[List.isEmpty_nil,Bool.not_true,bfa,Bool.false_or,if_pos c34,Nat.zero_add]
    unfold loopW
    conv=>lhs;arg 1;unfold gO
    rw[←ih]
    simp -implicitDefEqProofs (disch:=first|assumption|omega) only[go_sem,simprocAttr,h5,h2,eq_true c34,hl,hdu,show(j=(ks.length:Int)-1)=True from eq_true (by omega)]
   ·have hne:Bl.isEmpty=false:=by cases Bl with|nil=>exact absurd rfl hb|cons=>rfl
    have hpos:0<Bl.length:=by cases Bl with|nil=>exact absurd rfl hb|cons=>simp
    simp only[hne,c34,decide_true,Bool.not_false,bta,Bool.true_or,if_true]
    unfold loopW
    conv=>lhs;arg 1;unfold gO
    simp -implicitDefEqProofs (disch:=first|assumption|omega) only[go_sem,simprocAttr,h5,h2,eq_true c34,hl,hdu,show(j=(ks.length:Int)-1)=False from eq_false (by omega)]
  ·have ih:=Jq x ks hks h fr hl hlo Bl (j+1) (c+1) h1.2.2.1 (by omega) (by omega)
   simp only[if_neg c34,decide_eq_false c34,bA,Bool.false_or]
   rw[show c+((1+cnt Bl:Nat):Int)=c+1+cnt Bl by omega]
   unfold loopW
   conv=>lhs;arg 1;unfold gO
   rw[←ih]
   simp -implicitDefEqProofs (disch:=first|assumption|omega) only[go_sem,simprocAttr,h5,h2,eq_false c34,hl,hdu]
theorem Qk(x:ZB)(hx:x.Sm):NodeFn tZ (fun y=>nI y.op y.ks) x:=by
 intro h fr hlo
 have hd:=hlo.drop (Nat.le_refl fr)
 have hks:=hx.ks.1
 obtain⟨op,tx,v,ks⟩:=x
 simp only[ZB.x,ZB.op_mk,ZB.tx_mk,ZB.v_mk,ZB.ks_mk] at hks ⊢
 have h0:=Jq (.mk op tx v ks) ks hks h fr hd hlo ks 0 0 rfl (by omega) (by omega)
 simp only[ZB.op_mk,ZB.tx_mk,ZB.v_mk,Int.zero_add] at h0
 have hc:cnt ks≤ks.length:=List.length_filter_le _ _
 have h1:=bU (cnt ks) 1 3
 rw[aP Tr _ _ _ rfl,Fw]
 by_cases c:op=12
 ·subst c
  show _=some (B (J1 ks || !decide (1≤cnt ks∧cnt ks≤3)),h)
  have e:decide (1≤cnt ks∧cnt ks≤3)=decide ((1:Int)≤(cnt ks:Int)∧(cnt ks:Int)≤3):=decide_eq_decide.2 (by omega)
  rw[e,Bool.decide_and]
  cases hz:J1 ks<;>rw[hz] at h0<;>simp only[Bool.false_eq_true,if_false,if_true] at h0
  ·simp only[Bool.false_or]
   simp -implicitDefEqProofs (disch:=first|assumption|omega) only[go_sem,simprocAttr,h0,h1,hd,inB]
  ·simp only[Bool.true_or]
   simp -implicitDefEqProofs (disch:=first|assumption|omega) only[go_sem,simprocAttr,h0,hd]
 ·have e:nI op ks=false:=by unfold nI;rw[decide_eq_false c,bfa]
  simp only[e]
  simp -implicitDefEqProofs (disch:=first|assumption|omega) only[go_sem,simprocAttr,c,hd]
set_option maxRecDepth 8000
set_option maxHeartbeats 4000000
theorem zYh{α:Type}{b:Bool}{x y r:α}(h:r=if b=true then x else y):(b=false∧r=y)∨(b=true∧r=x):=by
 cases b
 ·exact .inl ⟨rfl,by simpa using h⟩
 ·exact .inr ⟨rfl,by simpa using h⟩
theorem Cf:(false==false)=true:=rfl
theorem Cm:(false==true)=false:=rfl
theorem Cg:(true==false)=false:=rfl
theorem B1:(true==true)=true:=rfl
theorem Dl(V:List ZC)(s:ByteArray)(hV:V.length≤140737488351232):call tab mF [.d (.r (V.map ZC.r)),.agg [I 20,Str s,I 0,.d (.r [])]]=some (B (iH V s)):=by
 have h0:=kU V s hV
 have hb:=zqg V s
 rw[aJ Ik _ rfl,xR]
 by_cases d:0≤fx V s
 ·obtain⟨p,_,h2,h3⟩:=zz9 d
  simp only[ZC.r] at h2
  simp only[h3]
  simp -implicitDefEqProofs (disch:=first|assumption|omega) only[go_sem,simprocAttr,h0,d,h2]
 ·simp only[Ue d]
  simp -implicitDefEqProofs (disch:=first|assumption|omega) only[go_sem,simprocAttr,h0,d]
abbrev zQR(F:List ZA)(i:Nat)(W:List ZC)(y:ZB):Prop:=evCW tab iA [.ptr (0,0) [] 0 0,y.x] (ch F i W) 1=some (B (y.mt F i W),ch F i W)
section
variable(F:List ZA)(hF:F.length≤1048576∧∀y∈F,ZA.Sm y)(i:Nat)(hi:i<F.length)(W:List ZC)(hW:W.length≤16777216)
include hF hi hW
theorem z9U(x:ZB)(hx:x.ks.length≤1048576)(j:Nat)(hj:j<x.ks.length):evCW tab oI [.ptr (0,0) [] 0 0,x.x,I (j:Int)] (ch F i W) 1=some (.tup [B (nO F i W x.op x.tx x.ks.length j),B (decide (x.op=2))],ch F i W):=by
 have hl0:Low 1 (ch F i W):=(Low.emp 0).upd (by omega) _
 have h3:=hl0.drop (Nat.le_refl 1)
 have g0:=Dl W x.tx (by omega)
 have hc:=Z3 F hF i hi W x hx
 have ej:decide (j=0)=decide ((j:Int)=0):=decide_eq_decide.2 (by omega)
 unfold nO
 simp only[ch,Hw,ej] at hc h3 ⊢
 rw[aP Fe _ _ _ rfl,r6]
 by_cases c2:x.op=2
 ·simp only[c2,if_true,decide_true]
  simp -implicitDefEqProofs (disch:=first|assumption|omega) only[go_sem,simprocAttr,eq_true c2,h3]
 simp only[c2,if_false,decide_false]
 by_cases c9:x.op=9∨x.op=10∨x.op=11∨x.op=32∨x.op=33
 ·rw[if_pos c9]
  rcases c9 with c|c|c|c|c<;>simp -implicitDefEqProofs (disch:=first|assumption|omega) only[go_sem,simprocAttr,eq_true c,h3]
 rw[if_neg c9]
 have n9:(x.op=9)=False:=eq_false (by omega)
 have n10:(x.op=10)=False:=eq_false (by omega)
 have n11:(x.op=11)=False:=eq_false (by omega)
 have n32:(x.op=32)=False:=eq_false (by omega)
 have n33:(x.op=33)=False:=eq_false (by omega)
 by_cases c3:x.op=3
 ·rw[if_pos c3]
  simp -implicitDefEqProofs (disch:=first|assumption|omega) only[go_sem,simprocAttr,eq_true c3,g0,h3,ZC.fzs,n9,n10,n11,n32,n33]
 rw[if_neg c3]
 by_cases c26:x.op=26∨x.op=8
 ·rw[if_pos c26]
  have n3:(x.op=3)=False:=eq_false c3
  have n2:(x.op=2)=False:=eq_false c2
  rcases hc with⟨k1,f,k2,k3,k4⟩|⟨k1,k4⟩
  ·have hl:f.fParams.length=x.ks.length:=by
    unfold cok at k1
    simp only[bE,Bool.or_eq_true,decide_eq_true_eq] at k1
    have h5:=k1.2
    rw[zzs,k3] at h5
    omega
   have hp:∃p,f.fParams[j]? = some p∧(f.fParams.map ZC.r)[j]? = some p.r:=⟨f.fParams[j],by simp[hl,hj],by simp[hl,hj]⟩
   obtain⟨p,k5,k6⟩:=hp
   simp only[ZC.r] at k6
   have e:cch F i x.op x.tx x.ks.length j=p.fChan:=by
    unfold cch
    rw[k1,k3,k5,bta]
   have hpl:=(hF.2 f (List.mem_of_getElem? k2)).ps.1
   rw[e]
   rcases c26 with c|c<;>simp -implicitDefEqProofs (disch:=first|assumption|omega) only[go_sem,simprocAttr,eq_true c,k4,h3,k6,n9,n10,n11,n32,n33,n3,n2,ZA.fzs,ZC.fzr,ZB.fzr]
  ·have e:cch F i x.op x.tx x.ks.length j=false:=by
    unfold cch
    rw[k1,bfa]
   rw[e]
   rcases c26 with c|c<;>simp -implicitDefEqProofs (disch:=first|assumption|omega) only[go_sem,simprocAttr,eq_true c,k4,h3,n9,n10,n11,n32,n33,n3,n2]
 ·rw[if_neg c26]
  simp -implicitDefEqProofs (disch:=first|assumption|omega) only[go_sem,simprocAttr,h3,n9,n10,n11,n32,n33,c3,c2,eq_false (show ¬x.op=26 by omega),eq_false (show ¬x.op=8 by omega)]
theorem Pg(x:ZB)(hks:x.ks.length≤1048576)(H:∀y∈x.ks,zQR F i W y):∀(Bl:List ZB) (j:Nat),x.ks.drop j=Bl →
  loopW tab [0,3,28,29,30] dN {env:=upd (upd (upd (upd (upd emp 30 (some (I (j:Int)))) 29 (some (I (x.ks.length:Int)))) 28 (some (.d (.r (x.ks.map ZB.r))))) 3 (some (.vp [I x.op,Str x.tx,I x.v,.d (.r (x.ks.map ZB.r))]))) 0 (some (.ptr (0,0) [] 0 0)),heap:=ch F i W,fr:=1,next:=0} =
   if mts F i W x.op x.tx x.ks.length j Bl=true then some (.ret,{env:=upd emp 4 (some (B true)),heap:=ch F i W,fr:=1,next:=0}) else some (.ext 0,{env:=emp,heap:=ch F i W,fr:=1,next:=0})
 |[],j,hd=>by
  have h1:=b9 (j:=(j:Int)) (by simpa using hd) (by omega)
  rw[if_neg (by simp[mts])]
  unfold loopW
  conv=>lhs;arg 1;unfold dN
  simp -implicitDefEqProofs (disch:=first|assumption|omega) only[go_sem,simprocAttr,h1]
 |y::Bl,j,hd=>by
  have h1:=bK (j:=(j:Int)) (by simpa using hd) (by omega)
  have h5:=h1.2.1
  have h2:=eK ZB.r h1.1
  rw[ZB.r_def] at h2
  simp only[Int.toNat_natCast] at h2
  have g0:=z9U F hF i hi W hW x hks j (by omega)
  have g1:=Fk W y (by omega)
  have g2:=H y h1.2.2.2.1
  have ih:=Pg x hks H Bl (j+1) (by have:=h1.2.2.1;simpa using this)
  rw[show(((j+1:Nat)):Int)=(j:Int)+1 by omega] at ih
  rw[mts]
  unfold zQR at g2
  generalize y.mt F i W=m at *
  generalize nO F i W x.op x.tx x.ks.length j=w at *
  generalize jM W y=z at *
  cases he:decide (x.op=2)<;>rw[he] at g0
  ·unfold loopW
   conv=>lhs;arg 1;unfold dN
   cases z<;>cases w<;>cases m<;>simp only[show(true != true)=false from rfl,show(true != false)=true from rfl,show(false != true)=true from rfl,show(false != false)=false from rfl,Bool.not_false,bta,Bool.false_or,Bool.true_or,if_true]
   ·rw[←ih]
    simp -implicitDefEqProofs (disch:=first|assumption|omega) only[go_sem,simprocAttr,h5,h2,Cf,Cm,Cg,B1,Bool.not_true,Bool.not_false,g0,g1,g2,ZC.fzs,ZB.fzs,ZB.fzr,ZC.noR]
   ·simp -implicitDefEqProofs (disch:=first|assumption|omega) only[go_sem,simprocAttr,h5,h2,Cf,Cm,Cg,B1,Bool.not_true,Bool.not_false,g0,g1,g2,ZC.fzs,ZB.fzs,ZB.fzr,ZC.noR]
   ·simp -implicitDefEqProofs (disch:=first|assumption|omega) only[go_sem,simprocAttr,h5,h2,Cf,Cm,Cg,B1,Bool.not_true,Bool.not_false,g0,g1,ZC.fzs,ZB.fzs,ZB.fzr,ZC.noR]
   ·simp -implicitDefEqProofs (disch:=first|assumption|omega) only[go_sem,simprocAttr,h5,h2,Cf,Cm,Cg,B1,Bool.not_true,Bool.not_false,g0,g1,ZC.fzs,ZB.fzs,ZB.fzr,ZC.noR]
   ·simp -implicitDefEqProofs (disch:=first|assumption|omega) only[go_sem,simprocAttr,h5,h2,Cf,Cm,Cg,B1,Bool.not_true,Bool.not_false,g0,g1,ZC.fzs,ZB.fzs,ZB.fzr,ZC.noR]
   ·simp -implicitDefEqProofs (disch:=first|assumption|omega) only[go_sem,simprocAttr,h5,h2,Cf,Cm,Cg,B1,Bool.not_true,Bool.not_false,g0,g1,ZC.fzs,ZB.fzs,ZB.fzr,ZC.noR]
   ·rw[←ih]
    simp -implicitDefEqProofs (disch:=first|assumption|omega) only[go_sem,simprocAttr,h5,h2,Cf,Cm,Cg,B1,Bool.not_true,Bool.not_false,g0,g1,g2,ZC.fzs,ZB.fzs,ZB.fzr,ZC.noR]
   ·simp -implicitDefEqProofs (disch:=first|assumption|omega) only[go_sem,simprocAttr,h5,h2,Cf,Cm,Cg,B1,Bool.not_true,Bool.not_false,g0,g1,g2,ZC.fzs,ZB.fzs,ZB.fzr,ZC.noR]
  ·unfold loopW
   conv=>lhs;arg 1;unfold dN
   cases m<;>simp only[Bool.not_true,bfa,Bool.false_or,Bool.true_or,if_true]
   ·rw[←ih]
    simp -implicitDefEqProofs (disch:=first|assumption|omega) only[go_sem,simprocAttr,h5,h2,g0,g2,ZB.fzs,ZB.fzr,ZC.noR]
   ·simp -implicitDefEqProofs (disch:=first|assumption|omega) only[go_sem,simprocAttr,h5,h2,g0,g2,ZB.fzs,ZB.fzr,ZC.noR]
theorem zkQ(x:ZB)(hx:x.Sm):zQR F i W x:=by
 refine ZB.ind (P:=fun x=>x.Sm→zQR F i W x) (fun op tx v ks ih hx=> ?_) x hx
 have hk:=hx.ks
 simp only[ZB.ks_mk] at hk
 have hk1:=hk.1
 have hl0:Low 1 (ch F i W):=(Low.emp 0).upd (by omega) _
 have h3:=hl0.drop (Nat.le_refl 1)
 have h0:=Pg F hF i hi W hW (.mk op tx v ks) hk.1 (fun y hy=>ih y hy (hk.2 y hy)) ks 0 rfl
 have g0:=Dl W tx (by omega)
 rcases zYh h0 with⟨hz',h0⟩|⟨hz',h0⟩
 all_goals
  have hz:=hz'
  change mts F i W op tx ks.length 0 ks=_ at hz
  clear hz'
 all_goals
  unfold zQR
  rw[z5N]
  simp only[ZB.x,ZB.op_mk,ZB.tx_mk,ZB.v_mk,ZB.ks_mk,ch,Hw,cK] at h0 h3 ⊢
  rw[aP Ax _ _ _ rfl,oV]
  rw[hz]
 ·by_cases c:op=10∨op=32
  ·rcases c with rfl|rfl<;>cases hv:iH W tx<;>rw[hv] at g0<;>simp -implicitDefEqProofs (disch:=first|assumption|omega) only[go_sem,simprocAttr,h0,h3,g0,ZC.fzs,decide_true,decide_false,Bool.true_or,Bool.or_true,bta,Bool.or_false,Bool.false_or,bA,bat]
  ·have c10:¬op=10:=by omega
   have c32:¬op=32:=by omega
   simp -implicitDefEqProofs (disch:=first|assumption|omega) only[go_sem,simprocAttr,h0,h3,c10,c32,decide_false,Bool.or_false,bfa,Bool.false_or]
 ·by_cases c:op=10∨op=32
  ·rcases c with rfl|rfl<;>cases hv:iH W tx<;>rw[hv] at g0<;>simp -implicitDefEqProofs (disch:=first|assumption|omega) only[go_sem,simprocAttr,h0,h3,g0,ZC.fzs,decide_true,decide_false,Bool.true_or,Bool.or_true,bta,Bool.or_false,Bool.false_or,bA,bat]
  ·have c10:¬op=10:=by omega
   have c32:¬op=32:=by omega
   simp -implicitDefEqProofs (disch:=first|assumption|omega) only[go_sem,simprocAttr,h0,h3,c10,c32,decide_false,Bool.or_false,bfa,Bool.false_or,Bool.or_true]
end
set_option maxRecDepth 8000
set_option maxHeartbeats 4000000
theorem zka(N:List ByteArray):(Ad N).length=N.length:=by simp[Ad]
theorem cB(N:List ByteArray):Ev.fzs (Ad N)=Ad N:=by
 unfold Ad
 exact mV _ _ (fun x=>by simp only[Ev.fzl,D.fz]) N
theorem Uj(tx:ByteArray):Ad [tx]=[[DS tx]]:=rfl
section
variable(F:List ZA)(hF:F.length≤1048576∧∀y∈F,ZA.Sm y)(i:Nat)(hi:i<F.length)(W:List ZC)
include hF hi
theorem zkR(x:ZB)(hx:x.Sm):zWa F i W x:=by
 refine ZB.ind (P:=fun x=>x.Sm→zWa F i W x) (fun op tx v ks ih hx=> ?_) x hx
 intro N hN
 have hk:=hx.ks
 simp only[ZB.ks_mk] at hk
 have hk1:=hk.1
 rw[ZB.sz_eq] at hN
 have hnn:=dC ks
 obtain⟨N1,h0⟩:=Pm F i W (.mk op tx v ks) ks hk.1 (fun y hy=>ih y hy (hk.2 y hy)) ks N 0 rfl (by omega) (by omega)
 have hlM:∀M,nms (cok F i) ks N=some M→(M.length:Int)≤1048577:=fun M hM=>by
  have:=J4 (fun y _=>zVq y) N M hM
  omega
 have h4:Low 1 (mh F i W N):=fun id hid=>by
  simp only[mh,Ev.upd]
  rw[if_neg (by rintro rfl;simp at hid),if_neg (by rintro rfl;simp at hid)]
  rfl
 have hd0:∀M,bS 1 (mh F i W M)=mh F i W M:=fun M=>by
  have h5:Low 1 (mh F i W M):=fun id hid=>by
   simp only[mh,Ev.upd]
   rw[if_neg (by rintro rfl;simp at hid),if_neg (by rintro rfl;simp at hid)]
   rfl
  exact h5.drop (Nat.le_refl 1)
 have hc:=Z3 F hF i hi W (.mk op tx v ks) hk.1
 have hcon:=p4 N (by omega) tx
 rw[zxO]
 simp only[ZB.x,ZB.op_mk,ZB.tx_mk,ZB.v_mk,ZB.ks_mk,mh,Tg,ch,Hw] at h0 hc hd0 ⊢
 by_cases hn:op=20∨op=3∨op=10∨op=32
 ·have e1:pE op=true:=by rcases hn with rfl|rfl|rfl|rfl<;>rfl
  have e2:Am op=false:=by rcases hn with rfl|rfl|rfl|rfl<;>rfl
  have e3:(op=2)=False:=eq_false (by omega)
  cases ha:(N.any fun w=>decide (tx=w))<;>rw[ha] at hcon<;>simp only[e1,e2,bta,Bool.not_false,Bool.not_true,if_true,Bool.false_eq_true,if_false,bfa,e3]
  ·refine⟨N,?_,by simp⟩
   rw[aP bQ _ _ _ rfl,bM]
   rcases hn with rfl|rfl|rfl|rfl<;>simp -implicitDefEqProofs (disch:=first|assumption|omega) only[go_sem,simprocAttr,hcon,cB,hd0,Option.isNone_none]
  ·cases hm:nms (cok F i) ks N with
   |none =>
    rw[hm] at h0
    refine⟨N1,?_,by simp⟩
    rw[aP bQ _ _ _ rfl,bM]
    rcases hn with rfl|rfl|rfl|rfl<;>simp -implicitDefEqProofs (disch:=first|assumption|omega) only[go_sem,simprocAttr,hcon,cB,hd0,h0,Option.map_none,Option.isNone_none]
   |some M =>
    rw[hm] at h0
    refine⟨M,?_,by simp⟩
    rw[aP bQ _ _ _ rfl,bM]
    rcases hn with rfl|rfl|rfl|rfl<;>simp -implicitDefEqProofs (disch:=first|assumption|omega) only[go_sem,simprocAttr,hcon,cB,hd0,h0,oms,Option.isNone_some]
 have e1:pE op=false:=by
  unfold pE
  rw[decide_eq_false (by omega),decide_eq_false (by omega),decide_eq_false (by omega),decide_eq_false (by omega)]
  rfl
 have n20:(op=20)=False:=eq_false (by omega)
 have n3:(op=3)=False:=eq_false (by omega)
 have n10:(op=10)=False:=eq_false (by omega)
 have n32:(op=32)=False:=eq_false (by omega)
 by_cases hcl:op=26∨op=8∨op=31
 ·have e2:Am op=true:=by rcases hcl with rfl|rfl|rfl<;>rfl
  have e3:(op=2)=False:=eq_false (by omega)
  rcases hc with⟨k1,f,k2,k3,k4⟩|⟨k1,k4⟩<;>simp only[e1,e2,k1,bta,Bool.not_false,Bool.not_true,if_true,Bool.false_eq_true,if_false,bfa,e3]
  ·cases hm:nms (cok F i) ks N with
   |none =>
    rw[hm] at h0
    refine⟨N1,?_,by simp⟩
    rw[aP bQ _ _ _ rfl,bM]
    rcases hcl with rfl|rfl|rfl<;>simp -implicitDefEqProofs (disch:=first|assumption|omega) only[go_sem,simprocAttr,k4,hd0,h0,Option.map_none,Option.isNone_none,ZC.noR,ZA.fzs,ZC.fzr,ZB.fzr]
   |some M =>
    rw[hm] at h0
    refine⟨M,?_,by simp⟩
    rw[aP bQ _ _ _ rfl,bM]
    rcases hcl with rfl|rfl|rfl<;>simp -implicitDefEqProofs (disch:=first|assumption|omega) only[go_sem,simprocAttr,k4,hd0,h0,oms,Option.isNone_some,ZC.noR,ZA.fzs,ZC.fzr,ZB.fzr]
  ·refine⟨N,?_,by simp⟩
   rw[aP bQ _ _ _ rfl,bM]
   rcases hcl with rfl|rfl|rfl<;>simp -implicitDefEqProofs (disch:=first|assumption|omega) only[go_sem,simprocAttr,k4,hd0,Option.isNone_none,ZC.noR]
 have e2:Am op=false:=by
  unfold Am
  rw[decide_eq_false (by omega),decide_eq_false (by omega),decide_eq_false (by omega)]
  rfl
 have n26:(op=26)=False:=eq_false (by omega)
 have n8:(op=8)=False:=eq_false (by omega)
 have n31:(op=31)=False:=eq_false (by omega)
 simp only[e1,e2,bfa,Bool.false_eq_true,if_false]
 cases hm:nms (cok F i) ks N with
 |none =>
  rw[hm] at h0
  refine⟨N1,?_,by simp⟩
  rw[aP bQ _ _ _ rfl,bM]
  simp -implicitDefEqProofs (disch:=first|assumption|omega) only[go_sem,simprocAttr,n20,n3,n10,n32,n26,n8,n31,hd0,h0,Option.map_none,Option.isNone_none]
 |some M =>
  rw[hm] at h0
  have hl:=hlM M hm
  by_cases c2:op=2
  ·refine⟨M++[tx],?_,by simp[c2]⟩
   rw[aP bQ _ _ _ rfl,bM,Tl,Uj]
   have hd1:=hd0 (M++[tx])
   rw[Tl,Uj] at hd1
   subst c2
   simp -implicitDefEqProofs (disch:=first|assumption|omega|(simp only[aE,aQ,aD,i64,sa,aC,lm,la,lc,ln];omega)) only[go_sem,simprocAttr,n20,n3,n10,n32,n26,n8,n31,hd0,hd1,h0,oms,Option.isNone_some,zka,Jw]
  ·refine⟨M,?_,by simp[c2]⟩
   rw[aP bQ _ _ _ rfl,bM]
   simp -implicitDefEqProofs (disch:=first|assumption|omega) only[go_sem,simprocAttr,n20,n3,n10,n32,n26,n8,n31,c2,hd0,h0,oms,Option.isNone_some]
end
set_option maxRecDepth 8000
set_option maxHeartbeats 8000000
abbrev fbx(f:ZA):D:= .s 6 [[DS f.fName,.r (f.fParams.map ZC.r),DI f.fBody.op,DS f.fBody.tx,DI f.fBody.v,.r (f.fBody.ks.map ZB.r)]]
abbrev fh(F:List ZA)(i:Int)(W:List ZC)(N:List ByteArray)(f:ZA):Heap:=upd (upd (ch F i W) (1,1) (some (Tg N))) (1,0) (some (fbx f))
abbrev fe(low:Bool)(e:Env):Env:=upd (upd (upd (upd e 6 (some (.ptr (1,1) [] 0 0))) 5 (some (.ptr (1,0) [] 0 0))) 1 (some (B low))) 0 (some (.ptr (0,0) [] 0 0))
theorem Pl(F:List ZA)(i:Int)(W:List ZC)(f:ZA)(low:Bool)(hp:f.fParams.length≤1048576):∀(Bl:List ZC) (N:List ByteArray) (j:Int),f.fParams.drop j.toNat=Bl→0≤j→N.length=j →
  loopW tab [0,1,5,6,25,26,27] eR {env:=fe low (upd (upd (upd emp 27 (some (I j))) 26 (some (I (f.fParams.length:Int)))) 25 (some (.d (.r (f.fParams.map ZC.r))))),heap:=fh F i W N f,fr:=1,next:=2}=some (.ext 0,{env:=fe low emp,heap:=fh F i W (N++gQ Bl) f,fr:=1,next:=2})
 |[],N,j,hd,hj,hN=>by
  have h1:=b9 hd hj
  unfold loopW
  conv=>lhs;arg 1;unfold eR
  simp only[gQ,mn,List.append_nil]
  simp -implicitDefEqProofs (disch:=first|assumption|omega) only[go_sem,simprocAttr,h1,ch,Hw,Tg,fbx,fh,fe]
 |p::Bl,N,j,hd,hj,hN=>by
  have h1:=bK hd hj
  have h5:=h1.2.1
  have h2:=eK ZC.r h1.1
  simp only[ZC.r] at h2
  have ih:=Pl F i W f low hp Bl (N++[p.fName]) (j+1) h1.2.2.1 (by omega) (by rw[la];simp only[lc,ln];omega)
  rw[show N++gQ (p::Bl)=N++[p.fName]++gQ Bl by simp[gQ],←ih]
  conv=>lhs;unfold loopW;arg 1;unfold eR
  simp only[fh,ch,Hw,Tg,fbx,fe,Tl,Uj]
  simp -implicitDefEqProofs (disch:=first|assumption|omega|(simp only[aE,aQ,aD,i64,sa,aC,lm,la,lc,ln];omega)) only[go_sem,simprocAttr,h5,h2,ch,Hw,Tg,fbx,fh,fe,zka]
def twL(W:List ZC):Int→List ZC→Bool
 |_,[]=>false
 |j,p::ps=> !decide (fx W p.fName=j)||twL W (j+1) ps
abbrev fg(tw low:Bool)(e:Env):Env:=upd (upd (upd (upd (upd e 9 (some (B tw))) 6 (some (.ptr (1,1) [] 0 0))) 5 (some (.ptr (1,0) [] 0 0))) 1 (some (B low))) 0 (some (.ptr (0,0) [] 0 0))
theorem Pj(F:List ZA)(i:Int)(W:List ZC)(hW:W.length≤16777216)(f:ZA)(low:Bool)(N:List ByteArray):∀(Bl:List ZC) (tw:Bool) (j:Int),W.drop j.toNat=Bl→0≤j →
  loopW tab [0,1,5,6,9,49,50,51] eS {env:=fg tw low (upd (upd (upd emp 51 (some (I j))) 50 (some (I (W.length:Int)))) 49 (some (.ref (0,0) [(0,2)]))),heap:=fh F i W N f,fr:=1,next:=2}=some (.ext 2,{env:=fg (tw||twL W j Bl) low emp,heap:=fh F i W N f,fr:=1,next:=2})
 |[],tw,j,hd,hj=>by
  have h1:=b9 hd hj
  unfold loopW
  conv=>lhs;arg 1;unfold eS
  rw[twL,Bool.or_false]
  simp -implicitDefEqProofs (disch:=first|assumption|omega) only[go_sem,simprocAttr,h1,ch,Hw,Tg,fbx,fh,fe,fg]
 |p::Bl,tw,j,hd,hj=>by
  have h1:=bK hd hj
  have h5:=h1.2.1
  have h2:=eK ZC.o h1.1
  simp only[ZC.o] at h2
  have g0:=kU W p.fName (by omega)
  have ih:=Pj F i W hW f low N Bl (tw || !decide (fx W p.fName=j)) (j+1) h1.2.2.1 (by omega)
  rw[Bool.or_assoc] at ih
  rw[twL,←ih]
  conv=>lhs;unfold loopW;arg 1;unfold eS
  cases tw
  ·by_cases hx:fx W p.fName=j
   ·simp -implicitDefEqProofs (disch:=first|assumption|omega) only[go_sem,simprocAttr,h5,h2,g0,eq_true hx,ZC.fzs,ch,Hw,Tg,fbx,fh,fe,fg,Bool.false_or,decide_true,Bool.not_true]
   ·simp -implicitDefEqProofs (disch:=first|assumption|omega) only[go_sem,simprocAttr,h5,h2,g0,eq_false hx,ZC.fzs,ch,Hw,Tg,fbx,fh,fe,fg,Bool.false_or,decide_false,Bool.not_false]
  ·simp -implicitDefEqProofs (disch:=first|assumption|omega) only[go_sem,simprocAttr,h5,h2,ZC.fzs,ch,Hw,Tg,fbx,fh,fe,fg,Bool.true_or]
theorem Y7(p:ZC)(h:Heap)(fr:Nat)(hl:bS fr h=h):evCW tab fM [p.x] h fr=some (B p.fChan,h):=by
 rw[aP wJ _ _ _ rfl,nE]
 simp -implicitDefEqProofs (disch:=first|assumption|omega|(simp only[aE,aQ,aD,i64,sa,aC,lm,la,lc,ln];omega)) only[go_sem,simprocAttr,hl]
def twI(F:List ZA)(i:Nat)(W:List ZC)(f:ZA):Bool:=decide (0≤fKt F f.fName i)||twL W 0 W
def H4(W:List ZC)(f:ZA):Bool:=decide (8<(W.length:Int))||decide (4<(f.fParams.length:Int))||f.fBody.crowd
def tM(low:Bool)(f:ZA):Bool:=if low then f.fBody.has (fun y=>wO y.op)||f.fParams.any ZC.fChan else f.fBody.has fun y=>Qn y.op
def fnI(F:List ZA)(i:Nat)(W:List ZC)(low:Bool)(f:ZA):Int :=
 if twI F i W f=true then 2 else if H4 W f=true then 3 else if (f.fBody.nm (cok F i) (gQ f.fParams)).isNone=true then 4 else if f.fBody.mt F i W=true then 5 else if tM low f=true then 6 else 0
end Go.Ev.G
