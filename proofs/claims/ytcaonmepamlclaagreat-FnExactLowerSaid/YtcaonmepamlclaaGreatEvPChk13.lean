import Derived.Test.YtcaonmepamlclaaGreatEvPChk6
set_option linter.all false
namespace Go.Ev.G
set_option maxRecDepth 8000
set_option maxHeartbeats 8000000
theorem Fx(F:List ZA)(s:ByteArray)(hF:F.length≤140737488351232):∀(Bl:List ZA) (j:Int),F.drop j.toNat=Bl→0≤j →
  loopW tab [0,1,5] oF {env:=upd (upd (upd emp 5 (some (I j))) 1 (some (Str s))) 0 (some (.d (.r (F.map ZA.r)))),heap:=emp,fr:=0,next:=0}=if aS (fun p:ZA=>decide (p.fName=s)) j Bl= -1 then some (.ext 0,{env:=emp,heap:=emp,fr:=0,next:=0}) else some (.ret,{env:=upd emp 4 (some (I (aS (fun p:ZA=>decide (p.fName=s)) j Bl))),heap:=emp,fr:=0,next:=0})
 |[],j,hd,hj=>by
  unfold loopW
  conv=>lhs;arg 1;unfold oF
  have h1:=b9 hd hj
  simp only[aS,if_true]
  simp -implicitDefEqProofs (disch:=first|assumption|omega) only[go_sem,simprocAttr,h1]
 |p::Bl,j,hd,hj=>by
  unfold loopW
  conv=>lhs;arg 1;unfold oF
  have h1:=bK hd hj
  have h5:=h1.2.1
  have h2:=eK ZA.r h1.1
  simp only[ZA.r] at h2
  have ih:=Fx F s hF Bl (j+1) h1.2.2.1 (by omega)
  rw[aS]
  by_cases hp:p.fName=s
  ·rw[if_pos (show decide (p.fName=s)=true from by simp[hp]),if_neg (by omega)]
   simp -implicitDefEqProofs (disch:=first|assumption|omega) only[go_sem,simprocAttr,h5,h2,eq_true hp]
  ·rw[if_neg (show ¬decide (p.fName=s)=true from by simp[hp]),←ih]
   simp -implicitDefEqProofs (disch:=first|assumption|omega) only[go_sem,simprocAttr,h5,h2,hp]
theorem wH(F:List ZA)(s:ByteArray)(hF:F.length≤140737488351232):call tab o9 [.d (.r (F.map ZA.r)),Str s]=some (I (fK F s)):=by
 have h0:=Fx F s hF F 0 rfl (by omega)
 rw[aJ W7 _ rfl,I1]
 unfold fK
 by_cases hp:aS (fun p:ZA=>decide (p.fName=s)) 0 F= -1
 ·rw[if_pos hp] at h0
  simp -implicitDefEqProofs (disch:=first|assumption|omega) only[go_sem,simprocAttr,h0,hp]
 ·rw[if_neg hp] at h0
  simp -implicitDefEqProofs (disch:=first|assumption|omega) only[go_sem,simprocAttr,h0]
theorem Sh.kids{k:Nat}{op:Int}{tx:ByteArray}{v:Int}{ks:List ZB}(h:Sh k (.mk op tx v ks)):(∀y∈ks,∃j,Sh j y)∧(op=2→∃a,ks=[a]∧Sh 0 a):=by
 cases h with
 |ex0 h=>exact⟨by simp,fun e=>by omega⟩
 |ex1 h a=>exact⟨by simpa using ⟨_,a⟩,fun e=>by omega⟩
 |ex2 h a b=>exact⟨by simpa using ⟨⟨_,a⟩,⟨_,b⟩⟩,fun e=>by omega⟩
 |ex3 a b c=>exact⟨by simpa using ⟨⟨_,a⟩,⟨_,b⟩,⟨_,c⟩⟩,fun e=>by omega⟩
 |cll h=>exact⟨fun y hy=>⟨_,h y hy⟩,fun e=>by omega⟩
 |st1 h a=>exact⟨by simpa using ⟨_,a⟩,fun e=>⟨_,rfl,a⟩⟩
 |st2 h a b=>exact⟨by simpa using ⟨⟨_,a⟩,⟨_,b⟩⟩,fun e=>by omega⟩
 |go_ h=>exact⟨fun y hy=>⟨_,h y hy⟩,fun e=>by omega⟩
 |if1 a b=>exact⟨by simpa using ⟨⟨_,a⟩,⟨_,b⟩⟩,fun e=>by omega⟩
 |if2 a b c=>exact⟨by simpa using ⟨⟨_,a⟩,⟨_,b⟩,⟨_,c⟩⟩,fun e=>by omega⟩
 |whl a b=>exact⟨by simpa using ⟨⟨_,a⟩,⟨_,b⟩⟩,fun e=>by omega⟩
 |sel h=>exact⟨fun y hy=>⟨_,h y hy⟩,fun e=>by omega⟩
 |blk h=>exact⟨fun y hy=>⟨_,h y hy⟩,fun e=>by omega⟩
 |tak a b=>exact⟨by simpa using ⟨⟨_,a⟩,⟨_,b⟩⟩,fun e=>by omega⟩
 |giv a b c=>exact⟨by simpa using ⟨⟨_,a⟩,⟨_,b⟩,⟨_,c⟩⟩,fun e=>by omega⟩
 |els b=>exact⟨by simpa using ⟨_,b⟩,fun e=>by omega⟩
abbrev uW(F:List ZA)(i:Int)(V:List ZC)(b:Bool):D:= .s 5 [[.r (F.map ZA.r),DI i,.s 2 (V.map ZC.o),DI 0,.v (.bool b)]]
abbrev wh(F:List ZA)(i:Int)(V:List ZC)(b:Bool):Heap:=upd emp (0,0) (some (uW F i V b))
abbrev nvp(x:ZB):X:= .vp [I x.op,Str x.tx,I x.v,.d (.r (x.ks.map ZB.r))]
section
variable(F:List ZA)(hF:F.length≤1048576∧∀y∈F,ZA.Sm y)(i:Nat)(hi:i<F.length)
abbrev z3e(y:ZB):Prop:=∀(V:List ZC) (b:Bool),(V.length:Int)+y.sz+1≤16777216→evCW tab tS [.ptr (0,0) [] 0 0,y.x] (wh F i V b) 1=some (.tup [],wh F i (y.le V) (b||y.sn (cok F i) V))
theorem Uo(x:ZB)(hks:x.ks.length≤1048576)(H:∀y∈x.ks,z3e F i y):∀(Bl:List ZB) (j:Nat) (V:List ZC) (b:Bool),x.ks.drop j=Bl→(V.length:Int)+bH Bl+Bl.length≤16777216 →
  loopW tab [0,3,4] jH {env:=upd (upd (upd emp 4 (some (I (j:Int)))) 3 (some (nvp x))) 0 (some (.ptr (0,0) [] 0 0)),heap:=wh F i V b,fr:=1,next:=0} =
   some (.ext 0,{env:=upd (upd emp 3 (some (nvp x))) 0 (some (.ptr (0,0) [] 0 0)),heap:=wh F i (les Bl V) (b||sns (cok F i) x.op x.tx j Bl V),fr:=1,next:=0})
 |[],j,V,b,hd,hs=>by
  have h1:=b9 (j:=(j:Int)) (by simpa using hd) (by omega)
  unfold loopW
  conv=>lhs;arg 1;unfold jH
  rw[les,sns,Bool.or_false]
  simp -implicitDefEqProofs (disch:=first|assumption|omega) only[go_sem,simprocAttr,h1,wh,uW,nvp]
 |y::Bl,j,V,b,hd,hs=>by
  have h1:=bK (j:=(j:Int)) (by simpa using hd) (by omega)
  have h5:=h1.2.1
  have h2:=eK ZB.r h1.1
  rw[ZB.r_def,Int.toNat_natCast] at h2
  rw[dH,lc] at hs
  have hn:=dC Bl
  have hsy:=y.sz_nn
  have gl:=Jo y V
  have hb:=zqg V x.tx
  have g1:=gP V x.tx (by omega)
  have ih:=fun b=>Uo x hks H Bl (j+1) (y.le V) b (by have:=h1.2.2.1;simpa using this) (by omega)
  rw[show(((j+1:Nat)):Int)=(j:Int)+1 by omega] at ih
  have g0:=fun b=>H y h1.2.2.2.1 V b (by omega)
  rw[les,sns]
  by_cases hA:x.op=32∧j=1∧fx V x.tx<0
  ·obtain⟨a1,a2,a3⟩:=hA
   subst a2
   have g0':=g0 true
   have ih':=ih (true||y.sn (cok F i) V)
   rw[Bool.true_or,Bool.true_or] at ih'
   rw[Bool.true_or] at g0'
   simp only[a1,a3,decide_true,bta,Bool.true_or,Bool.or_true]
   rw[←ih']
   conv=>lhs;unfold loopW;arg 1;unfold jH
   simp only[wh,uW] at g0' ⊢
   have h5':(1:Int)<x.ks.length:=by simpa using h5
   have h2':(x.ks.map ZB.r)[1]? = _:=h2
   simp -implicitDefEqProofs (disch:=first|assumption|omega) only[go_sem,simprocAttr,h5',h2',g1,g0',eq_true a1,eq_true a3,ZC.fzs,ZC.noR,ZB.fzs,ZB.fzr,hH]
  ·have hA':(decide (x.op=32)&&decide (j=1)&&decide (fx V x.tx<0))=false:=by
    rw[Bool.and_eq_false_iff,Bool.and_eq_false_iff,decide_eq_false_iff_not,decide_eq_false_iff_not,decide_eq_false_iff_not]
    omega
   have g0':=g0 b
   rw[hA',Bool.false_or,←Bool.or_assoc,←ih]
   conv=>lhs;unfold loopW;arg 1;unfold jH
   simp only[wh,uW] at g0' ⊢
   by_cases a1:x.op=32
   ·by_cases a2:(j:Int)=1
    ·have a3:¬fx V x.tx<0:=by omega
     simp -implicitDefEqProofs (disch:=first|assumption|omega) only[go_sem,simprocAttr,h5,h2,g1,g0',eq_true a1,eq_true a2,a3,ZC.fzs,ZC.noR,ZB.fzs,ZB.fzr]
    ·simp -implicitDefEqProofs (disch:=first|assumption|omega) only[go_sem,simprocAttr,h5,h2,g0',eq_true a1,a2,ZC.fzs,ZC.noR,ZB.fzs,ZB.fzr]
   ·simp -implicitDefEqProofs (disch:=first|assumption|omega) only[go_sem,simprocAttr,h5,h2,g0',a1,ZC.fzs,ZC.noR,ZB.fzs,ZB.fzr]
theorem or4(a b c d:Bool):(a||(b||c||d))=(a||b||c||d):=by cases a<;>simp
include hF hi in
theorem zyq(x:ZB)(hx:x.Sm)(hs:∃k,Sh k x):z3e F i x:=by
 refine ZB.ind (P:=fun x=>x.Sm→(∃k,Sh k x)→z3e F i x) (fun op tx v ks ih hx hs=> ?_) x hx hs
 intro V b hV
 have hk:=hx.ks
 simp only[ZB.ks_mk] at hk
 have hk1:=hk.1
 have hF1:=hF.1
 rw[ZB.sz_eq] at hV
 have hnn:=dC ks
 obtain⟨kk,hs⟩:=hs
 have hkid:=hs.kids
 have h0:=Uo F i (.mk op tx v ks) hk.1 (fun y hy=>ih y hy (hk.2 y hy) (hkid.1 y hy)) ks 0 V b rfl (by omega)
 have hlen:=R4 ks V
 have g1:=wH F tx (by omega)
 have g2:=gP (les ks V) tx (by omega)
 have ho:=zxX F tx
 rw[uG,H8,or4]
 simp only[ZB.x,ZB.op_mk,ZB.tx_mk,ZB.v_mk,ZB.ks_mk,nvp,wh,uW,cK] at h0 ⊢
 generalize (b||sns (cok F i) op tx 0 ks V)=b1 at h0 ⊢
 rw[aP Ub _ _ _ rfl,Gn]
 by_cases c2:op=2
 ·obtain⟨a,rfl,ha⟩:=hkid.2 c2
  subst c2
  have g4:=p6 (les [a] V) a (by omega)
  have lb:(les [a] V).length≤16777216:=by omega
  generalize les [a] V=V1 at *
  rw[show pE 2=false from rfl,show Am 2=false from rfl,bfa,bfa,Bool.or_false,Bool.or_false,if_pos rfl]
  simp only[mc,mn,ZB.r_def,lc,ln,Nat.zero_add,List.map_append,ZC.o] at h0 ⊢
  simp -implicitDefEqProofs (disch:=first|assumption|omega|(simp only[aE,aQ,aD,i64,sa,aC,lm,la,lc,ln];omega)) only[go_sem,simprocAttr,h0,g1,g4,ZC.fzs,ZB.r_def,ZC.o]
 have n2:(op=2)=False:=eq_false c2
 by_cases hn:op=20∨op=3∨op=10∨op=32
 ·have e1:pE op=true:=by rcases hn with rfl|rfl|rfl|rfl<;>rfl
  have e2:Am op=false:=by rcases hn with rfl|rfl|rfl|rfl<;>rfl
  rw[e1,e2,bta,bfa,Bool.or_false,if_neg c2]
  cases b1
  ·rw[Bool.false_or]
   by_cases hf:fx (les ks V) tx<0
   ·rw[decide_eq_true hf]
    rcases hn with rfl|rfl|rfl|rfl<;>simp -implicitDefEqProofs (disch:=first|assumption|omega) only[go_sem,simprocAttr,h0,g1,g2,eq_true hf,ZC.fzs]
   ·rw[decide_eq_false hf]
    rcases hn with rfl|rfl|rfl|rfl<;>simp -implicitDefEqProofs (disch:=first|assumption|omega) only[go_sem,simprocAttr,h0,g1,g2,hf,ZC.fzs]
  ·rw[Bool.true_or]
   rcases hn with rfl|rfl|rfl|rfl<;>simp -implicitDefEqProofs (disch:=first|assumption|omega) only[go_sem,simprocAttr,h0,g1,ZC.fzs]
 have e1:pE op=false:=by
  unfold pE
  rw[decide_eq_false (by omega),decide_eq_false (by omega),decide_eq_false (by omega),decide_eq_false (by omega)]
  rfl
 have n20:(op=20)=False:=eq_false (by omega)
 have n3:(op=3)=False:=eq_false (by omega)
 have n10:(op=10)=False:=eq_false (by omega)
 have n32:(op=32)=False:=eq_false (by omega)
 rw[e1,bfa,Bool.or_false,if_neg c2]
 by_cases hcl:op=26∨op=8∨op=31
 ·have e2:Am op=true:=by rcases hcl with rfl|rfl|rfl<;>rfl
  rw[e2,bta]
  cases b1
  ·rw[Bool.false_or]
   by_cases hf:fK F tx<0
   ·rw[show cok F i op tx ks.length=false from by unfold cok;rw[decide_eq_false (by omega),bfa,bfa],Bool.not_false]
    rcases hcl with rfl|rfl|rfl<;>simp -implicitDefEqProofs (disch:=first|assumption|omega) only[go_sem,simprocAttr,h0,g1,eq_true hf]
   ·obtain⟨f,k1,k2,k3,k4⟩:=zwj (F:=F) (tx:=tx) (by omega)
    simp only[ZA.r] at k2
    have nk:(0:Int)≤fK F tx:=by omega
    have lt:fK F tx<(F.length:Int):=by omega
    have hpl:=(hF.2 f (List.mem_of_getElem? k1)).ps.1
    unfold cok
    rw[k3,decide_eq_true nk]
    generalize fK F tx=K at *
    rcases hcl with rfl|rfl|rfl
    ·by_cases hc:K<(i:Int)
     ·have hc':¬(i:Int)≤K:=by omega
      by_cases hl:(f.fParams.length:Int)=ks.length
      ·simp only[show f.fParams.length=ks.length by omega,decide_true,decide_eq_true hc,Bool.not_true,Bool.false_or,bta,Bool.or_true]
       simp -implicitDefEqProofs (disch:=first|assumption|omega) only[go_sem,simprocAttr,h0,g1,hf,hc',nk,k2,show f.fParams.length=ks.length by omega]
      ·simp only[eq_false (show ¬f.fParams.length=ks.length by omega),decide_false,decide_eq_true hc,show decide ((26:Int)=31)=false from rfl,Bool.or_false,bA,Bool.not_false]
       simp -implicitDefEqProofs (disch:=first|assumption|omega) only[go_sem,simprocAttr,h0,g1,hf,hc',nk,k2,hl]
     ·have hc':(i:Int)≤K:=by omega
      simp only[decide_eq_false hc,decide_true,Bool.not_true,Bool.or_false,bta,bfa,Bool.not_false]
      simp -implicitDefEqProofs (disch:=first|assumption|omega) only[go_sem,simprocAttr,h0,g1,hf,hc',nk,k2]
    ·by_cases hl:(f.fParams.length:Int)=ks.length
     ·simp only[show f.fParams.length=ks.length by omega,decide_true,show decide ((8:Int)=26)=false from rfl,Bool.not_false,Bool.not_true,Bool.true_or,bta,Bool.or_true]
      simp -implicitDefEqProofs (disch:=first|assumption|omega) only[go_sem,simprocAttr,h0,g1,hf,nk,k2,show f.fParams.length=ks.length by omega]
     ·simp only[eq_false (show ¬f.fParams.length=ks.length by omega),decide_false,show decide ((8:Int)=26)=false from rfl,show decide ((8:Int)=31)=false from rfl,Bool.or_false,bA,Bool.not_false]
      simp -implicitDefEqProofs (disch:=first|assumption|omega) only[go_sem,simprocAttr,h0,g1,hf,nk,k2,hl]
    ·simp only[show decide ((31:Int)=26)=false from rfl,show decide ((31:Int)=31)=true from rfl,Bool.not_false,Bool.not_true,Bool.true_or,bta]
     simp -implicitDefEqProofs (disch:=first|assumption|omega) only[go_sem,simprocAttr,h0,g1,hf]
  ·rw[Bool.true_or]
   rcases hcl with rfl|rfl|rfl<;>simp -implicitDefEqProofs (disch:=first|assumption|omega) only[go_sem,simprocAttr,h0,g1]
 have e2:Am op=false:=by
  unfold Am
  rw[decide_eq_false (by omega),decide_eq_false (by omega),decide_eq_false (by omega)]
  rfl
 have n26:(op=26)=False:=eq_false (by omega)
 have n8:(op=8)=False:=eq_false (by omega)
 have n31:(op=31)=False:=eq_false (by omega)
 rw[e2,bfa,Bool.or_false]
 simp -implicitDefEqProofs (disch:=first|assumption|omega) only[go_sem,simprocAttr,h0,g1,n2,n20,n3,n10,n32,n26,n8,n31]
end
set_option maxRecDepth 8000
set_option maxHeartbeats 8000000
theorem Sh.kids2{k:Nat}{op:Int}{tx:ByteArray}{v:Int}{ks:List ZB}(h:Sh k (.mk op tx v ks)):(op=3∨op=10∨op=11→∃a,ks=[a])∧(op=9∨op=32→∃a b,ks=[a,b])∧(op=33→∃a b c,ks=[a,b,c]):=by
 cases h with
 |st1 h a=>exact⟨fun _=>⟨_,rfl⟩,fun e=>by omega,fun e=>by omega⟩
 |st2 h a b=>exact⟨fun e=>by omega,fun _=>⟨_,_,rfl⟩,fun e=>by omega⟩
 |tak a b=>exact⟨fun e=>by omega,fun _=>⟨_,_,rfl⟩,fun e=>by omega⟩
 |giv a b c=>exact⟨fun e=>by omega,fun e=>by omega,fun _=>⟨_,_,_,rfl⟩⟩
 |_=>exact⟨fun e=>by omega,fun e=>by omega,fun e=>by omega⟩
theorem z70{V:List ZC}{s:ByteArray}(h:0≤fx V s):∃p:ZC,(V.map ZC.o)[(fx V s).toNat]? = some p.o∧iH V s=p.fChan:=by
 obtain⟨p,h1,_,h3⟩:=zz9 h
 exact⟨p,by rw[List.getElem?_map,h1];rfl,h3⟩
section
variable(F:List ZA)(hF:F.length≤1048576∧∀y∈F,ZA.Sm y)(i:Nat)(hi:i<F.length)
theorem kY(x:ZB)(c b:Bool)(V:List ZC)(hV:V.length≤16777216):evCW tab iP [.ptr (0,0) [] 0 0,x.x,B c] (wh F i V b) 1=some (.tup [],wh F i V (b||(jM V x != c))):=by
 have g:=p6 V x (by omega)
 have hl0:Low 1 (wh F i V b):=(Low.emp 0).upd (by omega) _
 have h3:=hl0.drop (Nat.le_refl 1)
 have hl1:Low 1 (wh F i V true):=(Low.emp 0).upd (by omega) _
 have h4:=hl1.drop (Nat.le_refl 1)
 rw[aP Yp _ _ _ rfl,I3]
 generalize jM V x=z at *
 simp only[wh,uW] at h3 h4 ⊢
 cases z<;>cases c<;>simp -implicitDefEqProofs (disch:=first|assumption|omega) only[go_sem,simprocAttr,g,h3,h4,Cf,Cm,Cg,B1,bne,Bool.not_true,Bool.not_false,Bool.or_false,Bool.or_true,ZC.fzs,ZB.r_def]
theorem zzh(x:ZB)(f:ZA)(hp:f.fParams.length≤1048576)(hks:x.ks.length≤1048576)(V:List ZC)(hV:V.length≤16777216):∀(Bk:List ZB) (Bp:List ZC) (j:Nat) (b:Bool),x.ks.drop j=Bk→f.fParams.drop j=Bp →
  loopW tab [0,3,4,5] kQ {env:=upd (upd (upd (upd emp 5 (some (I (j:Int)))) 4 (some (.ptr (1,0) [] 0 0))) 3 (some (nvp x))) 0 (some (.ptr (0,0) [] 0 0)),heap:=upd (wh F i V b) (1,0) (some (fbx f)),fr:=1,next:=1} =
   some (.ext 0,{env:=emp,heap:=wh F i V (b||Ct V Bk Bp),fr:=1,next:=0})
 |[],Bp,j,b,hd,hd2=>by
  have h1:=b9 (j:=(j:Int)) (by simpa using hd) (by omega)
  unfold loopW
  conv=>lhs;arg 1;unfold kQ
  rw[show Ct V [] Bp=false by cases Bp<;>rfl,Bool.or_false]
  simp -implicitDefEqProofs (disch:=first|assumption|omega) only[go_sem,simprocAttr,h1,wh,uW,nvp,fbx]
 |y::Bk,[],j,b,hd,hd2=>by
  have h1:=bK (j:=(j:Int)) (by simpa using hd) (by omega)
  have h5:=h1.2.1
  have h6:=b9 (j:=(j:Int)) (by simpa using hd2) (by omega)
  unfold loopW
  conv=>lhs;arg 1;unfold kQ
  rw[show Ct V (y::Bk) []=false from rfl,Bool.or_false]
  simp -implicitDefEqProofs (disch:=first|assumption|omega) only[go_sem,simprocAttr,h5,h6,wh,uW,nvp,fbx]
 |y::Bk,p::Bp,j,b,hd,hd2=>by
  have h1:=bK (j:=(j:Int)) (by simpa using hd) (by omega)
  have h5:=h1.2.1
  have h2:=eK ZB.r h1.1
  rw[ZB.r_def,Int.toNat_natCast] at h2
  have h6:=bK (j:=(j:Int)) (by simpa using hd2) (by omega)
  have h7:=h6.2.1
  have h8:=eK ZC.r h6.1
  simp only[ZC.r,Int.toNat_natCast] at h8
  have g0:=kY F i y p.fChan b V hV
  have ih:=zzh x f hp hks V hV Bk Bp (j+1) (b||(jM V y != p.fChan)) (by have:=h1.2.2.1;simpa using this) (by have:=h6.2.2.1;simpa using this)
  rw[show(((j+1:Nat)):Int)=(j:Int)+1 by omega] at ih
  rw[Ct,←Bool.or_assoc,←ih]
  conv=>lhs;unfold loopW;arg 1;unfold kQ
  simp only[wh,uW] at g0 ⊢
  simp -implicitDefEqProofs (disch:=first|assumption|omega) only[go_sem,simprocAttr,h5,h2,h7,h8,g0,ZC.fzs,ZC.noR,ZB.fzs,ZB.fzr]
include hF in
theorem zZV(x:ZB)(hx:x.ks.length≤1048576)(V:List ZC)(hV:V.length≤16777216)(b:Bool)(hk:0≤fK F x.tx):evCW tab G8 [.ptr (0,0) [] 0 0,x.x] (wh F i V b) 1=some (.tup [],wh F i V (b||Ct V x.ks (x5 F (fK F x.tx)))):=by
 have hF1:=hF.1
 obtain⟨f,k1,k2,_,k4⟩:=zwj hk
 simp only[ZA.r] at k2
 have hpl:=(hF.2 f (List.mem_of_getElem? k1)).ps.1
 have g1:=wH F x.tx (by omega)
 have lt:fK F x.tx<(F.length:Int):=by have:=zxX F x.tx;omega
 have h0:=zzh F i x f hpl hx V hV x.ks f.fParams 0 b rfl rfl
 have hl0:∀b,Low 1 (wh F i V b):=fun b=>(Low.emp 0).upd (by omega) _
 have h3:=fun b=>(hl0 b).drop (Nat.le_refl 1)
 rw[k4]
 rw[aP Yr _ _ _ rfl,Ip]
 generalize fK F x.tx=K at *
 simp only[wh,uW,nvp,fbx,cK] at h0 h3 ⊢
 simp -implicitDefEqProofs (disch:=first|assumption|omega) only[go_sem,simprocAttr,g1,k2,hk,lt,h0,h3,ZC.fzs,ZB.r_def]
abbrev z42(y:ZB):Prop:=∀(V:List ZC) (b:Bool),y.sn (cok F i) V=false→(V.length:Int)+y.sz+1≤16777216→evCW tab t8 [.ptr (0,0) [] 0 0,y.x] (wh F i V b) 1=some (.tup [],wh F i (y.le V) (b||y.ty F V))
theorem Sg(x:ZB)(hks:x.ks.length≤1048576)(H:∀y∈x.ks,z42 F i y):∀(Bl:List ZB) (j:Nat) (V:List ZC) (b:Bool),x.ks.drop j=Bl→(V.length:Int)+bH Bl+Bl.length≤16777216→sns (cok F i) x.op x.tx j Bl V=false →
  loopW tab [0,3,4] mZ {env:=upd (upd (upd emp 4 (some (I (j:Int)))) 3 (some (nvp x))) 0 (some (.ptr (0,0) [] 0 0)),heap:=wh F i V b,fr:=1,next:=0} =
   some (.ext 0,{env:=upd (upd emp 3 (some (nvp x))) 0 (some (.ptr (0,0) [] 0 0)),heap:=wh F i (les Bl V) (b||tys F Bl V),fr:=1,next:=0})
 |[],j,V,b,hd,hs,hn=>by
  have h1:=b9 (j:=(j:Int)) (by simpa using hd) (by omega)
  unfold loopW
  conv=>lhs;arg 1;unfold mZ
  rw[les,tys,Bool.or_false]
  simp -implicitDefEqProofs (disch:=first|assumption|omega) only[go_sem,simprocAttr,h1,wh,uW,nvp]
 |y::Bl,j,V,b,hd,hs,hn=>by
  have h1:=bK (j:=(j:Int)) (by simpa using hd) (by omega)
  have h5:=h1.2.1
  have h2:=eK ZB.r h1.1
  rw[ZB.r_def,Int.toNat_natCast] at h2
  rw[dH,lc] at hs
  have hnn:=dC Bl
  have gl:=Jo y V
  have hn2:=Uv hn
  have g0:=H y h1.2.2.2.1 V b hn2.1 (by omega)
  have ih:=Sg x hks H Bl (j+1) (y.le V) (b||y.ty F V) (by have:=h1.2.2.1;simpa using this) (by omega) hn2.2
  rw[show(((j+1:Nat)):Int)=(j:Int)+1 by omega] at ih
  rw[les,tys,←Bool.or_assoc,←ih]
  conv=>lhs;unfold loopW;arg 1;unfold mZ
  simp only[wh,uW] at g0 ⊢
  simp -implicitDefEqProofs (disch:=first|assumption|omega) only[go_sem,simprocAttr,h5,h2,g0,ZC.fzs,ZC.noR,ZB.fzs,ZB.fzr]
theorem Lj(n:Int):call tab nZ [I n]=some (B (decide (19≤n∧n≤31))):=by
 have h0:=bR n 19 31
 rw[aJ Df _ rfl,sT]
 rw[show inB n 19 31=decide (19≤n∧n≤31) from by simp[inB]] at h0
 simp -implicitDefEqProofs (disch:=first|assumption|omega) only[go_sem,simprocAttr,h0]
theorem Tz(x:ZB)(hks:x.ks.length≤1048576)(V:List ZC)(hV:V.length≤16777216):∀(Bl:List ZB) (j:Nat) (b:Bool),x.ks.drop j=Bl →
  loopW tab [0,3,6] jP {env:=upd (upd (upd emp 6 (some (I (j:Int)))) 3 (some (nvp x))) 0 (some (.ptr (0,0) [] 0 0)),heap:=wh F i V b,fr:=1,next:=0} =
   some (.ext 3,{env:=emp,heap:=wh F i V (b||Bl.any fun k=>zKT k&&(jM V k != false)),fr:=1,next:=0})
 |[],j,b,hd=>by
  have h1:=b9 (j:=(j:Int)) (by simpa using hd) (by omega)
  unfold loopW
  conv=>lhs;arg 1;unfold jP
  rw[List.any_nil,Bool.or_false]
  simp -implicitDefEqProofs (disch:=first|assumption|omega) only[go_sem,simprocAttr,h1,wh,uW,nvp]
 |y::Bl,j,b,hd=>by
  have h1:=bK (j:=(j:Int)) (by simpa using hd) (by omega)
  have h5:=h1.2.1
  have h2:=eK ZB.r h1.1
  rw[ZB.r_def,Int.toNat_natCast] at h2
  have ie:=Lj y.op
  rw[show decide (19≤y.op∧y.op≤31)=zKT y from rfl] at ie
  have g0:=kY F i y false b V hV
  have ih:=fun b=>Tz x hks V hV Bl (j+1) b (by have:=h1.2.2.1;simpa using this)
  rw[show(((j+1:Nat)):Int)=(j:Int)+1 by omega] at ih
  rw[List.any_cons]
  cases hE:zKT y<;>rw[hE] at ie
  ·rw[bfa,Bool.false_or,←ih]
   conv=>lhs;unfold loopW;arg 1;unfold jP
   simp only[wh,uW] at g0 ⊢
   simp -implicitDefEqProofs (disch:=first|assumption|omega) only[go_sem,simprocAttr,h5,h2,ie]
  ·rw[bta,←Bool.or_assoc,←ih]
   conv=>lhs;unfold loopW;arg 1;unfold jP
   simp only[wh,uW] at g0 ⊢
   simp -implicitDefEqProofs (disch:=first|assumption|omega) only[go_sem,simprocAttr,h5,h2,g0,ie,ZC.fzs,ZC.noR,ZB.fzs,ZB.fzr]
include hF in
theorem zwN(x:ZB)(hx:x.Sm)(hs:∃k,Sh k x):z42 F i x:=by
 refine ZB.ind (P:=fun x=>x.Sm→(∃k,Sh k x)→z42 F i x) (fun op tx v ks ih hx hs=> ?_) x hx hs
 intro V b hsn hV
 have hk:=hx.ks
 simp only[ZB.ks_mk] at hk
 have hk1:=hk.1
 rw[ZB.sz_eq] at hV
 have hnn:=dC ks
 obtain⟨kk,hs⟩:=hs
 have hkid:=hs.kids
 have hkid2:=hs.kids2
 rw[H8,Bool.or_eq_false_iff,Bool.or_eq_false_iff] at hsn
 obtain⟨⟨hns,hnm⟩,hcl⟩:=hsn
 have h0:=Sg F i (.mk op tx v ks) hk.1 (fun y hy=>ih y hy (hk.2 y hy) (hkid.1 y hy)) ks 0 V b rfl (by omega) hns
 have hlen:=R4 ks V
 have g2:=gP (les ks V) tx (by omega)
 have hb:=zqg (les ks V) tx
 have g3:=z70 (V:=les ks V) (s:=tx)
 have lb:(les ks V).length≤16777216:=by omega
 have hl1:=Tz F i (.mk op tx v ks) hk.1 (les ks V) lb ks 0
 have ga:=fun b h=>zZV F hF i (.mk op tx v ks) hk.1 (les ks V) lb b h
 rw[uG,z4f,←Bool.or_assoc]
 simp only[ZB.x,ZB.op_mk,ZB.tx_mk,ZB.v_mk,ZB.ks_mk,nvp,wh,uW,cK] at h0 hl1 ga ⊢
 generalize (b||tys F ks V)=b1 at h0 ⊢
 unfold Al
 rw[aP Vk _ _ _ rfl,Gt]
 by_cases c2:op=2
 ·obtain⟨a,rfl,ha⟩:=hkid.2 c2
  subst c2
  have g4:=p6 (les [a] V) a (by omega)
  generalize les [a] V=V1 at *
  rw[if_pos rfl,if_pos rfl,Bool.or_false]
  simp only[mc,mn,ZB.r_def,lc,ln,Nat.zero_add,List.map_append,ZC.o] at h0 ⊢
  simp -implicitDefEqProofs (disch:=first|assumption|omega|(simp only[aE,aQ,aD,i64,sa,aC,lm,la,lc,ln];omega)) only[go_sem,simprocAttr,h0,g2,g4,ZC.fzs,ZB.r_def,ZC.o]
 rw[if_neg c2,if_neg c2]
 have n2:(op=2)=False:=eq_false c2
 by_cases c3:op=3
 ·subst c3
  obtain⟨a,rfl⟩:=hkid2.1 (.inl rfl)
  rw[show pE 3=true from rfl,bta,decide_eq_false_iff_not] at hnm
  have nf:0≤fx (les [a] V) tx:=by omega
  have lf:=zqc nf
  obtain⟨p,k1,k2⟩:=g3 nf
  have g5:=kY F i a p.fChan b1 (les [a] V) lb
  generalize les [a] V=V1 at *
  simp only[ZC.o] at k1
  rw[if_pos rfl,k2]
  simp only[mc,mn,ZB.r_def,lc,ln,Nat.zero_add,wh,uW] at h0 g5 ⊢
  simp -implicitDefEqProofs (disch:=first|assumption|omega) only[go_sem,simprocAttr,h0,g2,g5,k1,nf,ZC.fzs,ZC.noR,ZB.fzs,ZB.fzr,ZB.r_def]
 rw[if_neg c3]
 have n3:(op=3)=False:=eq_false c3
 by_cases c8:op=8∨op=26
 ·rw[if_pos c8]
  have hc:cok F i op tx ks.length=true:=by
   rw[show Am op=true from by rcases c8 with rfl|rfl<;>rfl,bta] at hcl
   simpa using hcl
  have nk:0≤fK F tx:=by
   unfold cok at hc
   simp only[bE,decide_eq_true_eq] at hc
   exact hc.1.1
  have ga':=ga b1 nk
  generalize les ks V=V1 at *
  rcases c8 with rfl|rfl<;>simp -implicitDefEqProofs (disch:=first|assumption|omega) only[go_sem,simprocAttr,h0,g2,ga',ZC.fzs,ZC.noR,ZB.fzs,ZB.fzr]
 rw[if_neg c8]
 have n8:(op=8)=False:=eq_false (by omega)
 have n26:(op=26)=False:=eq_false (by omega)
 by_cases c9:op=9
 ·subst c9
  obtain⟨a,q,rfl⟩:=hkid2.2.1 (.inl rfl)
  have g5:=kY F i a true b1 (les [a,q] V) lb
  have g6:=kY F i q false (b1||(jM (les [a,q] V) a != true)) (les [a,q] V) lb
  generalize les [a,q] V=V1 at *
  rw[if_pos (.inl rfl),←Bool.or_assoc]
  simp only[mc,mn,ZB.r_def,lc,ln,Nat.zero_add,Nat.reduceAdd,wh,uW] at h0 g5 g6 ⊢
  simp -implicitDefEqProofs (disch:=first|assumption|omega) only[go_sem,simprocAttr,h0,g2,g5,g6,ZC.fzs,ZC.noR,ZB.fzs,ZB.fzr,ZB.r_def]
 by_cases c33:op=33
 ·subst c33
  obtain⟨a,q,z,rfl⟩:=hkid2.2.2 rfl
  have g5:=kY F i a true b1 (les [a,q,z] V) lb
  have g6:=kY F i q false (b1||(jM (les [a,q,z] V) a != true)) (les [a,q,z] V) lb
  generalize les [a,q,z] V=V1 at *
  rw[if_pos (.inr rfl),←Bool.or_assoc]
  simp only[mc,mn,ZB.r_def,lc,ln,Nat.zero_add,Nat.reduceAdd,wh,uW] at h0 g5 g6 ⊢
  simp -implicitDefEqProofs (disch:=first|assumption|omega) only[go_sem,simprocAttr,h0,g2,g5,g6,ZC.fzs,ZC.noR,ZB.fzs,ZB.fzr,ZB.r_def]
 rw[if_neg (by omega)]
 have n9:(op=9)=False:=eq_false c9
 have n33:(op=33)=False:=eq_false c33
 by_cases c10:op=10
 ·subst c10
  obtain⟨a,rfl⟩:=hkid2.1 (.inr (.inl rfl))
  rw[show pE 10=true from rfl,bta,decide_eq_false_iff_not] at hnm
  have nf:0≤fx (les [a] V) tx:=by omega
  have lf:=zqc nf
  obtain⟨p,k1,k2⟩:=g3 nf
  have g5:=kY F i a true b1 (les [a] V) lb
  generalize les [a] V=V1 at *
  simp only[ZC.o] at k1
  rw[if_pos (.inl rfl),k2]
  show _=some (_,upd emp (0,0) (some (D.s 5 [[_,_,_,_,D.v (.bool (b1||((jM V1 a != true)||p.fChan)))]])))
  rw[←Bool.or_assoc]
  simp only[mc,mn,ZB.r_def,lc,ln,Nat.zero_add,wh,uW] at h0 g5 ⊢
  generalize (b1||(jM V1 a != true))=b2 at *
  cases b2
  ·rw[Bool.false_or]
   simp -implicitDefEqProofs (disch:=first|assumption|omega) only[go_sem,simprocAttr,h0,g2,g5,k1,nf,ZC.fzs,ZC.noR,ZB.fzs,ZB.fzr,ZB.r_def]
  ·rw[Bool.true_or]
   simp -implicitDefEqProofs (disch:=first|assumption|omega) only[go_sem,simprocAttr,h0,g2,g5,k1,nf,ZC.fzs,ZC.noR,ZB.fzs,ZB.fzr,ZB.r_def]
 by_cases c32:op=32
 ·subst c32
  obtain⟨a,q,rfl⟩:=hkid2.2.1 (.inr rfl)
  rw[show pE 32=true from rfl,bta,decide_eq_false_iff_not] at hnm
  have nf:0≤fx (les [a,q] V) tx:=by omega
  have lf:=zqc nf
  obtain⟨p,k1,k2⟩:=g3 nf
  have g5:=kY F i a true b1 (les [a,q] V) lb
  generalize les [a,q] V=V1 at *
  simp only[ZC.o] at k1
  rw[if_pos (.inr rfl),k2]
  show _=some (_,upd emp (0,0) (some (D.s 5 [[_,_,_,_,D.v (.bool (b1||((jM V1 a != true)||p.fChan)))]])))
  rw[←Bool.or_assoc]
  simp only[mc,mn,ZB.r_def,lc,ln,Nat.zero_add,Nat.reduceAdd,wh,uW] at h0 g5 ⊢
  generalize (b1||(jM V1 a != true))=b2 at *
  cases b2
  ·rw[Bool.false_or]
   simp -implicitDefEqProofs (disch:=first|assumption|omega) only[go_sem,simprocAttr,h0,g2,g5,k1,nf,ZC.fzs,ZC.noR,ZB.fzs,ZB.fzr,ZB.r_def]
  ·rw[Bool.true_or]
   simp -implicitDefEqProofs (disch:=first|assumption|omega) only[go_sem,simprocAttr,h0,g2,g5,k1,nf,ZC.fzs,ZC.noR,ZB.fzs,ZB.fzr,ZB.r_def]
 rw[if_neg (by omega)]
 have n10:(op=10)=False:=eq_false c10
 have n32:(op=32)=False:=eq_false c32
 by_cases c11:op=11
 ·subst c11
  obtain⟨a,rfl⟩:=hkid2.1 (.inr (.inr rfl))
  have g5:=kY F i a true b1 (les [a] V) lb
  generalize les [a] V=V1 at *
  rw[if_pos rfl]
  simp only[mc,mn,ZB.r_def,lc,ln,Nat.zero_add,wh,uW] at h0 g5 ⊢
  simp -implicitDefEqProofs (disch:=first|assumption|omega) only[go_sem,simprocAttr,h0,g2,g5,ZC.fzs,ZC.noR,ZB.fzs,ZB.fzr,ZB.r_def]
 rw[if_neg c11]
 have n11:(op=11)=False:=eq_false c11
 have hl:=hl1 b1 rfl
 generalize les ks V=V1 at *
 simp -implicitDefEqProofs (disch:=first|assumption|omega) only[go_sem,simprocAttr,h0,g2,hl,n2,n3,n8,n26,n9,n33,n10,n32,n11,ZC.fzs]
end
set_option maxRecDepth 8000
set_option maxHeartbeats 16000000
theorem Low.set{k:Nat}{h:Heap}(hl:Low k h){id:Id}(hk:id.1<k)(d:Option D):Low k (Ev.upd h id d):=fun j hj=>by
 unfold Ev.upd
 rw[if_neg (by rintro rfl;omega)]
 exact hl j hj
theorem fn_cases(low:Bool)(f:ZA):(low=false∧(f.fBody.has fun y=>Qn y.op)=tM low f)∨(low=true∧(f.fBody.has fun y=>wO y.op)=true∧tM low f=true)∨(low=true∧(f.fBody.has fun y=>wO y.op)=false∧f.fParams.any ZC.fChan=tM low f):=by
 unfold tM
 cases low
 ·exact .inl ⟨rfl,by simp⟩
 ·right
  cases f.fBody.has fun y=>wO y.op
  ·exact .inr ⟨rfl,rfl,by simp⟩
  ·exact .inl ⟨rfl,rfl,by simp⟩
theorem zv6(W:List ZC)(f:ZA):(8<(W.length:Int)∧H4 W f=true)∨(¬8<(W.length:Int)∧4<(f.fParams.length:Int)∧H4 W f=true)∨(¬8<(W.length:Int)∧¬4<(f.fParams.length:Int)∧f.fBody.crowd=H4 W f):=by
 unfold H4
 by_cases h1:8<(W.length:Int)
 ·exact .inl ⟨h1,by simp[h1]⟩
 ·by_cases h2:4<(f.fParams.length:Int)
  ·exact .inr (.inl ⟨h1,h2,by simp[h2]⟩)
  ·exact .inr (.inr ⟨h1,h2,by rw[decide_eq_false h1,decide_eq_false h2];rfl⟩)
theorem zk6(F:List ZA)(hF:F.length≤1048576∧∀y∈F,ZA.Sm y)(i:Nat)(hi:i<F.length)(W:List ZC)(hW:W.length≤16777216)(f:ZA)(hf:F[i]? = some f)(hz:f.sz≤1048576)(low:Bool):evCW tab lH [.ptr (0,0) [] 0 0,B low] (ch F i W) 1=some (I (fnI F i W low f),ch F i W):=by
 have hfm:=hF.2 f (List.mem_of_getElem? hf)
 have hp:=hfm.ps.1
 have hF1:=hF.1
 have hr:(F.map ZA.r)[i]? = some f.r:=by rw[List.getElem?_map,hf];rfl
 have hbz:(gQ f.fParams).length+f.fBody.sz+1≤1048577:=by
  have h1:=(ZC.szs_nn f.fParams).2
  have h2:=f.fBody.sz_nn
  have h3:0≤(f.fName.size:Int):=by omega
  unfold ZA.sz at hz
  rw[gQ,lm]
  omega
 simp only[ZA.r] at hr
 have h0:=Pl F i W f low hp f.fParams [] 0 rfl (by omega) rfl
 rw[List.nil_append] at h0
 have h1:=fun tw=>Pj F i W hW f low (gQ f.fParams) W tw 0 rfl (by omega)
 have g1:=N5 F hF.1 i W f.fName i (by omega)
 have hl0:Low 1 (ch F i W):=(Low.emp 0).upd (by omega) _
 have hl2:Low 2 (fh F i W (gQ f.fParams) f):=((hl0.mono (show 1≤2 by omega)).set (show 1<2 by omega) _).set (show 1<2 by omega) _
 have h3:=hl0.drop (Nat.le_refl 1)
 have gl:=B5 (g:=Cn) (p:=fun y=>Qn y.op) (fun x _=>Zd x) f.fBody hfm.bd _ 2 hl2
 have gh:=B5 (g:=xH) (p:=fun y=>wO y.op) (fun x _=>Vi x) f.fBody hfm.bd _ 2 hl2
 have gc:=B5 (g:=tZ) (p:=fun y=>nI y.op y.ks) (fun x hx=>Qk x hx) f.fBody hfm.bd _ 2 hl2
 rw[←zJy] at gc
 have ga:=lY fM ZC.fChan _ 2 (hl2.drop (Nat.le_refl 2)) (hl2.drop (show 2≤2+1 by omega)) f.fParams (by omega) (fun x _=>Y7 x _ _ (hl2.drop (show 2≤4 by omega)))
 obtain⟨N',gm,_⟩:=zkR F hF i hi W f.fBody hfm.bd (gQ f.fParams) hbz
 have gt:=zkQ F hF i hi W hW f.fBody hfm.bd
 unfold zQR at gt
 have hS:=fn_cases low f
 have hM:=zv6 W f
 unfold fnI
 unfold twI
 generalize tM low f=S at *
 generalize H4 W f=M at *
 generalize (f.fBody.nm (cok F i) (gQ f.fParams)).isNone=NM at *
 generalize f.fBody.mt F i W=MT at *
 generalize fKt F f.fName i=K at *
 rw[aP zK _ _ _ rfl,oU]
 have n0:Ad []=[]:=rfl
 simp only[mh,fh,ch,Hw,Tg,fbx,fe,fg,n0,ZB.x] at h0 h1 g1 gl gh gc ga gm gt h3 ⊢
 have hil:(i:Int)<F.length:=by omega
 have hcs:(0:Int)≤i:=by omega
 by_cases hK:0≤K
 ·have h1':=h1 true
  rw[decide_eq_true hK,Bool.true_or,if_pos rfl]
  rw[Bool.true_or] at h1'
  rcases hS with⟨rfl,v1⟩|⟨rfl,v1,v2⟩|⟨rfl,v1,v2⟩
  ·rw[v1] at gl
   simp -implicitDefEqProofs (disch:=first|assumption|omega) only[go_sem,simprocAttr,hr,h0,h1',g1,gl,gh,ga,eq_true hK,ZC.fzs,ZB.fzs,ZB.fzr,ZC.noR,cB,cF,ZA.fzr,hil,hcs,h3]
  ·rw[v1] at gh
   simp -implicitDefEqProofs (disch:=first|assumption|omega) only[go_sem,simprocAttr,hr,h0,h1',g1,gl,gh,ga,eq_true hK,ZC.fzs,ZB.fzs,ZB.fzr,ZC.noR,cB,cF,ZA.fzr,hil,hcs,h3]
  ·rw[v1] at gh
   rw[v2] at ga
   simp -implicitDefEqProofs (disch:=first|assumption|omega) only[go_sem,simprocAttr,hr,h0,h1',g1,gl,gh,ga,eq_true hK,ZC.fzs,ZB.fzs,ZB.fzr,ZC.noR,cB,cF,ZA.fzr,hil,hcs,h3]
 have h1':=h1 false
 rw[decide_eq_false hK,Bool.false_or]
 rw[Bool.false_or] at h1'
 rcases hS with⟨rfl,v1⟩|⟨rfl,v1,rfl⟩|⟨rfl,v1,v2⟩
 ·rw[v1] at gl
  cases ht:twL W 0 W<;>rw[ht] at h1'
  ·rw[if_neg (by decide)]
   rcases hM with⟨m1,rfl⟩|⟨m1,m2,rfl⟩|⟨m1,m2,m3⟩
   ·rw[if_pos rfl]
    simp -implicitDefEqProofs (disch:=first|assumption|omega) only[go_sem,simprocAttr,hr,h0,h1',g1,gl,gh,ga,gc,gm,gt,hK,ZC.fzs,ZB.fzs,ZB.fzr,ZC.noR,cB,cF,ZA.fzr,hil,hcs,h3,m1]
   ·rw[if_pos rfl]
    simp -implicitDefEqProofs (disch:=first|assumption|omega) only[go_sem,simprocAttr,hr,h0,h1',g1,gl,gh,ga,gc,gm,gt,hK,ZC.fzs,ZB.fzs,ZB.fzr,ZC.noR,cB,cF,ZA.fzr,hil,hcs,h3,m1,m2]
   ·rw[m3] at gc
    cases M
    ·rw[if_neg (by decide)]
     cases NM
     ·rw[if_neg (by decide)]
      cases MT
      ·rw[if_neg (by decide)]
       cases S
       ·rw[if_neg (by decide)]
        simp -implicitDefEqProofs (disch:=first|assumption|omega) only[go_sem,simprocAttr,hr,h0,h1',g1,gl,gh,ga,gc,gm,gt,hK,ZC.fzs,ZB.fzs,ZB.fzr,ZC.noR,cB,cF,ZA.fzr,hil,hcs,h3,m1,m2]
       ·rw[if_pos rfl]
        simp -implicitDefEqProofs (disch:=first|assumption|omega) only[go_sem,simprocAttr,hr,h0,h1',g1,gl,gh,ga,gc,gm,gt,hK,ZC.fzs,ZB.fzs,ZB.fzr,ZC.noR,cB,cF,ZA.fzr,hil,hcs,h3,m1,m2]
      ·rw[if_pos rfl]
       simp -implicitDefEqProofs (disch:=first|assumption|omega) only[go_sem,simprocAttr,hr,h0,h1',g1,gl,gh,ga,gc,gm,gt,hK,ZC.fzs,ZB.fzs,ZB.fzr,ZC.noR,cB,cF,ZA.fzr,hil,hcs,h3,m1,m2]
     ·rw[if_pos rfl]
      simp -implicitDefEqProofs (disch:=first|assumption|omega) only[go_sem,simprocAttr,hr,h0,h1',g1,gl,gh,ga,gc,gm,gt,hK,ZC.fzs,ZB.fzs,ZB.fzr,ZC.noR,cB,cF,ZA.fzr,hil,hcs,h3,m1,m2]
    ·rw[if_pos rfl]
     simp -implicitDefEqProofs (disch:=first|assumption|omega) only[go_sem,simprocAttr,hr,h0,h1',g1,gl,gh,ga,gc,gm,gt,hK,ZC.fzs,ZB.fzs,ZB.fzr,ZC.noR,cB,cF,ZA.fzr,hil,hcs,h3,m1,m2]
  ·rw[if_pos rfl]
   simp -implicitDefEqProofs (disch:=first|assumption|omega) only[go_sem,simprocAttr,hr,h0,h1',g1,gl,gh,ga,gc,gm,gt,hK,ZC.fzs,ZB.fzs,ZB.fzr,ZC.noR,cB,cF,ZA.fzr,hil,hcs,h3]
 ·rw[v1] at gh
  cases ht:twL W 0 W<;>rw[ht] at h1'
  ·rw[if_neg (by decide)]
   rcases hM with⟨m1,rfl⟩|⟨m1,m2,rfl⟩|⟨m1,m2,m3⟩
   ·rw[if_pos rfl]
    simp -implicitDefEqProofs (disch:=first|assumption|omega) only[go_sem,simprocAttr,hr,h0,h1',g1,gl,gh,ga,gc,gm,gt,hK,ZC.fzs,ZB.fzs,ZB.fzr,ZC.noR,cB,cF,ZA.fzr,hil,hcs,h3,m1]
   ·rw[if_pos rfl]
    simp -implicitDefEqProofs (disch:=first|assumption|omega) only[go_sem,simprocAttr,hr,h0,h1',g1,gl,gh,ga,gc,gm,gt,hK,ZC.fzs,ZB.fzs,ZB.fzr,ZC.noR,cB,cF,ZA.fzr,hil,hcs,h3,m1,m2]
   ·rw[m3] at gc
    cases M
    ·rw[if_neg (by decide)]
     cases NM
     ·rw[if_neg (by decide)]
      cases MT
      ·rw[if_neg (by decide)]
       rw[if_pos rfl]
       simp -implicitDefEqProofs (disch:=first|assumption|omega) only[go_sem,simprocAttr,hr,h0,h1',g1,gl,gh,ga,gc,gm,gt,hK,ZC.fzs,ZB.fzs,ZB.fzr,ZC.noR,cB,cF,ZA.fzr,hil,hcs,h3,m1,m2]
      ·rw[if_pos rfl]
       simp -implicitDefEqProofs (disch:=first|assumption|omega) only[go_sem,simprocAttr,hr,h0,h1',g1,gl,gh,ga,gc,gm,gt,hK,ZC.fzs,ZB.fzs,ZB.fzr,ZC.noR,cB,cF,ZA.fzr,hil,hcs,h3,m1,m2]
     ·rw[if_pos rfl]
      simp -implicitDefEqProofs (disch:=first|assumption|omega) only[go_sem,simprocAttr,hr,h0,h1',g1,gl,gh,ga,gc,gm,gt,hK,ZC.fzs,ZB.fzs,ZB.fzr,ZC.noR,cB,cF,ZA.fzr,hil,hcs,h3,m1,m2]
    ·rw[if_pos rfl]
     simp -implicitDefEqProofs (disch:=first|assumption|omega) only[go_sem,simprocAttr,hr,h0,h1',g1,gl,gh,ga,gc,gm,gt,hK,ZC.fzs,ZB.fzs,ZB.fzr,ZC.noR,cB,cF,ZA.fzr,hil,hcs,h3,m1,m2]
  ·rw[if_pos rfl]
   simp -implicitDefEqProofs (disch:=first|assumption|omega) only[go_sem,simprocAttr,hr,h0,h1',g1,gl,gh,ga,gc,gm,gt,hK,ZC.fzs,ZB.fzs,ZB.fzr,ZC.noR,cB,cF,ZA.fzr,hil,hcs,h3]
 ·rw[v1] at gh
  rw[v2] at ga
  cases ht:twL W 0 W<;>rw[ht] at h1'
  ·rw[if_neg (by decide)]
   rcases hM with⟨m1,rfl⟩|⟨m1,m2,rfl⟩|⟨m1,m2,m3⟩
   ·rw[if_pos rfl]
    simp -implicitDefEqProofs (disch:=first|assumption|omega) only[go_sem,simprocAttr,hr,h0,h1',g1,gl,gh,ga,gc,gm,gt,hK,ZC.fzs,ZB.fzs,ZB.fzr,ZC.noR,cB,cF,ZA.fzr,hil,hcs,h3,m1]
   ·rw[if_pos rfl]
    simp -implicitDefEqProofs (disch:=first|assumption|omega) only[go_sem,simprocAttr,hr,h0,h1',g1,gl,gh,ga,gc,gm,gt,hK,ZC.fzs,ZB.fzs,ZB.fzr,ZC.noR,cB,cF,ZA.fzr,hil,hcs,h3,m1,m2]
   ·rw[m3] at gc
    cases M
    ·rw[if_neg (by decide)]
     cases NM
     ·rw[if_neg (by decide)]
      cases MT
      ·rw[if_neg (by decide)]
       cases S
       ·rw[if_neg (by decide)]
        simp -implicitDefEqProofs (disch:=first|assumption|omega) only[go_sem,simprocAttr,hr,h0,h1',g1,gl,gh,ga,gc,gm,gt,hK,ZC.fzs,ZB.fzs,ZB.fzr,ZC.noR,cB,cF,ZA.fzr,hil,hcs,h3,m1,m2]
       ·rw[if_pos rfl]
        simp -implicitDefEqProofs (disch:=first|assumption|omega) only[go_sem,simprocAttr,hr,h0,h1',g1,gl,gh,ga,gc,gm,gt,hK,ZC.fzs,ZB.fzs,ZB.fzr,ZC.noR,cB,cF,ZA.fzr,hil,hcs,h3,m1,m2]
      ·rw[if_pos rfl]
       simp -implicitDefEqProofs (disch:=first|assumption|omega) only[go_sem,simprocAttr,hr,h0,h1',g1,gl,gh,ga,gc,gm,gt,hK,ZC.fzs,ZB.fzs,ZB.fzr,ZC.noR,cB,cF,ZA.fzr,hil,hcs,h3,m1,m2]
     ·rw[if_pos rfl]
      simp -implicitDefEqProofs (disch:=first|assumption|omega) only[go_sem,simprocAttr,hr,h0,h1',g1,gl,gh,ga,gc,gm,gt,hK,ZC.fzs,ZB.fzs,ZB.fzr,ZC.noR,cB,cF,ZA.fzr,hil,hcs,h3,m1,m2]
    ·rw[if_pos rfl]
     simp -implicitDefEqProofs (disch:=first|assumption|omega) only[go_sem,simprocAttr,hr,h0,h1',g1,gl,gh,ga,gc,gm,gt,hK,ZC.fzs,ZB.fzs,ZB.fzr,ZC.noR,cB,cF,ZA.fzr,hil,hcs,h3,m1,m2]
  ·rw[if_pos rfl]
   simp -implicitDefEqProofs (disch:=first|assumption|omega) only[go_sem,simprocAttr,hr,h0,h1',g1,gl,gh,ga,gc,gm,gt,hK,ZC.fzs,ZB.fzs,ZB.fzr,ZC.noR,cB,cF,ZA.fzr,hil,hcs,h3]
set_option maxRecDepth 8000
set_option maxHeartbeats 8000000
def Kd(ops:List Int)(op:Int):Bool:=ops.any fun o=>decide (op=o)
theorem zqk(x:ZB)(ops:List Int)(ho:ops.length≤1048576):∀(Bl:List Int) (j:Nat),ops.drop j=Bl →
  loopW tab [1,2,5] mG {env:=upd (upd (upd emp 5 (some (I (j:Int)))) 2 (some (nvp x))) 1 (some (.d (.r (bB ops)))),heap:=emp,fr:=0,next:=0} =
   if Kd Bl x.op=true then some (.ret,{env:=upd emp 4 (some (B true)),heap:=emp,fr:=0,next:=0}) else some (.ext 0,{env:=upd (upd emp 2 (some (nvp x))) 1 (some (.d (.r (bB ops)))),heap:=emp,fr:=0,next:=0})
 |[],j,hd=>by
  have h1:=b9 (j:=(j:Int)) (by simpa using hd) (by omega)
  unfold loopW
  conv=>lhs;arg 1;unfold mG
  rw[show Kd [] x.op=false from rfl,if_neg (by decide)]
  simp -implicitDefEqProofs (disch:=first|assumption|omega) only[go_sem,simprocAttr,h1,nvp]
 |y::Bl,j,hd=>by
  have h1:=bK (j:=(j:Int)) (by simpa using hd) (by omega)
  have h5:=h1.2.1
  have h2:=eK (fun n=>[DI n]) h1.1
  rw[Int.toNat_natCast] at h2
  have ih:=zqk x ops ho Bl (j+1) (by have:=h1.2.2.1;simpa using this)
  rw[show(((j+1:Nat)):Int)=(j:Int)+1 by omega] at ih
  rw[show Kd (y::Bl) x.op=(decide (x.op=y)||Kd Bl x.op) from rfl]
  have h2':(bB ops)[j]? = some [DI y]:=h2
  by_cases c:x.op=y
  ·rw[decide_eq_true c,Bool.true_or,if_pos rfl]
   conv=>lhs;unfold loopW;arg 1;unfold mG
   simp -implicitDefEqProofs (disch:=first|assumption|omega) only[go_sem,simprocAttr,h5,h2',nvp,eq_true c]
  ·rw[decide_eq_false c,Bool.false_or,←ih]
   conv=>lhs;unfold loopW;arg 1;unfold mG
   simp -implicitDefEqProofs (disch:=first|assumption|omega) only[go_sem,simprocAttr,h5,h2',nvp,c]
abbrev zzf(ops:List Int)(y:ZB):Prop:=call tab vC [y.x,.d (.r (bB ops))]=some (B (y.has fun z=>Kd ops z.op))
theorem zvs(x:ZB)(ops:List Int)(hks:x.ks.length≤1048576)(H:∀y∈x.ks,zzf ops y):∀(Bl:List ZB) (j:Nat),x.ks.drop j=Bl →
  loopW tab [1,2,6] mL {env:=upd (upd (upd emp 6 (some (I (j:Int)))) 2 (some (nvp x))) 1 (some (.d (.r (bB ops)))),heap:=emp,fr:=0,next:=0} =
   if (Bl.any fun y=>y.has fun z=>Kd ops z.op)=true then some (.ret,{env:=upd emp 4 (some (B true)),heap:=emp,fr:=0,next:=0}) else some (.ext 2,{env:=emp,heap:=emp,fr:=0,next:=0})
 |[],j,hd=>by
  have h1:=b9 (j:=(j:Int)) (by simpa using hd) (by omega)
  unfold loopW
  conv=>lhs;arg 1;unfold mL
  rw[List.any_nil,if_neg (by decide)]
  simp -implicitDefEqProofs (disch:=first|assumption|omega) only[go_sem,simprocAttr,h1,nvp]
 |y::Bl,j,hd=>by
  have h1:=bK (j:=(j:Int)) (by simpa using hd) (by omega)
  have h5:=h1.2.1
  have h2:=eK ZB.r h1.1
  rw[ZB.r_def,Int.toNat_natCast] at h2
  have ih:=zvs x ops hks H Bl (j+1) (by have:=h1.2.2.1;simpa using this)
  rw[show(((j+1:Nat)):Int)=(j:Int)+1 by omega] at ih
  have g0:=H y h1.2.2.2.1
  unfold zzf at g0
  rw[List.any_cons]
  cases hy:(y.has fun z=>Kd ops z.op)<;>rw[hy] at g0
  ·rw[Bool.false_or,←ih]
   conv=>lhs;unfold loopW;arg 1;unfold mL
   simp -implicitDefEqProofs (disch:=first|assumption|omega) only[go_sem,simprocAttr,h5,h2,nvp,g0]
  ·rw[Bool.true_or,if_pos rfl]
   conv=>lhs;unfold loopW;arg 1;unfold mL
   simp -implicitDefEqProofs (disch:=first|assumption|omega) only[go_sem,simprocAttr,h5,h2,nvp,g0]
theorem Ih(x:ZB)(hx:x.Sm)(ops:List Int)(ho:ops.length≤1048576):zzf ops x:=by
 refine ZB.ind (P:=fun x=>x.Sm→zzf ops x) (fun op tx v ks ih hx=> ?_) x hx
 have hk:=hx.ks
 simp only[ZB.ks_mk] at hk
 have h0:=zqk (.mk op tx v ks) ops ho ops 0 rfl
 have h1:=zvs (.mk op tx v ks) ops hk.1 (fun y hy=>ih y hy (hk.2 y hy)) ks 0 rfl
 unfold zzf
 rw[zyO]
 simp only[ZB.x,ZB.op_mk,ZB.tx_mk,ZB.v_mk,ZB.ks_mk,nvp,cK] at h0 h1 ⊢
 rw[aJ zja _ rfl,K6]
 cases c1:Kd ops op<;>simp only[c1] at h0
 ·rw[if_neg (by decide)] at h0
  simp only[Bool.false_or]
  cases c2:(ks.any fun y=>y.has fun z=>Kd ops z.op)<;>simp only[c2] at h1
  ·rw[if_neg (by decide)] at h1
   simp -implicitDefEqProofs (disch:=first|assumption|omega) only[go_sem,simprocAttr,h0,h1]
  ·try simp only[if_true] at h1
   simp -implicitDefEqProofs (disch:=first|assumption|omega) only[go_sem,simprocAttr,h0,h1]
 ·try simp only[if_true] at h0
  simp only[Bool.true_or]
  simp -implicitDefEqProofs (disch:=first|assumption|omega) only[go_sem,simprocAttr,h0]
abbrev Zs(y:ZB):Prop:=call tab pJ [y.x]=some (B y.sel)
theorem Lg(x:ZB)(hks:x.ks.length≤1048576)(H:∀y∈x.ks,Zs y):∀(Bl:List ZB) (j:Nat),x.ks.drop j=Bl →
  loopW tab [1,4] gT {env:=upd (upd emp 4 (some (I (j:Int)))) 1 (some (nvp x)),heap:=emp,fr:=0,next:=0} =
   if Bl.all ZB.sel=true then some (.ext 0,{env:=emp,heap:=emp,fr:=0,next:=0}) else some (.ret,{env:=upd emp 2 (some (B false)),heap:=emp,fr:=0,next:=0})
 |[],j,hd=>by
  have h1:=b9 (j:=(j:Int)) (by simpa using hd) (by omega)
  unfold loopW
  conv=>lhs;arg 1;unfold gT
  rw[List.all_nil,if_pos rfl]
  simp -implicitDefEqProofs (disch:=first|assumption|omega) only[go_sem,simprocAttr,h1,nvp]
 |y::Bl,j,hd=>by
  have h1:=bK (j:=(j:Int)) (by simpa using hd) (by omega)
  have h5:=h1.2.1
  have h2:=eK ZB.r h1.1
  rw[ZB.r_def,Int.toNat_natCast] at h2
  have ih:=Lg x hks H Bl (j+1) (by have:=h1.2.2.1;simpa using this)
  rw[show(((j+1:Nat)):Int)=(j:Int)+1 by omega] at ih
  have g0:=H y h1.2.2.2.1
  unfold Zs at g0
  rw[List.all_cons]
  cases hy:y.sel<;>rw[hy] at g0
  ·rw[bfa,if_neg (by decide)]
   conv=>lhs;unfold loopW;arg 1;unfold gT
   simp -implicitDefEqProofs (disch:=first|assumption|omega) only[go_sem,simprocAttr,h5,h2,nvp,g0]
  ·rw[bta,←ih]
   conv=>lhs;unfold loopW;arg 1;unfold gT
   simp -implicitDefEqProofs (disch:=first|assumption|omega) only[go_sem,simprocAttr,h5,h2,nvp,g0]
theorem zJu{l:List ZB}(h:l≠[]):∃t,l.getLast? = some t∧(l.map ZB.r)[((l.length:Int)-1).toNat]? = some t.r:=by
 refine⟨l.getLast h,List.getLast?_eq_some_getLast h,?_⟩
 have:0<l.length:=List.length_pos_iff.2 h
 rw[List.getElem?_map,show((l.length:Int)-1).toNat=l.length-1 by omega,←List.getLast?_eq_getElem?,List.getLast?_eq_some_getLast h]
 rfl
theorem Mn(x:ZB)(hx:x.Sm):Zs x:=by
 refine ZB.ind (P:=fun x=>x.Sm→Zs x) (fun op tx v ks ih hx=> ?_) x hx
 have hk:=hx.ks
 simp only[ZB.ks_mk] at hk
 have hk1:=hk.1
 have h0:=Lg (.mk op tx v ks) hk.1 (fun y hy=>ih y hy (hk.2 y hy)) ks 0 rfl
 unfold Zs
 rw[sN]
 simp only[ZB.x,ZB.op_mk,ZB.tx_mk,ZB.v_mk,ZB.ks_mk,nvp,cK] at h0 ⊢
 rw[aJ M1 _ rfl,A5]
 unfold Pz
 by_cases c12:op=12
 ·subst c12
  simp only[decide_true,Bool.not_true,Bool.false_or]
  by_cases hn:ks=[]
  ·subst hn
   have g0:=bR 0 1 3
   rw[show inB 0 1 3=false from rfl] at g0
   simp only[List.getLast?_nil,bfa,mn,ln]
   simp -implicitDefEqProofs (disch:=first|assumption|omega) only[go_sem,simprocAttr,h0,g0]
  ·obtain⟨t,k1,k2⟩:=zJu hn
   have hpos:0<ks.length:=List.length_pos_iff.2 hn
   rw[ZB.r_def] at k2
   rw[k1]
   simp only
   by_cases ce:t.op=34
   ·have g0:=bR ((ks.length:Int)-1) 1 3
    rw[if_pos ce]
    by_cases cw:1≤ks.length-1∧ks.length-1≤3
    ·rw[show inB ((ks.length:Int)-1) 1 3=true from by simp[inB];omega] at g0
     rw[decide_eq_true cw,bta]
     cases ca:ks.all ZB.sel<;>rw[ca] at h0
     ·rw[if_neg (by decide)] at h0
      simp -implicitDefEqProofs (disch:=first|assumption|omega) only[go_sem,simprocAttr,h0,g0,k2,eq_true ce]
     ·rw[if_pos rfl] at h0
      simp -implicitDefEqProofs (disch:=first|assumption|omega) only[go_sem,simprocAttr,h0,g0,k2,eq_true ce]
    ·rw[show inB ((ks.length:Int)-1) 1 3=false from by simp[inB];omega] at g0
     rw[decide_eq_false cw,bfa]
     simp -implicitDefEqProofs (disch:=first|assumption|omega) only[go_sem,simprocAttr,g0,k2,eq_true ce]
   ·have g0:=bR (ks.length:Int) 1 3
    rw[if_neg ce]
    by_cases cw:1≤ks.length-0∧ks.length-0≤3
    ·rw[show inB (ks.length:Int) 1 3=true from by simp[inB];omega] at g0
     rw[decide_eq_true cw,bta]
     cases ca:ks.all ZB.sel<;>rw[ca] at h0
     ·rw[if_neg (by decide)] at h0
      simp -implicitDefEqProofs (disch:=first|assumption|omega) only[go_sem,simprocAttr,h0,g0,k2,ce]
     ·rw[if_pos rfl] at h0
      simp -implicitDefEqProofs (disch:=first|assumption|omega) only[go_sem,simprocAttr,h0,g0,k2,ce]
    ·rw[show inB (ks.length:Int) 1 3=false from by simp[inB];omega] at g0
     rw[decide_eq_false cw,bfa]
     simp -implicitDefEqProofs (disch:=first|assumption|omega) only[go_sem,simprocAttr,g0,k2,ce]
 ·rw[decide_eq_false c12]
  simp only[Bool.not_false,Bool.true_or,bta]
  cases ca:ks.all ZB.sel<;>rw[ca] at h0
  ·rw[if_neg (by decide)] at h0
   simp -implicitDefEqProofs (disch:=first|assumption|omega) only[go_sem,simprocAttr,h0,c12]
  ·rw[if_pos rfl] at h0
   simp -implicitDefEqProofs (disch:=first|assumption|omega) only[go_sem,simprocAttr,h0,c12]
theorem S7(V:List ZC)(hV:V.length≤16777216):∀(Bl:List ZC) (j:Int),V.drop j.toNat=Bl→0≤j →
  loopW tab [0,3] jT {env:=upd (upd emp 3 (some (I j))) 0 (some (.d (.r (V.map ZC.r)))),heap:=emp,fr:=0,next:=0} =
   if twL V j Bl=true then some (.ret,{env:=upd emp 2 (some (B true)),heap:=emp,fr:=0,next:=0}) else some (.ext 0,{env:=emp,heap:=emp,fr:=0,next:=0})
 |[],j,hd,hj=>by
  unfold loopW
  conv=>lhs;arg 1;unfold jT
  have h1:=b9 hd hj
  rw[twL,if_neg (by decide)]
  simp -implicitDefEqProofs (disch:=first|assumption|omega) only[go_sem,simprocAttr,h1]
 |p::Bl,j,hd,hj=>by
  have h1:=bK hd hj
  have h5:=h1.2.1
  have h2:=eK ZC.r h1.1
  simp only[ZC.r] at h2
  have g0:=gP V p.fName (by omega)
  have ih:=S7 V hV Bl (j+1) h1.2.2.1 (by omega)
  rw[twL]
  by_cases c:fx V p.fName=j
  ·rw[decide_eq_true c,Bool.not_true,Bool.false_or,←ih]
   conv=>lhs;unfold loopW;arg 1;unfold jT
   simp -implicitDefEqProofs (disch:=first|assumption|omega) only[go_sem,simprocAttr,h5,h2,g0,eq_true c]
  ·rw[decide_eq_false c,Bool.not_false,Bool.true_or,if_pos rfl]
   conv=>lhs;unfold loopW;arg 1;unfold jT
   simp -implicitDefEqProofs (disch:=first|assumption|omega) only[go_sem,simprocAttr,h5,h2,g0,c]
theorem Q8(V:List ZC)(hV:V.length≤16777216):call tab Ce [.d (.r (V.map ZC.r))]=some (B (twL V 0 V)):=by
 have h0:=S7 V hV V 0 rfl (by omega)
 rw[aJ Sr _ rfl,Gf]
 cases c:twL V 0 V<;>rw[c] at h0
 ·rw[if_neg (by decide)] at h0
  simp -implicitDefEqProofs (disch:=first|assumption|omega) only[go_sem,simprocAttr,h0]
 ·rw[if_pos rfl] at h0
  simp -implicitDefEqProofs (disch:=first|assumption|omega) only[go_sem,simprocAttr,h0]
set_option maxRecDepth 8000
set_option maxHeartbeats 16000000
def Zg:List Int:=[13,14,15,16,17,28,29,30,31]
def Nk:List Int:=[6,8,9,10,11,12,27]
theorem zVb(op:Int):Kd Zg op=Qn op:=by
 unfold Kd Zg Qn
 simp only[List.any_cons,List.any_nil,Bool.or_false]
 rw[Bool.eq_iff_iff]
 simp only[Bool.or_eq_true,decide_eq_true_eq]
theorem zKl(op:Int):Kd Nk op=wO op:=by
 unfold Kd Nk wO
 simp only[List.any_cons,List.any_nil,Bool.or_false]
 rw[Bool.eq_iff_iff]
 simp only[Bool.or_eq_true,decide_eq_true_eq]
abbrev zKE(f:ZA):Heap:=upd (upd (upd emp (0,2) (some (.s 1 (bB Nk)))) (0,1) (some (.s 1 (bB Zg)))) (0,0) (some (fbx f))
abbrev zZZ(low c:Bool)(e:Env):Env:=upd (upd (upd (upd (upd e 12 (some (B c))) 10 (some (.ref (0,2) []))) 9 (some (.ref (0,1) []))) 7 (some (.ptr (0,0) [] 0 0))) 2 (some (B low))
theorem zkK(f:ZA)(hp:f.fParams.length≤1048576)(low:Bool):∀(Bl:List ZC) (c:Bool) (j:Int),f.fParams.drop j.toNat=Bl→0≤j →
  loopW tab [2,7,9,10,12,13] pX {env:=zZZ low c (upd emp 13 (some (I j))),heap:=zKE f,fr:=0,next:=3}=some (.ext 0,{env:=zZZ low (c||Bl.any ZC.fChan) emp,heap:=zKE f,fr:=0,next:=3})
 |[],c,j,hd,hj=>by
  unfold loopW
  conv=>lhs;arg 1;unfold pX
  have h1:=b9 hd hj
  rw[List.any_nil,Bool.or_false]
  simp -implicitDefEqProofs (disch:=first|assumption|omega) only[go_sem,simprocAttr,h1,zZZ,zKE,fbx]
 |p::Bl,c,j,hd,hj=>by
  have h1:=bK hd hj
  have h5:=h1.2.1
  have h2:=eK ZC.r h1.1
  simp only[ZC.r] at h2
  have ih:=zkK f hp low Bl (c||p.fChan) (j+1) h1.2.2.1 (by omega)
  rw[List.any_cons,←Bool.or_assoc,←ih]
  conv=>lhs;unfold loopW;arg 1;unfold pX
  cases c
  ·rw[Bool.false_or]
   simp -implicitDefEqProofs (disch:=first|assumption|omega) only[go_sem,simprocAttr,h5,h2,zZZ,zKE,fbx]
  ·rw[Bool.true_or]
   simp -implicitDefEqProofs (disch:=first|assumption|omega) only[go_sem,simprocAttr,h5,h2,zZZ,zKE,fbx]
theorem zVK(low:Bool)(f:ZA):(low=false∧(f.fBody.has fun y=>Qn y.op)=tM low f)∨(low=true∧f.fParams.any ZC.fChan=true∧tM low f=true)∨(low=true∧f.fParams.any ZC.fChan=false∧(f.fBody.has fun y=>wO y.op)=tM low f):=by
 unfold tM
 cases low
 ·exact .inl ⟨rfl,by simp⟩
 ·right
  cases f.fParams.any ZC.fChan
  ·exact .inr ⟨rfl,rfl,by simp⟩
  ·exact .inl ⟨rfl,rfl,by simp⟩
def Dq(W:List ZC)(f:ZA):Bool:=decide (8<(W.length:Int))||decide (4<(f.fParams.length:Int)) || !f.fBody.sel
theorem zvB(W:List ZC)(f:ZA):(8<(W.length:Int)∧Dq W f=true)∨(¬8<(W.length:Int)∧4<(f.fParams.length:Int)∧Dq W f=true)∨(¬8<(W.length:Int)∧¬4<(f.fParams.length:Int)∧f.fBody.sel= !Dq W f):=by
 unfold Dq
 by_cases h1:8<(W.length:Int)
 ·exact .inl ⟨h1,by simp[h1]⟩
 ·by_cases h2:4<(f.fParams.length:Int)
  ·exact .inr (.inl ⟨h1,h2,by simp[h2]⟩)
  ·exact .inr (.inr ⟨h1,h2,by rw[decide_eq_false h1,decide_eq_false h2];simp⟩)
def fnS(F:List ZA)(i:Nat)(low:Bool)(f:ZA):Int :=
 if (!decide (fK F f.fName=i)||twL (f.fBody.le f.fParams) 0 (f.fBody.le f.fParams))=true then 2 else if Dq (f.fBody.le f.fParams) f=true then 3 else if f.fBody.sn (cok F i) f.fParams=true then 4 else if f.fBody.ty F f.fParams=true then 5 else if tM low f=true then 6 else 0
theorem zXc(F:List ZA)(hF:F.length≤1048576∧∀y∈F,ZA.Sm y)(i:Nat)(hi:i<F.length)(f:ZA)(hf:F[i]? = some f)(hz:f.sz≤1048576)(hs:Sh 2 f.fBody)(low:Bool):call tab J5 [.d (.r (F.map ZA.r)),I i,B low]=some (I (fnS F i low f)):=by
 have hfm:=hF.2 f (List.mem_of_getElem? hf)
 have hp:=hfm.ps.1
 have hF1:=hF.1
 have hr:(F.map ZA.r)[i]? = some f.r:=by rw[List.getElem?_map,hf];rfl
 simp only[ZA.r] at hr
 have h0:0≤(f.fName.size:Int):=by omega
 have h1:=(ZC.szs_nn f.fParams).2
 have h2:=f.fBody.sz_nn
 have hz':=hz
 unfold ZA.sz at hz'
 have hlen:=Jo f.fBody f.fParams
 have gv:=Mh f hfm hz
 have g1:=wH F f.fName (by omega)
 have g2:=Q8 (f.fBody.le f.fParams) (by omega)
 have g3:=Mn f.fBody hfm.bd
 unfold Zs at g3
 have g4:=zyq F hF i hi f.fBody hfm.bd ⟨2,hs⟩ f.fParams false (by omega)
 have g5:=fun h=>zwN F hF i f.fBody hfm.bd ⟨2,hs⟩ f.fParams false h (by omega)
 have g6:=zkK f hp low f.fParams false 0 rfl (by omega)
 have g7:=Ih f.fBody hfm.bd Zg (by decide)
 have g8:=Ih f.fBody hfm.bd Nk (by decide)
 unfold zzf at g7 g8
 rw[show(fun z:ZB=>Kd Zg z.op)=fun z=>Qn z.op from funext fun z=>zVb z.op] at g7
 rw[show(fun z:ZB=>Kd Nk z.op)=fun z=>wO z.op from funext fun z=>zKl z.op] at g8
 rw[Bool.false_or] at g4 g6
 have hS:=zVK low f
 have hM:=zvB (f.fBody.le f.fParams) f
 have hil:(i:Int)<F.length:=by omega
 have hcs:(0:Int)≤i:=by omega
 have lb:(f.fBody.le f.fParams).length≤16777216:=by omega
 unfold fnS
 generalize f.fBody.le f.fParams=V at *
 generalize tM low f=S at *
 generalize Dq V f=M at *
 have n1:bB Zg=[[DI 13],[DI 14],[DI 15],[DI 16],[DI 17],[DI 28],[DI 29],[DI 30],[DI 31]]:=rfl
 have n2:bB Nk=[[DI 6],[DI 8],[DI 9],[DI 10],[DI 11],[DI 12],[DI 27]]:=rfl
 have f1:Ev.fzs [[DI 13],[DI 14],[DI 15],[DI 16],[DI 17],[DI 28],[DI 29],[DI 30],[DI 31]]=[[DI 13],[DI 14],[DI 15],[DI 16],[DI 17],[DI 28],[DI 29],[DI 30],[DI 31]]:=by simp only[Ev.fzs,Ev.fzl,D.fz]
 have f2:Ev.fzs [[DI 6],[DI 8],[DI 9],[DI 10],[DI 11],[DI 12],[DI 27]]=[[DI 6],[DI 8],[DI 9],[DI 10],[DI 11],[DI 12],[DI 27]]:=by simp only[Ev.fzs,Ev.fzl,D.fz]
 simp only[wh,uW,fbx,zKE,zZZ,ZB.x,ZA.x,n1,n2] at gv g3 g4 g5 g6 g7 g8 ⊢
 rw[aJ zjC _ rfl,Ko]
 by_cases hK:fK F f.fName=i
 ·rw[decide_eq_true hK,Bool.not_true,Bool.false_or]
  cases ht:twL V 0 V<;>rw[ht] at g2
  ·rw[if_neg (by decide)]
   rcases hM with⟨m1,rfl⟩|⟨m1,m2,rfl⟩|⟨m1,m2,m3⟩
   ·rw[if_pos rfl]
    simp -implicitDefEqProofs (disch:=first|assumption|omega|(simp only[aE,aQ,aD,i64,sa,aC,lm,la,lc,ln];omega)) only[go_sem,simprocAttr,hr,hil,hcs,gv,g1,g2,g3,g4,eq_true hK,ZC.fzs,ZB.fzs,ZB.fzr,ZA.fzr,ZC.noR,ZC.toRs,ZC.all2,m1]
   ·rw[if_pos rfl]
    simp -implicitDefEqProofs (disch:=first|assumption|omega|(simp only[aE,aQ,aD,i64,sa,aC,lm,la,lc,ln];omega)) only[go_sem,simprocAttr,hr,hil,hcs,gv,g1,g2,g3,g4,eq_true hK,ZC.fzs,ZB.fzs,ZB.fzr,ZA.fzr,ZC.noR,ZC.toRs,ZC.all2,m1,m2]
   ·rw[m3] at g3
    cases M
    ·rw[if_neg (by decide)]
     rw[Bool.not_false] at g3
     cases hn:f.fBody.sn (cok F i) f.fParams
     ·rw[hn] at g4
      have g5':=g5 hn
      rw[Bool.false_or] at g5'
      rw[if_neg (by decide)]
      cases hty:f.fBody.ty F f.fParams<;>rw[hty] at g5'
      ·rw[if_neg (by decide)]
       rcases hS with⟨rfl,v1⟩|⟨rfl,v1,rfl⟩|⟨rfl,v1,v2⟩
       ·rw[v1] at g7
        cases S
        ·rw[if_neg (by decide)]
         simp -implicitDefEqProofs (disch:=first|assumption|omega|(simp only[aE,aQ,aD,i64,sa,aC,lm,la,lc,ln];omega)) only[go_sem,simprocAttr,hr,hil,hcs,gv,g1,g2,g3,g4,eq_true hK,ZC.fzs,ZB.fzs,ZB.fzr,ZA.fzr,ZC.noR,ZC.toRs,ZC.all2,f1,f2,g5',g6,g7,g8,m1,m2,Bool.not_false,Bool.not_true,Bool.false_or]
        ·rw[if_pos rfl]
         simp -implicitDefEqProofs (disch:=first|assumption|omega|(simp only[aE,aQ,aD,i64,sa,aC,lm,la,lc,ln];omega)) only[go_sem,simprocAttr,hr,hil,hcs,gv,g1,g2,g3,g4,eq_true hK,ZC.fzs,ZB.fzs,ZB.fzr,ZA.fzr,ZC.noR,ZC.toRs,ZC.all2,f1,f2,g5',g6,g7,g8,m1,m2,Bool.not_false,Bool.not_true,Bool.false_or]
       ·rw[v1] at g6
        rw[if_pos rfl]
        simp -implicitDefEqProofs (disch:=first|assumption|omega|(simp only[aE,aQ,aD,i64,sa,aC,lm,la,lc,ln];omega)) only[go_sem,simprocAttr,hr,hil,hcs,gv,g1,g2,g3,g4,eq_true hK,ZC.fzs,ZB.fzs,ZB.fzr,ZA.fzr,ZC.noR,ZC.toRs,ZC.all2,f1,f2,g5',g6,g7,g8,m1,m2,Bool.not_false,Bool.not_true,Bool.false_or]
       ·rw[v1] at g6
        rw[v2] at g8
        cases S
        ·rw[if_neg (by decide)]
         simp -implicitDefEqProofs (disch:=first|assumption|omega|(simp only[aE,aQ,aD,i64,sa,aC,lm,la,lc,ln];omega)) only[go_sem,simprocAttr,hr,hil,hcs,gv,g1,g2,g3,g4,eq_true hK,ZC.fzs,ZB.fzs,ZB.fzr,ZA.fzr,ZC.noR,ZC.toRs,ZC.all2,f1,f2,g5',g6,g7,g8,m1,m2,Bool.not_false,Bool.not_true,Bool.false_or]
        ·rw[if_pos rfl]
         simp -implicitDefEqProofs (disch:=first|assumption|omega|(simp only[aE,aQ,aD,i64,sa,aC,lm,la,lc,ln];omega)) only[go_sem,simprocAttr,hr,hil,hcs,gv,g1,g2,g3,g4,eq_true hK,ZC.fzs,ZB.fzs,ZB.fzr,ZA.fzr,ZC.noR,ZC.toRs,ZC.all2,f1,f2,g5',g6,g7,g8,m1,m2,Bool.not_false,Bool.not_true,Bool.false_or]
      ·rw[if_pos rfl]
       simp -implicitDefEqProofs (disch:=first|assumption|omega|(simp only[aE,aQ,aD,i64,sa,aC,lm,la,lc,ln];omega)) only[go_sem,simprocAttr,hr,hil,hcs,gv,g1,g2,g3,g4,eq_true hK,ZC.fzs,ZB.fzs,ZB.fzr,ZA.fzr,ZC.noR,ZC.toRs,ZC.all2,f1,f2,g5',g6,g7,g8,m1,m2,Bool.not_false,Bool.not_true,Bool.false_or]
     ·rw[hn] at g4
      rw[if_pos rfl]
      simp -implicitDefEqProofs (disch:=first|assumption|omega|(simp only[aE,aQ,aD,i64,sa,aC,lm,la,lc,ln];omega)) only[go_sem,simprocAttr,hr,hil,hcs,gv,g1,g2,g3,g4,eq_true hK,ZC.fzs,ZB.fzs,ZB.fzr,ZA.fzr,ZC.noR,ZC.toRs,ZC.all2,m1,m2]
    ·rw[if_pos rfl]
     rw[Bool.not_true] at g3
     simp -implicitDefEqProofs (disch:=first|assumption|omega|(simp only[aE,aQ,aD,i64,sa,aC,lm,la,lc,ln];omega)) only[go_sem,simprocAttr,hr,hil,hcs,gv,g1,g2,g3,g4,eq_true hK,ZC.fzs,ZB.fzs,ZB.fzr,ZA.fzr,ZC.noR,ZC.toRs,ZC.all2,m1,m2]
  ·rw[if_pos rfl]
   simp -implicitDefEqProofs (disch:=first|assumption|omega|(simp only[aE,aQ,aD,i64,sa,aC,lm,la,lc,ln];omega)) only[go_sem,simprocAttr,hr,hil,hcs,gv,g1,g2,g3,g4,eq_true hK,ZC.fzs,ZB.fzs,ZB.fzr,ZA.fzr,ZC.noR,ZC.toRs,ZC.all2]
 ·rw[decide_eq_false hK,Bool.not_false,Bool.true_or,if_pos rfl]
  simp -implicitDefEqProofs (disch:=first|assumption|omega|(simp only[aE,aQ,aD,i64,sa,aC,lm,la,lc,ln];omega)) only[go_sem,simprocAttr,hr,hil,hcs,gv,g1,hK,ZC.fzs,ZB.fzs,ZB.fzr,ZA.fzr]
set_option maxRecDepth 8000
set_option maxHeartbeats 16000000
abbrev zZh:ByteArray:=⟨#[109,97,105,110]⟩
def ckL(g:Nat→ZA→Int):Nat→List ZA→Int
 |_,[]=>0
 |j,f::r=>if g j f=0 then ckL g (j+1) r else g j f
theorem Hb(g:Nat→ZA→Int):∀(r:List ZA) (j:Nat),ckL g j r=0↔∀k f,r[k]? = some f→g (j+k) f=0
 |[],j=>by simp[ckL]
 |f::r,j=>by
  rw[ckL]
  constructor
  ·intro h
   split at h
   ·rename_i h0
    have ih:=(Hb g r (j+1)).1 h
    intro k x hx
    cases k with
    |zero=>simp only[List.getElem?_cons_zero,oi] at hx;subst hx;exact h0
    |succ k=>rw[List.getElem?_cons_succ] at hx;have:=ih k x hx;rw[show j+(k+1)=j+1+k by omega];exact this
   ·rename_i h0;exact absurd h h0
  ·intro h
   rw[if_pos (show g j f=0 from h 0 f rfl)]
   refine(Hb g r (j+1)).2 fun k x hx=> ?_
   rw[show j+1+k=j+(k+1) by omega]
   exact h (k+1) x (by rw[List.getElem?_cons_succ];exact hx)
def L8(F:List ZA):Bool:=match F.getLast? with
 |some f=>decide (f.fName=zZh)&&decide ((f.fParams.length:Int)=0)
 |none=>false
theorem zqN{F:List ZA}{t:ZA}(h:F.getLast? = some t):L8 F=(decide (t.fName=zZh)&&decide ((t.fParams.length:Int)=0)):=by
 unfold L8
 rw[h]
theorem Zy{l:List ZA}(h:l≠[]):∃t,l.getLast? = some t∧(l.map ZA.r)[((l.length:Int)-1).toNat]? = some t.r:=by
 refine⟨l.getLast h,List.getLast?_eq_some_getLast h,?_⟩
 have:0<l.length:=List.length_pos_iff.2 h
 rw[List.getElem?_map,show((l.length:Int)-1).toNat=l.length-1 by omega,←List.getLast?_eq_getElem?,List.getLast?_eq_some_getLast h]
 rfl
def Zw(F:List ZA)(low:Bool)(c:Int):Int:=if c=0 then(if low=true then 0 else if L8 F=true then 0 else 7) else c
def cS(f:ZA):List ZC:=f.fBody.le f.fParams
def gI(F:List ZA)(low:Bool)(j:Nat)(f:ZA):Int:=fnI F j (cS f) low f
def ckI(F:List ZA)(low:Bool):Int:=if (F.all tdI&&decide (F.length≤40))=true then Zw F low (ckL (gI F low) 0 F) else 1
def ckS(F:List ZA)(low:Bool):Int:=if (F.all tdS&&decide (F.length≤40))=true then Zw F low (ckL (fun j f=>fnS F j low f) 0 F) else 1
abbrev FsOk(F:List ZA):Prop:=ZA.szs F≤1048576
theorem FsOk.sm{F:List ZA}(h:FsOk F):F.length≤1048576∧∀y∈F,ZA.Sm y:=ZA.sms_of h
theorem FsOk.sz{F:List ZA}(h:FsOk F):∀y∈F,y.sz≤1048576:=fun y hy=>by
 have h1:=ZA.sz_le hy
 unfold FsOk ZA.szs at h
 omega
theorem Lk{f:ZA}(hz:f.sz≤1048576):(cS f).length≤16777216:=by
 have h0:0≤(f.fName.size:Int):=by omega
 have h1:=(ZC.szs_nn f.fParams).2
 have h2:=f.fBody.sz_nn
 unfold ZA.sz at hz
 have hlen:=Jo f.fBody f.fParams
 unfold cS
 omega
theorem Is(F:List ZA)(hF:FsOk F)(low:Bool):∀(Bl:List ZA) (j:Nat),F.drop j=Bl →
  loopW tab [0,1,13,14,15] l4 {env:=upd (upd (upd (upd (upd emp 15 (some (I (j:Int)))) 14 (some (I (F.length:Int)))) 13 (some (.d (.r (F.map ZA.r))))) 1 (some (B low))) 0 (some (.d (.r (F.map ZA.r)))),heap:=emp,fr:=0,next:=0} =
   if ckL (gI F low) j Bl=0 then some (.ext 0,{env:=upd (upd emp 1 (some (B low))) 0 (some (.d (.r (F.map ZA.r)))),heap:=emp,fr:=0,next:=0}) else some (.ret,{env:=upd emp 4 (some (I (ckL (gI F low) j Bl))),heap:=emp,fr:=0,next:=0})
 |[],j,hd=>by
  have h1:=b9 (j:=(j:Int)) (by simpa using hd) (by omega)
  have hF1:=hF.sm.1
  unfold loopW
  conv=>lhs;arg 1;unfold l4
  rw[ckL,if_pos rfl]
  simp -implicitDefEqProofs (disch:=first|assumption|omega) only[go_sem,simprocAttr,h1]
 |f::Bl,j,hd=>by
  have h1:=bK (j:=(j:Int)) (by simpa using hd) (by omega)
  have h5:=h1.2.1
  have hF1:=hF.sm.1
  have hj:j<F.length:=by omega
  have h2:=eK ZA.r h1.1
  simp only[ZA.r,Int.toNat_natCast] at h2
  have hz:=hF.sz f h1.2.2.2.1
  have hf:F[j]? = some f:=by have:=h1.1;rwa [Int.toNat_natCast] at this
  have ih:=Is F hF low Bl (j+1) (by have:=h1.2.2.1;simpa using this)
  rw[show(((j+1:Nat)):Int)=(j:Int)+1 by omega] at ih
  have g0:=Lb f (hF.sm.2 f h1.2.2.2.1) hz
  have g1:=zk6 F hF.sm j hj (cS f) (Lk hz) f hf hz low
  simp only[ch,Hw,cS] at g1
  rw[ckL]
  unfold gI at ih ⊢
  unfold cS at ih ⊢
  by_cases c:fnI F j (f.fBody.le f.fParams) low f=0
  ·rw[if_pos c,←ih]
   rw[c] at g1
   conv=>lhs;unfold loopW;arg 1;unfold l4
   simp -implicitDefEqProofs (disch:=first|assumption|omega) only[go_sem,simprocAttr,h5,h2,g0,g1,ZC.fzs,ZC.noR,ZA.fzr]
  ·rw[if_neg c,if_neg c]
   conv=>lhs;unfold loopW;arg 1;unfold l4
   simp -implicitDefEqProofs (disch:=first|assumption|omega) only[go_sem,simprocAttr,h5,h2,g0,g1,c,ZC.fzs,ZC.noR,ZA.fzr]
theorem Y6(F:List ZA)(hF:FsOk F)(low:Bool):call tab Jn [.d (.r (F.map ZA.r)),B low]=some (I (ckI F low)):=by
 have hF1:=hF.sm.1
 have h0:=Is F hF low F 0 rfl
 have g0:=zzL F hF.sm
 rw[cK] at h0
 rw[aJ zzx _ rfl,K0]
 unfold ckI
 cases ct:(F.all tdI&&decide (F.length≤40))<;>rw[ct] at g0
 ·rw[if_neg (by decide)]
  simp -implicitDefEqProofs (disch:=first|assumption|omega) only[go_sem,simprocAttr,g0]
 rw[if_pos rfl]
 unfold Zw
 by_cases c:ckL (gI F low) 0 F=0
 ·rw[if_pos c] at h0 ⊢
  cases low
  ·rw[if_neg (by decide)]
   by_cases hn:F=[]
   ·subst hn
    rw[show L8 []=false from rfl,if_neg (by decide)]
    simp only[mn,ln,cK] at g0 h0
    simp -implicitDefEqProofs (disch:=first|assumption|omega) only[go_sem,simprocAttr,g0,h0,mn,ln]
   ·obtain⟨t,k1,k2⟩:=Zy hn
    have hpos:0<F.length:=List.length_pos_iff.2 hn
    simp only[ZA.r] at k2
    rw[zqN k1]
    have hm1:¬(F.length:Int)-1<0:=by omega
    by_cases cn:t.fName=zZh
    ·by_cases cp:(t.fParams.length:Int)=0
     ·rw[decide_eq_true cn,decide_eq_true cp,bta,if_pos rfl]
      simp -implicitDefEqProofs (disch:=first|assumption|omega) only[go_sem,simprocAttr,g0,h0,k2,eq_true cn,cp,hm1]
     ·rw[decide_eq_true cn,decide_eq_false cp,bta,if_neg (by decide)]
      simp -implicitDefEqProofs (disch:=first|assumption|omega) only[go_sem,simprocAttr,g0,h0,k2,eq_true cn,cp,hm1,show(0:Int)<t.fParams.length by omega]
    ·rw[decide_eq_false cn,bfa,if_neg (by decide)]
     simp -implicitDefEqProofs (disch:=first|assumption|omega) only[go_sem,simprocAttr,g0,h0,k2,cn,hm1]
  ·rw[if_pos rfl]
   simp -implicitDefEqProofs (disch:=first|assumption|omega) only[go_sem,simprocAttr,g0,h0]
 ·rw[if_neg c] at h0 ⊢
  simp -implicitDefEqProofs (disch:=first|assumption|omega) only[go_sem,simprocAttr,g0,h0]
theorem Og{f:ZA}(h:tdS f=true):Sh 2 f.fBody:=by
 unfold tdS at h
 simp only[bE,decide_eq_true_eq] at h
 exact(zJr kwB f.fBody h.2.2).2.2.1 h.2.1.1.2
theorem I4(F:List ZA)(hF:FsOk F)(ht:∀f∈F,tdS f=true)(low:Bool):∀(Bl:List ZA) (j:Nat),F.drop j=Bl →
  loopW tab [0,1,5] mC {env:=upd (upd (upd emp 5 (some (I (j:Int)))) 1 (some (B low))) 0 (some (.d (.r (F.map ZA.r)))),heap:=emp,fr:=0,next:=0} =
   if ckL (fun j f=>fnS F j low f) j Bl=0 then some (.ext 0,{env:=upd (upd emp 1 (some (B low))) 0 (some (.d (.r (F.map ZA.r)))),heap:=emp,fr:=0,next:=0}) else some (.ret,{env:=upd emp 4 (some (I (ckL (fun j f=>fnS F j low f) j Bl))),heap:=emp,fr:=0,next:=0})
 |[],j,hd=>by
  have h1:=b9 (j:=(j:Int)) (by simpa using hd) (by omega)
  have hF1:=hF.sm.1
  unfold loopW
  conv=>lhs;arg 1;unfold mC
  rw[ckL,if_pos rfl]
  simp -implicitDefEqProofs (disch:=first|assumption|omega) only[go_sem,simprocAttr,h1]
 |f::Bl,j,hd=>by
  have h1:=bK (j:=(j:Int)) (by simpa using hd) (by omega)
  have h5:=h1.2.1
  have hF1:=hF.sm.1
  have hj:j<F.length:=by omega
  have hz:=hF.sz f h1.2.2.2.1
  have hf:F[j]? = some f:=by have:=h1.1;rwa [Int.toNat_natCast] at this
  have ih:=I4 F hF ht low Bl (j+1) (by have:=h1.2.2.1;simpa using this)
  rw[show(((j+1:Nat)):Int)=(j:Int)+1 by omega] at ih
  have g1:=zXc F hF.sm j hj f hf hz (Og (ht f h1.2.2.2.1)) low
  rw[ckL]
  by_cases c:fnS F j low f=0
  ·rw[if_pos c,←ih]
   rw[c] at g1
   conv=>lhs;unfold loopW;arg 1;unfold mC
   simp -implicitDefEqProofs (disch:=first|assumption|omega) only[go_sem,simprocAttr,h5,g1,ZA.fzr]
  ·rw[if_neg c,if_neg c]
   conv=>lhs;unfold loopW;arg 1;unfold mC
   simp -implicitDefEqProofs (disch:=first|assumption|omega) only[go_sem,simprocAttr,h5,g1,c,ZA.fzr]
theorem Y9(F:List ZA)(hF:FsOk F)(low:Bool):call tab Kh [.d (.r (F.map ZA.r)),B low]=some (I (ckS F low)):=by
 have hF1:=hF.sm.1
 have g0:=zzu F hF.sm
 rw[aJ zzA _ rfl,Mi]
 unfold ckS
 cases ct:(F.all tdS&&decide (F.length≤40))<;>rw[ct] at g0
 ·rw[if_neg (by decide)]
  simp -implicitDefEqProofs (disch:=first|assumption|omega) only[go_sem,simprocAttr,g0]
 have ht:∀f∈F,tdS f=true:=by
  rw[bE,List.all_eq_true] at ct
  exact ct.1
 have h0:=I4 F hF ht low F 0 rfl
 rw[cK] at h0
 rw[if_pos rfl]
 unfold Zw
 by_cases c:ckL (fun j f=>fnS F j low f) 0 F=0
 ·rw[if_pos c] at h0 ⊢
  cases low
  ·rw[if_neg (by decide)]
   by_cases hn:F=[]
   ·subst hn
    rw[show L8 []=false from rfl,if_neg (by decide)]
    simp only[mn,ln,cK] at g0 h0
    simp -implicitDefEqProofs (disch:=first|assumption|omega) only[go_sem,simprocAttr,g0,h0,mn,ln]
   ·obtain⟨t,k1,k2⟩:=Zy hn
    have hpos:0<F.length:=List.length_pos_iff.2 hn
    simp only[ZA.r] at k2
    rw[zqN k1]
    have hm1:¬(F.length:Int)=0:=by omega
    by_cases cn:t.fName=zZh
    ·by_cases cp:(t.fParams.length:Int)=0
     ·rw[decide_eq_true cn,decide_eq_true cp,bta,if_pos rfl]
      simp -implicitDefEqProofs (disch:=first|assumption|omega) only[go_sem,simprocAttr,g0,h0,k2,eq_true cn,cp,hm1]
     ·rw[decide_eq_true cn,decide_eq_false cp,bta,if_neg (by decide)]
      simp -implicitDefEqProofs (disch:=first|assumption|omega) only[go_sem,simprocAttr,g0,h0,k2,eq_true cn,cp,hm1,show(0:Int)<t.fParams.length by omega]
    ·rw[decide_eq_false cn,bfa,if_neg (by decide)]
     simp -implicitDefEqProofs (disch:=first|assumption|omega) only[go_sem,simprocAttr,g0,h0,k2,cn,hm1]
  ·rw[if_pos rfl]
   simp -implicitDefEqProofs (disch:=first|assumption|omega) only[go_sem,simprocAttr,g0,h0]
 ·rw[if_neg c] at h0 ⊢
  simp -implicitDefEqProofs (disch:=first|assumption|omega) only[go_sem,simprocAttr,g0,h0]
set_option maxHeartbeats 4000000
theorem T6{α:Type}(p:α→Bool):∀(xs:List α) (j:Int) (k:Nat) (x:α),0≤j→xs[k]? = some x→p x=true→j≤aS p j xs∧aS p j xs≤j+k
 |[],j,k,x,_,h,_=>by simp at h
 |y::ys,j,k,x,hj,h,hp=>by
  rw[aS]
  by_cases hy:p y=true
  ·rw[if_pos hy];omega
  ·rw[if_neg hy]
   cases k with
   |zero =>
    simp only[List.getElem?_cons_zero,oi] at h
    subst h
    exact absurd hp hy
   |succ k =>
    rw[List.getElem?_cons_succ] at h
    have:=T6 p ys (j+1) k x (by omega) h hp
    omega
theorem z2B{F:List ZA}{j:Nat}{f:ZA}(hf:F[j]? = some f):0≤fK F f.fName∧fK F f.fName≤j:=by
 have:=T6 (fun g:ZA=>decide (g.fName=f.fName)) F 0 j f (by omega) hf (by simp)
 unfold fK
 omega
theorem zK1{α:Type}{l:List α}{j:Nat}{x:α}(h:l[j]? = some x):j<l.length:=by
 rcases Nat.lt_or_ge j l.length with h'|h'
 ·exact h'
 ·rw[List.getElem?_eq_none h'] at h;simp at h
theorem zWO{F:List ZA}{j:Nat}{f:ZA}(hf:F[j]? = some f):twI F j (cS f) f=(!decide (fK F f.fName=j)||twL (cS f) 0 (cS f)):=by
 have h1:=z2B hf
 have h2:=zK1 hf
 unfold twI
 rw[zYo F f.fName j (by omega)]
 congr 1
 by_cases c:fK F f.fName=j
 ·rw[if_neg (by omega),decide_eq_true c];rfl
 ·rw[if_pos (by omega),decide_eq_false c,decide_eq_true (by omega)];rfl
theorem fnI_zero(F:List ZA)(i:Nat)(W:List ZC)(low:Bool)(f:ZA):fnI F i W low f=0↔twI F i W f=false∧H4 W f=false∧(f.fBody.nm (cok F i) (gQ f.fParams)).isNone=false∧f.fBody.mt F i W=false∧tM low f=false:=by
 unfold fnI
 cases twI F i W f<;>cases H4 W f<;>cases (f.fBody.nm (cok F i) (gQ f.fParams)).isNone<;>cases f.fBody.mt F i W<;>cases tM low f<;>simp
theorem fnS_zero(F:List ZA)(i:Nat)(low:Bool)(f:ZA):fnS F i low f=0↔(!decide (fK F f.fName=i)||twL (cS f) 0 (cS f))=false∧Dq (cS f) f=false∧f.fBody.sn (cok F i) f.fParams=false∧f.fBody.ty F f.fParams=false∧tM low f=false:=by
 unfold fnS
 change (if (!decide (fK F f.fName=i)||twL (cS f) 0 (cS f))=true then(2:Int) else if Dq (cS f) f=true then 3 else _)=0↔_
 cases (!decide (fK F f.fName=i)||twL (cS f) 0 (cS f))<;>cases Dq (cS f) f<;>cases f.fBody.sn (cok F i) f.fParams<;>cases f.fBody.ty F f.fParams<;>cases tM low f<;>simp
theorem zyt(W:List ZC)(f:ZA):(tdI f=true∧H4 W f=false)↔(tdS f=true∧Dq W f=false):=by
 have h:=z71 f
 unfold H4 Dq
 simp only[Bool.or_eq_false_iff,Bool.not_eq_false']
 constructor
 ·rintro ⟨h1,h2,h3⟩
  have:=h.2 ⟨h1,h3⟩
  exact⟨this.1,h2,this.2⟩
 ·rintro ⟨h1,h2,h3⟩
  have:=h.1 ⟨h1,h3⟩
  exact⟨this.1,h2,this.2⟩
theorem Zl{F:List ZA}{j:Nat}{f:ZA}(hf:F[j]? = some f)(low:Bool):(tdI f=true∧fnI F j (cS f) low f=0)↔(tdS f=true∧fnS F j low f=0):=by
 rw[fnI_zero,fnS_zero,zWO hf]
 have hm:=zyt (cS f) f
 have key:tdS f=true→(((f.fBody.nm (cok F j) (gQ f.fParams)).isNone=false∧f.fBody.mt F j (cS f)=false)↔(f.fBody.sn (cok F j) f.fParams=false∧f.fBody.ty F f.fParams=false)):=fun h=>by
  have hs:=Og h
  have h1:=z29 (cok:=cok F j) hs f.fParams
  cases hn:f.fBody.sn (cok F j) f.fParams
  ·rw[hn,if_neg (by decide)] at h1
   have h2:=z1b (F:=F) (at_:=j) (W:=cS f) hs f.fParams hn ⟨[],by unfold cS;simp⟩
   rw[h1,h2]
   simp
  ·rw[hn,if_pos rfl] at h1
   rw[h1]
   simp
 constructor
 ·rintro ⟨h1,h2,h3,h4,h5,h6⟩
  have h7:=hm.1 ⟨h1,h3⟩
  have h8:=(key h7.1).1 ⟨h4,h5⟩
  exact⟨h7.1,h2,h7.2,h8.1,h8.2,h6⟩
 ·rintro ⟨h1,h2,h3,h4,h5,h6⟩
  have h7:=hm.2 ⟨h1,h3⟩
  have h8:=(key h1).2 ⟨h4,h5⟩
  exact⟨h7.1,h2,h7.2,h8.1,h8.2,h6⟩
theorem Jm(F:List ZA)(low:Bool)(c:Int):Zw F low c=0↔c=0∧(low=true∨L8 F=true):=by
 unfold Zw
 by_cases h:c=0
 ·subst h
  cases low<;>cases L8 F<;>simp
 ·rw[if_neg h]
  simp[h]
theorem z5H{F:List ZA}{P:ZA→Bool}:F.all P=true↔∀(k:Nat) f,F[k]? = some f→P f=true:=by
 rw[List.all_eq_true]
 constructor
 ·intro h k f hf;exact h f (List.mem_of_getElem? hf)
 ·intro h f hf
  obtain⟨k,hk,rfl⟩:=List.mem_iff_getElem.1 hf
  exact h k _ (List.getElem?_eq_getElem hk)
theorem Ou(F:List ZA)(low:Bool):ckI F low=0↔ckS F low=0:=by
 have e1:ckI F low=0↔((∀(k:Nat) f,F[k]? = some f→tdI f=true∧fnI F k (cS f) low f=0)∧F.length≤40)∧(low=true∨L8 F=true):=by
  unfold ckI
  by_cases h:(F.all tdI&&decide (F.length≤40))=true
  ·rw[if_pos h,Jm,Hb]
   rw[bE,z5H,decide_eq_true_eq] at h
   constructor
   ·rintro ⟨a,b⟩
    exact⟨⟨fun k f hf=>⟨h.1 k f hf,by have:=a k f hf;rwa [Nat.zero_add] at this⟩,h.2⟩,b⟩
   ·rintro ⟨⟨a,_⟩,b⟩
    exact⟨fun k f hf=>by rw[Nat.zero_add];exact(a k f hf).2,b⟩
  ·rw[if_neg h]
   rw[bE,z5H,decide_eq_true_eq] at h
   constructor
   ·intro e;exact absurd e (by decide)
   ·rintro ⟨⟨a,b⟩,_⟩
    exact absurd ⟨fun k f hf=>(a k f hf).1,b⟩ h
 have e2:ckS F low=0↔((∀(k:Nat) f,F[k]? = some f→tdS f=true∧fnS F k low f=0)∧F.length≤40)∧(low=true∨L8 F=true):=by
  unfold ckS
  by_cases h:(F.all tdS&&decide (F.length≤40))=true
  ·rw[if_pos h,Jm,Hb]
   rw[bE,z5H,decide_eq_true_eq] at h
   constructor
   ·rintro ⟨a,b⟩
    exact⟨⟨fun k f hf=>⟨h.1 k f hf,by have:=a k f hf;rwa [Nat.zero_add] at this⟩,h.2⟩,b⟩
   ·rintro ⟨⟨a,_⟩,b⟩
    exact⟨fun k f hf=>by rw[Nat.zero_add];exact(a k f hf).2,b⟩
  ·rw[if_neg h]
   rw[bE,z5H,decide_eq_true_eq] at h
   constructor
   ·intro e;exact absurd e (by decide)
   ·rintro ⟨⟨a,b⟩,_⟩
    exact absurd ⟨fun k f hf=>(a k f hf).1,b⟩ h
 rw[e1,e2]
 constructor
 ·rintro ⟨⟨a,b⟩,c⟩
  exact⟨⟨fun k f hf=>(Zl hf low).1 (a k f hf),b⟩,c⟩
 ·rintro ⟨⟨a,b⟩,c⟩
  exact⟨⟨fun k f hf=>(Zl hf low).2 (a k f hf),b⟩,c⟩
theorem zy9{F:List ZA}{low:Bool}(h:ckS F low=0):∀f∈F,Sh 2 f.fBody:=by
 unfold ckS at h
 by_cases c:(F.all tdS&&decide (F.length≤40))=true
 ·rw[bE,List.all_eq_true] at c
  exact fun f hf=>Og (c.1 f hf)
 ·rw[if_neg c] at h
  exact absurd h (by decide)
end Go.Ev.G
