import Derived.Test.YtenclibcnjkamaaGreatEvPEm10
import Derived.Test.YtenclibcnjkamaaGreatEvQUnit2
set_option linter.all false
namespace Go.Ev.G
set_option maxRecDepth 8000
set_option maxHeartbeats 16000000
abbrev zQ2(l:List ByteArray):List (List D):=l.map fun s=>[DS s]
noncomputable def needI (us:List ZD) (nm:ByteArray):Int:=if bY us nm<0 then 0 else needV us us.length (bY us nm).toNat
noncomputable def emU (u:ZD):List ZB×Bool:=open Classical in if h:u.sm then(Classical.choose (Fy u h),Classical.choose (Classical.choose_spec (Fy u h))) else([],false)
theorem zkh(u:ZD)(h:u.sm):(emU u).1.length≤18001∧call tab D8 [u.x]=some (.tup [.d (.s 8 ((emU u).1.map ZB.o)),B (emU u).2])∧call tab Ec [u.x]=some (.tup [.d (.s 8 ((emU u).1.map ZB.o)),B (emU u).2]):=by
 unfold emU
 rw[dif_pos h]
 exact Classical.choose_spec (Classical.choose_spec (Fy u h))
noncomputable def asmL:List ZD→Option (List ZB)
 |[]=>some []
 |u::us=>if (emU u).2=true then(asmL us).map fun R=>(emU u).1++R else none
def Vq(t:ZC):List ByteArray:=if t.fOp=24 then [t.fS] else []
def El:List ZC→List ByteArray
 |[]=>[]
 |t::ts=>Vq t++El ts
def xU:List ZD→List ByteArray
 |[]=>[]
 |u::us=>El u.fCode++xU us
theorem P4:∀ts:List ZC,(El ts).length≤ts.length
 |[]=>by simp[El]
 |t::ts=>by
  have:=P4 ts
  rw[El,la,lc]
  have:(Vq t).length≤1:=by unfold Vq;split<;>simp
  omega
abbrev asH(W:List (List D))(Bg:List ByteArray):Heap:=upd (upd emp (0,1) (some (.s 1 (zQ2 Bg)))) (0,0) (some (.s 8 W))
theorem zk9(us:List ZD)(k:Int)(W:List (List D))(C:List ZC)(hC:C.length≤1048576):∀(Bl:List ZC) (j:Int) (Bg:List ByteArray),C.drop j.toNat=Bl→0≤j→Bg.length+Bl.length≤2199023255552 →
  loopW tab [0,4,5,16,17,18,33,34,35] kZ {env:=upd (upd (upd (upd (upd (upd (upd (upd (upd emp 35 (some (I j))) 34 (some (I (C.length:Int)))) 33 (some (.d (.r (C.map ZC.r))))) 18 (some (I k))) 17 (some (I (us.length:Int)))) 16 (some (.d (.r (us.map ZD.r))))) 5 (some (.ref (0,1) []))) 4 (some (.ref (0,0) []))) 0 (some (.d (.r (us.map ZD.r)))),heap:=asH W Bg,fr:=0,next:=2} =
  some (.ext 2,{env:=upd (upd (upd (upd (upd (upd emp 18 (some (I k))) 17 (some (I (us.length:Int)))) 16 (some (.d (.r (us.map ZD.r))))) 5 (some (.ref (0,1) []))) 4 (some (.ref (0,0) []))) 0 (some (.d (.r (us.map ZD.r)))),heap:=asH W (Bg++El Bl),fr:=0,next:=2})
 |[],j,Bg,hd,hj,hb=>by
  have hh:=cJ hd hj
  rw[El,zqe]
  unfold loopW
  conv=>lhs;arg 1;unfold kZ
  simp -implicitDefEqProofs (disch:=first|assumption|omega) only[go_sem,simprocAttr,hh]
 |t::Bl,j,Bg,hd,hj,hb=>by
  have hc:=bT hd hj
  have h2:=d6 ZC.r hc.1
  have h4:=hc.2.1
  simp only[ZC.r] at h2
  rw[lc] at hb
  have hbl:(Vq t).length≤1:=by unfold Vq;split<;>simp
  have ih:=zk9 us k W C hC Bl (j+1) (Bg++Vq t) hc.2.2.1 (by omega) (by rw[la];omega)
  rw[El,←List.append_assoc,←ih]
  conv=>lhs;unfold loopW;arg 1;unfold kZ
  by_cases h:t.fOp=24
  ·rw[Vq,if_pos h]
   simp -implicitDefEqProofs (disch:=first|assumption|omega|(simp only[aE,aL,aF,i64,sa,aB,lm,la,lc,ln];omega)) only[go_sem,simprocAttr,h2,h4,h,asH,zQ2,List.map_append,mc,mn]
  ·rw[Vq,if_neg h,zqe]
   simp -implicitDefEqProofs (disch:=first|assumption|omega|(simp only[aE,aL,aF,i64,sa,aB,lm,la,lc,ln];omega)) only[go_sem,simprocAttr,h2,h4,h]
theorem zwb(us:List ZD)(hl:us.length≤1048576)(hs:∀u∈us,u.sm):∀(Bl:List ZD) (j:Int) (W:List (List D)) (Bg:List ByteArray),us.drop j.toNat=Bl→0≤j→W.length≤18001*j→Bg.length≤3+1048576*j →
  loopW tab [0,4,5,16,17,18] gV {env:=upd (upd (upd (upd (upd (upd emp 18 (some (I j))) 17 (some (I (us.length:Int)))) 16 (some (.d (.r (us.map ZD.r))))) 5 (some (.ref (0,1) []))) 4 (some (.ref (0,0) []))) 0 (some (.d (.r (us.map ZD.r)))),heap:=asH W Bg,fr:=0,next:=2} =
  match asmL Bl with
  |none=>some (.ret,{env:=upd (upd emp 3 (some (I 5))) 2 (some (.d (.s 8 []))),heap:=emp,fr:=0,next:=0})
  |some R=>some (.ext 0,{env:=upd (upd (upd emp 5 (some (.ref (0,1) []))) 4 (some (.ref (0,0) []))) 0 (some (.d (.r (us.map ZD.r)))),heap:=asH (W++R.map ZB.o) (Bg++xU Bl),fr:=0,next:=2})
 |[],j,W,Bg,hd,hj,hb,hb2=>by
  have hh:=cJ hd hj
  simp only[asmL,xU,mn,zqe]
  unfold loopW
  conv=>lhs;arg 1;unfold gV
  simp -implicitDefEqProofs (disch:=first|assumption|omega) only[go_sem,simprocAttr,hh]
 |u::Bl,j,W,Bg,hd,hj,hb,hb2=>by
  have hc:=bT hd hj
  have h2:=d6 ZD.r hc.1
  have h4:=hc.2.1
  simp only[ZD.r] at h2
  have hus:=hs u hc.2.2.2.1
  obtain⟨e1,e2,_⟩:=zkh u hus
  have hjl:j<us.length:=by omega
  have g0:=fun W=>zk9 us j W u.fCode hus.2.1 u.fCode 0 Bg rfl (by omega) (by have:=hus.2.1;omega)
  have hbl:=P4 u.fCode
  have hcl:=hus.2.1
  rw[asmL,xU]
  have ih:=fun (hok:True)=>zwb us hl hs Bl (j+1) (W++(emU u).1.map ZB.o) (Bg++El u.fCode) hc.2.2.1 (by omega) (by rw[la,lm];omega) (by rw[la];omega)
  replace ih:=ih trivial
  have hall:(((emU u).1.map ZB.o).all fun el=>el.length==8)=true:=by simp[ZB.o]
  have hml:((emU u).1.map ZB.o).length=(emU u).1.length:=by simp
  cases hk:(emU u).2
  ·rw[hk] at e2
   rw[if_neg (by simp)]
   clear ih g0
   generalize (emU u).1.map ZB.o=V at *
   conv=>lhs;unfold loopW;arg 1;unfold gV
   simp -implicitDefEqProofs (disch:=first|assumption|omega|(simp only[aE,aL,aF,i64,sa,aB,lm,la,lc,ln];omega)) only[go_sem,simprocAttr,h2,h4,e2]
  ·rw[hk] at e2
   rw[if_pos rfl]
   have e3:(match (asmL Bl).map (fun R=>(emU u).1++R) with
    |none=>some (Ex.ret,({env:=upd (upd emp 3 (some (I 5))) 2 (some (.d (.s 8 []))),heap:=emp,fr:=0,next:=0}:St))
    |some R=>some (.ext 0,{env:=upd (upd (upd emp 5 (some (.ref (0,1) []))) 4 (some (.ref (0,0) []))) 0 (some (.d (.r (us.map ZD.r)))),heap:=asH (W++R.map ZB.o) (Bg++(El u.fCode++xU Bl)),fr:=0,next:=2})) =
    (match asmL Bl with
    |none=>some (Ex.ret,({env:=upd (upd emp 3 (some (I 5))) 2 (some (.d (.s 8 []))),heap:=emp,fr:=0,next:=0}:St))
    |some R=>some (.ext 0,{env:=upd (upd (upd emp 5 (some (.ref (0,1) []))) 4 (some (.ref (0,0) []))) 0 (some (.d (.r (us.map ZD.r)))),heap:=asH (W++(emU u).1.map ZB.o++R.map ZB.o) (Bg++El u.fCode++xU Bl),fr:=0,next:=2})):=by
    cases asmL Bl<;>simp
   rw[e3,←ih]
   generalize (emU u).1.map ZB.o=V at *
   have g1:=g0 (W++V)
   clear ih e3 g0
   conv=>lhs;unfold loopW;arg 1;unfold gV
   simp -implicitDefEqProofs (disch:=first|assumption|omega|(simp only[aE,aL,aF,i64,sa,aB,lm,la,lc,ln];omega)) only[go_sem,simprocAttr,h2,h4,e2,g1,hall,hml]
set_option maxRecDepth 8000
set_option maxHeartbeats 16000000
noncomputable def fitN (us:List ZD) (nm:ByteArray):Bool:=decide (needI us nm≤180)
theorem zvh(us:List ZD)(hl:us.length≤1048576)(hs:∀u∈us,u.sm)(W:List (List D))(Bg:List ByteArray)(hb:Bg.length≤2199023255552):∀(Bl:List ByteArray) (j:Int),Bg.drop j.toNat=Bl→0≤j →
  loopW tab [0,4,49,50,51] gT {env:=upd (upd (upd (upd (upd emp 51 (some (I j))) 50 (some (I (Bg.length:Int)))) 49 (some (.ref (0,1) []))) 4 (some (.ref (0,0) []))) 0 (some (.d (.r (us.map ZD.r)))),heap:=asH W Bg,fr:=0,next:=2} =
  if Bl.all (fitN us)=true then some (.ext 4,{env:=upd (upd emp 4 (some (.ref (0,0) []))) 0 (some (.d (.r (us.map ZD.r)))),heap:=upd emp (0,0) (some (.s 8 W)),fr:=0,next:=1}) else some (.ret,{env:=upd (upd emp 3 (some (I 6))) 2 (some (.d (.s 8 []))),heap:=emp,fr:=0,next:=0})
 |[],j,hd,hj=>by
  have hh:=cJ hd hj
  rw[List.all_nil,if_pos rfl]
  unfold loopW
  conv=>lhs;arg 1;unfold gT
  simp -implicitDefEqProofs (disch:=first|assumption|omega) only[go_sem,simprocAttr,hh]
 |nm::Bl,j,hd,hj=>by
  have hc:=bT hd hj
  have h2:=d6 (fun s=>[DS s]) hc.1
  have h4:=hc.2.1
  have hm:(zQ2 Bg).length=Bg.length:=by simp
  have g:=Is us nm hl hs
  rw[show(if bY us nm<0 then 0 else needV us us.length (bY us nm).toNat)=needI us nm from rfl] at g
  have ih:=zvh us hl hs W Bg hb Bl (j+1) hc.2.2.1 (by omega)
  rw[List.all_cons,fitN]
  generalize needI us nm=z at *
  by_cases hz:z≤180
  ·rw[decide_eq_true hz,bta,←ih]
   clear ih
   conv=>lhs;unfold loopW;arg 1;unfold gT
   simp -implicitDefEqProofs (disch:=first|assumption|omega|(simp only[aE,aL,aF,i64,sa,aB,lm,la,lc,ln];omega)) only[go_sem,simprocAttr,h2,h4,hm,g,hz,show ¬180<z by omega]
  ·rw[decide_eq_false hz,bfa,if_neg (by simp)]
   clear ih
   conv=>lhs;unfold loopW;arg 1;unfold gT
   simp -implicitDefEqProofs (disch:=first|assumption|omega|(simp only[aE,aL,aF,i64,sa,aB,lm,la,lc,ln];omega)) only[go_sem,simprocAttr,h2,h4,hm,g,hz,show 180<z by omega]
def Af:ByteArray:=⟨#[109,97,105,110]⟩
def Lr:ByteArray:=⟨#[114,116,101,110,100]⟩
def z8:ByteArray:=⟨#[114,116,101,120,105,116]⟩
def u5:ByteArray:=⟨#[114,116,108,111,111,112]⟩
noncomputable def asmF (us:List ZD):Bool:=([Af,Lr,z8]++xU us).all (fitN us)&&decide (needI us u5≤36)
noncomputable def asmR (us:List ZD):List ZB×Int:=match asmL us with
 |none=>([],5)
 |some R=>if asmF us=true then(R,0) else([],6)
theorem zKU(us:List ZD)(hs:∀u∈us,u.sm):(xU us).length≤1048576*us.length:=by
 induction us with
 |nil=>simp[xU]
 |cons u us ih =>
  have:=ih (fun u h=>hs u (by simp[h]))
  have h2:=P4 u.fCode
  have h3:=(hs u (by simp)).2.1
  rw[xU,la,lc]
  omega
theorem zQ4(us:List ZD)(a b c:ByteArray)(L:List ByteArray):([a,b,c]++L).all (fitN us)=(fitN us a&&(fitN us b&&(fitN us c&&L.all (fitN us)))):=by simp[List.all_append,List.all_cons]
theorem Jv(us:List ZD)(hl:us.length≤1048576)(hs:∀u∈us,u.sm):call tab p9 [.d (.r (us.map ZD.r))]=some (.tup [.d (.s 8 ((asmR us).1.map ZB.o)),I (asmR us).2]):=by
 have g1:=zwb us hl hs us 0 [] [Af,Lr,z8] rfl (by omega) (by simp) (by simp)
 have hbl:=zKU us hs
 rw[aT Lh _ rfl,Au,asmR]
 cases hA:asmL us with
 |none =>
  rw[hA] at g1
  simp only[asH,zQ2,Af,Lr,z8,mc,mn] at g1
  simp -implicitDefEqProofs (disch:=first|assumption|omega|(simp only[aE,aL,aF,i64,sa,aB,lm,la,lc,ln];omega)) only[go_sem,simprocAttr,g1,mn]
 |some R =>
  rw[hA] at g1
  simp only at g1
  have g2:=zvh us hl hs (R.map ZB.o) ([Af,Lr,z8]++xU us) (by simp;omega) ([Af,Lr,z8]++xU us) 0 rfl (by omega)
  have g3:=Is us u5 hl hs
  rw[show(if bY us u5<0 then 0 else needV us us.length (bY us u5).toNat)=needI us u5 from rfl] at g3
  have hlen:([Af,Lr,z8]++xU us).length=3+(xU us).length:=by simp;omega
  have hF:asmF us=(([Af,Lr,z8]++xU us).all (fitN us)&&decide (needI us u5≤36)):=rfl
  rw[hF]
  clear hF
  generalize needI us u5=z at *
  generalize [Af,Lr,z8]++xU us=Bg at *
  simp only[asH,zQ2,zqf] at g1 g2
  have hVl:(Bg.map (fun s=>[DS s])).length=Bg.length:=by simp
  generalize Bg.map (fun s=>[DS s])=V at *
  generalize hW:R.map ZB.o=W at *
  simp only[Af,Lr,z8,u5,mc,mn] at g1 g3
  by_cases hz:z≤36
  ·rw[decide_eq_true hz]
   cases hf:Bg.all (fitN us)
   ·rw[hf,if_neg (by simp)] at g2
    simp -implicitDefEqProofs (disch:=first|assumption|omega|(simp only[aE,aL,aF,i64,sa,aB,lm,la,lc,ln];omega)) only[go_sem,simprocAttr,g1,g2,hVl,mn]
   ·rw[hf,if_pos rfl] at g2
    simp -implicitDefEqProofs (disch:=first|assumption|omega|(simp only[aE,aL,aF,i64,sa,aB,lm,la,lc,ln];omega)) only[go_sem,simprocAttr,g1,g2,g3,hVl,hz,hW,show ¬36<z by omega]
  ·rw[decide_eq_false hz]
   cases hf:Bg.all (fitN us)
   ·rw[hf,if_neg (by simp)] at g2
    simp -implicitDefEqProofs (disch:=first|assumption|omega|(simp only[aE,aL,aF,i64,sa,aB,lm,la,lc,ln];omega)) only[go_sem,simprocAttr,g1,g2,hVl,mn]
   ·rw[hf,if_pos rfl] at g2
    simp -implicitDefEqProofs (disch:=first|assumption|omega|(simp only[aE,aL,aF,i64,sa,aB,lm,la,lc,ln];omega)) only[go_sem,simprocAttr,g1,g2,g3,hVl,hz,show 36<z by omega,mn]
theorem nI(us:List ZD)(nm:ByteArray)(hl:us.length≤1048576)(hs:∀u∈us,u.sm):call tab l9 [.d (.r (us.map ZD.r)),Str nm]=some (B (fitN us nm)):=by
 have g:=Il us.length us nm (Nat.le_refl _) hl hs
 rw[show(if bY us nm<0 then 0 else needV us us.length (bY us nm).toNat)=needI us nm from rfl] at g
 rw[aT P8 _ rfl,Ba,fitN]
 generalize needI us nm=z at *
 simp -implicitDefEqProofs (disch:=first|assumption|omega) only[go_sem,simprocAttr,g]
abbrev saH(W:List (List D)):Heap:=upd (upd emp (0,1) (some (.s 8 W))) (0,0) (some (.s 8 []))
theorem zvT(us:List ZD)(hl:us.length≤1048576)(hs:∀u∈us,u.sm):∀(Bl:List ZD) (j:Int) (W:List (List D)),us.drop j.toNat=Bl→0≤j→W.length≤18001*j →
  loopW tab [0,4,5,6] gR {env:=upd (upd (upd (upd emp 6 (some (I j))) 5 (some (.ref (0,1) []))) 4 (some (.ref (0,0) []))) 0 (some (.d (.r (us.map ZD.r)))),heap:=saH W,fr:=0,next:=2} =
  match asmL Bl with
  |none=>some (.ret,{env:=upd (upd emp 3 (some (I 5))) 2 (some (.ref (0,0) [])),heap:=upd emp (0,0) (some (.s 8 [])),fr:=0,next:=1})
  |some R=>some (.ext 0,{env:=upd (upd (upd emp 5 (some (.ref (0,1) []))) 4 (some (.ref (0,0) []))) 0 (some (.d (.r (us.map ZD.r)))),heap:=saH (W++R.map ZB.o),fr:=0,next:=2})
 |[],j,W,hd,hj,hb=>by
  have hh:=cJ hd hj
  simp only[asmL,mn,zqe]
  unfold loopW
  conv=>lhs;arg 1;unfold gR
  simp -implicitDefEqProofs (disch:=first|assumption|omega) only[go_sem,simprocAttr,hh]
 |u::Bl,j,W,hd,hj,hb=>by
  have hc:=bT hd hj
  have h2:=d6 ZD.r hc.1
  have h4:=hc.2.1
  simp only[ZD.r] at h2
  have hus:=hs u hc.2.2.2.1
  obtain⟨e1,_,e2⟩:=zkh u hus
  have hjl:j<us.length:=by omega
  rw[asmL]
  have ih:=fun (hok:True)=>zvT us hl hs Bl (j+1) (W++(emU u).1.map ZB.o) hc.2.2.1 (by omega) (by rw[la,lm];omega)
  replace ih:=ih trivial
  have hall:(((emU u).1.map ZB.o).all fun el=>el.length==8)=true:=by simp[ZB.o]
  have hml:((emU u).1.map ZB.o).length=(emU u).1.length:=by simp
  cases hk:(emU u).2
  ·rw[hk] at e2
   rw[if_neg (by simp)]
   clear ih
   generalize (emU u).1.map ZB.o=V at *
   conv=>lhs;unfold loopW;arg 1;unfold gR
   simp -implicitDefEqProofs (disch:=first|assumption|omega|(simp only[aE,aL,aF,i64,sa,aB,lm,la,lc,ln];omega)) only[go_sem,simprocAttr,h2,h4,e2]
  ·rw[hk] at e2
   rw[if_pos rfl]
   have e3:(match (asmL Bl).map (fun R=>(emU u).1++R) with
    |none=>some (Ex.ret,({env:=upd (upd emp 3 (some (I 5))) 2 (some (.ref (0,0) [])),heap:=upd emp (0,0) (some (.s 8 [])),fr:=0,next:=1}:St))
    |some R=>some (.ext 0,{env:=upd (upd (upd emp 5 (some (.ref (0,1) []))) 4 (some (.ref (0,0) []))) 0 (some (.d (.r (us.map ZD.r)))),heap:=saH (W++R.map ZB.o),fr:=0,next:=2})) =
    (match asmL Bl with
    |none=>some (Ex.ret,({env:=upd (upd emp 3 (some (I 5))) 2 (some (.ref (0,0) [])),heap:=upd emp (0,0) (some (.s 8 [])),fr:=0,next:=1}:St))
    |some R=>some (.ext 0,{env:=upd (upd (upd emp 5 (some (.ref (0,1) []))) 4 (some (.ref (0,0) []))) 0 (some (.d (.r (us.map ZD.r)))),heap:=saH (W++(emU u).1.map ZB.o++R.map ZB.o),fr:=0,next:=2})):=by
    cases asmL Bl<;>simp
   rw[e3,←ih]
   generalize (emU u).1.map ZB.o=V at *
   clear ih e3
   conv=>lhs;unfold loopW;arg 1;unfold gR
   simp -implicitDefEqProofs (disch:=first|assumption|omega|(simp only[aE,aL,aF,i64,sa,aB,lm,la,lc,ln];omega)) only[go_sem,simprocAttr,h2,h4,e2,hall,hml]
theorem zvc(us:List ZD)(hl:us.length≤1048576)(hs:∀u∈us,u.sm)(W:List (List D))(i:Int)(h0:0≤i)(u:ZD)(hu:us[i.toNat]? = some u):∀(Bl:List ZC) (j:Int) (f:Bool),u.fCode.drop j.toNat=Bl→0≤j →
  loopW tab [0,4,5,9,10,11] eS {env:=upd (upd (upd (upd (upd (upd emp 11 (some (I j))) 10 (some (I i))) 9 (some (B f))) 5 (some (.ref (0,1) []))) 4 (some (.ref (0,0) []))) 0 (some (.d (.r (us.map ZD.r)))),heap:=saH W,fr:=0,next:=2} =
  some (.ext 4,{env:=upd (upd (upd (upd (upd emp 10 (some (I i))) 9 (some (B (f&&(El Bl).all (fitN us))))) 5 (some (.ref (0,1) []))) 4 (some (.ref (0,0) []))) 0 (some (.d (.r (us.map ZD.r)))),heap:=saH W,fr:=0,next:=2})
 |[],j,f,hd,hj=>by
  have hh:=cJ hd hj
  have h2:=d6 ZD.r hu
  have hi:i<us.length:=by have:=(List.getElem?_eq_some_iff.1 hu).1;omega
  have hus:=(hs u (List.mem_of_getElem? hu)).2.1
  simp only[ZD.r] at h2
  simp only[El,List.all_nil,bat]
  unfold loopW
  conv=>lhs;arg 1;unfold eS
  simp -implicitDefEqProofs (disch:=first|assumption|omega|(simp only[aE,aL,aF,i64,sa,aB,lm,la,lc,ln];omega)) only[go_sem,simprocAttr,hh,h2,hi]
 |t::Bl,j,f,hd,hj=>by
  have hc:=bT hd hj
  have h3:=d6 ZC.r hc.1
  have h4:=hc.2.1
  simp only[ZC.r] at h3
  have h2:=d6 ZD.r hu
  have hi:i<us.length:=by have:=(List.getElem?_eq_some_iff.1 hu).1;omega
  have hus:=(hs u (List.mem_of_getElem? hu)).2.1
  simp only[ZD.r] at h2
  have g:=nI us t.fS hl hs
  have ih:=fun f=>zvc us hl hs W i h0 u hu Bl (j+1) f hc.2.2.1 (by omega)
  rw[El,List.all_append,Vq]
  by_cases h:t.fOp=24
  ·rw[if_pos h,List.all_cons,List.all_nil,bat]
   cases hf:fitN us t.fS
   ·rw[hf] at g
    have e:=ih false
    rw[bfa] at e
    rw[bfa,Zs,←e]
    clear e ih
    conv=>lhs;unfold loopW;arg 1;unfold eS
    simp -implicitDefEqProofs (disch:=first|assumption|omega|(simp only[aE,aL,aF,i64,sa,aB,lm,la,lc,ln];omega)) only[go_sem,simprocAttr,h2,h3,h4,h,hi,g]
   ·rw[hf] at g
    rw[bta,←ih f]
    clear ih
    conv=>lhs;unfold loopW;arg 1;unfold eS
    simp -implicitDefEqProofs (disch:=first|assumption|omega|(simp only[aE,aL,aF,i64,sa,aB,lm,la,lc,ln];omega)) only[go_sem,simprocAttr,h2,h3,h4,h,hi,g]
  ·rw[if_neg h,List.all_nil,bta,←ih f]
   clear ih
   conv=>lhs;unfold loopW;arg 1;unfold eS
   simp -implicitDefEqProofs (disch:=first|assumption|omega|(simp only[aE,aL,aF,i64,sa,aB,lm,la,lc,ln];omega)) only[go_sem,simprocAttr,h2,h3,h4,h,hi]
theorem zwa(us:List ZD)(hl:us.length≤1048576)(hs:∀u∈us,u.sm)(W:List (List D)):∀(Bl:List ZD) (j:Int) (f:Bool),us.drop j.toNat=Bl→0≤j →
  loopW tab [0,4,5,9,10] kR {env:=upd (upd (upd (upd (upd emp 10 (some (I j))) 9 (some (B f))) 5 (some (.ref (0,1) []))) 4 (some (.ref (0,0) []))) 0 (some (.d (.r (us.map ZD.r)))),heap:=saH W,fr:=0,next:=2} =
  some (.ext 2,{env:=upd (upd (upd emp 9 (some (B (f&&(xU Bl).all (fitN us))))) 5 (some (.ref (0,1) []))) 4 (some (.ref (0,0) [])),heap:=saH W,fr:=0,next:=2})
 |[],j,f,hd,hj=>by
  have hh:=cJ hd hj
  simp only[xU,List.all_nil,bat]
  unfold loopW
  conv=>lhs;arg 1;unfold kR
  simp -implicitDefEqProofs (disch:=first|assumption|omega) only[go_sem,simprocAttr,hh]
 |u::Bl,j,f,hd,hj=>by
  have hc:=bT hd hj
  have h4:=hc.2.1
  have g:=zvc us hl hs W j hj u hc.1 u.fCode 0 f rfl (by omega)
  have ih:=zwa us hl hs W Bl (j+1) (f&&(El u.fCode).all (fitN us)) hc.2.2.1 (by omega)
  rw[xU,List.all_append,←Bool.and_assoc,←ih]
  generalize (f&&(El u.fCode).all (fitN us))=b at *
  clear ih
  conv=>lhs;unfold loopW;arg 1;unfold kR
  simp -implicitDefEqProofs (disch:=first|assumption|omega|(simp only[aE,aL,aF,i64,sa,aB,lm,la,lc,ln];omega)) only[go_sem,simprocAttr,h4,g]
theorem Jp(us:List ZD)(hl:us.length≤1048576)(hs:∀u∈us,u.sm):call tab vK [.d (.r (us.map ZD.r))]=some (.tup [.d (.s 8 ((asmR us).1.map ZB.o)),I (asmR us).2]):=by
 have g1:=zvT us hl hs us 0 [] rfl (by omega) (by simp)
 have f1:=nI us Af hl hs
 have f2:=nI us Lr hl hs
 have f3:=nI us z8 hl hs
 have f4:=Il us.length us u5 (Nat.le_refl _) hl hs
 rw[show(if bY us u5<0 then 0 else needV us us.length (bY us u5).toNat)=needI us u5 from rfl] at f4
 rw[aT Mh _ rfl,Ah,asmR]
 cases hA:asmL us with
 |none =>
  rw[hA] at g1
  simp only[saH] at g1
  simp -implicitDefEqProofs (disch:=first|assumption|omega|(simp only[aE,aL,aF,i64,sa,aB,lm,la,lc,ln];omega)) only[go_sem,simprocAttr,g1,mn]
 |some R =>
  rw[hA] at g1
  simp only[zqf] at g1
  have g2:=fun f=>zwa us hl hs (R.map ZB.o) us 0 f rfl (by omega)
  simp only[asmF,zQ4]
  simp only[saH] at g1 g2
  generalize hW:R.map ZB.o=W at *
  generalize needI us u5=z at *
  generalize fitN us Af=b1 at *
  generalize fitN us Lr=b2 at *
  generalize fitN us z8=b3 at *
  generalize (xU us).all (fitN us)=b5 at *
  simp only[Af,Lr,z8,u5] at f1 f2 f3 f4
  have g20:=g2 false
  have g21:=g2 true
  clear g2
  by_cases hz:z≤36
  ·rw[decide_eq_true hz,bat]
   cases b1
   ·simp -implicitDefEqProofs (disch:=first|assumption|omega|(simp only[aE,aL,aF,i64,sa,aB,lm,la,lc,ln];omega)) only[go_sem,simprocAttr,g1,f1,g20,mn]
   cases b2
   ·simp -implicitDefEqProofs (disch:=first|assumption|omega|(simp only[aE,aL,aF,i64,sa,aB,lm,la,lc,ln];omega)) only[go_sem,simprocAttr,g1,f1,f2,g20,mn]
   cases b3
   ·simp -implicitDefEqProofs (disch:=first|assumption|omega|(simp only[aE,aL,aF,i64,sa,aB,lm,la,lc,ln];omega)) only[go_sem,simprocAttr,g1,f1,f2,f3,g20,mn]
   cases b5
   ·simp -implicitDefEqProofs (disch:=first|assumption|omega|(simp only[aE,aL,aF,i64,sa,aB,lm,la,lc,ln];omega)) only[go_sem,simprocAttr,g1,f1,f2,f3,f4,g21,hz,mn]
   ·simp -implicitDefEqProofs (disch:=first|assumption|omega|(simp only[aE,aL,aF,i64,sa,aB,lm,la,lc,ln];omega)) only[go_sem,simprocAttr,g1,f1,f2,f3,f4,g21,hz,hW]
  ·rw[decide_eq_false hz,Zs]
   cases b1
   ·simp -implicitDefEqProofs (disch:=first|assumption|omega|(simp only[aE,aL,aF,i64,sa,aB,lm,la,lc,ln];omega)) only[go_sem,simprocAttr,g1,f1,g20,mn]
   cases b2
   ·simp -implicitDefEqProofs (disch:=first|assumption|omega|(simp only[aE,aL,aF,i64,sa,aB,lm,la,lc,ln];omega)) only[go_sem,simprocAttr,g1,f1,f2,g20,mn]
   cases b3
   ·simp -implicitDefEqProofs (disch:=first|assumption|omega|(simp only[aE,aL,aF,i64,sa,aB,lm,la,lc,ln];omega)) only[go_sem,simprocAttr,g1,f1,f2,f3,g20,mn]
   simp -implicitDefEqProofs (disch:=first|assumption|omega|(simp only[aE,aL,aF,i64,sa,aB,lm,la,lc,ln];omega)) only[go_sem,simprocAttr,g1,f1,f2,f3,f4,g20,hz,mn]
theorem zVr(us:List ZD)(hl:us.length≤1048576)(hs:∀u∈us,u.sm):(asmR us).1.length≤18001*us.length:=by
 have key:∀(vs:List ZD),(∀u∈vs,u.sm)→∀R,asmL vs=some R→R.length≤18001*vs.length:=by
  intro vs
  induction vs with
  |nil=>intro _ R h;simp[asmL] at h;subst h;simp
  |cons u vs ih =>
   intro hv R h
   rw[asmL] at h
   split at h
   ·cases hA:asmL vs with
    |none=>rw[hA] at h;simp at h
    |some R2 =>
     rw[hA] at h
     simp only[oms,oi] at h
     subst h
     have h1:=ih (fun u h=>hv u (by simp[h])) R2 hA
     have h2:=(zkh u (hv u (by simp))).1
     rw[la,lc]
     omega
   ·simp at h
 unfold asmR
 cases hA:asmL us with
 |none=>simp
 |some R =>
  have:=key us hs R hA
  simp only
  split
  ·exact this
  ·simp
theorem Er(us:List ZD)(hU:us.length≤140737488351232∧∀y∈us,y.ok):call tab lF [.d (.r (us.map ZD.r))]=some (B true):=by
 have g0:=L8 us 1048576 (by omega) hU
 rw[aT zZ _ rfl,oX]
 by_cases h0:(1048576:Int)<ZD.szs us
 ·rw[if_pos h0] at g0
  simp -implicitDefEqProofs (disch:=first|assumption|omega|(simp only[aE,aL,aF,i64,sa,aB,lm,la,lc,ln];omega)) only[go_sem,simprocAttr,g0]
 ·rw[if_neg h0] at g0
  obtain⟨r1,r2⟩:=ZD.sms_of (by omega:ZD.szs us≤1048576)
  have g1:=Ma us ⟨r1,r2⟩
  have e1:=Jv us r1 r2
  have e2:=Jp us r1 r2
  have hR:=zVr us r1 r2
  have g4:=Me us ⟨r1,r2⟩
  have n1:=ZD.cts_le us
  have n3:=ZD.cts_nn us
  have g5:=G5 us 1 (by omega) (by omega)
  generalize (asmR us).1=R at *
  generalize (asmR us).2=code at *
  have g6:=Kb R (by omega)
  have n2:=zzu R
  have g7:=Hw R 1 (by omega) (by omega)
  have g8:=Ie R 1 (by omega) (by omega)
  have hz:¬1048576-ZD.szs us<0:=by omega
  generalize 1048576-ZD.szs us=z at *
  simp -implicitDefEqProofs (disch:=first|assumption|omega|(simp only[aE,aL,aF,i64,sa,aB,lm,la,lc,ln];omega)) only[go_sem,simprocAttr,g0,g1,e1,e2,g4,g5,g6,g7,g8,hz,ZB.fzs,ZB.fzr,ZB.noR,ZD.fzs,ZD.fzr,ZD.noR]
theorem pure_FnExactAssemble(xs:List X)(h:zvI [(false,[.l 56 [.s,.i .i64,.i .i64,.l 80 [.i .i64,.i .i64,.i .i64,.i .i64,.i .i64,.s,.l 8 [.i .i64]]]])] xs):call tab lF xs=some (.d (.v (.bool true))):=by
 simp only[zvI,z8O] at h
 obtain⟨x0,r0,rfl,⟨d0,rfl,hf0⟩,rfl⟩:=h
 rw[fit] at hf0
 obtain⟨els0,rfl,hb0,hc0⟩:=hf0
 obtain⟨y0,rfl,hy0⟩:=Mq (fun c hc=>ZD.fit hc) hc0
 rw[lm] at hb0
 exact Er y0 ⟨by omega,hy0⟩
end Go.Ev.G
