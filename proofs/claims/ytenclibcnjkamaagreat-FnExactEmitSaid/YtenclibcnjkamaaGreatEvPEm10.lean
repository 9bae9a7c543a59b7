import Derived.Test.YtenclibcnjkamaaGreatEvPUnit2
import Derived.Test.YtenclibcnjkamaaGreatEvPNeed2
import Derived.Test.YtenclibcnjkamaaGreatEvQLine2
set_option linter.all false
namespace Go.Ev.G
set_option maxRecDepth 8000
set_option maxHeartbeats 4000000
theorem yG(f:Nat)(p:ZC→Bool)(h:Heap)(fr:Nat)(hh:cB fr h=h)(xs:List ZC)(hx:xs.length≤140737488351232)(hf:∀x∈xs,evCW tab f [x.x] h (fr+1)=some (B (p x),h)):∀(Bl:List ZC) (j:Int),xs.drop j.toNat=Bl→0≤j →
  loopW tab [0,1,7,8] bI {env:=upd (upd (upd (upd emp 8 (some (I j))) 7 (some (I (xs.length:Int)))) 1 (some (.d (.v (.func (.func f) #[] #[]))))) 0 (some (.d (.r (xs.map (ZC.r))))),heap:=h,fr:=fr,next:=0}=if bC p j Bl= -1 then some (.ext 0,{env:=emp,heap:=h,fr:=fr,next:=0}) else some (.ret,{env:=upd emp 4 (some (I (bC p j Bl))),heap:=h,fr:=fr,next:=0})
 |[],j,hd,hj=>by
  unfold loopW
  conv=>lhs;arg 1;unfold bI
  have:=cZ hd hj
  simp only[bC,if_true]
  (repeat'(first|simp -implicitDefEqProofs (disch:=first|assumption|omega|(simp only[aE,aM,aF,i64,sa,aD,lm,la,lc,ln];omega)) only[go_sem,simprocAttr,hh]|((first|rw[aQ]|rw[aK]|rw[aI]|rw[aO]|rw[aN]|rw[aH]|rw[aJ]|rw[aP]|skip);split)))
 |x::Bl,j,hd,hj=>by
  unfold loopW
  conv=>lhs;arg 1;unfold bI
  have h4:=(cA hd hj).2.1
  have ih:=yG f p h fr hh xs hx hf Bl (j+1) (cA hd hj).2.2.1 (by omega)
  have h2:=gC (ZC.r) (cA hd hj).1
  simp only[ZC.r] at h2
  have h3:=hf x (cA hd hj).2.2.2.1
  rw[bC]
  by_cases hp:p x=true
  ·rw[if_pos hp,if_neg (by omega)]
   (repeat'(first|simp -implicitDefEqProofs (disch:=first|assumption|omega|(simp only[aE,aM,aF,i64,sa,aD,lm,la,lc,ln];omega)) only[go_sem,simprocAttr,h2,h3,hh]|((first|rw[aQ]|rw[aK]|rw[aI]|rw[aO]|rw[aN]|rw[aH]|rw[aJ]|rw[aP]|skip);split)))
  ·rw[if_neg hp,←ih]
   (repeat'(first|simp -implicitDefEqProofs (disch:=first|assumption|omega|(simp only[aE,aM,aF,i64,sa,aD,lm,la,lc,ln];omega)) only[go_sem,simprocAttr,h2,h3,hh]|((first|rw[aQ]|rw[aK]|rw[aI]|rw[aO]|rw[aN]|rw[aH]|rw[aJ]|rw[aP]|skip);split)))
theorem wW(f:Nat)(p:ZC→Bool)(h:Heap)(fr:Nat)(hh:cB fr h=h)(xs:List ZC)(hx:xs.length≤140737488351232)(hf:∀x∈xs,evCW tab f [x.x] h (fr+1)=some (B (p x),h)):evCW tab b9 [.d (.r (xs.map (ZC.r))),.d (.v (.func (.func f) #[] #[]))] h fr=some (I (bC p 0 xs),h):=by
 rw[aR eV _ _ _ rfl,dF]
 have h0:=yG f p h fr hh xs hx hf xs 0 rfl (by omega)
 by_cases hp:bC p 0 xs= -1
 ·rw[if_pos hp] at h0
  (repeat'(first|simp -implicitDefEqProofs (disch:=first|assumption|omega|(simp only[aE,aM,aF,i64,sa,aD,lm,la,lc,ln];omega)) only[go_sem,simprocAttr,hh,h0,hp]|((first|rw[aQ]|rw[aK]|rw[aI]|rw[aO]|rw[aN]|rw[aH]|rw[aJ]|rw[aP]|skip);split)))
 ·rw[if_neg hp] at h0
  (repeat'(first|simp -implicitDefEqProofs (disch:=first|assumption|omega|(simp only[aE,aM,aF,i64,sa,aD,lm,la,lc,ln];omega)) only[go_sem,simprocAttr,hh,h0,hp]|((first|rw[aQ]|rw[aK]|rw[aI]|rw[aO]|rw[aN]|rw[aH]|rw[aJ]|rw[aP]|skip);split)))
theorem sM(f:Nat)(p:ZC→Bool)(h:Heap)(fr:Nat)(hh:cB fr h=h)(hh':cB (fr+1) h=h)(xs:List ZC)(hx:xs.length≤140737488351232)(hf:∀x∈xs,evCW tab f [x.x] h (fr+2)=some (B (p x),h)):evCW tab c8 [.d (.r (xs.map (ZC.r))),.d (.v (.func (.func f) #[] #[]))] h fr=some (B (xs.any p),h):=by
 rw[aR kM _ _ _ rfl,d8]
 have h0:=wW f p h (fr+1) hh' xs hx hf
 rw[zY p 0 (by omega)]
 (repeat'(first|simp -implicitDefEqProofs (disch:=first|assumption|omega|(simp only[aE,aM,aF,i64,sa,aD,lm,la,lc,ln];omega)) only[go_sem,simprocAttr,hh,h0]|((first|rw[aQ]|rw[aK]|rw[aI]|rw[aO]|rw[aN]|rw[aH]|rw[aJ]|rw[aP]|skip);split)))
set_option maxRecDepth 8000
set_option maxHeartbeats 8000000
def aS(op r a bb n m:Int)(to:ByteArray):ZB:=⟨⟨#[]⟩,⟨op,r,a,bb,n,m⟩,to⟩
abbrev eH(u:ZD)(H:List Int)(fm:Int)(Ls:List ZB):Heap:=upd emp (0,0) (some (.s 7 [[DS u.fName,DI u.fParams,DI u.fRegs,.r (u.fCode.map ZC.r),.s 1 (aG H),DI fm,.s 8 (Ls.map ZB.o)]]))
abbrev gH(nm:ByteArray)(H:List Int)(fm:Int)(Ls:List ZB):Heap:=upd emp (0,0) (some (.s 4 [[DS nm,.r (aG H),DI fm,.s 8 (Ls.map ZB.o)]]))
theorem bN(x:Option D):cB 1 (upd emp (0,0) x)=upd emp (0,0) x:=by
 funext id
 simp only[cB]
 split
 ·rename_i h
  have:id≠(0,0):=fun e=>by rw[e] at h;simp at h
  simp[upd,this,emp]
 ·rfl
theorem zZg(Ls:List ZB)(op r a bb n m:Int)(to:ByteArray):(Ls++[aS op r a bb n m to]).map ZB.o=Ls.map ZB.o++[[DS ⟨#[]⟩,DI op,DI r,DI a,DI bb,DI n,DI m,DS to]]:=by simp[aS,ZB.o]
theorem pU(u:ZD)(H:List Int)(fm:Int)(Ls:List ZB)(hl:Ls.length≤1000000)(op r a bb n m:Int)(to:ByteArray):evCW tab bG [.ptr (0,0) [] 0 0,.agg [I op,I r,I a,I bb,I n,I m],Str to] (eH u H fm Ls) 1=some (.tup [],eH u H fm (Ls++[aS op r a bb n m to])):=by
 have hd:=bN
 have e:=zZg Ls op r a bb n m to
 have h2:(Ls.map ZB.o).length≤1000000:=by simp;omega
 rw[aR D5 _ _ _ rfl,rU]
 simp only[eH,e]
 generalize Ls.map ZB.o=W at *
 simp -implicitDefEqProofs (disch:=first|assumption|omega|(simp only[aE,aM,aF,i64,sa,aD,lm,la,lc,ln];omega)) only[go_sem,simprocAttr,hd]
theorem tX(nm:ByteArray)(H:List Int)(fm:Int)(Ls:List ZB)(hl:Ls.length≤1000000)(op r a bb n m:Int):evCW tab cE [.ptr (0,0) [] 0 0,.agg [I op,I r,I a,I bb,I n,I m]] (gH nm H fm Ls) 1=some (.tup [],gH nm H fm (Ls++[aS op r a bb n m ⟨#[]⟩])):=by
 have hd:=bN
 have e:=zZg Ls op r a bb n m ⟨#[]⟩
 have h2:(Ls.map ZB.o).length≤1000000:=by simp;omega
 rw[aR N7 _ _ _ rfl,Ci]
 simp only[gH,e]
 generalize Ls.map ZB.o=W at *
 simp -implicitDefEqProofs (disch:=first|assumption|omega|(simp only[aE,aM,aF,i64,sa,aD,lm,la,lc,ln];omega)) only[go_sem,simprocAttr,hd]
theorem gto(nm:ByteArray)(H:List Int)(fm:Int)(Ls:List ZB)(hl:Ls.length≤1000000)(op r a bb n m:Int)(to:ByteArray):evCW tab oU [.ptr (0,0) [] 0 0,.agg [I op,I r,I a,I bb,I n,I m],Str to] (gH nm H fm Ls) 1=some (.tup [],gH nm H fm (Ls++[aS op r a bb n m to])):=by
 have hd:=bN
 have e:=zZg Ls op r a bb n m to
 have h2:(Ls.map ZB.o).length≤1000000:=by simp;omega
 rw[aR Rq _ _ _ rfl,Ep]
 simp only[gH,e]
 generalize Ls.map ZB.o=W at *
 simp -implicitDefEqProofs (disch:=first|assumption|omega|(simp only[aE,aM,aF,i64,sa,aD,lm,la,lc,ln];omega)) only[go_sem,simprocAttr,hd]
def rdL(h r:Int):List ZB:=if h<10 then [] else [aS 8 r 6 0 (2+h-10) 0 ⟨#[]⟩]
def rdV(h r:Int):Int:=if h<10 then h else r
def kpL(h r:Int):List ZB:=if 10≤h then [aS 9 0 6 r (2+h-10) 0 ⟨#[]⟩] else if 0≤h∧h≠r then [aS 2 h r 0 0 0 ⟨#[]⟩] else []
theorem i6(u:ZD)(H:List Int)(fm:Int)(Ls:List ZB)(hl:Ls.length≤1000000)(q r:Int)(h0:0≤q)(hq:q<H.length)(hb:aB H q≤1000000)(hn:0≤aB H q):evCW tab bV [.ptr (0,0) [] 0 0,I q,I r] (eH u H fm Ls) 1=some (I (rdV (aB H q) r),eH u H fm (Ls++rdL (aB H q) r)):=by
 have hd:=bN
 have f1:=(bO (zs:=H) h0 hq).1
 have n1:(aG H).length=H.length:=by simp[aG]
 have p:=fun h=>pU u H fm Ls hl 8 r 6 0 (2+h-10) 0 ⟨#[]⟩
 rw[aR B4 _ _ _ rfl,qN]
 generalize aB H q=z at *
 have pz:=p z
 by_cases h:z<10
 ·rw[rdV,rdL,if_pos h,if_pos h,List.append_nil]
  simp -implicitDefEqProofs (disch:=first|assumption|omega|(simp only[aE,aM,aF,i64,sa,aD,lm,la,lc,ln];omega)) only[go_sem,simprocAttr,f1,n1,h,hd]
 ·rw[rdV,rdL,if_neg h,if_neg h]
  simp only[eH] at pz ⊢
  simp -implicitDefEqProofs (disch:=first|assumption|omega|(simp only[aE,aM,aF,i64,sa,aD,lm,la,lc,ln];omega)) only[go_sem,simprocAttr,f1,n1,h,hd,pz]
theorem i5(nm:ByteArray)(H:List Int)(fm:Int)(Ls:List ZB)(hl:Ls.length≤1000000)(q r:Int)(h0:0≤q)(hq:q<H.length)(hb:aB H q≤1000000)(hn:0≤aB H q):evCW tab eX [.ptr (0,0) [] 0 0,I q,I r] (gH nm H fm Ls) 1=some (I (rdV (aB H q) r),gH nm H fm (Ls++rdL (aB H q) r)):=by
 have hd:=bN
 have f1:=(bO (zs:=H) h0 hq).1
 have n1:(aG H).length=H.length:=by simp[aG]
 have p:=fun h=>tX nm H fm Ls hl 8 r 6 0 (2+h-10) 0
 rw[aR Mh _ _ _ rfl,A5]
 generalize aB H q=z at *
 have pz:=p z
 by_cases h:z<10
 ·rw[rdV,rdL,if_pos h,if_pos h,List.append_nil]
  simp -implicitDefEqProofs (disch:=first|assumption|omega|(simp only[aE,aM,aF,i64,sa,aD,lm,la,lc,ln];omega)) only[go_sem,simprocAttr,f1,n1,h,hn,hd]
 ·rw[rdV,rdL,if_neg h,if_neg h]
  simp only[gH] at pz ⊢
  simp -implicitDefEqProofs (disch:=first|assumption|omega|(simp only[aE,aM,aF,i64,sa,aD,lm,la,lc,ln];omega)) only[go_sem,simprocAttr,f1,n1,h,hn,show ¬z<0 by omega,hd,pz]
theorem x9(u:ZD)(H:List Int)(fm:Int)(Ls:List ZB)(hl:Ls.length≤1000000)(q r:Int)(h0:0≤q)(hq:q<H.length)(hb:aB H q≤1000000):evCW tab cI [.ptr (0,0) [] 0 0,I q,I r] (eH u H fm Ls) 1=some (.tup [],eH u H fm (Ls++kpL (aB H q) r)):=by
 have hd:=bN
 have f1:=(bO (zs:=H) h0 hq).1
 have n1:(aG H).length=H.length:=by simp[aG]
 have p:=fun h=>pU u H fm Ls hl 9 0 6 r (2+h-10) 0 ⟨#[]⟩
 have p2:=fun h=>pU u H fm Ls hl 2 h r 0 0 0 ⟨#[]⟩
 rw[aR B8 _ _ _ rfl,qI]
 generalize aB H q=z at *
 have pz:=p z
 have pz2:=p2 z
 simp only[eH] at pz pz2 ⊢
 by_cases h:10≤z
 ·rw[kpL,if_pos h]
  simp -implicitDefEqProofs (disch:=first|assumption|omega|(simp only[aE,aM,aF,i64,sa,aD,lm,la,lc,ln];omega)) only[go_sem,simprocAttr,f1,n1,h,hd,pz]
 ·rw[kpL,if_neg h]
  by_cases h2:0≤z
  ·by_cases h3:z=r
   ·rw[if_neg (by simp[h3]),List.append_nil]
    subst h3
    simp -implicitDefEqProofs (disch:=first|assumption|omega|(simp only[aE,aM,aF,i64,sa,aD,lm,la,lc,ln];omega)) only[go_sem,simprocAttr,f1,n1,h,h2,hd]
   ·rw[if_pos ⟨h2,h3⟩]
    simp -implicitDefEqProofs (disch:=first|assumption|omega|(simp only[aE,aM,aF,i64,sa,aD,lm,la,lc,ln];omega)) only[go_sem,simprocAttr,f1,n1,h,h2,h3,hd,pz2]
  ·rw[if_neg (by omega),List.append_nil]
   simp -implicitDefEqProofs (disch:=first|assumption|omega|(simp only[aE,aM,aF,i64,sa,aD,lm,la,lc,ln];omega)) only[go_sem,simprocAttr,f1,n1,h,h2,hd]
theorem yA(nm:ByteArray)(H:List Int)(fm:Int)(Ls:List ZB)(hl:Ls.length≤1000000)(q r:Int)(h0:0≤q)(hq:q<H.length)(hb:aB H q≤1000000):evCW tab dT [.ptr (0,0) [] 0 0,I q,I r] (gH nm H fm Ls) 1=some (.tup [],gH nm H fm (Ls++kpL (aB H q) r)):=by
 have hd:=bN
 have f1:=(bO (zs:=H) h0 hq).1
 have n1:(aG H).length=H.length:=by simp[aG]
 have p:=fun h=>tX nm H fm Ls hl 9 0 6 r (2+h-10) 0
 have p2:=fun h=>tX nm H fm Ls hl 2 h r 0 0 0
 rw[aR Ig _ _ _ rfl,yB]
 generalize aB H q=z at *
 have pz:=p z
 have pz2:=p2 z
 simp only[gH] at pz pz2 ⊢
 by_cases h:10≤z
 ·rw[kpL,if_pos h]
  simp -implicitDefEqProofs (disch:=first|assumption|omega|(simp only[aE,aM,aF,i64,sa,aD,lm,la,lc,ln];omega)) only[go_sem,simprocAttr,f1,n1,h,hd,pz]
 ·rw[kpL,if_neg h]
  by_cases h2:0≤z
  ·by_cases h3:z=r
   ·rw[if_neg (by simp[h3]),List.append_nil]
    subst h3
    simp -implicitDefEqProofs (disch:=first|assumption|omega|(simp only[aE,aM,aF,i64,sa,aD,lm,la,lc,ln];omega)) only[go_sem,simprocAttr,f1,n1,h,h2,hd]
   ·rw[if_pos ⟨h2,h3⟩]
    simp -implicitDefEqProofs (disch:=first|assumption|omega|(simp only[aE,aM,aF,i64,sa,aD,lm,la,lc,ln];omega)) only[go_sem,simprocAttr,f1,n1,h,h2,h3,hd,pz2]
  ·rw[if_neg (by omega),List.append_nil]
   simp -implicitDefEqProofs (disch:=first|assumption|omega|(simp only[aE,aM,aF,i64,sa,aD,lm,la,lc,ln];omega)) only[go_sem,simprocAttr,f1,n1,h,h2,hd]
set_option maxRecDepth 8000
set_option maxHeartbeats 8000000
def qD(nm:ByteArray)(n:Int):ByteArray:=nm++⟨#[46]⟩++dig n
def D6(nm:ByteArray)(n:Int):ZB:=⟨qD nm n,⟨0,0,0,0,0,0⟩,⟨#[]⟩⟩
theorem aX(h r:Int):(rdL h r).length≤1:=by unfold rdL;split<;>simp
theorem mQ(h r:Int):(kpL h r).length≤1:=by
 unfold kpL
 split
 ·simp
 ·split<;>simp
def okH(H:List Int)(q:Int):Prop:=0≤q∧q<H.length∧0≤aB H q∧aB H q≤1000000
theorem zjV{nm:ByteArray}(h:nm.size≤1048576){n:Int}(hn:i64 n):aE nm ⟨#[46]⟩∧aE (nm++⟨#[46]⟩) (dig n):=by
 have h2:=Ed hn
 have h3:(⟨#[46]⟩:ByteArray).size=1:=rfl
 constructor
 ·show nm.size+(⟨#[46]⟩:ByteArray).size≤_
  omega
 ·show(nm++⟨#[46]⟩).size+(dig n).size≤_
  rw[sa]
  omega
theorem Bj(a:ByteArray)(l:List D):fzl (DS a::l)=DS a::fzl l:=rfl
theorem zzo(nm:ByteArray)(hn:nm.size≤1048576)(cs:List D)(n:Int)(h:i64 n):call tab fU [.rop (DS nm::cs),I n]=some (Str (qD nm n)):=by
 have g:=Mt h
 obtain⟨c1,c2⟩:=zjV hn h
 rw[aY An _ rfl,pJ,qD]
 generalize dig n=dg at *
 simp -implicitDefEqProofs (disch:=first|assumption|omega|(simp only[aE,aM,aF,i64,sa,aD,lm,la,lc,ln];omega)) only[go_sem,simprocAttr,g,c1,c2,List.drop_zero,List.take_succ_cons,List.take_zero]
theorem Z4(nm:ByteArray)(hn:nm.size≤1048576)(cs:List D)(n:Int)(h:i64 n):call tab l9 [.rop (DS nm::cs),I n]=some (Str (qD nm n)):=by
 have g:=Kr h
 obtain⟨c1,c2⟩:=zjV hn h
 rw[aY H6 _ rfl,yI,qD]
 generalize dig n=dg at *
 simp -implicitDefEqProofs (disch:=first|assumption|omega|(simp only[aE,aM,aF,i64,sa,aD,lm,la,lc,ln];omega)) only[go_sem,simprocAttr,g,c1,c2,List.drop_zero,List.take_succ_cons,List.take_zero]
def mZ(H:List Int)(fm:Int):Int→List Int→List ZB
 |_,[]=>[]
 |j,q::qs=>rdL (aB H q) 3++[aS 9 0 6 (rdV (aB H q) 3) (fm+2+j) 0 ⟨#[]⟩]++mZ H fm (j+1) qs
theorem E9(H:List Int)(fm:Int):∀(qs:List Int) (j:Int),(mZ H fm j qs).length≤2*qs.length
 |[],j=>by simp[mZ]
 |q::qs,j=>by
  have h1:=aX (aB H q) 3
  have h2:=E9 H fm qs (j+1)
  rw[mZ,la,la,List.length_singleton,lc]
  omega
theorem zYn(u:ZD)(op fD fA fB fN:Int)(fS:ByteArray)(H:List Int)(fm:Int)(hf:0≤fm)(hf2:fm≤1000)(xs:List Int)(hx:xs.length≤4)(hq:∀q∈xs,okH H q):∀(Bl:List Int) (j:Int) (Ls:List ZB),xs.drop j.toNat=Bl→0≤j→Ls.length≤900000+2*j →
  loopW tab [0,3,8,9,10] gA {env:=upd (upd (upd (upd (upd emp 10 (some (I j))) 9 (some (I (xs.length:Int)))) 8 (some (.d (.r (aG xs))))) 3 (some (.vp [I op,I fD,I fA,I fB,I fN,Str fS,.d (.r (aG xs))]))) 0 (some (.ptr (0,0) [] 0 0)),heap:=eH u H fm Ls,fr:=1,next:=0} =
  some (.ext 0,{env:=upd (upd emp 3 (some (.vp [I op,I fD,I fA,I fB,I fN,Str fS,.d (.r (aG xs))]))) 0 (some (.ptr (0,0) [] 0 0)),heap:=eH u H fm (Ls++mZ H fm j Bl),fr:=1,next:=0})
 |[],j,Ls,hd,hj,hl=>by
  have hh:=cZ hd hj
  have hdr:=bN
  unfold loopW
  conv=>lhs;arg 1;unfold gA
  simp only[mZ,List.append_nil]
  simp -implicitDefEqProofs (disch:=first|assumption|omega) only[go_sem,simprocAttr,hh,hdr]
 |q::Bl,j,Ls,hd,hj,hl=>by
  have hc:=cA hd hj
  have hdr:=bN
  have h2:=gC (fun n=>[DI n]) hc.1
  have h4:=hc.2.1
  obtain⟨q0,q1,q2,q3⟩:=hq q hc.2.2.2.1
  have hrl:=aX (aB H q) 3
  have ih:=zYn u op fD fA fB fN fS H fm hf hf2 xs hx hq Bl (j+1) (Ls++rdL (aB H q) 3++[aS 9 0 6 (rdV (aB H q) 3) (fm+2+j) 0 ⟨#[]⟩]) hc.2.2.1 (by omega) (by simp only[la,List.length_singleton];omega)
  rw[mZ,show Ls++(rdL (aB H q) 3++[aS 9 0 6 (rdV (aB H q) 3) (fm+2+j) 0 ⟨#[]⟩]++mZ H fm (j+1) Bl)=Ls++rdL (aB H q) 3++[aS 9 0 6 (rdV (aB H q) 3) (fm+2+j) 0 ⟨#[]⟩]++mZ H fm (j+1) Bl by simp,←ih]
  have s1:=i6 u H fm Ls (by omega) q 3 q0 q1 q3 q2
  have s2:=pU u H fm (Ls++rdL (aB H q) 3) (by rw[la];omega) 9 0 6 (rdV (aB H q) 3) (fm+2+j) 0 ⟨#[]⟩
  generalize Ls++rdL (aB H q) 3++[aS 9 0 6 (rdV (aB H q) 3) (fm+2+j) 0 ⟨#[]⟩]=L2 at *
  generalize Ls++rdL (aB H q) 3=L1 at *
  generalize rdV (aB H q) 3=v at *
  simp only[eH] at s1 s2 ⊢
  conv=>lhs;unfold loopW;arg 1;unfold gA
  simp -implicitDefEqProofs (disch:=first|assumption|omega|(simp only[aE,aM,aF,i64,sa,aD,lm,la,lc,ln];omega)) only[go_sem,simprocAttr,h2,h4,hdr,s1,s2]
theorem zYT(nm:ByteArray)(op fD fA fB fN:Int)(fS:ByteArray)(H:List Int)(fm:Int)(hf:0≤fm)(hf2:fm≤1000)(xs:List Int)(hx:xs.length≤4)(hq:∀q∈xs,okH H q):∀(Bl:List Int) (j:Int) (Ls:List ZB),xs.drop j.toNat=Bl→0≤j→Ls.length≤900000+2*j →
  loopW tab [0,3,4] lL {env:=upd (upd (upd emp 4 (some (I j))) 3 (some (.vp [I op,I fD,I fA,I fB,I fN,Str fS,.d (.r (aG xs))]))) 0 (some (.ptr (0,0) [] 0 0)),heap:=gH nm H fm Ls,fr:=1,next:=0} =
  some (.ext 0,{env:=upd (upd emp 3 (some (.vp [I op,I fD,I fA,I fB,I fN,Str fS,.d (.r (aG xs))]))) 0 (some (.ptr (0,0) [] 0 0)),heap:=gH nm H fm (Ls++mZ H fm j Bl),fr:=1,next:=0})
 |[],j,Ls,hd,hj,hl=>by
  have hh:=cZ hd hj
  have hdr:=bN
  unfold loopW
  conv=>lhs;arg 1;unfold lL
  simp only[mZ,List.append_nil]
  simp -implicitDefEqProofs (disch:=first|assumption|omega) only[go_sem,simprocAttr,hh,hdr]
 |q::Bl,j,Ls,hd,hj,hl=>by
  have hc:=cA hd hj
  have hdr:=bN
  have h2:=gC (fun n=>[DI n]) hc.1
  have h4:=hc.2.1
  obtain⟨q0,q1,q2,q3⟩:=hq q hc.2.2.2.1
  have hrl:=aX (aB H q) 3
  have ih:=zYT nm op fD fA fB fN fS H fm hf hf2 xs hx hq Bl (j+1) (Ls++rdL (aB H q) 3++[aS 9 0 6 (rdV (aB H q) 3) (fm+2+j) 0 ⟨#[]⟩]) hc.2.2.1 (by omega) (by simp only[la,List.length_singleton];omega)
  rw[mZ,show Ls++(rdL (aB H q) 3++[aS 9 0 6 (rdV (aB H q) 3) (fm+2+j) 0 ⟨#[]⟩]++mZ H fm (j+1) Bl)=Ls++rdL (aB H q) 3++[aS 9 0 6 (rdV (aB H q) 3) (fm+2+j) 0 ⟨#[]⟩]++mZ H fm (j+1) Bl by simp,←ih]
  have s1:=i5 nm H fm Ls (by omega) q 3 q0 q1 q3 q2
  have s2:=tX nm H fm (Ls++rdL (aB H q) 3) (by rw[la];omega) 9 0 6 (rdV (aB H q) 3) (fm+2+j) 0
  generalize Ls++rdL (aB H q) 3++[aS 9 0 6 (rdV (aB H q) 3) (fm+2+j) 0 ⟨#[]⟩]=L2 at *
  generalize Ls++rdL (aB H q) 3=L1 at *
  generalize rdV (aB H q) 3=v at *
  simp only[gH] at s1 s2 ⊢
  conv=>lhs;unfold loopW;arg 1;unfold lL
  simp -implicitDefEqProofs (disch:=first|assumption|omega|(simp only[aE,aM,aF,i64,sa,aD,lm,la,lc,ln];omega)) only[go_sem,simprocAttr,h2,h4,hdr,s1,s2]
set_option maxRecDepth 8000
set_option maxHeartbeats 8000000
theorem z98(u:ZD)(hnm:u.fName.size≤1048576)(H:List Int)(fm:Int)(hf:0≤fm)(hf2:fm≤1000)(fD fA fB fN:Int)(fS:ByteArray)(args:List Int)(Ls:List ZB)(hl:Ls.length≤900000)(hx:args.length≤4)(hq:∀q∈args,okH H q)(h_fD:okH H fD):evCW tab nO [.ptr (0,0) [] 0 0,.agg [I 11,I fD,I fA,I fB,I fN,Str fS,.d (.r (aG args))]] (eH u H fm Ls) 1=some (.tup [],eH u H fm (Ls++mZ H fm 0 args++[aS 13 0 0 0 0 fm fS]++kpL (aB H fD) 0)):=by
 have hdr:=bN
 obtain⟨fD0,fD1,fD2,fD3⟩:=h_fD
 have la:=E9 H fm args 0
 have s0:=zYn u 11 fD fA fB fN fS H fm hf hf2 args hx hq args 0 Ls rfl (by omega) (by omega)
 have s1:=pU u H fm (Ls++mZ H fm 0 args) (by first|exact(by omega)|(simp only[la,List.length_singleton];omega)) 13 0 0 0 0 fm fS
 have s2:=x9 u H fm (Ls++mZ H fm 0 args++[aS 13 0 0 0 0 fm fS]) (by first|exact(by omega)|(simp only[la,List.length_singleton];omega)) fD 0 fD0 fD1 fD3
 generalize Ls++mZ H fm 0 args++[aS 13 0 0 0 0 fm fS]++kpL (aB H fD) 0=L3 at *
 generalize Ls++mZ H fm 0 args++[aS 13 0 0 0 0 fm fS]=L2 at *
 generalize Ls++mZ H fm 0 args=L1 at *
 simp only[eH] at s0 s1 s2 ⊢
 rw[aR B5 _ _ _ rfl,qL]
 simp -implicitDefEqProofs (disch:=first|assumption|omega|(simp only[aE,aM,aF,i64,sa,aD,lm,la,lc,ln];omega)) only[go_sem,simprocAttr,hdr,s0,s1,s2]
theorem z9J(u:ZD)(hnm:u.fName.size≤1048576)(H:List Int)(fm:Int)(hf:0≤fm)(hf2:fm≤1000)(fD fA fB fN:Int)(fS:ByteArray)(args:List Int)(Ls:List ZB)(hl:Ls.length≤900000)(h_fA:okH H fA)(h_fD:okH H fD):evCW tab eW [.ptr (0,0) [] 0 0,.agg [I 20,I fD,I fA,I fB,I fN,Str fS,.d (.r (aG args))]] (eH u H fm Ls) 1=some (.tup [],eH u H fm (Ls++rdL (aB H fA) 3++[aS 8 5 (rdV (aB H fA) 3) 0 0 0 ⟨#[]⟩]++kpL (aB H fD) 5)):=by
 have hdr:=bN
 obtain⟨fA0,fA1,fA2,fA3⟩:=h_fA
 obtain⟨fD0,fD1,fD2,fD3⟩:=h_fD
 have l_vA:=aX (aB H fA) 3
 have s0:=i6 u H fm (Ls) (by first|exact(by omega)|(simp only[la,List.length_singleton];omega)) fA 3 fA0 fA1 fA3 fA2
 have s1:=pU u H fm (Ls++rdL (aB H fA) 3) (by first|exact(by omega)|(simp only[la,List.length_singleton];omega)) 8 5 (rdV (aB H fA) 3) 0 0 0 ⟨#[]⟩
 have s2:=x9 u H fm (Ls++rdL (aB H fA) 3++[aS 8 5 (rdV (aB H fA) 3) 0 0 0 ⟨#[]⟩]) (by first|exact(by omega)|(simp only[la,List.length_singleton];omega)) fD 5 fD0 fD1 fD3
 generalize Ls++rdL (aB H fA) 3++[aS 8 5 (rdV (aB H fA) 3) 0 0 0 ⟨#[]⟩]++kpL (aB H fD) 5=L3 at *
 generalize Ls++rdL (aB H fA) 3++[aS 8 5 (rdV (aB H fA) 3) 0 0 0 ⟨#[]⟩]=L2 at *
 generalize Ls++rdL (aB H fA) 3=L1 at *
 generalize rdV (aB H fA) 3=vA at *
 simp only[eH] at s0 s1 s2 ⊢
 rw[aR j8 _ _ _ rfl,gB]
 simp -implicitDefEqProofs (disch:=first|assumption|omega|(simp only[aE,aM,aF,i64,sa,aD,lm,la,lc,ln];omega)) only[go_sem,simprocAttr,hdr,s0,s1,s2]
theorem z93(u:ZD)(hnm:u.fName.size≤1048576)(H:List Int)(fm:Int)(hf:0≤fm)(hf2:fm≤1000)(fD fA fB fN:Int)(fS:ByteArray)(args:List Int)(Ls:List ZB)(hl:Ls.length≤900000)(h_fA:okH H fA)(h_fB:okH H fB):evCW tab eW [.ptr (0,0) [] 0 0,.agg [I 21,I fD,I fA,I fB,I fN,Str fS,.d (.r (aG args))]] (eH u H fm Ls) 1=some (.tup [],eH u H fm (Ls++rdL (aB H fA) 3++rdL (aB H fB) 4++[aS 9 0 (rdV (aB H fA) 3) (rdV (aB H fB) 4) 0 0 ⟨#[]⟩])):=by
 have hdr:=bN
 obtain⟨fA0,fA1,fA2,fA3⟩:=h_fA
 obtain⟨fB0,fB1,fB2,fB3⟩:=h_fB
 have l_vA:=aX (aB H fA) 3
 have l_vB:=aX (aB H fB) 4
 have s0:=i6 u H fm (Ls) (by first|exact(by omega)|(simp only[la,List.length_singleton];omega)) fA 3 fA0 fA1 fA3 fA2
 have s1:=i6 u H fm (Ls++rdL (aB H fA) 3) (by first|exact(by omega)|(simp only[la,List.length_singleton];omega)) fB 4 fB0 fB1 fB3 fB2
 have s2:=pU u H fm (Ls++rdL (aB H fA) 3++rdL (aB H fB) 4) (by first|exact(by omega)|(simp only[la,List.length_singleton];omega)) 9 0 (rdV (aB H fA) 3) (rdV (aB H fB) 4) 0 0 ⟨#[]⟩
 generalize Ls++rdL (aB H fA) 3++rdL (aB H fB) 4++[aS 9 0 (rdV (aB H fA) 3) (rdV (aB H fB) 4) 0 0 ⟨#[]⟩]=L3 at *
 generalize Ls++rdL (aB H fA) 3++rdL (aB H fB) 4=L2 at *
 generalize Ls++rdL (aB H fA) 3=L1 at *
 generalize rdV (aB H fA) 3=vA at *
 generalize rdV (aB H fB) 4=vB at *
 simp only[eH] at s0 s1 s2 ⊢
 rw[aR j8 _ _ _ rfl,gB]
 simp -implicitDefEqProofs (disch:=first|assumption|omega|(simp only[aE,aM,aF,i64,sa,aD,lm,la,lc,ln];omega)) only[go_sem,simprocAttr,hdr,s0,s1,s2]
theorem z8P(u:ZD)(hnm:u.fName.size≤1048576)(H:List Int)(fm:Int)(hf:0≤fm)(hf2:fm≤1000)(fD fA fB fN:Int)(fS:ByteArray)(q:Int)(Ls:List ZB)(hl:Ls.length≤900000)(h_fA:okH H fA)(h_fB:okH H fB)(h_q:okH H q)(h_fD:okH H fD):evCW tab eW [.ptr (0,0) [] 0 0,.agg [I 22,I fD,I fA,I fB,I fN,Str fS,.d (.r (aG [q]))]] (eH u H fm Ls) 1=some (.tup [],eH u H fm (Ls++rdL (aB H fA) 3++rdL (aB H fB) 4++[aS 2 5 (rdV (aB H fB) 4) 0 0 0 ⟨#[]⟩]++rdL (aB H q) 4++[aS 10 5 (rdV (aB H fA) 3) (rdV (aB H q) 4) 0 0 ⟨#[]⟩]++kpL (aB H fD) 5)):=by
 have hdr:=bN
 obtain⟨fA0,fA1,fA2,fA3⟩:=h_fA
 obtain⟨fB0,fB1,fB2,fB3⟩:=h_fB
 obtain⟨q0,q1,q2,q3⟩:=h_q
 obtain⟨fD0,fD1,fD2,fD3⟩:=h_fD
 have l_vA:=aX (aB H fA) 3
 have l_vB:=aX (aB H fB) 4
 have l_vC:=aX (aB H q) 4
 have s0:=i6 u H fm (Ls) (by first|exact(by omega)|(simp only[la,List.length_singleton];omega)) fA 3 fA0 fA1 fA3 fA2
 have s1:=i6 u H fm (Ls++rdL (aB H fA) 3) (by first|exact(by omega)|(simp only[la,List.length_singleton];omega)) fB 4 fB0 fB1 fB3 fB2
 have s2:=pU u H fm (Ls++rdL (aB H fA) 3++rdL (aB H fB) 4) (by first|exact(by omega)|(simp only[la,List.length_singleton];omega)) 2 5 (rdV (aB H fB) 4) 0 0 0 ⟨#[]⟩
 have s3:=i6 u H fm (Ls++rdL (aB H fA) 3++rdL (aB H fB) 4++[aS 2 5 (rdV (aB H fB) 4) 0 0 0 ⟨#[]⟩]) (by first|exact(by omega)|(simp only[la,List.length_singleton];omega)) q 4 q0 q1 q3 q2
 have s4:=pU u H fm (Ls++rdL (aB H fA) 3++rdL (aB H fB) 4++[aS 2 5 (rdV (aB H fB) 4) 0 0 0 ⟨#[]⟩]++rdL (aB H q) 4) (by first|exact(by omega)|(simp only[la,List.length_singleton];omega)) 10 5 (rdV (aB H fA) 3) (rdV (aB H q) 4) 0 0 ⟨#[]⟩
 have s5:=x9 u H fm (Ls++rdL (aB H fA) 3++rdL (aB H fB) 4++[aS 2 5 (rdV (aB H fB) 4) 0 0 0 ⟨#[]⟩]++rdL (aB H q) 4++[aS 10 5 (rdV (aB H fA) 3) (rdV (aB H q) 4) 0 0 ⟨#[]⟩]) (by first|exact(by omega)|(simp only[la,List.length_singleton];omega)) fD 5 fD0 fD1 fD3
 generalize Ls++rdL (aB H fA) 3++rdL (aB H fB) 4++[aS 2 5 (rdV (aB H fB) 4) 0 0 0 ⟨#[]⟩]++rdL (aB H q) 4++[aS 10 5 (rdV (aB H fA) 3) (rdV (aB H q) 4) 0 0 ⟨#[]⟩]++kpL (aB H fD) 5=L6 at *
 generalize Ls++rdL (aB H fA) 3++rdL (aB H fB) 4++[aS 2 5 (rdV (aB H fB) 4) 0 0 0 ⟨#[]⟩]++rdL (aB H q) 4++[aS 10 5 (rdV (aB H fA) 3) (rdV (aB H q) 4) 0 0 ⟨#[]⟩]=L5 at *
 generalize Ls++rdL (aB H fA) 3++rdL (aB H fB) 4++[aS 2 5 (rdV (aB H fB) 4) 0 0 0 ⟨#[]⟩]++rdL (aB H q) 4=L4 at *
 generalize Ls++rdL (aB H fA) 3++rdL (aB H fB) 4++[aS 2 5 (rdV (aB H fB) 4) 0 0 0 ⟨#[]⟩]=L3 at *
 generalize Ls++rdL (aB H fA) 3++rdL (aB H fB) 4=L2 at *
 generalize Ls++rdL (aB H fA) 3=L1 at *
 generalize rdV (aB H fA) 3=vA at *
 generalize rdV (aB H fB) 4=vB at *
 generalize rdV (aB H q) 4=vC at *
 simp only[eH] at s0 s1 s2 s3 s4 s5 ⊢
 rw[aR j8 _ _ _ rfl,gB]
 simp -implicitDefEqProofs (disch:=first|assumption|omega|(simp only[aE,aM,aF,i64,sa,aD,lm,la,lc,ln];omega)) only[go_sem,simprocAttr,hdr,s0,s1,s2,s3,s4,s5,aG,mc,mn]
theorem z8V(u:ZD)(hnm:u.fName.size≤1048576)(H:List Int)(fm:Int)(hf:0≤fm)(hf2:fm≤1000)(fD fA fB fN:Int)(fS:ByteArray)(args:List Int)(Ls:List ZB)(hl:Ls.length≤900000)(h_fA:okH H fA):evCW tab d5 [.ptr (0,0) [] 0 0,.agg [I 25,I fD,I fA,I fB,I fN,Str fS,.d (.r (aG args))]] (eH u H fm Ls) 1=some (.tup [],eH u H fm (Ls++rdL (aB H fA) 3++[aS 15 0 (rdV (aB H fA) 3) 0 0 0 ⟨#[]⟩])):=by
 have hdr:=bN
 obtain⟨fA0,fA1,fA2,fA3⟩:=h_fA
 have l_vA:=aX (aB H fA) 3
 have s0:=i6 u H fm (Ls) (by first|exact(by omega)|(simp only[la,List.length_singleton];omega)) fA 3 fA0 fA1 fA3 fA2
 have s1:=pU u H fm (Ls++rdL (aB H fA) 3) (by first|exact(by omega)|(simp only[la,List.length_singleton];omega)) 15 0 (rdV (aB H fA) 3) 0 0 0 ⟨#[]⟩
 generalize Ls++rdL (aB H fA) 3++[aS 15 0 (rdV (aB H fA) 3) 0 0 0 ⟨#[]⟩]=L2 at *
 generalize Ls++rdL (aB H fA) 3=L1 at *
 generalize rdV (aB H fA) 3=vA at *
 simp only[eH] at s0 s1 ⊢
 rw[aR gM _ _ _ rfl,eD]
 simp -implicitDefEqProofs (disch:=first|assumption|omega|(simp only[aE,aM,aF,i64,sa,aD,lm,la,lc,ln];omega)) only[go_sem,simprocAttr,hdr,s0,s1]
theorem z9M(u:ZD)(hnm:u.fName.size≤1048576)(H:List Int)(fm:Int)(hf:0≤fm)(hf2:fm≤1000)(fD fA fB fN:Int)(fS:ByteArray)(args:List Int)(Ls:List ZB)(hl:Ls.length≤900000)(h_fA:okH H fA)(h_fB:okH H fB):evCW tab d5 [.ptr (0,0) [] 0 0,.agg [I 26,I fD,I fA,I fB,I fN,Str fS,.d (.r (aG args))]] (eH u H fm Ls) 1=some (.tup [],eH u H fm (Ls++rdL (aB H fA) 3++rdL (aB H fB) 4++[aS 16 0 (rdV (aB H fA) 3) (rdV (aB H fB) 4) 0 0 ⟨#[]⟩])):=by
 have hdr:=bN
 obtain⟨fA0,fA1,fA2,fA3⟩:=h_fA
 obtain⟨fB0,fB1,fB2,fB3⟩:=h_fB
 have l_vA:=aX (aB H fA) 3
 have l_vB:=aX (aB H fB) 4
 have s0:=i6 u H fm (Ls) (by first|exact(by omega)|(simp only[la,List.length_singleton];omega)) fA 3 fA0 fA1 fA3 fA2
 have s1:=i6 u H fm (Ls++rdL (aB H fA) 3) (by first|exact(by omega)|(simp only[la,List.length_singleton];omega)) fB 4 fB0 fB1 fB3 fB2
 have s2:=pU u H fm (Ls++rdL (aB H fA) 3++rdL (aB H fB) 4) (by first|exact(by omega)|(simp only[la,List.length_singleton];omega)) 16 0 (rdV (aB H fA) 3) (rdV (aB H fB) 4) 0 0 ⟨#[]⟩
 generalize Ls++rdL (aB H fA) 3++rdL (aB H fB) 4++[aS 16 0 (rdV (aB H fA) 3) (rdV (aB H fB) 4) 0 0 ⟨#[]⟩]=L3 at *
 generalize Ls++rdL (aB H fA) 3++rdL (aB H fB) 4=L2 at *
 generalize Ls++rdL (aB H fA) 3=L1 at *
 generalize rdV (aB H fA) 3=vA at *
 generalize rdV (aB H fB) 4=vB at *
 simp only[eH] at s0 s1 s2 ⊢
 rw[aR gM _ _ _ rfl,eD]
 simp -implicitDefEqProofs (disch:=first|assumption|omega|(simp only[aE,aM,aF,i64,sa,aD,lm,la,lc,ln];omega)) only[go_sem,simprocAttr,hdr,s0,s1,s2]
theorem z87(u:ZD)(hnm:u.fName.size≤1048576)(H:List Int)(fm:Int)(hf:0≤fm)(hf2:fm≤1000)(fD fA fB fN:Int)(fS:ByteArray)(args:List Int)(Ls:List ZB)(hl:Ls.length≤900000)(h_fA:okH H fA)(h_fB:okH H fB):evCW tab d5 [.ptr (0,0) [] 0 0,.agg [I 27,I fD,I fA,I fB,I fN,Str fS,.d (.r (aG args))]] (eH u H fm Ls) 1=some (.tup [],eH u H fm (Ls++rdL (aB H fA) 3++rdL (aB H fB) 4++[aS 17 0 (rdV (aB H fA) 3) (rdV (aB H fB) 4) 0 0 ⟨#[]⟩])):=by
 have hdr:=bN
 obtain⟨fA0,fA1,fA2,fA3⟩:=h_fA
 obtain⟨fB0,fB1,fB2,fB3⟩:=h_fB
 have l_vA:=aX (aB H fA) 3
 have l_vB:=aX (aB H fB) 4
 have s0:=i6 u H fm (Ls) (by first|exact(by omega)|(simp only[la,List.length_singleton];omega)) fA 3 fA0 fA1 fA3 fA2
 have s1:=i6 u H fm (Ls++rdL (aB H fA) 3) (by first|exact(by omega)|(simp only[la,List.length_singleton];omega)) fB 4 fB0 fB1 fB3 fB2
 have s2:=pU u H fm (Ls++rdL (aB H fA) 3++rdL (aB H fB) 4) (by first|exact(by omega)|(simp only[la,List.length_singleton];omega)) 17 0 (rdV (aB H fA) 3) (rdV (aB H fB) 4) 0 0 ⟨#[]⟩
 generalize Ls++rdL (aB H fA) 3++rdL (aB H fB) 4++[aS 17 0 (rdV (aB H fA) 3) (rdV (aB H fB) 4) 0 0 ⟨#[]⟩]=L3 at *
 generalize Ls++rdL (aB H fA) 3++rdL (aB H fB) 4=L2 at *
 generalize Ls++rdL (aB H fA) 3=L1 at *
 generalize rdV (aB H fA) 3=vA at *
 generalize rdV (aB H fB) 4=vB at *
 simp only[eH] at s0 s1 s2 ⊢
 rw[aR gM _ _ _ rfl,eD]
 simp -implicitDefEqProofs (disch:=first|assumption|omega|(simp only[aE,aM,aF,i64,sa,aD,lm,la,lc,ln];omega)) only[go_sem,simprocAttr,hdr,s0,s1,s2]
theorem z85(u:ZD)(hnm:u.fName.size≤1048576)(H:List Int)(fm:Int)(hf:0≤fm)(hf2:fm≤1000)(fD fA fB fN:Int)(fS:ByteArray)(args:List Int)(Ls:List ZB)(hl:Ls.length≤900000)(h_fA:okH H fA):evCW tab d5 [.ptr (0,0) [] 0 0,.agg [I 28,I fD,I fA,I fB,I fN,Str fS,.d (.r (aG args))]] (eH u H fm Ls) 1=some (.tup [],eH u H fm (Ls++rdL (aB H fA) 3++[aS 19 0 (rdV (aB H fA) 3) 0 0 0 ⟨#[]⟩])):=by
 have hdr:=bN
 obtain⟨fA0,fA1,fA2,fA3⟩:=h_fA
 have l_vA:=aX (aB H fA) 3
 have s0:=i6 u H fm (Ls) (by first|exact(by omega)|(simp only[la,List.length_singleton];omega)) fA 3 fA0 fA1 fA3 fA2
 have s1:=pU u H fm (Ls++rdL (aB H fA) 3) (by first|exact(by omega)|(simp only[la,List.length_singleton];omega)) 19 0 (rdV (aB H fA) 3) 0 0 0 ⟨#[]⟩
 generalize Ls++rdL (aB H fA) 3++[aS 19 0 (rdV (aB H fA) 3) 0 0 0 ⟨#[]⟩]=L2 at *
 generalize Ls++rdL (aB H fA) 3=L1 at *
 generalize rdV (aB H fA) 3=vA at *
 simp only[eH] at s0 s1 ⊢
 rw[aR gM _ _ _ rfl,eD]
 simp -implicitDefEqProofs (disch:=first|assumption|omega|(simp only[aE,aM,aF,i64,sa,aD,lm,la,lc,ln];omega)) only[go_sem,simprocAttr,hdr,s0,s1]
set_option maxRecDepth 8000
set_option maxHeartbeats 8000000
theorem z7m(u:ZD)(hnm:u.fName.size≤1048576)(H:List Int)(fm:Int)(hf:0≤fm)(hf2:fm≤1000)(fD fA fB fN:Int)(fS:ByteArray)(args:List Int)(Ls:List ZB)(hl:Ls.length≤900000)(h_fD:okH H fD):evCW tab aV [.ptr (0,0) [] 0 0,.agg [I 1,I fD,I fA,I fB,I fN,Str fS,.d (.r (aG args))]] (eH u H fm Ls) 1=some (.tup [],eH u H fm (Ls++[aS 1 3 0 0 fN 0 ⟨#[]⟩]++kpL (aB H fD) 3)):=by
 have hdr:=bN
 obtain⟨fD0,fD1,fD2,fD3⟩:=h_fD
 have s0:=pU u H fm (Ls) (by first|exact(by omega)|(simp only[la,List.length_singleton];omega)) 1 3 0 0 fN 0 ⟨#[]⟩
 have s1:=x9 u H fm (Ls++[aS 1 3 0 0 fN 0 ⟨#[]⟩]) (by first|exact(by omega)|(simp only[la,List.length_singleton];omega)) fD 3 fD0 fD1 fD3
 generalize Ls++[aS 1 3 0 0 fN 0 ⟨#[]⟩]++kpL (aB H fD) 3=L2 at *
 generalize Ls++[aS 1 3 0 0 fN 0 ⟨#[]⟩]=L1 at *
 simp only[eH] at s0 s1 ⊢
 rw[aR aW _ _ _ rfl,aT]
 simp -implicitDefEqProofs (disch:=first|assumption|omega|(simp only[aE,aM,aF,i64,sa,aD,lm,la,lc,ln];omega)) only[go_sem,simprocAttr,hdr,s0,s1]
theorem z7C(u:ZD)(hnm:u.fName.size≤1048576)(H:List Int)(fm:Int)(hf:0≤fm)(hf2:fm≤1000)(fD fA fB fN:Int)(fS:ByteArray)(args:List Int)(Ls:List ZB)(hl:Ls.length≤900000)(h_fA:okH H fA)(h_fD:okH H fD):evCW tab aV [.ptr (0,0) [] 0 0,.agg [I 2,I fD,I fA,I fB,I fN,Str fS,.d (.r (aG args))]] (eH u H fm Ls) 1=some (.tup [],eH u H fm (Ls++rdL (aB H fA) 3++kpL (aB H fD) (rdV (aB H fA) 3))):=by
 have hdr:=bN
 obtain⟨fA0,fA1,fA2,fA3⟩:=h_fA
 obtain⟨fD0,fD1,fD2,fD3⟩:=h_fD
 have l_vA:=aX (aB H fA) 3
 have s0:=i6 u H fm (Ls) (by first|exact(by omega)|(simp only[la,List.length_singleton];omega)) fA 3 fA0 fA1 fA3 fA2
 have s1:=x9 u H fm (Ls++rdL (aB H fA) 3) (by first|exact(by omega)|(simp only[la,List.length_singleton];omega)) fD (rdV (aB H fA) 3) fD0 fD1 fD3
 generalize Ls++rdL (aB H fA) 3++kpL (aB H fD) (rdV (aB H fA) 3)=L2 at *
 generalize Ls++rdL (aB H fA) 3=L1 at *
 generalize rdV (aB H fA) 3=vA at *
 simp only[eH] at s0 s1 ⊢
 rw[aR aW _ _ _ rfl,aT]
 simp -implicitDefEqProofs (disch:=first|assumption|omega|(simp only[aE,aM,aF,i64,sa,aD,lm,la,lc,ln];omega)) only[go_sem,simprocAttr,hdr,s0,s1]
theorem z7k(u:ZD)(hnm:u.fName.size≤1048576)(H:List Int)(fm:Int)(hf:0≤fm)(hf2:fm≤1000)(fD fA fB fN:Int)(fS:ByteArray)(args:List Int)(Ls:List ZB)(hl:Ls.length≤900000)(h_fA:okH H fA)(h_fB:okH H fB)(h_fD:okH H fD):evCW tab aV [.ptr (0,0) [] 0 0,.agg [I 3,I fD,I fA,I fB,I fN,Str fS,.d (.r (aG args))]] (eH u H fm Ls) 1=some (.tup [],eH u H fm (Ls++rdL (aB H fA) 3++rdL (aB H fB) 4++[aS 3 5 (rdV (aB H fA) 3) (rdV (aB H fB) 4) 0 0 ⟨#[]⟩]++kpL (aB H fD) 5)):=by
 have hdr:=bN
 obtain⟨fA0,fA1,fA2,fA3⟩:=h_fA
 obtain⟨fB0,fB1,fB2,fB3⟩:=h_fB
 obtain⟨fD0,fD1,fD2,fD3⟩:=h_fD
 have l_vA:=aX (aB H fA) 3
 have l_vB:=aX (aB H fB) 4
 have s0:=i6 u H fm (Ls) (by first|exact(by omega)|(simp only[la,List.length_singleton];omega)) fA 3 fA0 fA1 fA3 fA2
 have s1:=i6 u H fm (Ls++rdL (aB H fA) 3) (by first|exact(by omega)|(simp only[la,List.length_singleton];omega)) fB 4 fB0 fB1 fB3 fB2
 have s2:=pU u H fm (Ls++rdL (aB H fA) 3++rdL (aB H fB) 4) (by first|exact(by omega)|(simp only[la,List.length_singleton];omega)) 3 5 (rdV (aB H fA) 3) (rdV (aB H fB) 4) 0 0 ⟨#[]⟩
 have s3:=x9 u H fm (Ls++rdL (aB H fA) 3++rdL (aB H fB) 4++[aS 3 5 (rdV (aB H fA) 3) (rdV (aB H fB) 4) 0 0 ⟨#[]⟩]) (by first|exact(by omega)|(simp only[la,List.length_singleton];omega)) fD 5 fD0 fD1 fD3
 generalize Ls++rdL (aB H fA) 3++rdL (aB H fB) 4++[aS 3 5 (rdV (aB H fA) 3) (rdV (aB H fB) 4) 0 0 ⟨#[]⟩]++kpL (aB H fD) 5=L4 at *
 generalize Ls++rdL (aB H fA) 3++rdL (aB H fB) 4++[aS 3 5 (rdV (aB H fA) 3) (rdV (aB H fB) 4) 0 0 ⟨#[]⟩]=L3 at *
 generalize Ls++rdL (aB H fA) 3++rdL (aB H fB) 4=L2 at *
 generalize Ls++rdL (aB H fA) 3=L1 at *
 generalize rdV (aB H fA) 3=vA at *
 generalize rdV (aB H fB) 4=vB at *
 simp only[eH] at s0 s1 s2 s3 ⊢
 rw[aR aW _ _ _ rfl,aT]
 simp -implicitDefEqProofs (disch:=first|assumption|omega|(simp only[aE,aM,aF,i64,sa,aD,lm,la,lc,ln];omega)) only[go_sem,simprocAttr,hdr,s0,s1,s2,s3]
theorem z7l(u:ZD)(hnm:u.fName.size≤1048576)(H:List Int)(fm:Int)(hf:0≤fm)(hf2:fm≤1000)(fD fA fB fN:Int)(fS:ByteArray)(args:List Int)(Ls:List ZB)(hl:Ls.length≤900000)(h_fA:okH H fA)(h_fB:okH H fB)(h_fD:okH H fD):evCW tab aV [.ptr (0,0) [] 0 0,.agg [I 4,I fD,I fA,I fB,I fN,Str fS,.d (.r (aG args))]] (eH u H fm Ls) 1=some (.tup [],eH u H fm (Ls++rdL (aB H fA) 3++rdL (aB H fB) 4++[aS 4 5 (rdV (aB H fA) 3) (rdV (aB H fB) 4) 0 0 ⟨#[]⟩]++kpL (aB H fD) 5)):=by
 have hdr:=bN
 obtain⟨fA0,fA1,fA2,fA3⟩:=h_fA
 obtain⟨fB0,fB1,fB2,fB3⟩:=h_fB
 obtain⟨fD0,fD1,fD2,fD3⟩:=h_fD
 have l_vA:=aX (aB H fA) 3
 have l_vB:=aX (aB H fB) 4
 have s0:=i6 u H fm (Ls) (by first|exact(by omega)|(simp only[la,List.length_singleton];omega)) fA 3 fA0 fA1 fA3 fA2
 have s1:=i6 u H fm (Ls++rdL (aB H fA) 3) (by first|exact(by omega)|(simp only[la,List.length_singleton];omega)) fB 4 fB0 fB1 fB3 fB2
 have s2:=pU u H fm (Ls++rdL (aB H fA) 3++rdL (aB H fB) 4) (by first|exact(by omega)|(simp only[la,List.length_singleton];omega)) 4 5 (rdV (aB H fA) 3) (rdV (aB H fB) 4) 0 0 ⟨#[]⟩
 have s3:=x9 u H fm (Ls++rdL (aB H fA) 3++rdL (aB H fB) 4++[aS 4 5 (rdV (aB H fA) 3) (rdV (aB H fB) 4) 0 0 ⟨#[]⟩]) (by first|exact(by omega)|(simp only[la,List.length_singleton];omega)) fD 5 fD0 fD1 fD3
 generalize Ls++rdL (aB H fA) 3++rdL (aB H fB) 4++[aS 4 5 (rdV (aB H fA) 3) (rdV (aB H fB) 4) 0 0 ⟨#[]⟩]++kpL (aB H fD) 5=L4 at *
 generalize Ls++rdL (aB H fA) 3++rdL (aB H fB) 4++[aS 4 5 (rdV (aB H fA) 3) (rdV (aB H fB) 4) 0 0 ⟨#[]⟩]=L3 at *
 generalize Ls++rdL (aB H fA) 3++rdL (aB H fB) 4=L2 at *
 generalize Ls++rdL (aB H fA) 3=L1 at *
 generalize rdV (aB H fA) 3=vA at *
 generalize rdV (aB H fB) 4=vB at *
 simp only[eH] at s0 s1 s2 s3 ⊢
 rw[aR aW _ _ _ rfl,aT]
 simp -implicitDefEqProofs (disch:=first|assumption|omega|(simp only[aE,aM,aF,i64,sa,aD,lm,la,lc,ln];omega)) only[go_sem,simprocAttr,hdr,s0,s1,s2,s3]
theorem z7w(u:ZD)(hnm:u.fName.size≤1048576)(H:List Int)(fm:Int)(hf:0≤fm)(hf2:fm≤1000)(fD fA fB fN:Int)(fS:ByteArray)(args:List Int)(Ls:List ZB)(hl:Ls.length≤900000)(h_fA:okH H fA)(h_fB:okH H fB)(h_fD:okH H fD):evCW tab aV [.ptr (0,0) [] 0 0,.agg [I 5,I fD,I fA,I fB,I fN,Str fS,.d (.r (aG args))]] (eH u H fm Ls) 1=some (.tup [],eH u H fm (Ls++rdL (aB H fA) 3++rdL (aB H fB) 4++[aS 5 5 (rdV (aB H fA) 3) (rdV (aB H fB) 4) 0 0 ⟨#[]⟩]++kpL (aB H fD) 5)):=by
 have hdr:=bN
 obtain⟨fA0,fA1,fA2,fA3⟩:=h_fA
 obtain⟨fB0,fB1,fB2,fB3⟩:=h_fB
 obtain⟨fD0,fD1,fD2,fD3⟩:=h_fD
 have l_vA:=aX (aB H fA) 3
 have l_vB:=aX (aB H fB) 4
 have s0:=i6 u H fm (Ls) (by first|exact(by omega)|(simp only[la,List.length_singleton];omega)) fA 3 fA0 fA1 fA3 fA2
 have s1:=i6 u H fm (Ls++rdL (aB H fA) 3) (by first|exact(by omega)|(simp only[la,List.length_singleton];omega)) fB 4 fB0 fB1 fB3 fB2
 have s2:=pU u H fm (Ls++rdL (aB H fA) 3++rdL (aB H fB) 4) (by first|exact(by omega)|(simp only[la,List.length_singleton];omega)) 5 5 (rdV (aB H fA) 3) (rdV (aB H fB) 4) 0 0 ⟨#[]⟩
 have s3:=x9 u H fm (Ls++rdL (aB H fA) 3++rdL (aB H fB) 4++[aS 5 5 (rdV (aB H fA) 3) (rdV (aB H fB) 4) 0 0 ⟨#[]⟩]) (by first|exact(by omega)|(simp only[la,List.length_singleton];omega)) fD 5 fD0 fD1 fD3
 generalize Ls++rdL (aB H fA) 3++rdL (aB H fB) 4++[aS 5 5 (rdV (aB H fA) 3) (rdV (aB H fB) 4) 0 0 ⟨#[]⟩]++kpL (aB H fD) 5=L4 at *
 generalize Ls++rdL (aB H fA) 3++rdL (aB H fB) 4++[aS 5 5 (rdV (aB H fA) 3) (rdV (aB H fB) 4) 0 0 ⟨#[]⟩]=L3 at *
 generalize Ls++rdL (aB H fA) 3++rdL (aB H fB) 4=L2 at *
 generalize Ls++rdL (aB H fA) 3=L1 at *
 generalize rdV (aB H fA) 3=vA at *
 generalize rdV (aB H fB) 4=vB at *
 simp only[eH] at s0 s1 s2 s3 ⊢
 rw[aR aW _ _ _ rfl,aT]
 simp -implicitDefEqProofs (disch:=first|assumption|omega|(simp only[aE,aM,aF,i64,sa,aD,lm,la,lc,ln];omega)) only[go_sem,simprocAttr,hdr,s0,s1,s2,s3]
theorem z7B(u:ZD)(hnm:u.fName.size≤1048576)(H:List Int)(fm:Int)(hf:0≤fm)(hf2:fm≤1000)(fD fA fB fN:Int)(fS:ByteArray)(args:List Int)(Ls:List ZB)(hl:Ls.length≤900000)(h_fA:okH H fA)(h_fB:okH H fB)(h_fD:okH H fD):evCW tab aV [.ptr (0,0) [] 0 0,.agg [I 6,I fD,I fA,I fB,I fN,Str fS,.d (.r (aG args))]] (eH u H fm Ls) 1=some (.tup [],eH u H fm (Ls++rdL (aB H fA) 3++rdL (aB H fB) 4++[aS 6 5 (rdV (aB H fA) 3) (rdV (aB H fB) 4) 0 0 ⟨#[]⟩]++kpL (aB H fD) 5)):=by
 have hdr:=bN
 obtain⟨fA0,fA1,fA2,fA3⟩:=h_fA
 obtain⟨fB0,fB1,fB2,fB3⟩:=h_fB
 obtain⟨fD0,fD1,fD2,fD3⟩:=h_fD
 have l_vA:=aX (aB H fA) 3
 have l_vB:=aX (aB H fB) 4
 have s0:=i6 u H fm (Ls) (by first|exact(by omega)|(simp only[la,List.length_singleton];omega)) fA 3 fA0 fA1 fA3 fA2
 have s1:=i6 u H fm (Ls++rdL (aB H fA) 3) (by first|exact(by omega)|(simp only[la,List.length_singleton];omega)) fB 4 fB0 fB1 fB3 fB2
 have s2:=pU u H fm (Ls++rdL (aB H fA) 3++rdL (aB H fB) 4) (by first|exact(by omega)|(simp only[la,List.length_singleton];omega)) 6 5 (rdV (aB H fA) 3) (rdV (aB H fB) 4) 0 0 ⟨#[]⟩
 have s3:=x9 u H fm (Ls++rdL (aB H fA) 3++rdL (aB H fB) 4++[aS 6 5 (rdV (aB H fA) 3) (rdV (aB H fB) 4) 0 0 ⟨#[]⟩]) (by first|exact(by omega)|(simp only[la,List.length_singleton];omega)) fD 5 fD0 fD1 fD3
 generalize Ls++rdL (aB H fA) 3++rdL (aB H fB) 4++[aS 6 5 (rdV (aB H fA) 3) (rdV (aB H fB) 4) 0 0 ⟨#[]⟩]++kpL (aB H fD) 5=L4 at *
 generalize Ls++rdL (aB H fA) 3++rdL (aB H fB) 4++[aS 6 5 (rdV (aB H fA) 3) (rdV (aB H fB) 4) 0 0 ⟨#[]⟩]=L3 at *
 generalize Ls++rdL (aB H fA) 3++rdL (aB H fB) 4=L2 at *
 generalize Ls++rdL (aB H fA) 3=L1 at *
 generalize rdV (aB H fA) 3=vA at *
 generalize rdV (aB H fB) 4=vB at *
 simp only[eH] at s0 s1 s2 s3 ⊢
 rw[aR aW _ _ _ rfl,aT]
 simp -implicitDefEqProofs (disch:=first|assumption|omega|(simp only[aE,aM,aF,i64,sa,aD,lm,la,lc,ln];omega)) only[go_sem,simprocAttr,hdr,s0,s1,s2,s3]
theorem z7o(u:ZD)(hnm:u.fName.size≤1048576)(H:List Int)(fm:Int)(hf:0≤fm)(hf2:fm≤1000)(fD fA fB fN:Int)(fS:ByteArray)(args:List Int)(Ls:List ZB)(hl:Ls.length≤900000)(h_fA:okH H fA)(h_fB:okH H fB)(h_fD:okH H fD):evCW tab aV [.ptr (0,0) [] 0 0,.agg [I 7,I fD,I fA,I fB,I fN,Str fS,.d (.r (aG args))]] (eH u H fm Ls) 1=some (.tup [],eH u H fm (Ls++rdL (aB H fA) 3++rdL (aB H fB) 4++[aS 7 5 (rdV (aB H fA) 3) (rdV (aB H fB) 4) 0 0 ⟨#[]⟩]++kpL (aB H fD) 5)):=by
 have hdr:=bN
 obtain⟨fA0,fA1,fA2,fA3⟩:=h_fA
 obtain⟨fB0,fB1,fB2,fB3⟩:=h_fB
 obtain⟨fD0,fD1,fD2,fD3⟩:=h_fD
 have l_vA:=aX (aB H fA) 3
 have l_vB:=aX (aB H fB) 4
 have s0:=i6 u H fm (Ls) (by first|exact(by omega)|(simp only[la,List.length_singleton];omega)) fA 3 fA0 fA1 fA3 fA2
 have s1:=i6 u H fm (Ls++rdL (aB H fA) 3) (by first|exact(by omega)|(simp only[la,List.length_singleton];omega)) fB 4 fB0 fB1 fB3 fB2
 have s2:=pU u H fm (Ls++rdL (aB H fA) 3++rdL (aB H fB) 4) (by first|exact(by omega)|(simp only[la,List.length_singleton];omega)) 7 5 (rdV (aB H fA) 3) (rdV (aB H fB) 4) 0 0 ⟨#[]⟩
 have s3:=x9 u H fm (Ls++rdL (aB H fA) 3++rdL (aB H fB) 4++[aS 7 5 (rdV (aB H fA) 3) (rdV (aB H fB) 4) 0 0 ⟨#[]⟩]) (by first|exact(by omega)|(simp only[la,List.length_singleton];omega)) fD 5 fD0 fD1 fD3
 generalize Ls++rdL (aB H fA) 3++rdL (aB H fB) 4++[aS 7 5 (rdV (aB H fA) 3) (rdV (aB H fB) 4) 0 0 ⟨#[]⟩]++kpL (aB H fD) 5=L4 at *
 generalize Ls++rdL (aB H fA) 3++rdL (aB H fB) 4++[aS 7 5 (rdV (aB H fA) 3) (rdV (aB H fB) 4) 0 0 ⟨#[]⟩]=L3 at *
 generalize Ls++rdL (aB H fA) 3++rdL (aB H fB) 4=L2 at *
 generalize Ls++rdL (aB H fA) 3=L1 at *
 generalize rdV (aB H fA) 3=vA at *
 generalize rdV (aB H fB) 4=vB at *
 simp only[eH] at s0 s1 s2 s3 ⊢
 rw[aR aW _ _ _ rfl,aT]
 simp -implicitDefEqProofs (disch:=first|assumption|omega|(simp only[aE,aM,aF,i64,sa,aD,lm,la,lc,ln];omega)) only[go_sem,simprocAttr,hdr,s0,s1,s2,s3]
theorem z7H(u:ZD)(hnm:u.fName.size≤1048576)(H:List Int)(fm:Int)(hf:0≤fm)(hf2:fm≤1000)(fD fA fB fN:Int)(fS:ByteArray)(args:List Int)(Ls:List ZB)(hl:Ls.length≤900000)(hN:i64 fN):evCW tab aV [.ptr (0,0) [] 0 0,.agg [I 8,I fD,I fA,I fB,I fN,Str fS,.d (.r (aG args))]] (eH u H fm Ls) 1=some (.tup [],eH u H fm (Ls++[D6 u.fName fN])):=by
 have hdr:=bN
 have sl:=fun cs=>zzo u.fName hnm cs fN hN
 have e0:(Ls++[D6 u.fName fN]).map ZB.o=Ls.map ZB.o++[[DS (qD u.fName fN),DI 0,DI 0,DI 0,DI 0,DI 0,DI 0,DS ⟨#[]⟩]]:=by simp[D6,ZB.o]
 have e1:(Ls.map ZB.o).length≤1000000:=by simp;omega
 simp only[eH,e0]
 generalize Ls.map ZB.o=W at *
 generalize qD u.fName fN=lb at *
 rw[aR aW _ _ _ rfl,aT]
 simp -implicitDefEqProofs (disch:=first|assumption|omega|(simp only[aE,aM,aF,i64,sa,aD,lm,la,lc,ln];omega)) only[go_sem,simprocAttr,hdr,sl,Bj,List.drop_zero]
theorem z7F(u:ZD)(hnm:u.fName.size≤1048576)(H:List Int)(fm:Int)(hf:0≤fm)(hf2:fm≤1000)(fD fA fB fN:Int)(fS:ByteArray)(args:List Int)(Ls:List ZB)(hl:Ls.length≤900000)(hN:i64 fN):evCW tab aV [.ptr (0,0) [] 0 0,.agg [I 9,I fD,I fA,I fB,I fN,Str fS,.d (.r (aG args))]] (eH u H fm Ls) 1=some (.tup [],eH u H fm (Ls++[aS 11 0 0 0 0 0 (qD u.fName fN)])):=by
 have hdr:=bN
 have s0:=pU u H fm (Ls) (by first|exact(by omega)|(simp only[la,List.length_singleton];omega)) 11 0 0 0 0 0 (qD u.fName fN)
 have sl:=fun cs=>zzo u.fName hnm cs fN hN
 generalize Ls++[aS 11 0 0 0 0 0 (qD u.fName fN)]=L1 at *
 simp only[eH] at s0 ⊢
 rw[aR aW _ _ _ rfl,aT]
 simp -implicitDefEqProofs (disch:=first|assumption|omega|(simp only[aE,aM,aF,i64,sa,aD,lm,la,lc,ln];omega)) only[go_sem,simprocAttr,hdr,s0,sl,Bj,List.drop_zero]
theorem z8i(u:ZD)(hnm:u.fName.size≤1048576)(H:List Int)(fm:Int)(hf:0≤fm)(hf2:fm≤1000)(fD fA fB fN:Int)(fS:ByteArray)(args:List Int)(Ls:List ZB)(hl:Ls.length≤900000)(h_fA:okH H fA)(hN:i64 fN):evCW tab aV [.ptr (0,0) [] 0 0,.agg [I 10,I fD,I fA,I fB,I fN,Str fS,.d (.r (aG args))]] (eH u H fm Ls) 1=some (.tup [],eH u H fm (Ls++rdL (aB H fA) 3++[aS 12 0 (rdV (aB H fA) 3) 0 0 0 (qD u.fName fN)])):=by
 have hdr:=bN
 obtain⟨fA0,fA1,fA2,fA3⟩:=h_fA
 have l_vA:=aX (aB H fA) 3
 have s0:=i6 u H fm (Ls) (by first|exact(by omega)|(simp only[la,List.length_singleton];omega)) fA 3 fA0 fA1 fA3 fA2
 have s1:=pU u H fm (Ls++rdL (aB H fA) 3) (by first|exact(by omega)|(simp only[la,List.length_singleton];omega)) 12 0 (rdV (aB H fA) 3) 0 0 0 (qD u.fName fN)
 have sl:=fun cs=>zzo u.fName hnm cs fN hN
 generalize Ls++rdL (aB H fA) 3++[aS 12 0 (rdV (aB H fA) 3) 0 0 0 (qD u.fName fN)]=L2 at *
 generalize Ls++rdL (aB H fA) 3=L1 at *
 generalize rdV (aB H fA) 3=vA at *
 simp only[eH] at s0 s1 ⊢
 rw[aR aW _ _ _ rfl,aT]
 simp -implicitDefEqProofs (disch:=first|assumption|omega|(simp only[aE,aM,aF,i64,sa,aD,lm,la,lc,ln];omega)) only[go_sem,simprocAttr,hdr,s0,s1,sl,Bj,List.drop_zero]
theorem z88(u:ZD)(hnm:u.fName.size≤1048576)(H:List Int)(fm:Int)(hf:0≤fm)(hf2:fm≤1000)(fD fA fB fN:Int)(fS:ByteArray)(args:List Int)(Ls:List ZB)(hl:Ls.length≤900000)(hx:args.length≤4)(hq:∀q∈args,okH H q)(h_fD:okH H fD):evCW tab aV [.ptr (0,0) [] 0 0,.agg [I 11,I fD,I fA,I fB,I fN,Str fS,.d (.r (aG args))]] (eH u H fm Ls) 1=some (.tup [],eH u H fm (Ls++mZ H fm 0 args++[aS 13 0 0 0 0 fm fS]++kpL (aB H fD) 0)):=by
 have hdr:=bN
 have s1:=z98 u hnm H fm hf hf2 fD fA fB fN fS args Ls hl hx hq h_fD
 generalize Ls++mZ H fm 0 args++[aS 13 0 0 0 0 fm fS]++kpL (aB H fD) 0=LF at *
 simp only[eH] at s1 ⊢
 rw[aR aW _ _ _ rfl,aT]
 simp -implicitDefEqProofs (disch:=first|assumption|omega|(simp only[aE,aM,aF,i64,sa,aD,lm,la,lc,ln];omega)) only[go_sem,simprocAttr,hdr,s1]
theorem z8j(u:ZD)(hnm:u.fName.size≤1048576)(H:List Int)(fm:Int)(hf:0≤fm)(hf2:fm≤1000)(fD fA fB fN:Int)(fS:ByteArray)(args:List Int)(Ls:List ZB)(hl:Ls.length≤900000)(h_fA:okH H fA):evCW tab aV [.ptr (0,0) [] 0 0,.agg [I 12,I fD,I fA,I fB,I fN,Str fS,.d (.r (aG args))]] (eH u H fm Ls) 1=some (.tup [],eH u H fm (Ls++rdL (aB H fA) 3++[aS 2 0 (rdV (aB H fA) 3) 0 0 0 ⟨#[]⟩]++[aS 14 0 0 0 0 0 ⟨#[]⟩])):=by
 have hdr:=bN
 obtain⟨fA0,fA1,fA2,fA3⟩:=h_fA
 have l_vA:=aX (aB H fA) 3
 have s0:=i6 u H fm (Ls) (by first|exact(by omega)|(simp only[la,List.length_singleton];omega)) fA 3 fA0 fA1 fA3 fA2
 have s1:=pU u H fm (Ls++rdL (aB H fA) 3) (by first|exact(by omega)|(simp only[la,List.length_singleton];omega)) 2 0 (rdV (aB H fA) 3) 0 0 0 ⟨#[]⟩
 have s2:=pU u H fm (Ls++rdL (aB H fA) 3++[aS 2 0 (rdV (aB H fA) 3) 0 0 0 ⟨#[]⟩]) (by first|exact(by omega)|(simp only[la,List.length_singleton];omega)) 14 0 0 0 0 0 ⟨#[]⟩
 generalize Ls++rdL (aB H fA) 3++[aS 2 0 (rdV (aB H fA) 3) 0 0 0 ⟨#[]⟩]++[aS 14 0 0 0 0 0 ⟨#[]⟩]=L3 at *
 generalize Ls++rdL (aB H fA) 3++[aS 2 0 (rdV (aB H fA) 3) 0 0 0 ⟨#[]⟩]=L2 at *
 generalize Ls++rdL (aB H fA) 3=L1 at *
 generalize rdV (aB H fA) 3=vA at *
 simp only[eH] at s0 s1 s2 ⊢
 rw[aR aW _ _ _ rfl,aT]
 simp -implicitDefEqProofs (disch:=first|assumption|omega|(simp only[aE,aM,aF,i64,sa,aD,lm,la,lc,ln];omega)) only[go_sem,simprocAttr,hdr,s0,s1,s2]
theorem z9F(u:ZD)(hnm:u.fName.size≤1048576)(H:List Int)(fm:Int)(hf:0≤fm)(hf2:fm≤1000)(fD fA fB fN:Int)(fS:ByteArray)(args:List Int)(Ls:List ZB)(hl:Ls.length≤900000)(h_fA:okH H fA)(h_fD:okH H fD):evCW tab aV [.ptr (0,0) [] 0 0,.agg [I 20,I fD,I fA,I fB,I fN,Str fS,.d (.r (aG args))]] (eH u H fm Ls) 1=some (.tup [],eH u H fm (Ls++rdL (aB H fA) 3++[aS 8 5 (rdV (aB H fA) 3) 0 0 0 ⟨#[]⟩]++kpL (aB H fD) 5)):=by
 have hdr:=bN
 have s1:=z9J u hnm H fm hf hf2 fD fA fB fN fS args Ls hl h_fA h_fD
 generalize Ls++rdL (aB H fA) 3++[aS 8 5 (rdV (aB H fA) 3) 0 0 0 ⟨#[]⟩]++kpL (aB H fD) 5=LF at *
 simp only[eH] at s1 ⊢
 rw[aR aW _ _ _ rfl,aT]
 simp -implicitDefEqProofs (disch:=first|assumption|omega|(simp only[aE,aM,aF,i64,sa,aD,lm,la,lc,ln];omega)) only[go_sem,simprocAttr,hdr,s1]
theorem z8F(u:ZD)(hnm:u.fName.size≤1048576)(H:List Int)(fm:Int)(hf:0≤fm)(hf2:fm≤1000)(fD fA fB fN:Int)(fS:ByteArray)(args:List Int)(Ls:List ZB)(hl:Ls.length≤900000)(h_fA:okH H fA)(h_fB:okH H fB):evCW tab aV [.ptr (0,0) [] 0 0,.agg [I 21,I fD,I fA,I fB,I fN,Str fS,.d (.r (aG args))]] (eH u H fm Ls) 1=some (.tup [],eH u H fm (Ls++rdL (aB H fA) 3++rdL (aB H fB) 4++[aS 9 0 (rdV (aB H fA) 3) (rdV (aB H fB) 4) 0 0 ⟨#[]⟩])):=by
 have hdr:=bN
 have s1:=z93 u hnm H fm hf hf2 fD fA fB fN fS args Ls hl h_fA h_fB
 generalize Ls++rdL (aB H fA) 3++rdL (aB H fB) 4++[aS 9 0 (rdV (aB H fA) 3) (rdV (aB H fB) 4) 0 0 ⟨#[]⟩]=LF at *
 simp only[eH] at s1 ⊢
 rw[aR aW _ _ _ rfl,aT]
 simp -implicitDefEqProofs (disch:=first|assumption|omega|(simp only[aE,aM,aF,i64,sa,aD,lm,la,lc,ln];omega)) only[go_sem,simprocAttr,hdr,s1]
theorem z8O(u:ZD)(hnm:u.fName.size≤1048576)(H:List Int)(fm:Int)(hf:0≤fm)(hf2:fm≤1000)(fD fA fB fN:Int)(fS:ByteArray)(q:Int)(Ls:List ZB)(hl:Ls.length≤900000)(h_fA:okH H fA)(h_fB:okH H fB)(h_q:okH H q)(h_fD:okH H fD):evCW tab aV [.ptr (0,0) [] 0 0,.agg [I 22,I fD,I fA,I fB,I fN,Str fS,.d (.r (aG [q]))]] (eH u H fm Ls) 1=some (.tup [],eH u H fm (Ls++rdL (aB H fA) 3++rdL (aB H fB) 4++[aS 2 5 (rdV (aB H fB) 4) 0 0 0 ⟨#[]⟩]++rdL (aB H q) 4++[aS 10 5 (rdV (aB H fA) 3) (rdV (aB H q) 4) 0 0 ⟨#[]⟩]++kpL (aB H fD) 5)):=by
 have hdr:=bN
 have s1:=z8P u hnm H fm hf hf2 fD fA fB fN fS q Ls hl h_fA h_fB h_q h_fD
 generalize Ls++rdL (aB H fA) 3++rdL (aB H fB) 4++[aS 2 5 (rdV (aB H fB) 4) 0 0 0 ⟨#[]⟩]++rdL (aB H q) 4++[aS 10 5 (rdV (aB H fA) 3) (rdV (aB H q) 4) 0 0 ⟨#[]⟩]++kpL (aB H fD) 5=LF at *
 simp only[eH,aG,mc,mn] at s1 ⊢
 rw[aR aW _ _ _ rfl,aT]
 simp -implicitDefEqProofs (disch:=first|assumption|omega|(simp only[aE,aM,aF,i64,sa,aD,lm,la,lc,ln];omega)) only[go_sem,simprocAttr,hdr,s1]
theorem z7c(u:ZD)(hnm:u.fName.size≤1048576)(H:List Int)(fm:Int)(hf:0≤fm)(hf2:fm≤1000)(fD fA fB fN:Int)(fS:ByteArray)(args:List Int)(Ls:List ZB)(hl:Ls.length≤900000)(h_fD:okH H fD):evCW tab aV [.ptr (0,0) [] 0 0,.agg [I 23,I fD,I fA,I fB,I fN,Str fS,.d (.r (aG args))]] (eH u H fm Ls) 1=some (.tup [],eH u H fm (Ls++[aS 18 5 0 0 0 0 ⟨#[]⟩]++kpL (aB H fD) 5)):=by
 have hdr:=bN
 obtain⟨fD0,fD1,fD2,fD3⟩:=h_fD
 have s0:=pU u H fm (Ls) (by first|exact(by omega)|(simp only[la,List.length_singleton];omega)) 18 5 0 0 0 0 ⟨#[]⟩
 have s1:=x9 u H fm (Ls++[aS 18 5 0 0 0 0 ⟨#[]⟩]) (by first|exact(by omega)|(simp only[la,List.length_singleton];omega)) fD 5 fD0 fD1 fD3
 generalize Ls++[aS 18 5 0 0 0 0 ⟨#[]⟩]++kpL (aB H fD) 5=L2 at *
 generalize Ls++[aS 18 5 0 0 0 0 ⟨#[]⟩]=L1 at *
 simp only[eH] at s0 s1 ⊢
 rw[aR aW _ _ _ rfl,aT]
 simp -implicitDefEqProofs (disch:=first|assumption|omega|(simp only[aE,aM,aF,i64,sa,aD,lm,la,lc,ln];omega)) only[go_sem,simprocAttr,hdr,s0,s1]
theorem z8d(u:ZD)(hnm:u.fName.size≤1048576)(H:List Int)(fm:Int)(hf:0≤fm)(hf2:fm≤1000)(fD fA fB fN:Int)(fS:ByteArray)(args:List Int)(Ls:List ZB)(hl:Ls.length≤900000)(h_fD:okH H fD):evCW tab aV [.ptr (0,0) [] 0 0,.agg [I 24,I fD,I fA,I fB,I fN,Str fS,.d (.r (aG args))]] (eH u H fm Ls) 1=some (.tup [],eH u H fm (Ls++[aS 1 5 0 0 0 0 fS]++kpL (aB H fD) 5)):=by
 have hdr:=bN
 obtain⟨fD0,fD1,fD2,fD3⟩:=h_fD
 have s0:=pU u H fm (Ls) (by first|exact(by omega)|(simp only[la,List.length_singleton];omega)) 1 5 0 0 0 0 fS
 have s1:=x9 u H fm (Ls++[aS 1 5 0 0 0 0 fS]) (by first|exact(by omega)|(simp only[la,List.length_singleton];omega)) fD 5 fD0 fD1 fD3
 generalize Ls++[aS 1 5 0 0 0 0 fS]++kpL (aB H fD) 5=L2 at *
 generalize Ls++[aS 1 5 0 0 0 0 fS]=L1 at *
 simp only[eH] at s0 s1 ⊢
 rw[aR aW _ _ _ rfl,aT]
 simp -implicitDefEqProofs (disch:=first|assumption|omega|(simp only[aE,aM,aF,i64,sa,aD,lm,la,lc,ln];omega)) only[go_sem,simprocAttr,hdr,s0,s1]
theorem z9z(u:ZD)(hnm:u.fName.size≤1048576)(H:List Int)(fm:Int)(hf:0≤fm)(hf2:fm≤1000)(fD fA fB fN:Int)(fS:ByteArray)(args:List Int)(Ls:List ZB)(hl:Ls.length≤900000)(h_fA:okH H fA):evCW tab aV [.ptr (0,0) [] 0 0,.agg [I 25,I fD,I fA,I fB,I fN,Str fS,.d (.r (aG args))]] (eH u H fm Ls) 1=some (.tup [],eH u H fm (Ls++rdL (aB H fA) 3++[aS 15 0 (rdV (aB H fA) 3) 0 0 0 ⟨#[]⟩])):=by
 have hdr:=bN
 have s1:=z8V u hnm H fm hf hf2 fD fA fB fN fS args Ls hl h_fA
 generalize Ls++rdL (aB H fA) 3++[aS 15 0 (rdV (aB H fA) 3) 0 0 0 ⟨#[]⟩]=LF at *
 simp only[eH] at s1 ⊢
 rw[aR aW _ _ _ rfl,aT]
 simp -implicitDefEqProofs (disch:=first|assumption|omega|(simp only[aE,aM,aF,i64,sa,aD,lm,la,lc,ln];omega)) only[go_sem,simprocAttr,hdr,s1]
theorem z8N(u:ZD)(hnm:u.fName.size≤1048576)(H:List Int)(fm:Int)(hf:0≤fm)(hf2:fm≤1000)(fD fA fB fN:Int)(fS:ByteArray)(args:List Int)(Ls:List ZB)(hl:Ls.length≤900000)(h_fA:okH H fA)(h_fB:okH H fB):evCW tab aV [.ptr (0,0) [] 0 0,.agg [I 26,I fD,I fA,I fB,I fN,Str fS,.d (.r (aG args))]] (eH u H fm Ls) 1=some (.tup [],eH u H fm (Ls++rdL (aB H fA) 3++rdL (aB H fB) 4++[aS 16 0 (rdV (aB H fA) 3) (rdV (aB H fB) 4) 0 0 ⟨#[]⟩])):=by
 have hdr:=bN
 have s1:=z9M u hnm H fm hf hf2 fD fA fB fN fS args Ls hl h_fA h_fB
 generalize Ls++rdL (aB H fA) 3++rdL (aB H fB) 4++[aS 16 0 (rdV (aB H fA) 3) (rdV (aB H fB) 4) 0 0 ⟨#[]⟩]=LF at *
 simp only[eH] at s1 ⊢
 rw[aR aW _ _ _ rfl,aT]
 simp -implicitDefEqProofs (disch:=first|assumption|omega|(simp only[aE,aM,aF,i64,sa,aD,lm,la,lc,ln];omega)) only[go_sem,simprocAttr,hdr,s1]
theorem z8D(u:ZD)(hnm:u.fName.size≤1048576)(H:List Int)(fm:Int)(hf:0≤fm)(hf2:fm≤1000)(fD fA fB fN:Int)(fS:ByteArray)(args:List Int)(Ls:List ZB)(hl:Ls.length≤900000)(h_fA:okH H fA)(h_fB:okH H fB):evCW tab aV [.ptr (0,0) [] 0 0,.agg [I 27,I fD,I fA,I fB,I fN,Str fS,.d (.r (aG args))]] (eH u H fm Ls) 1=some (.tup [],eH u H fm (Ls++rdL (aB H fA) 3++rdL (aB H fB) 4++[aS 17 0 (rdV (aB H fA) 3) (rdV (aB H fB) 4) 0 0 ⟨#[]⟩])):=by
 have hdr:=bN
 have s1:=z87 u hnm H fm hf hf2 fD fA fB fN fS args Ls hl h_fA h_fB
 generalize Ls++rdL (aB H fA) 3++rdL (aB H fB) 4++[aS 17 0 (rdV (aB H fA) 3) (rdV (aB H fB) 4) 0 0 ⟨#[]⟩]=LF at *
 simp only[eH] at s1 ⊢
 rw[aR aW _ _ _ rfl,aT]
 simp -implicitDefEqProofs (disch:=first|assumption|omega|(simp only[aE,aM,aF,i64,sa,aD,lm,la,lc,ln];omega)) only[go_sem,simprocAttr,hdr,s1]
theorem z8e(u:ZD)(hnm:u.fName.size≤1048576)(H:List Int)(fm:Int)(hf:0≤fm)(hf2:fm≤1000)(fD fA fB fN:Int)(fS:ByteArray)(args:List Int)(Ls:List ZB)(hl:Ls.length≤900000)(h_fA:okH H fA):evCW tab aV [.ptr (0,0) [] 0 0,.agg [I 28,I fD,I fA,I fB,I fN,Str fS,.d (.r (aG args))]] (eH u H fm Ls) 1=some (.tup [],eH u H fm (Ls++rdL (aB H fA) 3++[aS 19 0 (rdV (aB H fA) 3) 0 0 0 ⟨#[]⟩])):=by
 have hdr:=bN
 have s1:=z85 u hnm H fm hf hf2 fD fA fB fN fS args Ls hl h_fA
 generalize Ls++rdL (aB H fA) 3++[aS 19 0 (rdV (aB H fA) 3) 0 0 0 ⟨#[]⟩]=LF at *
 simp only[eH] at s1 ⊢
 rw[aR aW _ _ _ rfl,aT]
 simp -implicitDefEqProofs (disch:=first|assumption|omega|(simp only[aE,aM,aF,i64,sa,aD,lm,la,lc,ln];omega)) only[go_sem,simprocAttr,hdr,s1]
set_option maxRecDepth 8000
set_option maxHeartbeats 8000000
theorem z7L(nm:ByteArray)(hnm:nm.size≤1048576)(H:List Int)(fm:Int)(hf:0≤fm)(hf2:fm≤1000)(fD fA fB fN:Int)(fS:ByteArray)(args:List Int)(Ls:List ZB)(hl:Ls.length≤900000)(h_fA:okH H fA)(h_fD:okH H fD):evCW tab i9 [.ptr (0,0) [] 0 0,.agg [I 2,I fD,I fA,I fB,I fN,Str fS,.d (.r (aG args))]] (gH nm H fm Ls) 1=some (.tup [],gH nm H fm (Ls++rdL (aB H fA) 3++kpL (aB H fD) (rdV (aB H fA) 3))):=by
 have hdr:=bN
 obtain⟨fA0,fA1,fA2,fA3⟩:=h_fA
 obtain⟨fD0,fD1,fD2,fD3⟩:=h_fD
 have l_vA:=aX (aB H fA) 3
 have s0:=i5 nm H fm (Ls) (by first|exact(by omega)|(simp only[la,List.length_singleton];omega)) fA 3 fA0 fA1 fA3 fA2
 have s1:=yA nm H fm (Ls++rdL (aB H fA) 3) (by first|exact(by omega)|(simp only[la,List.length_singleton];omega)) fD (rdV (aB H fA) 3) fD0 fD1 fD3
 generalize Ls++rdL (aB H fA) 3++kpL (aB H fD) (rdV (aB H fA) 3)=L2 at *
 generalize Ls++rdL (aB H fA) 3=L1 at *
 generalize rdV (aB H fA) 3=vA at *
 simp only[gH] at s0 s1 ⊢
 rw[aR jW _ _ _ rfl,gZ]
 simp -implicitDefEqProofs (disch:=first|assumption|omega|(simp only[aE,aM,aF,i64,sa,aD,lm,la,lc,ln];omega)) only[go_sem,simprocAttr,hdr,s0,s1]
theorem z7g(nm:ByteArray)(hnm:nm.size≤1048576)(H:List Int)(fm:Int)(hf:0≤fm)(hf2:fm≤1000)(fD fA fB fN:Int)(fS:ByteArray)(args:List Int)(Ls:List ZB)(hl:Ls.length≤900000)(h_fA:okH H fA)(h_fB:okH H fB)(h_fD:okH H fD):evCW tab fK [.ptr (0,0) [] 0 0,.agg [I 3,I fD,I fA,I fB,I fN,Str fS,.d (.r (aG args))]] (gH nm H fm Ls) 1=some (.tup [],gH nm H fm (Ls++rdL (aB H fA) 3++rdL (aB H fB) 4++[aS 3 5 (rdV (aB H fA) 3) (rdV (aB H fB) 4) 0 0 ⟨#[]⟩]++kpL (aB H fD) 5)):=by
 have hdr:=bN
 obtain⟨fA0,fA1,fA2,fA3⟩:=h_fA
 obtain⟨fB0,fB1,fB2,fB3⟩:=h_fB
 obtain⟨fD0,fD1,fD2,fD3⟩:=h_fD
 have l_vA:=aX (aB H fA) 3
 have l_vB:=aX (aB H fB) 4
 have s0:=i5 nm H fm (Ls) (by first|exact(by omega)|(simp only[la,List.length_singleton];omega)) fA 3 fA0 fA1 fA3 fA2
 have s1:=i5 nm H fm (Ls++rdL (aB H fA) 3) (by first|exact(by omega)|(simp only[la,List.length_singleton];omega)) fB 4 fB0 fB1 fB3 fB2
 have s2:=tX nm H fm (Ls++rdL (aB H fA) 3++rdL (aB H fB) 4) (by first|exact(by omega)|(simp only[la,List.length_singleton];omega)) 3 5 (rdV (aB H fA) 3) (rdV (aB H fB) 4) 0 0
 have s3:=yA nm H fm (Ls++rdL (aB H fA) 3++rdL (aB H fB) 4++[aS 3 5 (rdV (aB H fA) 3) (rdV (aB H fB) 4) 0 0 ⟨#[]⟩]) (by first|exact(by omega)|(simp only[la,List.length_singleton];omega)) fD 5 fD0 fD1 fD3
 generalize Ls++rdL (aB H fA) 3++rdL (aB H fB) 4++[aS 3 5 (rdV (aB H fA) 3) (rdV (aB H fB) 4) 0 0 ⟨#[]⟩]++kpL (aB H fD) 5=L4 at *
 generalize Ls++rdL (aB H fA) 3++rdL (aB H fB) 4++[aS 3 5 (rdV (aB H fA) 3) (rdV (aB H fB) 4) 0 0 ⟨#[]⟩]=L3 at *
 generalize Ls++rdL (aB H fA) 3++rdL (aB H fB) 4=L2 at *
 generalize Ls++rdL (aB H fA) 3=L1 at *
 generalize rdV (aB H fA) 3=vA at *
 generalize rdV (aB H fB) 4=vB at *
 simp only[gH] at s0 s1 s2 s3 ⊢
 rw[aR fJ _ _ _ rfl,d9]
 simp -implicitDefEqProofs (disch:=first|assumption|omega|(simp only[aE,aM,aF,i64,sa,aD,lm,la,lc,ln];omega)) only[go_sem,simprocAttr,hdr,s0,s1,s2,s3]
theorem z7x(nm:ByteArray)(hnm:nm.size≤1048576)(H:List Int)(fm:Int)(hf:0≤fm)(hf2:fm≤1000)(fD fA fB fN:Int)(fS:ByteArray)(args:List Int)(Ls:List ZB)(hl:Ls.length≤900000)(h_fA:okH H fA)(h_fB:okH H fB)(h_fD:okH H fD):evCW tab fK [.ptr (0,0) [] 0 0,.agg [I 4,I fD,I fA,I fB,I fN,Str fS,.d (.r (aG args))]] (gH nm H fm Ls) 1=some (.tup [],gH nm H fm (Ls++rdL (aB H fA) 3++rdL (aB H fB) 4++[aS 4 5 (rdV (aB H fA) 3) (rdV (aB H fB) 4) 0 0 ⟨#[]⟩]++kpL (aB H fD) 5)):=by
 have hdr:=bN
 obtain⟨fA0,fA1,fA2,fA3⟩:=h_fA
 obtain⟨fB0,fB1,fB2,fB3⟩:=h_fB
 obtain⟨fD0,fD1,fD2,fD3⟩:=h_fD
 have l_vA:=aX (aB H fA) 3
 have l_vB:=aX (aB H fB) 4
 have s0:=i5 nm H fm (Ls) (by first|exact(by omega)|(simp only[la,List.length_singleton];omega)) fA 3 fA0 fA1 fA3 fA2
 have s1:=i5 nm H fm (Ls++rdL (aB H fA) 3) (by first|exact(by omega)|(simp only[la,List.length_singleton];omega)) fB 4 fB0 fB1 fB3 fB2
 have s2:=tX nm H fm (Ls++rdL (aB H fA) 3++rdL (aB H fB) 4) (by first|exact(by omega)|(simp only[la,List.length_singleton];omega)) 4 5 (rdV (aB H fA) 3) (rdV (aB H fB) 4) 0 0
 have s3:=yA nm H fm (Ls++rdL (aB H fA) 3++rdL (aB H fB) 4++[aS 4 5 (rdV (aB H fA) 3) (rdV (aB H fB) 4) 0 0 ⟨#[]⟩]) (by first|exact(by omega)|(simp only[la,List.length_singleton];omega)) fD 5 fD0 fD1 fD3
 generalize Ls++rdL (aB H fA) 3++rdL (aB H fB) 4++[aS 4 5 (rdV (aB H fA) 3) (rdV (aB H fB) 4) 0 0 ⟨#[]⟩]++kpL (aB H fD) 5=L4 at *
 generalize Ls++rdL (aB H fA) 3++rdL (aB H fB) 4++[aS 4 5 (rdV (aB H fA) 3) (rdV (aB H fB) 4) 0 0 ⟨#[]⟩]=L3 at *
 generalize Ls++rdL (aB H fA) 3++rdL (aB H fB) 4=L2 at *
 generalize Ls++rdL (aB H fA) 3=L1 at *
 generalize rdV (aB H fA) 3=vA at *
 generalize rdV (aB H fB) 4=vB at *
 simp only[gH] at s0 s1 s2 s3 ⊢
 rw[aR fJ _ _ _ rfl,d9]
 simp -implicitDefEqProofs (disch:=first|assumption|omega|(simp only[aE,aM,aF,i64,sa,aD,lm,la,lc,ln];omega)) only[go_sem,simprocAttr,hdr,s0,s1,s2,s3]
theorem z7j(nm:ByteArray)(hnm:nm.size≤1048576)(H:List Int)(fm:Int)(hf:0≤fm)(hf2:fm≤1000)(fD fA fB fN:Int)(fS:ByteArray)(args:List Int)(Ls:List ZB)(hl:Ls.length≤900000)(h_fA:okH H fA)(h_fB:okH H fB)(h_fD:okH H fD):evCW tab fK [.ptr (0,0) [] 0 0,.agg [I 5,I fD,I fA,I fB,I fN,Str fS,.d (.r (aG args))]] (gH nm H fm Ls) 1=some (.tup [],gH nm H fm (Ls++rdL (aB H fA) 3++rdL (aB H fB) 4++[aS 5 5 (rdV (aB H fA) 3) (rdV (aB H fB) 4) 0 0 ⟨#[]⟩]++kpL (aB H fD) 5)):=by
 have hdr:=bN
 obtain⟨fA0,fA1,fA2,fA3⟩:=h_fA
 obtain⟨fB0,fB1,fB2,fB3⟩:=h_fB
 obtain⟨fD0,fD1,fD2,fD3⟩:=h_fD
 have l_vA:=aX (aB H fA) 3
 have l_vB:=aX (aB H fB) 4
 have s0:=i5 nm H fm (Ls) (by first|exact(by omega)|(simp only[la,List.length_singleton];omega)) fA 3 fA0 fA1 fA3 fA2
 have s1:=i5 nm H fm (Ls++rdL (aB H fA) 3) (by first|exact(by omega)|(simp only[la,List.length_singleton];omega)) fB 4 fB0 fB1 fB3 fB2
 have s2:=tX nm H fm (Ls++rdL (aB H fA) 3++rdL (aB H fB) 4) (by first|exact(by omega)|(simp only[la,List.length_singleton];omega)) 5 5 (rdV (aB H fA) 3) (rdV (aB H fB) 4) 0 0
 have s3:=yA nm H fm (Ls++rdL (aB H fA) 3++rdL (aB H fB) 4++[aS 5 5 (rdV (aB H fA) 3) (rdV (aB H fB) 4) 0 0 ⟨#[]⟩]) (by first|exact(by omega)|(simp only[la,List.length_singleton];omega)) fD 5 fD0 fD1 fD3
 generalize Ls++rdL (aB H fA) 3++rdL (aB H fB) 4++[aS 5 5 (rdV (aB H fA) 3) (rdV (aB H fB) 4) 0 0 ⟨#[]⟩]++kpL (aB H fD) 5=L4 at *
 generalize Ls++rdL (aB H fA) 3++rdL (aB H fB) 4++[aS 5 5 (rdV (aB H fA) 3) (rdV (aB H fB) 4) 0 0 ⟨#[]⟩]=L3 at *
 generalize Ls++rdL (aB H fA) 3++rdL (aB H fB) 4=L2 at *
 generalize Ls++rdL (aB H fA) 3=L1 at *
 generalize rdV (aB H fA) 3=vA at *
 generalize rdV (aB H fB) 4=vB at *
 simp only[gH] at s0 s1 s2 s3 ⊢
 rw[aR fJ _ _ _ rfl,d9]
 simp -implicitDefEqProofs (disch:=first|assumption|omega|(simp only[aE,aM,aF,i64,sa,aD,lm,la,lc,ln];omega)) only[go_sem,simprocAttr,hdr,s0,s1,s2,s3]
theorem z7A(nm:ByteArray)(hnm:nm.size≤1048576)(H:List Int)(fm:Int)(hf:0≤fm)(hf2:fm≤1000)(fD fA fB fN:Int)(fS:ByteArray)(args:List Int)(Ls:List ZB)(hl:Ls.length≤900000)(h_fA:okH H fA)(h_fB:okH H fB)(h_fD:okH H fD):evCW tab fK [.ptr (0,0) [] 0 0,.agg [I 6,I fD,I fA,I fB,I fN,Str fS,.d (.r (aG args))]] (gH nm H fm Ls) 1=some (.tup [],gH nm H fm (Ls++rdL (aB H fA) 3++rdL (aB H fB) 4++[aS 6 5 (rdV (aB H fA) 3) (rdV (aB H fB) 4) 0 0 ⟨#[]⟩]++kpL (aB H fD) 5)):=by
 have hdr:=bN
 obtain⟨fA0,fA1,fA2,fA3⟩:=h_fA
 obtain⟨fB0,fB1,fB2,fB3⟩:=h_fB
 obtain⟨fD0,fD1,fD2,fD3⟩:=h_fD
 have l_vA:=aX (aB H fA) 3
 have l_vB:=aX (aB H fB) 4
 have s0:=i5 nm H fm (Ls) (by first|exact(by omega)|(simp only[la,List.length_singleton];omega)) fA 3 fA0 fA1 fA3 fA2
 have s1:=i5 nm H fm (Ls++rdL (aB H fA) 3) (by first|exact(by omega)|(simp only[la,List.length_singleton];omega)) fB 4 fB0 fB1 fB3 fB2
 have s2:=tX nm H fm (Ls++rdL (aB H fA) 3++rdL (aB H fB) 4) (by first|exact(by omega)|(simp only[la,List.length_singleton];omega)) 6 5 (rdV (aB H fA) 3) (rdV (aB H fB) 4) 0 0
 have s3:=yA nm H fm (Ls++rdL (aB H fA) 3++rdL (aB H fB) 4++[aS 6 5 (rdV (aB H fA) 3) (rdV (aB H fB) 4) 0 0 ⟨#[]⟩]) (by first|exact(by omega)|(simp only[la,List.length_singleton];omega)) fD 5 fD0 fD1 fD3
 generalize Ls++rdL (aB H fA) 3++rdL (aB H fB) 4++[aS 6 5 (rdV (aB H fA) 3) (rdV (aB H fB) 4) 0 0 ⟨#[]⟩]++kpL (aB H fD) 5=L4 at *
 generalize Ls++rdL (aB H fA) 3++rdL (aB H fB) 4++[aS 6 5 (rdV (aB H fA) 3) (rdV (aB H fB) 4) 0 0 ⟨#[]⟩]=L3 at *
 generalize Ls++rdL (aB H fA) 3++rdL (aB H fB) 4=L2 at *
 generalize Ls++rdL (aB H fA) 3=L1 at *
 generalize rdV (aB H fA) 3=vA at *
 generalize rdV (aB H fB) 4=vB at *
 simp only[gH] at s0 s1 s2 s3 ⊢
 rw[aR fJ _ _ _ rfl,d9]
 simp -implicitDefEqProofs (disch:=first|assumption|omega|(simp only[aE,aM,aF,i64,sa,aD,lm,la,lc,ln];omega)) only[go_sem,simprocAttr,hdr,s0,s1,s2,s3]
theorem z7s(nm:ByteArray)(hnm:nm.size≤1048576)(H:List Int)(fm:Int)(hf:0≤fm)(hf2:fm≤1000)(fD fA fB fN:Int)(fS:ByteArray)(args:List Int)(Ls:List ZB)(hl:Ls.length≤900000)(h_fA:okH H fA)(h_fB:okH H fB)(h_fD:okH H fD):evCW tab fK [.ptr (0,0) [] 0 0,.agg [I 7,I fD,I fA,I fB,I fN,Str fS,.d (.r (aG args))]] (gH nm H fm Ls) 1=some (.tup [],gH nm H fm (Ls++rdL (aB H fA) 3++rdL (aB H fB) 4++[aS 7 5 (rdV (aB H fA) 3) (rdV (aB H fB) 4) 0 0 ⟨#[]⟩]++kpL (aB H fD) 5)):=by
 have hdr:=bN
 obtain⟨fA0,fA1,fA2,fA3⟩:=h_fA
 obtain⟨fB0,fB1,fB2,fB3⟩:=h_fB
 obtain⟨fD0,fD1,fD2,fD3⟩:=h_fD
 have l_vA:=aX (aB H fA) 3
 have l_vB:=aX (aB H fB) 4
 have s0:=i5 nm H fm (Ls) (by first|exact(by omega)|(simp only[la,List.length_singleton];omega)) fA 3 fA0 fA1 fA3 fA2
 have s1:=i5 nm H fm (Ls++rdL (aB H fA) 3) (by first|exact(by omega)|(simp only[la,List.length_singleton];omega)) fB 4 fB0 fB1 fB3 fB2
 have s2:=tX nm H fm (Ls++rdL (aB H fA) 3++rdL (aB H fB) 4) (by first|exact(by omega)|(simp only[la,List.length_singleton];omega)) 7 5 (rdV (aB H fA) 3) (rdV (aB H fB) 4) 0 0
 have s3:=yA nm H fm (Ls++rdL (aB H fA) 3++rdL (aB H fB) 4++[aS 7 5 (rdV (aB H fA) 3) (rdV (aB H fB) 4) 0 0 ⟨#[]⟩]) (by first|exact(by omega)|(simp only[la,List.length_singleton];omega)) fD 5 fD0 fD1 fD3
 generalize Ls++rdL (aB H fA) 3++rdL (aB H fB) 4++[aS 7 5 (rdV (aB H fA) 3) (rdV (aB H fB) 4) 0 0 ⟨#[]⟩]++kpL (aB H fD) 5=L4 at *
 generalize Ls++rdL (aB H fA) 3++rdL (aB H fB) 4++[aS 7 5 (rdV (aB H fA) 3) (rdV (aB H fB) 4) 0 0 ⟨#[]⟩]=L3 at *
 generalize Ls++rdL (aB H fA) 3++rdL (aB H fB) 4=L2 at *
 generalize Ls++rdL (aB H fA) 3=L1 at *
 generalize rdV (aB H fA) 3=vA at *
 generalize rdV (aB H fB) 4=vB at *
 simp only[gH] at s0 s1 s2 s3 ⊢
 rw[aR fJ _ _ _ rfl,d9]
 simp -implicitDefEqProofs (disch:=first|assumption|omega|(simp only[aE,aM,aF,i64,sa,aD,lm,la,lc,ln];omega)) only[go_sem,simprocAttr,hdr,s0,s1,s2,s3]
theorem z92(nm:ByteArray)(hnm:nm.size≤1048576)(H:List Int)(fm:Int)(hf:0≤fm)(hf2:fm≤1000)(fD fA fB fN:Int)(fS:ByteArray)(args:List Int)(Ls:List ZB)(hl:Ls.length≤900000)(h_fA:okH H fA)(hN:i64 fN):evCW tab i9 [.ptr (0,0) [] 0 0,.agg [I 10,I fD,I fA,I fB,I fN,Str fS,.d (.r (aG args))]] (gH nm H fm Ls) 1=some (.tup [],gH nm H fm (Ls++rdL (aB H fA) 3++[aS 12 0 (rdV (aB H fA) 3) 0 0 0 (qD nm fN)])):=by
 have hdr:=bN
 obtain⟨fA0,fA1,fA2,fA3⟩:=h_fA
 have l_vA:=aX (aB H fA) 3
 have s0:=i5 nm H fm (Ls) (by first|exact(by omega)|(simp only[la,List.length_singleton];omega)) fA 3 fA0 fA1 fA3 fA2
 have s1:=gto nm H fm (Ls++rdL (aB H fA) 3) (by first|exact(by omega)|(simp only[la,List.length_singleton];omega)) 12 0 (rdV (aB H fA) 3) 0 0 0 (qD nm fN)
 have sl:=fun cs=>Z4 nm hnm cs fN hN
 generalize Ls++rdL (aB H fA) 3++[aS 12 0 (rdV (aB H fA) 3) 0 0 0 (qD nm fN)]=L2 at *
 generalize Ls++rdL (aB H fA) 3=L1 at *
 generalize rdV (aB H fA) 3=vA at *
 simp only[gH] at s0 s1 ⊢
 rw[aR jW _ _ _ rfl,gZ]
 simp -implicitDefEqProofs (disch:=first|assumption|omega|(simp only[aE,aM,aF,i64,sa,aD,lm,la,lc,ln];omega)) only[go_sem,simprocAttr,hdr,s0,s1,sl,Bj,List.drop_zero]
theorem z9x(nm:ByteArray)(hnm:nm.size≤1048576)(H:List Int)(fm:Int)(hf:0≤fm)(hf2:fm≤1000)(fD fA fB fN:Int)(fS:ByteArray)(args:List Int)(Ls:List ZB)(hl:Ls.length≤900000)(hx:args.length≤4)(hq:∀q∈args,okH H q)(h_fD:okH H fD):evCW tab xD [.ptr (0,0) [] 0 0,.agg [I 11,I fD,I fA,I fB,I fN,Str fS,.d (.r (aG args))]] (gH nm H fm Ls) 1=some (.tup [],gH nm H fm (Ls++mZ H fm 0 args++[aS 13 0 0 0 0 fm fS]++kpL (aB H fD) 0)):=by
 have hdr:=bN
 obtain⟨fD0,fD1,fD2,fD3⟩:=h_fD
 have la:=E9 H fm args 0
 have s0:=zYT nm 11 fD fA fB fN fS H fm hf hf2 args hx hq args 0 Ls rfl (by omega) (by omega)
 have s1:=gto nm H fm (Ls++mZ H fm 0 args) (by first|exact(by omega)|(simp only[la,List.length_singleton];omega)) 13 0 0 0 0 fm fS
 have s2:=yA nm H fm (Ls++mZ H fm 0 args++[aS 13 0 0 0 0 fm fS]) (by first|exact(by omega)|(simp only[la,List.length_singleton];omega)) fD 0 fD0 fD1 fD3
 generalize Ls++mZ H fm 0 args++[aS 13 0 0 0 0 fm fS]++kpL (aB H fD) 0=L3 at *
 generalize Ls++mZ H fm 0 args++[aS 13 0 0 0 0 fm fS]=L2 at *
 generalize Ls++mZ H fm 0 args=L1 at *
 simp only[gH] at s0 s1 s2 ⊢
 rw[aR Jx _ _ _ rfl,yP]
 simp -implicitDefEqProofs (disch:=first|assumption|omega|(simp only[aE,aM,aF,i64,sa,aD,lm,la,lc,ln];omega)) only[go_sem,simprocAttr,hdr,s0,s1,s2]
theorem z9L(nm:ByteArray)(hnm:nm.size≤1048576)(H:List Int)(fm:Int)(hf:0≤fm)(hf2:fm≤1000)(fD fA fB fN:Int)(fS:ByteArray)(args:List Int)(Ls:List ZB)(hl:Ls.length≤900000)(h_fA:okH H fA):evCW tab i9 [.ptr (0,0) [] 0 0,.agg [I 12,I fD,I fA,I fB,I fN,Str fS,.d (.r (aG args))]] (gH nm H fm Ls) 1=some (.tup [],gH nm H fm (Ls++rdL (aB H fA) 3++[aS 2 0 (rdV (aB H fA) 3) 0 0 0 ⟨#[]⟩]++[aS 14 0 0 0 0 0 ⟨#[]⟩])):=by
 have hdr:=bN
 obtain⟨fA0,fA1,fA2,fA3⟩:=h_fA
 have l_vA:=aX (aB H fA) 3
 have s0:=i5 nm H fm (Ls) (by first|exact(by omega)|(simp only[la,List.length_singleton];omega)) fA 3 fA0 fA1 fA3 fA2
 have s1:=tX nm H fm (Ls++rdL (aB H fA) 3) (by first|exact(by omega)|(simp only[la,List.length_singleton];omega)) 2 0 (rdV (aB H fA) 3) 0 0 0
 have s2:=tX nm H fm (Ls++rdL (aB H fA) 3++[aS 2 0 (rdV (aB H fA) 3) 0 0 0 ⟨#[]⟩]) (by first|exact(by omega)|(simp only[la,List.length_singleton];omega)) 14 0 0 0 0 0
 generalize Ls++rdL (aB H fA) 3++[aS 2 0 (rdV (aB H fA) 3) 0 0 0 ⟨#[]⟩]++[aS 14 0 0 0 0 0 ⟨#[]⟩]=L3 at *
 generalize Ls++rdL (aB H fA) 3++[aS 2 0 (rdV (aB H fA) 3) 0 0 0 ⟨#[]⟩]=L2 at *
 generalize Ls++rdL (aB H fA) 3=L1 at *
 generalize rdV (aB H fA) 3=vA at *
 simp only[gH] at s0 s1 s2 ⊢
 rw[aR jW _ _ _ rfl,gZ]
 simp -implicitDefEqProofs (disch:=first|assumption|omega|(simp only[aE,aM,aF,i64,sa,aD,lm,la,lc,ln];omega)) only[go_sem,simprocAttr,hdr,s0,s1,s2]
theorem z8Z(nm:ByteArray)(hnm:nm.size≤1048576)(H:List Int)(fm:Int)(hf:0≤fm)(hf2:fm≤1000)(fD fA fB fN:Int)(fS:ByteArray)(args:List Int)(Ls:List ZB)(hl:Ls.length≤900000)(h_fA:okH H fA)(h_fD:okH H fD):evCW tab i9 [.ptr (0,0) [] 0 0,.agg [I 20,I fD,I fA,I fB,I fN,Str fS,.d (.r (aG args))]] (gH nm H fm Ls) 1=some (.tup [],gH nm H fm (Ls++rdL (aB H fA) 3++[aS 8 5 (rdV (aB H fA) 3) 0 0 0 ⟨#[]⟩]++kpL (aB H fD) 5)):=by
 have hdr:=bN
 obtain⟨fA0,fA1,fA2,fA3⟩:=h_fA
 obtain⟨fD0,fD1,fD2,fD3⟩:=h_fD
 have l_vA:=aX (aB H fA) 3
 have s0:=i5 nm H fm (Ls) (by first|exact(by omega)|(simp only[la,List.length_singleton];omega)) fA 3 fA0 fA1 fA3 fA2
 have s1:=tX nm H fm (Ls++rdL (aB H fA) 3) (by first|exact(by omega)|(simp only[la,List.length_singleton];omega)) 8 5 (rdV (aB H fA) 3) 0 0 0
 have s2:=yA nm H fm (Ls++rdL (aB H fA) 3++[aS 8 5 (rdV (aB H fA) 3) 0 0 0 ⟨#[]⟩]) (by first|exact(by omega)|(simp only[la,List.length_singleton];omega)) fD 5 fD0 fD1 fD3
 generalize Ls++rdL (aB H fA) 3++[aS 8 5 (rdV (aB H fA) 3) 0 0 0 ⟨#[]⟩]++kpL (aB H fD) 5=L3 at *
 generalize Ls++rdL (aB H fA) 3++[aS 8 5 (rdV (aB H fA) 3) 0 0 0 ⟨#[]⟩]=L2 at *
 generalize Ls++rdL (aB H fA) 3=L1 at *
 generalize rdV (aB H fA) 3=vA at *
 simp only[gH] at s0 s1 s2 ⊢
 rw[aR jW _ _ _ rfl,gZ]
 simp -implicitDefEqProofs (disch:=first|assumption|omega|(simp only[aE,aM,aF,i64,sa,aD,lm,la,lc,ln];omega)) only[go_sem,simprocAttr,hdr,s0,s1,s2]
theorem z9X(nm:ByteArray)(hnm:nm.size≤1048576)(H:List Int)(fm:Int)(hf:0≤fm)(hf2:fm≤1000)(fD fA fB fN:Int)(fS:ByteArray)(args:List Int)(Ls:List ZB)(hl:Ls.length≤900000)(h_fA:okH H fA)(h_fB:okH H fB):evCW tab fK [.ptr (0,0) [] 0 0,.agg [I 21,I fD,I fA,I fB,I fN,Str fS,.d (.r (aG args))]] (gH nm H fm Ls) 1=some (.tup [],gH nm H fm (Ls++rdL (aB H fA) 3++rdL (aB H fB) 4++[aS 9 0 (rdV (aB H fA) 3) (rdV (aB H fB) 4) 0 0 ⟨#[]⟩])):=by
 have hdr:=bN
 obtain⟨fA0,fA1,fA2,fA3⟩:=h_fA
 obtain⟨fB0,fB1,fB2,fB3⟩:=h_fB
 have l_vA:=aX (aB H fA) 3
 have l_vB:=aX (aB H fB) 4
 have s0:=i5 nm H fm (Ls) (by first|exact(by omega)|(simp only[la,List.length_singleton];omega)) fA 3 fA0 fA1 fA3 fA2
 have s1:=i5 nm H fm (Ls++rdL (aB H fA) 3) (by first|exact(by omega)|(simp only[la,List.length_singleton];omega)) fB 4 fB0 fB1 fB3 fB2
 have s2:=tX nm H fm (Ls++rdL (aB H fA) 3++rdL (aB H fB) 4) (by first|exact(by omega)|(simp only[la,List.length_singleton];omega)) 9 0 (rdV (aB H fA) 3) (rdV (aB H fB) 4) 0 0
 generalize Ls++rdL (aB H fA) 3++rdL (aB H fB) 4++[aS 9 0 (rdV (aB H fA) 3) (rdV (aB H fB) 4) 0 0 ⟨#[]⟩]=L3 at *
 generalize Ls++rdL (aB H fA) 3++rdL (aB H fB) 4=L2 at *
 generalize Ls++rdL (aB H fA) 3=L1 at *
 generalize rdV (aB H fA) 3=vA at *
 generalize rdV (aB H fB) 4=vB at *
 simp only[gH] at s0 s1 s2 ⊢
 rw[aR fJ _ _ _ rfl,d9]
 simp -implicitDefEqProofs (disch:=first|assumption|omega|(simp only[aE,aM,aF,i64,sa,aD,lm,la,lc,ln];omega)) only[go_sem,simprocAttr,hdr,s0,s1,s2]
theorem z8T(nm:ByteArray)(hnm:nm.size≤1048576)(H:List Int)(fm:Int)(hf:0≤fm)(hf2:fm≤1000)(fD fA fB fN:Int)(fS:ByteArray)(q:Int)(Ls:List ZB)(hl:Ls.length≤900000)(h_fA:okH H fA)(h_fB:okH H fB)(h_q:okH H q)(h_fD:okH H fD):evCW tab zR [.ptr (0,0) [] 0 0,.agg [I 22,I fD,I fA,I fB,I fN,Str fS,.d (.r (aG [q]))]] (gH nm H fm Ls) 1=some (.tup [],gH nm H fm (Ls++rdL (aB H fA) 3++rdL (aB H fB) 4++[aS 2 5 (rdV (aB H fB) 4) 0 0 0 ⟨#[]⟩]++rdL (aB H q) 4++[aS 10 5 (rdV (aB H fA) 3) (rdV (aB H q) 4) 0 0 ⟨#[]⟩]++kpL (aB H fD) 5)):=by
 have hdr:=bN
 obtain⟨fA0,fA1,fA2,fA3⟩:=h_fA
 obtain⟨fB0,fB1,fB2,fB3⟩:=h_fB
 obtain⟨q0,q1,q2,q3⟩:=h_q
 obtain⟨fD0,fD1,fD2,fD3⟩:=h_fD
 have l_vA:=aX (aB H fA) 3
 have l_vB:=aX (aB H fB) 4
 have l_vC:=aX (aB H q) 4
 have s0:=i5 nm H fm (Ls) (by first|exact(by omega)|(simp only[la,List.length_singleton];omega)) fA 3 fA0 fA1 fA3 fA2
 have s1:=i5 nm H fm (Ls++rdL (aB H fA) 3) (by first|exact(by omega)|(simp only[la,List.length_singleton];omega)) fB 4 fB0 fB1 fB3 fB2
 have s2:=tX nm H fm (Ls++rdL (aB H fA) 3++rdL (aB H fB) 4) (by first|exact(by omega)|(simp only[la,List.length_singleton];omega)) 2 5 (rdV (aB H fB) 4) 0 0 0
 have s3:=i5 nm H fm (Ls++rdL (aB H fA) 3++rdL (aB H fB) 4++[aS 2 5 (rdV (aB H fB) 4) 0 0 0 ⟨#[]⟩]) (by first|exact(by omega)|(simp only[la,List.length_singleton];omega)) q 4 q0 q1 q3 q2
 have s4:=tX nm H fm (Ls++rdL (aB H fA) 3++rdL (aB H fB) 4++[aS 2 5 (rdV (aB H fB) 4) 0 0 0 ⟨#[]⟩]++rdL (aB H q) 4) (by first|exact(by omega)|(simp only[la,List.length_singleton];omega)) 10 5 (rdV (aB H fA) 3) (rdV (aB H q) 4) 0 0
 have s5:=yA nm H fm (Ls++rdL (aB H fA) 3++rdL (aB H fB) 4++[aS 2 5 (rdV (aB H fB) 4) 0 0 0 ⟨#[]⟩]++rdL (aB H q) 4++[aS 10 5 (rdV (aB H fA) 3) (rdV (aB H q) 4) 0 0 ⟨#[]⟩]) (by first|exact(by omega)|(simp only[la,List.length_singleton];omega)) fD 5 fD0 fD1 fD3
 generalize Ls++rdL (aB H fA) 3++rdL (aB H fB) 4++[aS 2 5 (rdV (aB H fB) 4) 0 0 0 ⟨#[]⟩]++rdL (aB H q) 4++[aS 10 5 (rdV (aB H fA) 3) (rdV (aB H q) 4) 0 0 ⟨#[]⟩]++kpL (aB H fD) 5=L6 at *
 generalize Ls++rdL (aB H fA) 3++rdL (aB H fB) 4++[aS 2 5 (rdV (aB H fB) 4) 0 0 0 ⟨#[]⟩]++rdL (aB H q) 4++[aS 10 5 (rdV (aB H fA) 3) (rdV (aB H q) 4) 0 0 ⟨#[]⟩]=L5 at *
 generalize Ls++rdL (aB H fA) 3++rdL (aB H fB) 4++[aS 2 5 (rdV (aB H fB) 4) 0 0 0 ⟨#[]⟩]++rdL (aB H q) 4=L4 at *
 generalize Ls++rdL (aB H fA) 3++rdL (aB H fB) 4++[aS 2 5 (rdV (aB H fB) 4) 0 0 0 ⟨#[]⟩]=L3 at *
 generalize Ls++rdL (aB H fA) 3++rdL (aB H fB) 4=L2 at *
 generalize Ls++rdL (aB H fA) 3=L1 at *
 generalize rdV (aB H fA) 3=vA at *
 generalize rdV (aB H fB) 4=vB at *
 generalize rdV (aB H q) 4=vC at *
 simp only[gH] at s0 s1 s2 s3 s4 s5 ⊢
 rw[aR Nn _ _ _ rfl,C8]
 simp -implicitDefEqProofs (disch:=first|assumption|omega|(simp only[aE,aM,aF,i64,sa,aD,lm,la,lc,ln];omega)) only[go_sem,simprocAttr,hdr,s0,s1,s2,s3,s4,s5,aG,mc,mn]
theorem z84(nm:ByteArray)(hnm:nm.size≤1048576)(H:List Int)(fm:Int)(hf:0≤fm)(hf2:fm≤1000)(fD fA fB fN:Int)(fS:ByteArray)(args:List Int)(Ls:List ZB)(hl:Ls.length≤900000)(h_fA:okH H fA):evCW tab i9 [.ptr (0,0) [] 0 0,.agg [I 25,I fD,I fA,I fB,I fN,Str fS,.d (.r (aG args))]] (gH nm H fm Ls) 1=some (.tup [],gH nm H fm (Ls++rdL (aB H fA) 3++[aS 15 0 (rdV (aB H fA) 3) 0 0 0 ⟨#[]⟩])):=by
 have hdr:=bN
 obtain⟨fA0,fA1,fA2,fA3⟩:=h_fA
 have l_vA:=aX (aB H fA) 3
 have s0:=i5 nm H fm (Ls) (by first|exact(by omega)|(simp only[la,List.length_singleton];omega)) fA 3 fA0 fA1 fA3 fA2
 have s1:=tX nm H fm (Ls++rdL (aB H fA) 3) (by first|exact(by omega)|(simp only[la,List.length_singleton];omega)) 15 0 (rdV (aB H fA) 3) 0 0 0
 generalize Ls++rdL (aB H fA) 3++[aS 15 0 (rdV (aB H fA) 3) 0 0 0 ⟨#[]⟩]=L2 at *
 generalize Ls++rdL (aB H fA) 3=L1 at *
 generalize rdV (aB H fA) 3=vA at *
 simp only[gH] at s0 s1 ⊢
 rw[aR jW _ _ _ rfl,gZ]
 simp -implicitDefEqProofs (disch:=first|assumption|omega|(simp only[aE,aM,aF,i64,sa,aD,lm,la,lc,ln];omega)) only[go_sem,simprocAttr,hdr,s0,s1]
theorem z83(nm:ByteArray)(hnm:nm.size≤1048576)(H:List Int)(fm:Int)(hf:0≤fm)(hf2:fm≤1000)(fD fA fB fN:Int)(fS:ByteArray)(args:List Int)(Ls:List ZB)(hl:Ls.length≤900000)(h_fA:okH H fA)(h_fB:okH H fB):evCW tab fK [.ptr (0,0) [] 0 0,.agg [I 26,I fD,I fA,I fB,I fN,Str fS,.d (.r (aG args))]] (gH nm H fm Ls) 1=some (.tup [],gH nm H fm (Ls++rdL (aB H fA) 3++rdL (aB H fB) 4++[aS 16 0 (rdV (aB H fA) 3) (rdV (aB H fB) 4) 0 0 ⟨#[]⟩])):=by
 have hdr:=bN
 obtain⟨fA0,fA1,fA2,fA3⟩:=h_fA
 obtain⟨fB0,fB1,fB2,fB3⟩:=h_fB
 have l_vA:=aX (aB H fA) 3
 have l_vB:=aX (aB H fB) 4
 have s0:=i5 nm H fm (Ls) (by first|exact(by omega)|(simp only[la,List.length_singleton];omega)) fA 3 fA0 fA1 fA3 fA2
 have s1:=i5 nm H fm (Ls++rdL (aB H fA) 3) (by first|exact(by omega)|(simp only[la,List.length_singleton];omega)) fB 4 fB0 fB1 fB3 fB2
 have s2:=tX nm H fm (Ls++rdL (aB H fA) 3++rdL (aB H fB) 4) (by first|exact(by omega)|(simp only[la,List.length_singleton];omega)) 16 0 (rdV (aB H fA) 3) (rdV (aB H fB) 4) 0 0
 generalize Ls++rdL (aB H fA) 3++rdL (aB H fB) 4++[aS 16 0 (rdV (aB H fA) 3) (rdV (aB H fB) 4) 0 0 ⟨#[]⟩]=L3 at *
 generalize Ls++rdL (aB H fA) 3++rdL (aB H fB) 4=L2 at *
 generalize Ls++rdL (aB H fA) 3=L1 at *
 generalize rdV (aB H fA) 3=vA at *
 generalize rdV (aB H fB) 4=vB at *
 simp only[gH] at s0 s1 s2 ⊢
 rw[aR fJ _ _ _ rfl,d9]
 simp -implicitDefEqProofs (disch:=first|assumption|omega|(simp only[aE,aM,aF,i64,sa,aD,lm,la,lc,ln];omega)) only[go_sem,simprocAttr,hdr,s0,s1,s2]
theorem z9E(nm:ByteArray)(hnm:nm.size≤1048576)(H:List Int)(fm:Int)(hf:0≤fm)(hf2:fm≤1000)(fD fA fB fN:Int)(fS:ByteArray)(args:List Int)(Ls:List ZB)(hl:Ls.length≤900000)(h_fA:okH H fA)(h_fB:okH H fB):evCW tab fK [.ptr (0,0) [] 0 0,.agg [I 27,I fD,I fA,I fB,I fN,Str fS,.d (.r (aG args))]] (gH nm H fm Ls) 1=some (.tup [],gH nm H fm (Ls++rdL (aB H fA) 3++rdL (aB H fB) 4++[aS 17 0 (rdV (aB H fA) 3) (rdV (aB H fB) 4) 0 0 ⟨#[]⟩])):=by
 have hdr:=bN
 obtain⟨fA0,fA1,fA2,fA3⟩:=h_fA
 obtain⟨fB0,fB1,fB2,fB3⟩:=h_fB
 have l_vA:=aX (aB H fA) 3
 have l_vB:=aX (aB H fB) 4
 have s0:=i5 nm H fm (Ls) (by first|exact(by omega)|(simp only[la,List.length_singleton];omega)) fA 3 fA0 fA1 fA3 fA2
 have s1:=i5 nm H fm (Ls++rdL (aB H fA) 3) (by first|exact(by omega)|(simp only[la,List.length_singleton];omega)) fB 4 fB0 fB1 fB3 fB2
 have s2:=tX nm H fm (Ls++rdL (aB H fA) 3++rdL (aB H fB) 4) (by first|exact(by omega)|(simp only[la,List.length_singleton];omega)) 17 0 (rdV (aB H fA) 3) (rdV (aB H fB) 4) 0 0
 generalize Ls++rdL (aB H fA) 3++rdL (aB H fB) 4++[aS 17 0 (rdV (aB H fA) 3) (rdV (aB H fB) 4) 0 0 ⟨#[]⟩]=L3 at *
 generalize Ls++rdL (aB H fA) 3++rdL (aB H fB) 4=L2 at *
 generalize Ls++rdL (aB H fA) 3=L1 at *
 generalize rdV (aB H fA) 3=vA at *
 generalize rdV (aB H fB) 4=vB at *
 simp only[gH] at s0 s1 s2 ⊢
 rw[aR fJ _ _ _ rfl,d9]
 simp -implicitDefEqProofs (disch:=first|assumption|omega|(simp only[aE,aM,aF,i64,sa,aD,lm,la,lc,ln];omega)) only[go_sem,simprocAttr,hdr,s0,s1,s2]
theorem z94(nm:ByteArray)(hnm:nm.size≤1048576)(H:List Int)(fm:Int)(hf:0≤fm)(hf2:fm≤1000)(fD fA fB fN:Int)(fS:ByteArray)(args:List Int)(Ls:List ZB)(hl:Ls.length≤900000)(h_fA:okH H fA):evCW tab i9 [.ptr (0,0) [] 0 0,.agg [I 28,I fD,I fA,I fB,I fN,Str fS,.d (.r (aG args))]] (gH nm H fm Ls) 1=some (.tup [],gH nm H fm (Ls++rdL (aB H fA) 3++[aS 19 0 (rdV (aB H fA) 3) 0 0 0 ⟨#[]⟩])):=by
 have hdr:=bN
 obtain⟨fA0,fA1,fA2,fA3⟩:=h_fA
 have l_vA:=aX (aB H fA) 3
 have s0:=i5 nm H fm (Ls) (by first|exact(by omega)|(simp only[la,List.length_singleton];omega)) fA 3 fA0 fA1 fA3 fA2
 have s1:=tX nm H fm (Ls++rdL (aB H fA) 3) (by first|exact(by omega)|(simp only[la,List.length_singleton];omega)) 19 0 (rdV (aB H fA) 3) 0 0 0
 generalize Ls++rdL (aB H fA) 3++[aS 19 0 (rdV (aB H fA) 3) 0 0 0 ⟨#[]⟩]=L2 at *
 generalize Ls++rdL (aB H fA) 3=L1 at *
 generalize rdV (aB H fA) 3=vA at *
 simp only[gH] at s0 s1 ⊢
 rw[aR jW _ _ _ rfl,gZ]
 simp -implicitDefEqProofs (disch:=first|assumption|omega|(simp only[aE,aM,aF,i64,sa,aD,lm,la,lc,ln];omega)) only[go_sem,simprocAttr,hdr,s0,s1]
set_option maxRecDepth 8000
set_option maxHeartbeats 8000000
theorem z7N(nm:ByteArray)(hnm:nm.size≤1048576)(H:List Int)(fm:Int)(hf:0≤fm)(hf2:fm≤1000)(fD fA fB fN:Int)(fS:ByteArray)(args:List Int)(Ls:List ZB)(hl:Ls.length≤900000)(h_fD:okH H fD):evCW tab bK [.ptr (0,0) [] 0 0,.agg [I 1,I fD,I fA,I fB,I fN,Str fS,.d (.r (aG args))]] (gH nm H fm Ls) 1=some (.tup [],gH nm H fm (Ls++[aS 1 3 0 0 fN 0 ⟨#[]⟩]++kpL (aB H fD) 3)):=by
 have hdr:=bN
 obtain⟨fD0,fD1,fD2,fD3⟩:=h_fD
 have s0:=tX nm H fm (Ls) (by first|exact(by omega)|(simp only[la,List.length_singleton];omega)) 1 3 0 0 fN 0
 have s1:=yA nm H fm (Ls++[aS 1 3 0 0 fN 0 ⟨#[]⟩]) (by first|exact(by omega)|(simp only[la,List.length_singleton];omega)) fD 3 fD0 fD1 fD3
 generalize Ls++[aS 1 3 0 0 fN 0 ⟨#[]⟩]++kpL (aB H fD) 3=L2 at *
 generalize Ls++[aS 1 3 0 0 fN 0 ⟨#[]⟩]=L1 at *
 simp only[gH] at s0 s1 ⊢
 rw[aR bJ _ _ _ rfl,bF]
 simp -implicitDefEqProofs (disch:=first|assumption|omega|(simp only[aE,aM,aF,i64,sa,aD,lm,la,lc,ln];omega)) only[go_sem,simprocAttr,hdr,s0,s1]
theorem z7M(nm:ByteArray)(hnm:nm.size≤1048576)(H:List Int)(fm:Int)(hf:0≤fm)(hf2:fm≤1000)(fD fA fB fN:Int)(fS:ByteArray)(args:List Int)(Ls:List ZB)(hl:Ls.length≤900000)(h_fA:okH H fA)(h_fD:okH H fD):evCW tab bK [.ptr (0,0) [] 0 0,.agg [I 2,I fD,I fA,I fB,I fN,Str fS,.d (.r (aG args))]] (gH nm H fm Ls) 1=some (.tup [],gH nm H fm (Ls++rdL (aB H fA) 3++kpL (aB H fD) (rdV (aB H fA) 3))):=by
 have hdr:=bN
 have s1:=z7L nm hnm H fm hf hf2 fD fA fB fN fS args Ls hl h_fA h_fD
 generalize Ls++rdL (aB H fA) 3++kpL (aB H fD) (rdV (aB H fA) 3)=LF at *
 simp only[gH] at s1 ⊢
 rw[aR bJ _ _ _ rfl,bF]
 simp -implicitDefEqProofs (disch:=first|assumption|omega|(simp only[aE,aM,aF,i64,sa,aD,lm,la,lc,ln];omega)) only[go_sem,simprocAttr,hdr,s1]
theorem z7R(nm:ByteArray)(hnm:nm.size≤1048576)(H:List Int)(fm:Int)(hf:0≤fm)(hf2:fm≤1000)(fD fA fB fN:Int)(fS:ByteArray)(args:List Int)(Ls:List ZB)(hl:Ls.length≤900000)(h_fA:okH H fA)(h_fB:okH H fB)(h_fD:okH H fD):evCW tab bK [.ptr (0,0) [] 0 0,.agg [I 3,I fD,I fA,I fB,I fN,Str fS,.d (.r (aG args))]] (gH nm H fm Ls) 1=some (.tup [],gH nm H fm (Ls++rdL (aB H fA) 3++rdL (aB H fB) 4++[aS 3 5 (rdV (aB H fA) 3) (rdV (aB H fB) 4) 0 0 ⟨#[]⟩]++kpL (aB H fD) 5)):=by
 have hdr:=bN
 have s1:=z7g nm hnm H fm hf hf2 fD fA fB fN fS args Ls hl h_fA h_fB h_fD
 generalize Ls++rdL (aB H fA) 3++rdL (aB H fB) 4++[aS 3 5 (rdV (aB H fA) 3) (rdV (aB H fB) 4) 0 0 ⟨#[]⟩]++kpL (aB H fD) 5=LF at *
 simp only[gH] at s1 ⊢
 rw[aR bJ _ _ _ rfl,bF]
 simp -implicitDefEqProofs (disch:=first|assumption|omega|(simp only[aE,aM,aF,i64,sa,aD,lm,la,lc,ln];omega)) only[go_sem,simprocAttr,hdr,s1]
theorem z7n(nm:ByteArray)(hnm:nm.size≤1048576)(H:List Int)(fm:Int)(hf:0≤fm)(hf2:fm≤1000)(fD fA fB fN:Int)(fS:ByteArray)(args:List Int)(Ls:List ZB)(hl:Ls.length≤900000)(h_fA:okH H fA)(h_fB:okH H fB)(h_fD:okH H fD):evCW tab bK [.ptr (0,0) [] 0 0,.agg [I 4,I fD,I fA,I fB,I fN,Str fS,.d (.r (aG args))]] (gH nm H fm Ls) 1=some (.tup [],gH nm H fm (Ls++rdL (aB H fA) 3++rdL (aB H fB) 4++[aS 4 5 (rdV (aB H fA) 3) (rdV (aB H fB) 4) 0 0 ⟨#[]⟩]++kpL (aB H fD) 5)):=by
 have hdr:=bN
 have s1:=z7x nm hnm H fm hf hf2 fD fA fB fN fS args Ls hl h_fA h_fB h_fD
 generalize Ls++rdL (aB H fA) 3++rdL (aB H fB) 4++[aS 4 5 (rdV (aB H fA) 3) (rdV (aB H fB) 4) 0 0 ⟨#[]⟩]++kpL (aB H fD) 5=LF at *
 simp only[gH] at s1 ⊢
 rw[aR bJ _ _ _ rfl,bF]
 simp -implicitDefEqProofs (disch:=first|assumption|omega|(simp only[aE,aM,aF,i64,sa,aD,lm,la,lc,ln];omega)) only[go_sem,simprocAttr,hdr,s1]
theorem z7P(nm:ByteArray)(hnm:nm.size≤1048576)(H:List Int)(fm:Int)(hf:0≤fm)(hf2:fm≤1000)(fD fA fB fN:Int)(fS:ByteArray)(args:List Int)(Ls:List ZB)(hl:Ls.length≤900000)(h_fA:okH H fA)(h_fB:okH H fB)(h_fD:okH H fD):evCW tab bK [.ptr (0,0) [] 0 0,.agg [I 5,I fD,I fA,I fB,I fN,Str fS,.d (.r (aG args))]] (gH nm H fm Ls) 1=some (.tup [],gH nm H fm (Ls++rdL (aB H fA) 3++rdL (aB H fB) 4++[aS 5 5 (rdV (aB H fA) 3) (rdV (aB H fB) 4) 0 0 ⟨#[]⟩]++kpL (aB H fD) 5)):=by
 have hdr:=bN
 have s1:=z7j nm hnm H fm hf hf2 fD fA fB fN fS args Ls hl h_fA h_fB h_fD
 generalize Ls++rdL (aB H fA) 3++rdL (aB H fB) 4++[aS 5 5 (rdV (aB H fA) 3) (rdV (aB H fB) 4) 0 0 ⟨#[]⟩]++kpL (aB H fD) 5=LF at *
 simp only[gH] at s1 ⊢
 rw[aR bJ _ _ _ rfl,bF]
 simp -implicitDefEqProofs (disch:=first|assumption|omega|(simp only[aE,aM,aF,i64,sa,aD,lm,la,lc,ln];omega)) only[go_sem,simprocAttr,hdr,s1]
theorem z7t(nm:ByteArray)(hnm:nm.size≤1048576)(H:List Int)(fm:Int)(hf:0≤fm)(hf2:fm≤1000)(fD fA fB fN:Int)(fS:ByteArray)(args:List Int)(Ls:List ZB)(hl:Ls.length≤900000)(h_fA:okH H fA)(h_fB:okH H fB)(h_fD:okH H fD):evCW tab bK [.ptr (0,0) [] 0 0,.agg [I 6,I fD,I fA,I fB,I fN,Str fS,.d (.r (aG args))]] (gH nm H fm Ls) 1=some (.tup [],gH nm H fm (Ls++rdL (aB H fA) 3++rdL (aB H fB) 4++[aS 6 5 (rdV (aB H fA) 3) (rdV (aB H fB) 4) 0 0 ⟨#[]⟩]++kpL (aB H fD) 5)):=by
 have hdr:=bN
 have s1:=z7A nm hnm H fm hf hf2 fD fA fB fN fS args Ls hl h_fA h_fB h_fD
 generalize Ls++rdL (aB H fA) 3++rdL (aB H fB) 4++[aS 6 5 (rdV (aB H fA) 3) (rdV (aB H fB) 4) 0 0 ⟨#[]⟩]++kpL (aB H fD) 5=LF at *
 simp only[gH] at s1 ⊢
 rw[aR bJ _ _ _ rfl,bF]
 simp -implicitDefEqProofs (disch:=first|assumption|omega|(simp only[aE,aM,aF,i64,sa,aD,lm,la,lc,ln];omega)) only[go_sem,simprocAttr,hdr,s1]
theorem z7h(nm:ByteArray)(hnm:nm.size≤1048576)(H:List Int)(fm:Int)(hf:0≤fm)(hf2:fm≤1000)(fD fA fB fN:Int)(fS:ByteArray)(args:List Int)(Ls:List ZB)(hl:Ls.length≤900000)(h_fA:okH H fA)(h_fB:okH H fB)(h_fD:okH H fD):evCW tab bK [.ptr (0,0) [] 0 0,.agg [I 7,I fD,I fA,I fB,I fN,Str fS,.d (.r (aG args))]] (gH nm H fm Ls) 1=some (.tup [],gH nm H fm (Ls++rdL (aB H fA) 3++rdL (aB H fB) 4++[aS 7 5 (rdV (aB H fA) 3) (rdV (aB H fB) 4) 0 0 ⟨#[]⟩]++kpL (aB H fD) 5)):=by
 have hdr:=bN
 have s1:=z7s nm hnm H fm hf hf2 fD fA fB fN fS args Ls hl h_fA h_fB h_fD
 generalize Ls++rdL (aB H fA) 3++rdL (aB H fB) 4++[aS 7 5 (rdV (aB H fA) 3) (rdV (aB H fB) 4) 0 0 ⟨#[]⟩]++kpL (aB H fD) 5=LF at *
 simp only[gH] at s1 ⊢
 rw[aR bJ _ _ _ rfl,bF]
 simp -implicitDefEqProofs (disch:=first|assumption|omega|(simp only[aE,aM,aF,i64,sa,aD,lm,la,lc,ln];omega)) only[go_sem,simprocAttr,hdr,s1]
theorem z7J(nm:ByteArray)(hnm:nm.size≤1048576)(H:List Int)(fm:Int)(hf:0≤fm)(hf2:fm≤1000)(fD fA fB fN:Int)(fS:ByteArray)(args:List Int)(Ls:List ZB)(hl:Ls.length≤900000)(hN:i64 fN):evCW tab bK [.ptr (0,0) [] 0 0,.agg [I 8,I fD,I fA,I fB,I fN,Str fS,.d (.r (aG args))]] (gH nm H fm Ls) 1=some (.tup [],gH nm H fm (Ls++[D6 nm fN])):=by
 have hdr:=bN
 have sl:=fun cs=>Z4 nm hnm cs fN hN
 have e0:(Ls++[D6 nm fN]).map ZB.o=Ls.map ZB.o++[[DS (qD nm fN),DI 0,DI 0,DI 0,DI 0,DI 0,DI 0,DS ⟨#[]⟩]]:=by simp[D6,ZB.o]
 have e1:(Ls.map ZB.o).length≤1000000:=by simp;omega
 simp only[gH,e0]
 generalize Ls.map ZB.o=W at *
 generalize qD nm fN=lb at *
 rw[aR bJ _ _ _ rfl,bF]
 simp -implicitDefEqProofs (disch:=first|assumption|omega|(simp only[aE,aM,aF,i64,sa,aD,lm,la,lc,ln];omega)) only[go_sem,simprocAttr,hdr,sl,Bj,List.drop_zero]
theorem z7z(nm:ByteArray)(hnm:nm.size≤1048576)(H:List Int)(fm:Int)(hf:0≤fm)(hf2:fm≤1000)(fD fA fB fN:Int)(fS:ByteArray)(args:List Int)(Ls:List ZB)(hl:Ls.length≤900000)(hN:i64 fN):evCW tab bK [.ptr (0,0) [] 0 0,.agg [I 9,I fD,I fA,I fB,I fN,Str fS,.d (.r (aG args))]] (gH nm H fm Ls) 1=some (.tup [],gH nm H fm (Ls++[aS 11 0 0 0 0 0 (qD nm fN)])):=by
 have hdr:=bN
 have s0:=gto nm H fm (Ls) (by first|exact(by omega)|(simp only[la,List.length_singleton];omega)) 11 0 0 0 0 0 (qD nm fN)
 have sl:=fun cs=>Z4 nm hnm cs fN hN
 generalize Ls++[aS 11 0 0 0 0 0 (qD nm fN)]=L1 at *
 simp only[gH] at s0 ⊢
 rw[aR bJ _ _ _ rfl,bF]
 simp -implicitDefEqProofs (disch:=first|assumption|omega|(simp only[aE,aM,aF,i64,sa,aD,lm,la,lc,ln];omega)) only[go_sem,simprocAttr,hdr,s0,sl,Bj,List.drop_zero]
theorem z8S(nm:ByteArray)(hnm:nm.size≤1048576)(H:List Int)(fm:Int)(hf:0≤fm)(hf2:fm≤1000)(fD fA fB fN:Int)(fS:ByteArray)(args:List Int)(Ls:List ZB)(hl:Ls.length≤900000)(h_fA:okH H fA)(hN:i64 fN):evCW tab bK [.ptr (0,0) [] 0 0,.agg [I 10,I fD,I fA,I fB,I fN,Str fS,.d (.r (aG args))]] (gH nm H fm Ls) 1=some (.tup [],gH nm H fm (Ls++rdL (aB H fA) 3++[aS 12 0 (rdV (aB H fA) 3) 0 0 0 (qD nm fN)])):=by
 have hdr:=bN
 have s1:=z92 nm hnm H fm hf hf2 fD fA fB fN fS args Ls hl h_fA hN
 generalize Ls++rdL (aB H fA) 3++[aS 12 0 (rdV (aB H fA) 3) 0 0 0 (qD nm fN)]=LF at *
 simp only[gH] at s1 ⊢
 rw[aR bJ _ _ _ rfl,bF]
 simp -implicitDefEqProofs (disch:=first|assumption|omega|(simp only[aE,aM,aF,i64,sa,aD,lm,la,lc,ln];omega)) only[go_sem,simprocAttr,hdr,s1]
theorem z8t(nm:ByteArray)(hnm:nm.size≤1048576)(H:List Int)(fm:Int)(hf:0≤fm)(hf2:fm≤1000)(fD fA fB fN:Int)(fS:ByteArray)(args:List Int)(Ls:List ZB)(hl:Ls.length≤900000)(hx:args.length≤4)(hq:∀q∈args,okH H q)(h_fD:okH H fD):evCW tab bK [.ptr (0,0) [] 0 0,.agg [I 11,I fD,I fA,I fB,I fN,Str fS,.d (.r (aG args))]] (gH nm H fm Ls) 1=some (.tup [],gH nm H fm (Ls++mZ H fm 0 args++[aS 13 0 0 0 0 fm fS]++kpL (aB H fD) 0)):=by
 have hdr:=bN
 have s1:=z9x nm hnm H fm hf hf2 fD fA fB fN fS args Ls hl hx hq h_fD
 generalize Ls++mZ H fm 0 args++[aS 13 0 0 0 0 fm fS]++kpL (aB H fD) 0=LF at *
 simp only[gH] at s1 ⊢
 rw[aR bJ _ _ _ rfl,bF]
 simp -implicitDefEqProofs (disch:=first|assumption|omega|(simp only[aE,aM,aF,i64,sa,aD,lm,la,lc,ln];omega)) only[go_sem,simprocAttr,hdr,s1]
theorem z8I(nm:ByteArray)(hnm:nm.size≤1048576)(H:List Int)(fm:Int)(hf:0≤fm)(hf2:fm≤1000)(fD fA fB fN:Int)(fS:ByteArray)(args:List Int)(Ls:List ZB)(hl:Ls.length≤900000)(h_fA:okH H fA):evCW tab bK [.ptr (0,0) [] 0 0,.agg [I 12,I fD,I fA,I fB,I fN,Str fS,.d (.r (aG args))]] (gH nm H fm Ls) 1=some (.tup [],gH nm H fm (Ls++rdL (aB H fA) 3++[aS 2 0 (rdV (aB H fA) 3) 0 0 0 ⟨#[]⟩]++[aS 14 0 0 0 0 0 ⟨#[]⟩])):=by
 have hdr:=bN
 have s1:=z9L nm hnm H fm hf hf2 fD fA fB fN fS args Ls hl h_fA
 generalize Ls++rdL (aB H fA) 3++[aS 2 0 (rdV (aB H fA) 3) 0 0 0 ⟨#[]⟩]++[aS 14 0 0 0 0 0 ⟨#[]⟩]=LF at *
 simp only[gH] at s1 ⊢
 rw[aR bJ _ _ _ rfl,bF]
 simp -implicitDefEqProofs (disch:=first|assumption|omega|(simp only[aE,aM,aF,i64,sa,aD,lm,la,lc,ln];omega)) only[go_sem,simprocAttr,hdr,s1]
theorem z8s(nm:ByteArray)(hnm:nm.size≤1048576)(H:List Int)(fm:Int)(hf:0≤fm)(hf2:fm≤1000)(fD fA fB fN:Int)(fS:ByteArray)(args:List Int)(Ls:List ZB)(hl:Ls.length≤900000)(h_fA:okH H fA)(h_fD:okH H fD):evCW tab bK [.ptr (0,0) [] 0 0,.agg [I 20,I fD,I fA,I fB,I fN,Str fS,.d (.r (aG args))]] (gH nm H fm Ls) 1=some (.tup [],gH nm H fm (Ls++rdL (aB H fA) 3++[aS 8 5 (rdV (aB H fA) 3) 0 0 0 ⟨#[]⟩]++kpL (aB H fD) 5)):=by
 have hdr:=bN
 have s1:=z8Z nm hnm H fm hf hf2 fD fA fB fN fS args Ls hl h_fA h_fD
 generalize Ls++rdL (aB H fA) 3++[aS 8 5 (rdV (aB H fA) 3) 0 0 0 ⟨#[]⟩]++kpL (aB H fD) 5=LF at *
 simp only[gH] at s1 ⊢
 rw[aR bJ _ _ _ rfl,bF]
 simp -implicitDefEqProofs (disch:=first|assumption|omega|(simp only[aE,aM,aF,i64,sa,aD,lm,la,lc,ln];omega)) only[go_sem,simprocAttr,hdr,s1]
theorem z9N(nm:ByteArray)(hnm:nm.size≤1048576)(H:List Int)(fm:Int)(hf:0≤fm)(hf2:fm≤1000)(fD fA fB fN:Int)(fS:ByteArray)(args:List Int)(Ls:List ZB)(hl:Ls.length≤900000)(h_fA:okH H fA)(h_fB:okH H fB):evCW tab bK [.ptr (0,0) [] 0 0,.agg [I 21,I fD,I fA,I fB,I fN,Str fS,.d (.r (aG args))]] (gH nm H fm Ls) 1=some (.tup [],gH nm H fm (Ls++rdL (aB H fA) 3++rdL (aB H fB) 4++[aS 9 0 (rdV (aB H fA) 3) (rdV (aB H fB) 4) 0 0 ⟨#[]⟩])):=by
 have hdr:=bN
 have s1:=z9X nm hnm H fm hf hf2 fD fA fB fN fS args Ls hl h_fA h_fB
 generalize Ls++rdL (aB H fA) 3++rdL (aB H fB) 4++[aS 9 0 (rdV (aB H fA) 3) (rdV (aB H fB) 4) 0 0 ⟨#[]⟩]=LF at *
 simp only[gH] at s1 ⊢
 rw[aR bJ _ _ _ rfl,bF]
 simp -implicitDefEqProofs (disch:=first|assumption|omega|(simp only[aE,aM,aF,i64,sa,aD,lm,la,lc,ln];omega)) only[go_sem,simprocAttr,hdr,s1]
theorem z9I(nm:ByteArray)(hnm:nm.size≤1048576)(H:List Int)(fm:Int)(hf:0≤fm)(hf2:fm≤1000)(fD fA fB fN:Int)(fS:ByteArray)(q:Int)(Ls:List ZB)(hl:Ls.length≤900000)(h_fA:okH H fA)(h_fB:okH H fB)(h_q:okH H q)(h_fD:okH H fD):evCW tab bK [.ptr (0,0) [] 0 0,.agg [I 22,I fD,I fA,I fB,I fN,Str fS,.d (.r (aG [q]))]] (gH nm H fm Ls) 1=some (.tup [],gH nm H fm (Ls++rdL (aB H fA) 3++rdL (aB H fB) 4++[aS 2 5 (rdV (aB H fB) 4) 0 0 0 ⟨#[]⟩]++rdL (aB H q) 4++[aS 10 5 (rdV (aB H fA) 3) (rdV (aB H q) 4) 0 0 ⟨#[]⟩]++kpL (aB H fD) 5)):=by
 have hdr:=bN
 have s1:=z8T nm hnm H fm hf hf2 fD fA fB fN fS q Ls hl h_fA h_fB h_q h_fD
 generalize Ls++rdL (aB H fA) 3++rdL (aB H fB) 4++[aS 2 5 (rdV (aB H fB) 4) 0 0 0 ⟨#[]⟩]++rdL (aB H q) 4++[aS 10 5 (rdV (aB H fA) 3) (rdV (aB H q) 4) 0 0 ⟨#[]⟩]++kpL (aB H fD) 5=LF at *
 simp only[gH,aG,mc,mn] at s1 ⊢
 rw[aR bJ _ _ _ rfl,bF]
 simp -implicitDefEqProofs (disch:=first|assumption|omega|(simp only[aE,aM,aF,i64,sa,aD,lm,la,lc,ln];omega)) only[go_sem,simprocAttr,hdr,s1]
theorem z9O(nm:ByteArray)(hnm:nm.size≤1048576)(H:List Int)(fm:Int)(hf:0≤fm)(hf2:fm≤1000)(fD fA fB fN:Int)(fS:ByteArray)(args:List Int)(Ls:List ZB)(hl:Ls.length≤900000)(h_fD:okH H fD):evCW tab bK [.ptr (0,0) [] 0 0,.agg [I 23,I fD,I fA,I fB,I fN,Str fS,.d (.r (aG args))]] (gH nm H fm Ls) 1=some (.tup [],gH nm H fm (Ls++[aS 18 5 0 0 0 0 ⟨#[]⟩]++kpL (aB H fD) 5)):=by
 have hdr:=bN
 obtain⟨fD0,fD1,fD2,fD3⟩:=h_fD
 have s0:=tX nm H fm (Ls) (by first|exact(by omega)|(simp only[la,List.length_singleton];omega)) 18 5 0 0 0 0
 have s1:=yA nm H fm (Ls++[aS 18 5 0 0 0 0 ⟨#[]⟩]) (by first|exact(by omega)|(simp only[la,List.length_singleton];omega)) fD 5 fD0 fD1 fD3
 generalize Ls++[aS 18 5 0 0 0 0 ⟨#[]⟩]++kpL (aB H fD) 5=L2 at *
 generalize Ls++[aS 18 5 0 0 0 0 ⟨#[]⟩]=L1 at *
 simp only[gH] at s0 s1 ⊢
 rw[aR bJ _ _ _ rfl,bF]
 simp -implicitDefEqProofs (disch:=first|assumption|omega|(simp only[aE,aM,aF,i64,sa,aD,lm,la,lc,ln];omega)) only[go_sem,simprocAttr,hdr,s0,s1]
theorem z8A(nm:ByteArray)(hnm:nm.size≤1048576)(H:List Int)(fm:Int)(hf:0≤fm)(hf2:fm≤1000)(fD fA fB fN:Int)(fS:ByteArray)(args:List Int)(Ls:List ZB)(hl:Ls.length≤900000)(h_fD:okH H fD):evCW tab bK [.ptr (0,0) [] 0 0,.agg [I 24,I fD,I fA,I fB,I fN,Str fS,.d (.r (aG args))]] (gH nm H fm Ls) 1=some (.tup [],gH nm H fm (Ls++[aS 1 5 0 0 0 0 fS]++kpL (aB H fD) 5)):=by
 have hdr:=bN
 obtain⟨fD0,fD1,fD2,fD3⟩:=h_fD
 have s0:=gto nm H fm (Ls) (by first|exact(by omega)|(simp only[la,List.length_singleton];omega)) 1 5 0 0 0 0 fS
 have s1:=yA nm H fm (Ls++[aS 1 5 0 0 0 0 fS]) (by first|exact(by omega)|(simp only[la,List.length_singleton];omega)) fD 5 fD0 fD1 fD3
 generalize Ls++[aS 1 5 0 0 0 0 fS]++kpL (aB H fD) 5=L2 at *
 generalize Ls++[aS 1 5 0 0 0 0 fS]=L1 at *
 simp only[gH] at s0 s1 ⊢
 rw[aR bJ _ _ _ rfl,bF]
 simp -implicitDefEqProofs (disch:=first|assumption|omega|(simp only[aE,aM,aF,i64,sa,aD,lm,la,lc,ln];omega)) only[go_sem,simprocAttr,hdr,s0,s1]
theorem z8E(nm:ByteArray)(hnm:nm.size≤1048576)(H:List Int)(fm:Int)(hf:0≤fm)(hf2:fm≤1000)(fD fA fB fN:Int)(fS:ByteArray)(args:List Int)(Ls:List ZB)(hl:Ls.length≤900000)(h_fA:okH H fA):evCW tab bK [.ptr (0,0) [] 0 0,.agg [I 25,I fD,I fA,I fB,I fN,Str fS,.d (.r (aG args))]] (gH nm H fm Ls) 1=some (.tup [],gH nm H fm (Ls++rdL (aB H fA) 3++[aS 15 0 (rdV (aB H fA) 3) 0 0 0 ⟨#[]⟩])):=by
 have hdr:=bN
 have s1:=z84 nm hnm H fm hf hf2 fD fA fB fN fS args Ls hl h_fA
 generalize Ls++rdL (aB H fA) 3++[aS 15 0 (rdV (aB H fA) 3) 0 0 0 ⟨#[]⟩]=LF at *
 simp only[gH] at s1 ⊢
 rw[aR bJ _ _ _ rfl,bF]
 simp -implicitDefEqProofs (disch:=first|assumption|omega|(simp only[aE,aM,aF,i64,sa,aD,lm,la,lc,ln];omega)) only[go_sem,simprocAttr,hdr,s1]
theorem z8g(nm:ByteArray)(hnm:nm.size≤1048576)(H:List Int)(fm:Int)(hf:0≤fm)(hf2:fm≤1000)(fD fA fB fN:Int)(fS:ByteArray)(args:List Int)(Ls:List ZB)(hl:Ls.length≤900000)(h_fA:okH H fA)(h_fB:okH H fB):evCW tab bK [.ptr (0,0) [] 0 0,.agg [I 26,I fD,I fA,I fB,I fN,Str fS,.d (.r (aG args))]] (gH nm H fm Ls) 1=some (.tup [],gH nm H fm (Ls++rdL (aB H fA) 3++rdL (aB H fB) 4++[aS 16 0 (rdV (aB H fA) 3) (rdV (aB H fB) 4) 0 0 ⟨#[]⟩])):=by
 have hdr:=bN
 have s1:=z83 nm hnm H fm hf hf2 fD fA fB fN fS args Ls hl h_fA h_fB
 generalize Ls++rdL (aB H fA) 3++rdL (aB H fB) 4++[aS 16 0 (rdV (aB H fA) 3) (rdV (aB H fB) 4) 0 0 ⟨#[]⟩]=LF at *
 simp only[gH] at s1 ⊢
 rw[aR bJ _ _ _ rfl,bF]
 simp -implicitDefEqProofs (disch:=first|assumption|omega|(simp only[aE,aM,aF,i64,sa,aD,lm,la,lc,ln];omega)) only[go_sem,simprocAttr,hdr,s1]
theorem z97(nm:ByteArray)(hnm:nm.size≤1048576)(H:List Int)(fm:Int)(hf:0≤fm)(hf2:fm≤1000)(fD fA fB fN:Int)(fS:ByteArray)(args:List Int)(Ls:List ZB)(hl:Ls.length≤900000)(h_fA:okH H fA)(h_fB:okH H fB):evCW tab bK [.ptr (0,0) [] 0 0,.agg [I 27,I fD,I fA,I fB,I fN,Str fS,.d (.r (aG args))]] (gH nm H fm Ls) 1=some (.tup [],gH nm H fm (Ls++rdL (aB H fA) 3++rdL (aB H fB) 4++[aS 17 0 (rdV (aB H fA) 3) (rdV (aB H fB) 4) 0 0 ⟨#[]⟩])):=by
 have hdr:=bN
 have s1:=z9E nm hnm H fm hf hf2 fD fA fB fN fS args Ls hl h_fA h_fB
 generalize Ls++rdL (aB H fA) 3++rdL (aB H fB) 4++[aS 17 0 (rdV (aB H fA) 3) (rdV (aB H fB) 4) 0 0 ⟨#[]⟩]=LF at *
 simp only[gH] at s1 ⊢
 rw[aR bJ _ _ _ rfl,bF]
 simp -implicitDefEqProofs (disch:=first|assumption|omega|(simp only[aE,aM,aF,i64,sa,aD,lm,la,lc,ln];omega)) only[go_sem,simprocAttr,hdr,s1]
theorem z9Z(nm:ByteArray)(hnm:nm.size≤1048576)(H:List Int)(fm:Int)(hf:0≤fm)(hf2:fm≤1000)(fD fA fB fN:Int)(fS:ByteArray)(args:List Int)(Ls:List ZB)(hl:Ls.length≤900000)(h_fA:okH H fA):evCW tab bK [.ptr (0,0) [] 0 0,.agg [I 28,I fD,I fA,I fB,I fN,Str fS,.d (.r (aG args))]] (gH nm H fm Ls) 1=some (.tup [],gH nm H fm (Ls++rdL (aB H fA) 3++[aS 19 0 (rdV (aB H fA) 3) 0 0 0 ⟨#[]⟩])):=by
 have hdr:=bN
 have s1:=z94 nm hnm H fm hf hf2 fD fA fB fN fS args Ls hl h_fA
 generalize Ls++rdL (aB H fA) 3++[aS 19 0 (rdV (aB H fA) 3) 0 0 0 ⟨#[]⟩]=LF at *
 simp only[gH] at s1 ⊢
 rw[aR bJ _ _ _ rfl,bF]
 simp -implicitDefEqProofs (disch:=first|assumption|omega|(simp only[aE,aM,aF,i64,sa,aD,lm,la,lc,ln];omega)) only[go_sem,simprocAttr,hdr,s1]
set_option maxRecDepth 8000
set_option maxHeartbeats 8000000
theorem Kt:∀(ts:List ZC) (os:List BL) (j:Int) (P:List Int×List Int) (p:Nat),0≤j→ts.length≤os.length→(∀t∈ts,∀r∈aZ t++a8 t,0≤r)→p<P.1.length→((∃x,P.1[p]? = some x∧0≤x)∨∃t∈ts,(p:Int)∈aZ t++a8 t)→∃x,(jS ts os j P).1[p]? = some x∧0≤x
 |[],os,j,P,p,h0,hl,ht,hp,h=>by
  rw[jS]
  ·rcases h with h|⟨t,ht,_⟩
   ·exact h
   ·simp at ht
  ·intros;simp_all
 |t::ts,[],j,P,p,h0,hl,ht,hp,h=>by simp at hl
 |t::ts,o::os,j,P,p,h0,hl,ht,hp,h=>by
  rw[jS]
  have hnn:∀r∈qH t o,0≤r:=fun r hr=>by
   rcases List.mem_append.1 hr with h|h
   ·exact ht t (by simp) r h
   ·exact(vR h).1
  have hg:=zW j h0 p (qH t o) P.1 hnn
  have hpe:P.1[p]? = some P.1[p]:=List.getElem?_eq_getElem hp
  refine Kt ts os (j+1) _ p (by omega) (by simpa using hl) (fun t h=>ht t (by simp[h])) (by show p<(pW j P.1 (qH t o)).length;rw[zT];exact hp) ?_
  rcases h with⟨x,hx,hx0⟩|⟨t2,ht2,hm⟩
  ·refine .inl ⟨x,?_,hx0⟩
   show(pW j P.1 (qH t o))[p]? = _
   rw[hg,hx]
   simp[show ¬x<0 by omega]
  ·rcases List.mem_cons.1 ht2 with rfl|ht3
   ·refine .inl ?_
    show ∃x,(pW j P.1 (qH t2 o))[p]? = some x∧0≤x
    rw[hg,hpe]
    refine⟨_,rfl,?_⟩
    have:(p:Int)∈qH t2 o:=List.mem_append_left _ hm
    simp only[this,true_and]
    split<;>omega
   ·exact .inr ⟨t2,ht3,hm⟩
theorem zV5{u:ZD}(hr:Right u)(hL:(bH u).Least (live u)){t:ZC}(ht:t∈u.fCode){r:Int}(h:r∈aZ t++a8 t):0≤aB (spU u).1 r:=by
 have hrs:=vG hr t ht r h
 have hlv:=oS hL
 obtain⟨x,hx,hx0⟩:=Kt u.fCode (live u) 0 (List.replicate u.fRegs.toNat (-1),List.replicate u.fRegs.toNat (-1)) r.toNat (by omega) (by omega) (fun t ht r h=>(vG hr t ht r h).1) (by simp;omega) (.inr ⟨t,ht,by rw[show((r.toNat:Nat):Int)=r by omega];exact h⟩)
 show 0≤(((spU u).1)[r.toNat]?).getD 0
 rw[spU,hx]
 exact hx0
theorem zV9(F L C:List Int)(S:List Int×Int)(r k:Int)(h0:0≤r)(h1:r<S.1.length)(hk:0≤k)(hs:0≤S.2)(h:0≤aB S.1 k):0≤aB (asg F L C S r).1 k:=by
 unfold asg
 split
 ·show 0≤aB (S.1.set r.toNat (10+S.2)) k
  rw[rD h0 h1 hk]
  split<;>omega
 ·rename_i hn
  show 0≤aB (S.1.set r.toNat _) k
  rw[rD h0 h1 hk]
  split<;>omega
theorem zKA(F L C:List Int)(S:List Int×Int)(r k:Int)(h0:0≤r)(h1:r<S.1.length)(hk:0≤k)(hs:0≤S.2)(h:aB S.1 k≤10+S.2):aB (asg F L C S r).1 k≤10+(asg F L C S r).2:=by
 unfold asg
 split
 ·show aB (S.1.set r.toNat (10+S.2)) k≤10+(S.2+1)
  rw[rD h0 h1 hk]
  split<;>omega
 ·have:=Ea F L S.1 (tP 0 S.1.length) r
  show aB (S.1.set r.toNat _) k≤10+S.2
  rw[rD h0 h1 hk]
  split<;>omega
theorem Wc(F L C:List Int)(m:Nat):∀(ls P:List Int) (S:List Int×Int),Hom m P S→(∀r∈ls,0≤r∧r<m)→Hom m (P++ls) (ls.foldl (asg F L C) S)∧(∀k:Int,0≤k→0≤aB S.1 k→0≤aB (ls.foldl (asg F L C) S).1 k)∧((∀k:Int,0≤k→aB S.1 k≤10+S.2)→∀k:Int,0≤k→aB (ls.foldl (asg F L C) S).1 k≤10+(ls.foldl (asg F L C) S).2)
 |[],P,S,h,hl=>by rw[List.append_nil];exact⟨h,fun _ _ h=>h,fun h=>h⟩
 |r::ls,P,S,h,hl=>by
  have hr:=hl r (by simp)
  have hm:r<S.1.length:=by rw[h.len];exact hr.2
  obtain⟨a,b,c⟩:=Wc F L C m ls (P++[r]) (asg F L C S r) (h.step F L C hr.1 hr.2) (fun r h=>hl r (by simp[h]))
  rw[List.foldl_cons]
  refine⟨by simpa using a,fun k hk hp=>b k hk (zV9 F L C S r k hr.1 hm hk h.slot.1 hp),fun hh=>c fun k hk=>zKA F L C S r k hr.1 hm hk h.slot.1 (hh k hk)⟩
theorem Us{u:ZD}(hr:Right u):Hom u.fRegs.toNat (refU u) (homU u)∧(∀k:Int,0≤k→0≤aB (iZ u.fParams 0 u.fRegs.toNat) k→0≤aB (homU u).1 k)∧∀k:Int,0≤k→aB (homU u).1 k≤10+(homU u).2:=by
 have hs:=Hom.start (m:=u.fRegs.toNat) hr.pars.1 hr.pars.2.1 (by have:=hr.pars;omega)
 have hmem:∀r∈refU u,0≤r∧r<u.fRegs.toNat:=fun r h=>by
  have:=(Rs hr).perm.subset h
  rw[y9] at this
  omega
 obtain⟨a,b,c⟩:=Wc (spU u).1 (spU u).2 (crU u) u.fRegs.toNat (refU u) [] _ hs hmem
 refine⟨a,b,c fun k hk=> ?_⟩
 by_cases e:k.toNat<u.fRegs.toNat
 ·show((iZ u.fParams 0 u.fRegs.toNat)[k.toNat]?).getD 0≤_
  rw[F0 _ _ _ _ e,Option.getD_some]
  have:=hr.pars
  show _≤10+u.fParams
  split<;>omega
 ·show((iZ u.fParams 0 u.fRegs.toNat)[k.toNat]?).getD 0≤10+u.fParams
  rw[List.getElem?_eq_none (by rw[Fg];omega)]
  have:=hr.pars
  show(0:Int)≤_
  omega
theorem Px{u:ZD}(hr:Right u):0≤(homU u).2∧(homU u).2≤254:=by
 have h:=(Us hr).1
 have h2:=(Rs hr).perm.length_eq
 have h3:(ordU u).length≤u.fRegs.toNat:=Kn (spU u).1 u.fParams u.fRegs.toNat 0
 have:=h.slot
 have:=hr.regs
 omega
theorem zWr{u:ZD}(hr:Right u)(hL:(bH u).Least (live u)){t:ZC}(ht:t∈u.fCode){r:Int}(h:r∈aZ t++a8 t):okH (homU u).1 r:=by
 have hrs:=vG hr t ht r h
 have hp:=zV5 hr hL ht h
 obtain⟨a,b,c⟩:=Us hr
 have hsl:=Px hr
 have hlen:(homU u).1.length=u.fRegs.toNat:=a.len
 refine⟨hrs.1,by rw[hlen];omega,?_,by have:=c r hrs.1;omega⟩
 by_cases e:r<u.fParams
 ·refine b r hrs.1 ?_
  show 0≤((iZ u.fParams 0 u.fRegs.toNat)[r.toNat]?).getD 0
  rw[F0 _ _ _ _ (by omega),Option.getD_some]
  split<;>omega
 ·refine(a.pos r ?_).2.2
  rw[Et]
  have hin:=(zzl hr).1
  have hlt:aB (spU u).1 r<u.fCode.length:=by
   have:=(bO (zs:=(spU u).1) (k:=r) hrs.1 (by rw[(Jd u).1];omega)).2
   have:=hin _ this
   omega
  have:=hr.pars
  omega
set_option maxRecDepth 8000
set_option maxHeartbeats 8000000
abbrev PlT(u:ZD)(H:List Int)(fm:Int)(t:ZC)(Ls:List ZB):Prop:=∃L:List ZB,L.length≤20∧evCW tab aV [.ptr (0,0) [] 0 0,t.x] (eH u H fm Ls) 1=some (.tup [],eH u H fm (Ls++L))∧evCW tab bK [.ptr (0,0) [] 0 0,t.x] (gH u.fName H fm Ls) 1=some (.tup [],gH u.fName H fm (Ls++L))
theorem z7v(u:ZD)(hnm:u.fName.size≤1048576)(H:List Int)(fm:Int)(hf:0≤fm)(hf2:fm≤1000)(fD fA fB fN:Int)(fS:ByteArray)(args:List Int)(Ls:List ZB)(hl:Ls.length≤900000)(hA:eA ⟨1,fD,fA,fB,fN,fS,args⟩=true)(hN:i64 fN)(hr:∀r∈aZ ⟨1,fD,fA,fB,fN,fS,args⟩++a8 ⟨1,fD,fA,fB,fN,fS,args⟩,okH H r):PlT u H fm ⟨1,fD,fA,fB,fN,fS,args⟩ Ls:=by
 have h_fD:okH H fD:=hr _ (by simp[aZ,a8,show hb ⟨1,fD,fA,fB,fN,fS,args⟩ 1=true from by show iY (fL (1:Int)) 1=true;decide])
 have e1:=z7m u hnm H fm hf hf2 fD fA fB fN fS args Ls hl h_fD
 have e2:=z7N u.fName hnm H fm hf hf2 fD fA fB fN fS args Ls hl h_fD
 have:=mQ (aB H fD) 3
 try simp only[List.append_assoc] at e1 e2
 refine⟨[aS 1 3 0 0 fN 0 ⟨#[]⟩]++kpL (aB H fD) 3,by simp only[la,List.length_singleton,lc,ln];omega,?_,?_⟩
 ·simpa only[List.append_assoc] using e1
 ·simpa only[List.append_assoc] using e2
theorem z7I(u:ZD)(hnm:u.fName.size≤1048576)(H:List Int)(fm:Int)(hf:0≤fm)(hf2:fm≤1000)(fD fA fB fN:Int)(fS:ByteArray)(args:List Int)(Ls:List ZB)(hl:Ls.length≤900000)(hA:eA ⟨2,fD,fA,fB,fN,fS,args⟩=true)(hN:i64 fN)(hr:∀r∈aZ ⟨2,fD,fA,fB,fN,fS,args⟩++a8 ⟨2,fD,fA,fB,fN,fS,args⟩,okH H r):PlT u H fm ⟨2,fD,fA,fB,fN,fS,args⟩ Ls:=by
 have h_fD:okH H fD:=hr _ (by simp[aZ,a8,show hb ⟨2,fD,fA,fB,fN,fS,args⟩ 1=true from by show iY (fL (2:Int)) 1=true;decide])
 have h_fA:okH H fA:=hr _ (by simp[aZ,a8,show hb ⟨2,fD,fA,fB,fN,fS,args⟩ 2=true from by show iY (fL (2:Int)) 2=true;decide])
 have e1:=z7C u hnm H fm hf hf2 fD fA fB fN fS args Ls hl h_fA h_fD
 have e2:=z7M u.fName hnm H fm hf hf2 fD fA fB fN fS args Ls hl h_fA h_fD
 have:=aX (aB H fA) 3
 have:=mQ (aB H fD) (rdV (aB H fA) 3)
 try simp only[List.append_assoc] at e1 e2
 refine⟨rdL (aB H fA) 3++kpL (aB H fD) (rdV (aB H fA) 3),by simp only[la,List.length_singleton,lc,ln];omega,?_,?_⟩
 ·simpa only[List.append_assoc] using e1
 ·simpa only[List.append_assoc] using e2
theorem z7u(u:ZD)(hnm:u.fName.size≤1048576)(H:List Int)(fm:Int)(hf:0≤fm)(hf2:fm≤1000)(fD fA fB fN:Int)(fS:ByteArray)(args:List Int)(Ls:List ZB)(hl:Ls.length≤900000)(hA:eA ⟨3,fD,fA,fB,fN,fS,args⟩=true)(hN:i64 fN)(hr:∀r∈aZ ⟨3,fD,fA,fB,fN,fS,args⟩++a8 ⟨3,fD,fA,fB,fN,fS,args⟩,okH H r):PlT u H fm ⟨3,fD,fA,fB,fN,fS,args⟩ Ls:=by
 have h_fD:okH H fD:=hr _ (by simp[aZ,a8,show hb ⟨3,fD,fA,fB,fN,fS,args⟩ 1=true from by show iY (fL (3:Int)) 1=true;decide])
 have h_fA:okH H fA:=hr _ (by simp[aZ,a8,show hb ⟨3,fD,fA,fB,fN,fS,args⟩ 2=true from by show iY (fL (3:Int)) 2=true;decide])
 have h_fB:okH H fB:=hr _ (by simp[aZ,a8,show hb ⟨3,fD,fA,fB,fN,fS,args⟩ 4=true from by show iY (fL (3:Int)) 4=true;decide])
 have e1:=z7k u hnm H fm hf hf2 fD fA fB fN fS args Ls hl h_fA h_fB h_fD
 have e2:=z7R u.fName hnm H fm hf hf2 fD fA fB fN fS args Ls hl h_fA h_fB h_fD
 have:=aX (aB H fA) 3
 have:=aX (aB H fB) 4
 have:=mQ (aB H fD) 5
 try simp only[List.append_assoc] at e1 e2
 refine⟨rdL (aB H fA) 3++rdL (aB H fB) 4++[aS 3 5 (rdV (aB H fA) 3) (rdV (aB H fB) 4) 0 0 ⟨#[]⟩]++kpL (aB H fD) 5,by simp only[la,List.length_singleton,lc,ln];omega,?_,?_⟩
 ·simpa only[List.append_assoc] using e1
 ·simpa only[List.append_assoc] using e2
theorem z7e(u:ZD)(hnm:u.fName.size≤1048576)(H:List Int)(fm:Int)(hf:0≤fm)(hf2:fm≤1000)(fD fA fB fN:Int)(fS:ByteArray)(args:List Int)(Ls:List ZB)(hl:Ls.length≤900000)(hA:eA ⟨4,fD,fA,fB,fN,fS,args⟩=true)(hN:i64 fN)(hr:∀r∈aZ ⟨4,fD,fA,fB,fN,fS,args⟩++a8 ⟨4,fD,fA,fB,fN,fS,args⟩,okH H r):PlT u H fm ⟨4,fD,fA,fB,fN,fS,args⟩ Ls:=by
 have h_fD:okH H fD:=hr _ (by simp[aZ,a8,show hb ⟨4,fD,fA,fB,fN,fS,args⟩ 1=true from by show iY (fL (4:Int)) 1=true;decide])
 have h_fA:okH H fA:=hr _ (by simp[aZ,a8,show hb ⟨4,fD,fA,fB,fN,fS,args⟩ 2=true from by show iY (fL (4:Int)) 2=true;decide])
 have h_fB:okH H fB:=hr _ (by simp[aZ,a8,show hb ⟨4,fD,fA,fB,fN,fS,args⟩ 4=true from by show iY (fL (4:Int)) 4=true;decide])
 have e1:=z7l u hnm H fm hf hf2 fD fA fB fN fS args Ls hl h_fA h_fB h_fD
 have e2:=z7n u.fName hnm H fm hf hf2 fD fA fB fN fS args Ls hl h_fA h_fB h_fD
 have:=aX (aB H fA) 3
 have:=aX (aB H fB) 4
 have:=mQ (aB H fD) 5
 try simp only[List.append_assoc] at e1 e2
 refine⟨rdL (aB H fA) 3++rdL (aB H fB) 4++[aS 4 5 (rdV (aB H fA) 3) (rdV (aB H fB) 4) 0 0 ⟨#[]⟩]++kpL (aB H fD) 5,by simp only[la,List.length_singleton,lc,ln];omega,?_,?_⟩
 ·simpa only[List.append_assoc] using e1
 ·simpa only[List.append_assoc] using e2
theorem z7E(u:ZD)(hnm:u.fName.size≤1048576)(H:List Int)(fm:Int)(hf:0≤fm)(hf2:fm≤1000)(fD fA fB fN:Int)(fS:ByteArray)(args:List Int)(Ls:List ZB)(hl:Ls.length≤900000)(hA:eA ⟨5,fD,fA,fB,fN,fS,args⟩=true)(hN:i64 fN)(hr:∀r∈aZ ⟨5,fD,fA,fB,fN,fS,args⟩++a8 ⟨5,fD,fA,fB,fN,fS,args⟩,okH H r):PlT u H fm ⟨5,fD,fA,fB,fN,fS,args⟩ Ls:=by
 have h_fD:okH H fD:=hr _ (by simp[aZ,a8,show hb ⟨5,fD,fA,fB,fN,fS,args⟩ 1=true from by show iY (fL (5:Int)) 1=true;decide])
 have h_fA:okH H fA:=hr _ (by simp[aZ,a8,show hb ⟨5,fD,fA,fB,fN,fS,args⟩ 2=true from by show iY (fL (5:Int)) 2=true;decide])
 have h_fB:okH H fB:=hr _ (by simp[aZ,a8,show hb ⟨5,fD,fA,fB,fN,fS,args⟩ 4=true from by show iY (fL (5:Int)) 4=true;decide])
 have e1:=z7w u hnm H fm hf hf2 fD fA fB fN fS args Ls hl h_fA h_fB h_fD
 have e2:=z7P u.fName hnm H fm hf hf2 fD fA fB fN fS args Ls hl h_fA h_fB h_fD
 have:=aX (aB H fA) 3
 have:=aX (aB H fB) 4
 have:=mQ (aB H fD) 5
 try simp only[List.append_assoc] at e1 e2
 refine⟨rdL (aB H fA) 3++rdL (aB H fB) 4++[aS 5 5 (rdV (aB H fA) 3) (rdV (aB H fB) 4) 0 0 ⟨#[]⟩]++kpL (aB H fD) 5,by simp only[la,List.length_singleton,lc,ln];omega,?_,?_⟩
 ·simpa only[List.append_assoc] using e1
 ·simpa only[List.append_assoc] using e2
theorem z7S(u:ZD)(hnm:u.fName.size≤1048576)(H:List Int)(fm:Int)(hf:0≤fm)(hf2:fm≤1000)(fD fA fB fN:Int)(fS:ByteArray)(args:List Int)(Ls:List ZB)(hl:Ls.length≤900000)(hA:eA ⟨6,fD,fA,fB,fN,fS,args⟩=true)(hN:i64 fN)(hr:∀r∈aZ ⟨6,fD,fA,fB,fN,fS,args⟩++a8 ⟨6,fD,fA,fB,fN,fS,args⟩,okH H r):PlT u H fm ⟨6,fD,fA,fB,fN,fS,args⟩ Ls:=by
 have h_fD:okH H fD:=hr _ (by simp[aZ,a8,show hb ⟨6,fD,fA,fB,fN,fS,args⟩ 1=true from by show iY (fL (6:Int)) 1=true;decide])
 have h_fA:okH H fA:=hr _ (by simp[aZ,a8,show hb ⟨6,fD,fA,fB,fN,fS,args⟩ 2=true from by show iY (fL (6:Int)) 2=true;decide])
 have h_fB:okH H fB:=hr _ (by simp[aZ,a8,show hb ⟨6,fD,fA,fB,fN,fS,args⟩ 4=true from by show iY (fL (6:Int)) 4=true;decide])
 have e1:=z7B u hnm H fm hf hf2 fD fA fB fN fS args Ls hl h_fA h_fB h_fD
 have e2:=z7t u.fName hnm H fm hf hf2 fD fA fB fN fS args Ls hl h_fA h_fB h_fD
 have:=aX (aB H fA) 3
 have:=aX (aB H fB) 4
 have:=mQ (aB H fD) 5
 try simp only[List.append_assoc] at e1 e2
 refine⟨rdL (aB H fA) 3++rdL (aB H fB) 4++[aS 6 5 (rdV (aB H fA) 3) (rdV (aB H fB) 4) 0 0 ⟨#[]⟩]++kpL (aB H fD) 5,by simp only[la,List.length_singleton,lc,ln];omega,?_,?_⟩
 ·simpa only[List.append_assoc] using e1
 ·simpa only[List.append_assoc] using e2
theorem z7d(u:ZD)(hnm:u.fName.size≤1048576)(H:List Int)(fm:Int)(hf:0≤fm)(hf2:fm≤1000)(fD fA fB fN:Int)(fS:ByteArray)(args:List Int)(Ls:List ZB)(hl:Ls.length≤900000)(hA:eA ⟨7,fD,fA,fB,fN,fS,args⟩=true)(hN:i64 fN)(hr:∀r∈aZ ⟨7,fD,fA,fB,fN,fS,args⟩++a8 ⟨7,fD,fA,fB,fN,fS,args⟩,okH H r):PlT u H fm ⟨7,fD,fA,fB,fN,fS,args⟩ Ls:=by
 have h_fD:okH H fD:=hr _ (by simp[aZ,a8,show hb ⟨7,fD,fA,fB,fN,fS,args⟩ 1=true from by show iY (fL (7:Int)) 1=true;decide])
 have h_fA:okH H fA:=hr _ (by simp[aZ,a8,show hb ⟨7,fD,fA,fB,fN,fS,args⟩ 2=true from by show iY (fL (7:Int)) 2=true;decide])
 have h_fB:okH H fB:=hr _ (by simp[aZ,a8,show hb ⟨7,fD,fA,fB,fN,fS,args⟩ 4=true from by show iY (fL (7:Int)) 4=true;decide])
 have e1:=z7o u hnm H fm hf hf2 fD fA fB fN fS args Ls hl h_fA h_fB h_fD
 have e2:=z7h u.fName hnm H fm hf hf2 fD fA fB fN fS args Ls hl h_fA h_fB h_fD
 have:=aX (aB H fA) 3
 have:=aX (aB H fB) 4
 have:=mQ (aB H fD) 5
 try simp only[List.append_assoc] at e1 e2
 refine⟨rdL (aB H fA) 3++rdL (aB H fB) 4++[aS 7 5 (rdV (aB H fA) 3) (rdV (aB H fB) 4) 0 0 ⟨#[]⟩]++kpL (aB H fD) 5,by simp only[la,List.length_singleton,lc,ln];omega,?_,?_⟩
 ·simpa only[List.append_assoc] using e1
 ·simpa only[List.append_assoc] using e2
theorem z7i(u:ZD)(hnm:u.fName.size≤1048576)(H:List Int)(fm:Int)(hf:0≤fm)(hf2:fm≤1000)(fD fA fB fN:Int)(fS:ByteArray)(args:List Int)(Ls:List ZB)(hl:Ls.length≤900000)(hA:eA ⟨8,fD,fA,fB,fN,fS,args⟩=true)(hN:i64 fN)(hr:∀r∈aZ ⟨8,fD,fA,fB,fN,fS,args⟩++a8 ⟨8,fD,fA,fB,fN,fS,args⟩,okH H r):PlT u H fm ⟨8,fD,fA,fB,fN,fS,args⟩ Ls:=by
 have e1:=z7H u hnm H fm hf hf2 fD fA fB fN fS args Ls hl hN
 have e2:=z7J u.fName hnm H fm hf hf2 fD fA fB fN fS args Ls hl hN
 try simp only[List.append_assoc] at e1 e2
 refine⟨[D6 u.fName fN],by simp only[la,List.length_singleton,lc,ln];omega,?_,?_⟩
 ·simpa only[List.append_assoc] using e1
 ·simpa only[List.append_assoc] using e2
theorem z7r(u:ZD)(hnm:u.fName.size≤1048576)(H:List Int)(fm:Int)(hf:0≤fm)(hf2:fm≤1000)(fD fA fB fN:Int)(fS:ByteArray)(args:List Int)(Ls:List ZB)(hl:Ls.length≤900000)(hA:eA ⟨9,fD,fA,fB,fN,fS,args⟩=true)(hN:i64 fN)(hr:∀r∈aZ ⟨9,fD,fA,fB,fN,fS,args⟩++a8 ⟨9,fD,fA,fB,fN,fS,args⟩,okH H r):PlT u H fm ⟨9,fD,fA,fB,fN,fS,args⟩ Ls:=by
 have e1:=z7F u hnm H fm hf hf2 fD fA fB fN fS args Ls hl hN
 have e2:=z7z u.fName hnm H fm hf hf2 fD fA fB fN fS args Ls hl hN
 try simp only[List.append_assoc] at e1 e2
 refine⟨[aS 11 0 0 0 0 0 (qD u.fName fN)],by simp only[la,List.length_singleton,lc,ln];omega,?_,?_⟩
 ·simpa only[List.append_assoc] using e1
 ·simpa only[List.append_assoc] using e2
theorem z8C(u:ZD)(hnm:u.fName.size≤1048576)(H:List Int)(fm:Int)(hf:0≤fm)(hf2:fm≤1000)(fD fA fB fN:Int)(fS:ByteArray)(args:List Int)(Ls:List ZB)(hl:Ls.length≤900000)(hA:eA ⟨10,fD,fA,fB,fN,fS,args⟩=true)(hN:i64 fN)(hr:∀r∈aZ ⟨10,fD,fA,fB,fN,fS,args⟩++a8 ⟨10,fD,fA,fB,fN,fS,args⟩,okH H r):PlT u H fm ⟨10,fD,fA,fB,fN,fS,args⟩ Ls:=by
 have h_fA:okH H fA:=hr _ (by simp[aZ,a8,show hb ⟨10,fD,fA,fB,fN,fS,args⟩ 2=true from by show iY (fL (10:Int)) 2=true;decide])
 have e1:=z8i u hnm H fm hf hf2 fD fA fB fN fS args Ls hl h_fA hN
 have e2:=z8S u.fName hnm H fm hf hf2 fD fA fB fN fS args Ls hl h_fA hN
 have:=aX (aB H fA) 3
 try simp only[List.append_assoc] at e1 e2
 refine⟨rdL (aB H fA) 3++[aS 12 0 (rdV (aB H fA) 3) 0 0 0 (qD u.fName fN)],by simp only[la,List.length_singleton,lc,ln];omega,?_,?_⟩
 ·simpa only[List.append_assoc] using e1
 ·simpa only[List.append_assoc] using e2
theorem z8l(u:ZD)(hnm:u.fName.size≤1048576)(H:List Int)(fm:Int)(hf:0≤fm)(hf2:fm≤1000)(fD fA fB fN:Int)(fS:ByteArray)(args:List Int)(Ls:List ZB)(hl:Ls.length≤900000)(hA:eA ⟨11,fD,fA,fB,fN,fS,args⟩=true)(hN:i64 fN)(hr:∀r∈aZ ⟨11,fD,fA,fB,fN,fS,args⟩++a8 ⟨11,fD,fA,fB,fN,fS,args⟩,okH H r):PlT u H fm ⟨11,fD,fA,fB,fN,fS,args⟩ Ls:=by
 have h_fD:okH H fD:=hr _ (by simp[aZ,a8,show hb ⟨11,fD,fA,fB,fN,fS,args⟩ 1=true from by show iY (fL (11:Int)) 1=true;decide])
 have hq:∀q∈args,okH H q:=fun q hq=>hr _ (by simp[aZ,a8,Bz ⟨11,fD,fA,fB,fN,fS,args⟩ (by show(11:Int)≠19;decide),show hb ⟨11,fD,fA,fB,fN,fS,args⟩ 32=true from by show iY (fL (11:Int)) 32=true;decide,hq])
 have hx:args.length≤4:=by simp[eA] at hA;omega
 have e1:=z88 u hnm H fm hf hf2 fD fA fB fN fS args Ls hl hx hq h_fD
 have e2:=z8t u.fName hnm H fm hf hf2 fD fA fB fN fS args Ls hl hx hq h_fD
 have:=E9 H fm args 0
 have:=mQ (aB H fD) 0
 try simp only[List.append_assoc] at e1 e2
 refine⟨mZ H fm 0 args++[aS 13 0 0 0 0 fm fS]++kpL (aB H fD) 0,by simp only[la,List.length_singleton,lc,ln];omega,?_,?_⟩
 ·simpa only[List.append_assoc] using e1
 ·simpa only[List.append_assoc] using e2
theorem z99(u:ZD)(hnm:u.fName.size≤1048576)(H:List Int)(fm:Int)(hf:0≤fm)(hf2:fm≤1000)(fD fA fB fN:Int)(fS:ByteArray)(args:List Int)(Ls:List ZB)(hl:Ls.length≤900000)(hA:eA ⟨12,fD,fA,fB,fN,fS,args⟩=true)(hN:i64 fN)(hr:∀r∈aZ ⟨12,fD,fA,fB,fN,fS,args⟩++a8 ⟨12,fD,fA,fB,fN,fS,args⟩,okH H r):PlT u H fm ⟨12,fD,fA,fB,fN,fS,args⟩ Ls:=by
 have h_fA:okH H fA:=hr _ (by simp[aZ,a8,show hb ⟨12,fD,fA,fB,fN,fS,args⟩ 2=true from by show iY (fL (12:Int)) 2=true;decide])
 have e1:=z8j u hnm H fm hf hf2 fD fA fB fN fS args Ls hl h_fA
 have e2:=z8I u.fName hnm H fm hf hf2 fD fA fB fN fS args Ls hl h_fA
 have:=aX (aB H fA) 3
 try simp only[List.append_assoc] at e1 e2
 refine⟨rdL (aB H fA) 3++[aS 2 0 (rdV (aB H fA) 3) 0 0 0 ⟨#[]⟩]++[aS 14 0 0 0 0 0 ⟨#[]⟩],by simp only[la,List.length_singleton,lc,ln];omega,?_,?_⟩
 ·simpa only[List.append_assoc] using e1
 ·simpa only[List.append_assoc] using e2
theorem z9T(u:ZD)(hnm:u.fName.size≤1048576)(H:List Int)(fm:Int)(hf:0≤fm)(hf2:fm≤1000)(fD fA fB fN:Int)(fS:ByteArray)(args:List Int)(Ls:List ZB)(hl:Ls.length≤900000)(hA:eA ⟨20,fD,fA,fB,fN,fS,args⟩=true)(hN:i64 fN)(hr:∀r∈aZ ⟨20,fD,fA,fB,fN,fS,args⟩++a8 ⟨20,fD,fA,fB,fN,fS,args⟩,okH H r):PlT u H fm ⟨20,fD,fA,fB,fN,fS,args⟩ Ls:=by
 have h_fD:okH H fD:=hr _ (by simp[aZ,a8,show hb ⟨20,fD,fA,fB,fN,fS,args⟩ 1=true from by show iY (fL (20:Int)) 1=true;decide])
 have h_fA:okH H fA:=hr _ (by simp[aZ,a8,show hb ⟨20,fD,fA,fB,fN,fS,args⟩ 2=true from by show iY (fL (20:Int)) 2=true;decide])
 have e1:=z9F u hnm H fm hf hf2 fD fA fB fN fS args Ls hl h_fA h_fD
 have e2:=z8s u.fName hnm H fm hf hf2 fD fA fB fN fS args Ls hl h_fA h_fD
 have:=aX (aB H fA) 3
 have:=mQ (aB H fD) 5
 try simp only[List.append_assoc] at e1 e2
 refine⟨rdL (aB H fA) 3++[aS 8 5 (rdV (aB H fA) 3) 0 0 0 ⟨#[]⟩]++kpL (aB H fD) 5,by simp only[la,List.length_singleton,lc,ln];omega,?_,?_⟩
 ·simpa only[List.append_assoc] using e1
 ·simpa only[List.append_assoc] using e2
theorem z8p(u:ZD)(hnm:u.fName.size≤1048576)(H:List Int)(fm:Int)(hf:0≤fm)(hf2:fm≤1000)(fD fA fB fN:Int)(fS:ByteArray)(args:List Int)(Ls:List ZB)(hl:Ls.length≤900000)(hA:eA ⟨21,fD,fA,fB,fN,fS,args⟩=true)(hN:i64 fN)(hr:∀r∈aZ ⟨21,fD,fA,fB,fN,fS,args⟩++a8 ⟨21,fD,fA,fB,fN,fS,args⟩,okH H r):PlT u H fm ⟨21,fD,fA,fB,fN,fS,args⟩ Ls:=by
 have h_fA:okH H fA:=hr _ (by simp[aZ,a8,show hb ⟨21,fD,fA,fB,fN,fS,args⟩ 2=true from by show iY (fL (21:Int)) 2=true;decide])
 have h_fB:okH H fB:=hr _ (by simp[aZ,a8,show hb ⟨21,fD,fA,fB,fN,fS,args⟩ 4=true from by show iY (fL (21:Int)) 4=true;decide])
 have e1:=z8F u hnm H fm hf hf2 fD fA fB fN fS args Ls hl h_fA h_fB
 have e2:=z9N u.fName hnm H fm hf hf2 fD fA fB fN fS args Ls hl h_fA h_fB
 have:=aX (aB H fA) 3
 have:=aX (aB H fB) 4
 try simp only[List.append_assoc] at e1 e2
 refine⟨rdL (aB H fA) 3++rdL (aB H fB) 4++[aS 9 0 (rdV (aB H fA) 3) (rdV (aB H fB) 4) 0 0 ⟨#[]⟩],by simp only[la,List.length_singleton,lc,ln];omega,?_,?_⟩
 ·simpa only[List.append_assoc] using e1
 ·simpa only[List.append_assoc] using e2
theorem z89(u:ZD)(hnm:u.fName.size≤1048576)(H:List Int)(fm:Int)(hf:0≤fm)(hf2:fm≤1000)(fD fA fB fN:Int)(fS:ByteArray)(args:List Int)(Ls:List ZB)(hl:Ls.length≤900000)(hA:eA ⟨22,fD,fA,fB,fN,fS,args⟩=true)(hN:i64 fN)(hr:∀r∈aZ ⟨22,fD,fA,fB,fN,fS,args⟩++a8 ⟨22,fD,fA,fB,fN,fS,args⟩,okH H r):PlT u H fm ⟨22,fD,fA,fB,fN,fS,args⟩ Ls:=by
 have h_fD:okH H fD:=hr _ (by simp[aZ,a8,show hb ⟨22,fD,fA,fB,fN,fS,args⟩ 1=true from by show iY (fL (22:Int)) 1=true;decide])
 have h_fA:okH H fA:=hr _ (by simp[aZ,a8,show hb ⟨22,fD,fA,fB,fN,fS,args⟩ 2=true from by show iY (fL (22:Int)) 2=true;decide])
 have h_fB:okH H fB:=hr _ (by simp[aZ,a8,show hb ⟨22,fD,fA,fB,fN,fS,args⟩ 4=true from by show iY (fL (22:Int)) 4=true;decide])
 have hq:∀q∈args,okH H q:=fun q hq=>hr _ (by simp[aZ,a8,Bz ⟨22,fD,fA,fB,fN,fS,args⟩ (by show(22:Int)≠19;decide),show hb ⟨22,fD,fA,fB,fN,fS,args⟩ 32=true from by show iY (fL (22:Int)) 32=true;decide,hq])
 have hx:args.length=1:=by simp[eA] at hA;omega
 obtain⟨q,rfl⟩:=List.length_eq_one_iff.1 hx
 have h_q:okH H q:=hq q (by simp)
 have e1:=z8O u hnm H fm hf hf2 fD fA fB fN fS q Ls hl h_fA h_fB h_q h_fD
 have e2:=z9I u.fName hnm H fm hf hf2 fD fA fB fN fS q Ls hl h_fA h_fB h_q h_fD
 have:=aX (aB H fA) 3
 have:=aX (aB H fB) 4
 have:=aX (aB H q) 4
 have:=mQ (aB H fD) 5
 try simp only[List.append_assoc] at e1 e2
 refine⟨rdL (aB H fA) 3++rdL (aB H fB) 4++[aS 2 5 (rdV (aB H fB) 4) 0 0 0 ⟨#[]⟩]++rdL (aB H q) 4++[aS 10 5 (rdV (aB H fA) 3) (rdV (aB H q) 4) 0 0 ⟨#[]⟩]++kpL (aB H fD) 5,by simp only[la,List.length_singleton,lc,ln];omega,?_,?_⟩
 ·simpa only[List.append_assoc] using e1
 ·simpa only[List.append_assoc] using e2
theorem z96(u:ZD)(hnm:u.fName.size≤1048576)(H:List Int)(fm:Int)(hf:0≤fm)(hf2:fm≤1000)(fD fA fB fN:Int)(fS:ByteArray)(args:List Int)(Ls:List ZB)(hl:Ls.length≤900000)(hA:eA ⟨23,fD,fA,fB,fN,fS,args⟩=true)(hN:i64 fN)(hr:∀r∈aZ ⟨23,fD,fA,fB,fN,fS,args⟩++a8 ⟨23,fD,fA,fB,fN,fS,args⟩,okH H r):PlT u H fm ⟨23,fD,fA,fB,fN,fS,args⟩ Ls:=by
 have h_fD:okH H fD:=hr _ (by simp[aZ,a8,show hb ⟨23,fD,fA,fB,fN,fS,args⟩ 1=true from by show iY (fL (23:Int)) 1=true;decide])
 have e1:=z7c u hnm H fm hf hf2 fD fA fB fN fS args Ls hl h_fD
 have e2:=z9O u.fName hnm H fm hf hf2 fD fA fB fN fS args Ls hl h_fD
 have:=mQ (aB H fD) 5
 try simp only[List.append_assoc] at e1 e2
 refine⟨[aS 18 5 0 0 0 0 ⟨#[]⟩]++kpL (aB H fD) 5,by simp only[la,List.length_singleton,lc,ln];omega,?_,?_⟩
 ·simpa only[List.append_assoc] using e1
 ·simpa only[List.append_assoc] using e2
theorem z7a(u:ZD)(hnm:u.fName.size≤1048576)(H:List Int)(fm:Int)(hf:0≤fm)(hf2:fm≤1000)(fD fA fB fN:Int)(fS:ByteArray)(args:List Int)(Ls:List ZB)(hl:Ls.length≤900000)(hA:eA ⟨24,fD,fA,fB,fN,fS,args⟩=true)(hN:i64 fN)(hr:∀r∈aZ ⟨24,fD,fA,fB,fN,fS,args⟩++a8 ⟨24,fD,fA,fB,fN,fS,args⟩,okH H r):PlT u H fm ⟨24,fD,fA,fB,fN,fS,args⟩ Ls:=by
 have h_fD:okH H fD:=hr _ (by simp[aZ,a8,show hb ⟨24,fD,fA,fB,fN,fS,args⟩ 1=true from by show iY (fL (24:Int)) 1=true;decide])
 have e1:=z8d u hnm H fm hf hf2 fD fA fB fN fS args Ls hl h_fD
 have e2:=z8A u.fName hnm H fm hf hf2 fD fA fB fN fS args Ls hl h_fD
 have:=mQ (aB H fD) 5
 try simp only[List.append_assoc] at e1 e2
 refine⟨[aS 1 5 0 0 0 0 fS]++kpL (aB H fD) 5,by simp only[la,List.length_singleton,lc,ln];omega,?_,?_⟩
 ·simpa only[List.append_assoc] using e1
 ·simpa only[List.append_assoc] using e2
theorem z9W(u:ZD)(hnm:u.fName.size≤1048576)(H:List Int)(fm:Int)(hf:0≤fm)(hf2:fm≤1000)(fD fA fB fN:Int)(fS:ByteArray)(args:List Int)(Ls:List ZB)(hl:Ls.length≤900000)(hA:eA ⟨25,fD,fA,fB,fN,fS,args⟩=true)(hN:i64 fN)(hr:∀r∈aZ ⟨25,fD,fA,fB,fN,fS,args⟩++a8 ⟨25,fD,fA,fB,fN,fS,args⟩,okH H r):PlT u H fm ⟨25,fD,fA,fB,fN,fS,args⟩ Ls:=by
 have h_fA:okH H fA:=hr _ (by simp[aZ,a8,show hb ⟨25,fD,fA,fB,fN,fS,args⟩ 2=true from by show iY (fL (25:Int)) 2=true;decide])
 have e1:=z9z u hnm H fm hf hf2 fD fA fB fN fS args Ls hl h_fA
 have e2:=z8E u.fName hnm H fm hf hf2 fD fA fB fN fS args Ls hl h_fA
 have:=aX (aB H fA) 3
 try simp only[List.append_assoc] at e1 e2
 refine⟨rdL (aB H fA) 3++[aS 15 0 (rdV (aB H fA) 3) 0 0 0 ⟨#[]⟩],by simp only[la,List.length_singleton,lc,ln];omega,?_,?_⟩
 ·simpa only[List.append_assoc] using e1
 ·simpa only[List.append_assoc] using e2
theorem z8J(u:ZD)(hnm:u.fName.size≤1048576)(H:List Int)(fm:Int)(hf:0≤fm)(hf2:fm≤1000)(fD fA fB fN:Int)(fS:ByteArray)(args:List Int)(Ls:List ZB)(hl:Ls.length≤900000)(hA:eA ⟨26,fD,fA,fB,fN,fS,args⟩=true)(hN:i64 fN)(hr:∀r∈aZ ⟨26,fD,fA,fB,fN,fS,args⟩++a8 ⟨26,fD,fA,fB,fN,fS,args⟩,okH H r):PlT u H fm ⟨26,fD,fA,fB,fN,fS,args⟩ Ls:=by
 have h_fA:okH H fA:=hr _ (by simp[aZ,a8,show hb ⟨26,fD,fA,fB,fN,fS,args⟩ 2=true from by show iY (fL (26:Int)) 2=true;decide])
 have h_fB:okH H fB:=hr _ (by simp[aZ,a8,show hb ⟨26,fD,fA,fB,fN,fS,args⟩ 4=true from by show iY (fL (26:Int)) 4=true;decide])
 have e1:=z8N u hnm H fm hf hf2 fD fA fB fN fS args Ls hl h_fA h_fB
 have e2:=z8g u.fName hnm H fm hf hf2 fD fA fB fN fS args Ls hl h_fA h_fB
 have:=aX (aB H fA) 3
 have:=aX (aB H fB) 4
 try simp only[List.append_assoc] at e1 e2
 refine⟨rdL (aB H fA) 3++rdL (aB H fB) 4++[aS 16 0 (rdV (aB H fA) 3) (rdV (aB H fB) 4) 0 0 ⟨#[]⟩],by simp only[la,List.length_singleton,lc,ln];omega,?_,?_⟩
 ·simpa only[List.append_assoc] using e1
 ·simpa only[List.append_assoc] using e2
theorem z9P(u:ZD)(hnm:u.fName.size≤1048576)(H:List Int)(fm:Int)(hf:0≤fm)(hf2:fm≤1000)(fD fA fB fN:Int)(fS:ByteArray)(args:List Int)(Ls:List ZB)(hl:Ls.length≤900000)(hA:eA ⟨27,fD,fA,fB,fN,fS,args⟩=true)(hN:i64 fN)(hr:∀r∈aZ ⟨27,fD,fA,fB,fN,fS,args⟩++a8 ⟨27,fD,fA,fB,fN,fS,args⟩,okH H r):PlT u H fm ⟨27,fD,fA,fB,fN,fS,args⟩ Ls:=by
 have h_fA:okH H fA:=hr _ (by simp[aZ,a8,show hb ⟨27,fD,fA,fB,fN,fS,args⟩ 2=true from by show iY (fL (27:Int)) 2=true;decide])
 have h_fB:okH H fB:=hr _ (by simp[aZ,a8,show hb ⟨27,fD,fA,fB,fN,fS,args⟩ 4=true from by show iY (fL (27:Int)) 4=true;decide])
 have e1:=z8D u hnm H fm hf hf2 fD fA fB fN fS args Ls hl h_fA h_fB
 have e2:=z97 u.fName hnm H fm hf hf2 fD fA fB fN fS args Ls hl h_fA h_fB
 have:=aX (aB H fA) 3
 have:=aX (aB H fB) 4
 try simp only[List.append_assoc] at e1 e2
 refine⟨rdL (aB H fA) 3++rdL (aB H fB) 4++[aS 17 0 (rdV (aB H fA) 3) (rdV (aB H fB) 4) 0 0 ⟨#[]⟩],by simp only[la,List.length_singleton,lc,ln];omega,?_,?_⟩
 ·simpa only[List.append_assoc] using e1
 ·simpa only[List.append_assoc] using e2
theorem z9y(u:ZD)(hnm:u.fName.size≤1048576)(H:List Int)(fm:Int)(hf:0≤fm)(hf2:fm≤1000)(fD fA fB fN:Int)(fS:ByteArray)(args:List Int)(Ls:List ZB)(hl:Ls.length≤900000)(hA:eA ⟨28,fD,fA,fB,fN,fS,args⟩=true)(hN:i64 fN)(hr:∀r∈aZ ⟨28,fD,fA,fB,fN,fS,args⟩++a8 ⟨28,fD,fA,fB,fN,fS,args⟩,okH H r):PlT u H fm ⟨28,fD,fA,fB,fN,fS,args⟩ Ls:=by
 have h_fA:okH H fA:=hr _ (by simp[aZ,a8,show hb ⟨28,fD,fA,fB,fN,fS,args⟩ 2=true from by show iY (fL (28:Int)) 2=true;decide])
 have e1:=z8e u hnm H fm hf hf2 fD fA fB fN fS args Ls hl h_fA
 have e2:=z9Z u.fName hnm H fm hf hf2 fD fA fB fN fS args Ls hl h_fA
 have:=aX (aB H fA) 3
 try simp only[List.append_assoc] at e1 e2
 refine⟨rdL (aB H fA) 3++[aS 19 0 (rdV (aB H fA) 3) 0 0 0 ⟨#[]⟩],by simp only[la,List.length_singleton,lc,ln];omega,?_,?_⟩
 ·simpa only[List.append_assoc] using e1
 ·simpa only[List.append_assoc] using e2
theorem zJA(u:ZD)(hnm:u.fName.size≤1048576)(H:List Int)(fm:Int)(hf:0≤fm)(hf2:fm≤1000)(t:ZC)(Ls:List ZB)(hl:Ls.length≤900000)(h1:1≤t.fOp)(h2:t.fOp≤28)(h3:¬(13≤t.fOp∧t.fOp≤19))(hA:eA t=true)(hN:i64 t.fN)(hr:∀r∈aZ t++a8 t,okH H r):PlT u H fm t Ls:=by
 obtain⟨op,fD,fA,fB,fN,fS,args⟩:=t
 have h1:1≤op:=h1
 have h2:op≤28:=h2
 have h3:¬(13≤op∧op≤19):=h3
 rcases Lz h1 h2 with rfl|rfl|rfl|rfl|rfl|rfl|rfl|rfl|rfl|rfl|rfl|rfl|rfl|rfl|rfl|rfl|rfl|rfl|rfl|rfl|rfl|rfl|rfl|rfl|rfl|rfl|rfl|rfl
 ·exact z7v u hnm H fm hf hf2 fD fA fB fN fS args Ls hl hA hN hr
 ·exact z7I u hnm H fm hf hf2 fD fA fB fN fS args Ls hl hA hN hr
 ·exact z7u u hnm H fm hf hf2 fD fA fB fN fS args Ls hl hA hN hr
 ·exact z7e u hnm H fm hf hf2 fD fA fB fN fS args Ls hl hA hN hr
 ·exact z7E u hnm H fm hf hf2 fD fA fB fN fS args Ls hl hA hN hr
 ·exact z7S u hnm H fm hf hf2 fD fA fB fN fS args Ls hl hA hN hr
 ·exact z7d u hnm H fm hf hf2 fD fA fB fN fS args Ls hl hA hN hr
 ·exact z7i u hnm H fm hf hf2 fD fA fB fN fS args Ls hl hA hN hr
 ·exact z7r u hnm H fm hf hf2 fD fA fB fN fS args Ls hl hA hN hr
 ·exact z8C u hnm H fm hf hf2 fD fA fB fN fS args Ls hl hA hN hr
 ·exact z8l u hnm H fm hf hf2 fD fA fB fN fS args Ls hl hA hN hr
 ·exact z99 u hnm H fm hf hf2 fD fA fB fN fS args Ls hl hA hN hr
 ·omega
 ·omega
 ·omega
 ·omega
 ·omega
 ·omega
 ·omega
 ·exact z9T u hnm H fm hf hf2 fD fA fB fN fS args Ls hl hA hN hr
 ·exact z8p u hnm H fm hf hf2 fD fA fB fN fS args Ls hl hA hN hr
 ·exact z89 u hnm H fm hf hf2 fD fA fB fN fS args Ls hl hA hN hr
 ·exact z96 u hnm H fm hf hf2 fD fA fB fN fS args Ls hl hA hN hr
 ·exact z7a u hnm H fm hf hf2 fD fA fB fN fS args Ls hl hA hN hr
 ·exact z9W u hnm H fm hf hf2 fD fA fB fN fS args Ls hl hA hN hr
 ·exact z8J u hnm H fm hf hf2 fD fA fB fN fS args Ls hl hA hN hr
 ·exact z9P u hnm H fm hf hf2 fD fA fB fN fS args Ls hl hA hN hr
 ·exact z9y u hnm H fm hf hf2 fD fA fB fN fS args Ls hl hA hN hr
set_option maxRecDepth 8000
set_option maxHeartbeats 8000000
def Cf(t:ZC):Bool:=inB t.fOp 13 19
theorem Kv(op:Int):call tab zG [I op]=some (B (inB op 13 19)):=by
 have h:=dM op 13 19
 rw[aY Oq _ rfl,Cz]
 simp -implicitDefEqProofs (disch:=first|assumption|omega) only[go_sem,simprocAttr,h]
theorem Ip(op:Int):call tab wI [I op]=some (B (inB op 13 19)):=by
 have h:=dU op 13 19
 rw[aY Kh _ rfl,Ak]
 simp -implicitDefEqProofs (disch:=first|assumption|omega) only[go_sem,simprocAttr,h]
theorem Kx(t:ZC)(h:Heap)(fr:Nat)(hh:cB fr h=h):evCW tab s9 [t.x] h fr=some (B (Cf t),h):=by
 have g:=Kv t.fOp
 rw[aR Na _ _ _ rfl,C3,Cf]
 generalize inB t.fOp 13 19=b at *
 simp -implicitDefEqProofs (disch:=first|assumption|omega) only[go_sem,simprocAttr,g,hh]
theorem zqH(u:ZD)(hl:u.fCode.length≤1048576)(F L H S:X)(hF:True):∀(Bl:List ZC) (j:Int),u.fCode.drop j.toNat=Bl→0≤j→∀x5:List D,
  loopW tab [1,4,5,6] mD {env:=upd (upd (upd (upd emp 6 (some (I j))) 5 (some (.rop x5))) 4 (some (.ref (0,0) []))) 1 (some (vpU u)),heap:=upd emp (0,0) (some (.s 8 [])),fr:=0,next:=1} =
  if Bl.any Cf=true then some (.ret,{env:=upd (upd emp 3 (some (B false))) 2 (some (.ref (0,0) [])),heap:=upd emp (0,0) (some (.s 8 [])),fr:=0,next:=1}) else some (.ext 0,{env:=upd (upd (upd emp 5 (some (.rop x5))) 4 (some (.ref (0,0) []))) 1 (some (vpU u)),heap:=upd emp (0,0) (some (.s 8 [])),fr:=0,next:=1})
 |[],j,hd,hj,x5=>by
  have hh:=cZ hd hj
  rw[List.any_nil,if_neg (by simp)]
  unfold loopW
  conv=>lhs;arg 1;unfold mD
  simp -implicitDefEqProofs (disch:=first|assumption|omega) only[go_sem,simprocAttr,hh]
 |t::Bl,j,hd,hj,x5=>by
  have hc:=cA hd hj
  have h2:=gC ZC.r hc.1
  have h4:=hc.2.1
  simp only[ZC.r] at h2
  have g:=Ip t.fOp
  rw[show inB t.fOp 13 19=Cf t from rfl] at g
  have ih:=zqH u hl F L H S hF Bl (j+1) hc.2.2.1 (by omega) x5
  rw[List.any_cons]
  cases hs:Cf t
  ·rw[hs] at g
   rw[Bool.false_or,←ih]
   conv=>lhs;unfold loopW;arg 1;unfold mD
   simp -implicitDefEqProofs (disch:=first|assumption|omega) only[go_sem,simprocAttr,h2,h4,g]
  ·rw[hs] at g
   rw[Bool.true_or,if_pos rfl]
   conv=>lhs;unfold loopW;arg 1;unfold mD
   simp -implicitDefEqProofs (disch:=first|assumption|omega) only[go_sem,simprocAttr,h2,h4,g]
structure PlOk (H:List Int) (t:ZC):Prop where
 lo:1≤t.fOp
 hi:t.fOp≤28
 un:¬(13≤t.fOp∧t.fOp≤19)
 ar:eA t=true
 nn:i64 t.fN
 rs:∀r∈aZ t++a8 t,okH H r
theorem Vu(u:ZD)(hnm:u.fName.size≤1048576)(hl:u.fCode.length≤900)(H:List Int)(fm:Int)(hf:0≤fm)(hf2:fm≤1000):∀(Bl:List ZC) (j:Int) (Ls:List ZB),u.fCode.drop j.toNat=Bl→0≤j→Ls.length+20*Bl.length≤100000→(∀t∈Bl,PlOk H t) →
  ∃L:List ZB,L.length≤20*Bl.length ∧
  loopW tab [6,36,37,38] oZ {env:=upd (upd (upd (upd emp 38 (some (I j))) 37 (some (I (u.fCode.length:Int)))) 36 (some (.d (.r (u.fCode.map ZC.r))))) 6 (some (.ptr (0,0) [] 0 0)),heap:=eH u H fm Ls,fr:=0,next:=1} =
   some (.ext 0,{env:=upd emp 6 (some (.ptr (0,0) [] 0 0)),heap:=eH u H fm (Ls++L),fr:=0,next:=1}) ∧
  loopW tab [1,7,8] oY {env:=upd (upd (upd emp 8 (some (I j))) 7 (some (.ptr (0,0) [] 0 0))) 1 (some (vpU u)),heap:=gH u.fName H fm Ls,fr:=0,next:=1} =
   some (.ext 2,{env:=upd emp 7 (some (.ptr (0,0) [] 0 0)),heap:=gH u.fName H fm (Ls++L),fr:=0,next:=1})
 |[],j,Ls,hd,hj,hb,hp=>by
  have hh:=cZ hd hj
  refine⟨[],by simp,?_,?_⟩
  ·rw[List.append_nil]
   unfold loopW
   conv=>lhs;arg 1;unfold oZ
   simp -implicitDefEqProofs (disch:=first|assumption|omega) only[go_sem,simprocAttr,hh]
  ·rw[List.append_nil]
   unfold loopW
   conv=>lhs;arg 1;unfold oY
   simp -implicitDefEqProofs (disch:=first|assumption|omega) only[go_sem,simprocAttr,hh]
 |t::Bl,j,Ls,hd,hj,hb,hp=>by
  have hc:=cA hd hj
  have h2:=gC ZC.r hc.1
  have h4:=hc.2.1
  simp only[ZC.r] at h2
  have ht:=hp t (by simp)
  rw[lc] at hb
  obtain⟨L1,l1,p1,p2⟩:=zJA u hnm H fm hf hf2 t Ls (by omega) ht.lo ht.hi ht.un ht.ar ht.nn ht.rs
  obtain⟨L2,l2,q1,q2⟩:=Vu u hnm hl H fm hf hf2 Bl (j+1) (Ls++L1) hc.2.2.1 (by omega) (by rw[la];omega) (fun t h=>hp t (by simp[h]))
  refine⟨L1++L2,by rw[la,lc];omega,?_,?_⟩
  ·rw[←List.append_assoc,←q1]
   generalize Ls++L1=W at *
   clear q1 q2 p2
   simp only[eH,ZC.x] at p1 ⊢
   conv=>lhs;unfold loopW;arg 1;unfold oZ
   simp -implicitDefEqProofs (disch:=first|assumption|omega|(simp only[aE,aM,aF,i64,sa,aD,lm,la,lc,ln];omega)) only[go_sem,simprocAttr,h2,h4,p1]
  ·rw[←List.append_assoc,←q2]
   generalize Ls++L1=W at *
   clear q1 q2 p1
   simp only[gH,ZC.x] at p2 ⊢
   conv=>lhs;unfold loopW;arg 1;unfold oY
   simp -implicitDefEqProofs (disch:=first|assumption|omega|(simp only[aE,aM,aF,i64,sa,aD,lm,la,lc,ln];omega)) only[go_sem,simprocAttr,h2,h4,p2]
set_option maxRecDepth 8000
set_option maxHeartbeats 16000000
theorem zQR{u:ZD}(h:sX u=true){t:ZC}(ht:t∈u.fCode):Nq t u.fRegs=true:=by
 simp only[sX,bE,inB,decide_eq_true_eq] at h
 obtain⟨⟨⟨⟨h1,h2⟩,h3⟩,h4⟩,h5⟩:=h
 obtain⟨k,hk⟩:=List.mem_iff_getElem?.1 ht
 have:=Dl u u.fCode 0 h4 k t hk
 simp only[Az,bE] at this
 exact this.1
theorem zVy{u:ZD}(hu:sX u=true)(hL:(bH u).Least (live u))(hn:u.fCode.any Cf=false){t:ZC}(ht:t∈u.fCode):PlOk (homU u).1 t:=by
 have hb:=zQR hu ht
 simp only[Nq,bE] at hb
 obtain⟨⟨⟨⟨⟨⟨⟨⟨⟨b1,b2⟩,b3⟩,b4⟩,b5⟩,_⟩,_⟩,_⟩,_⟩,_⟩:=hb
 simp only[inB,bE,decide_eq_true_eq] at b1
 have hs:Cf t=false:=by
  rw[List.any_eq_false] at hn
  simpa using hn t ht
 refine⟨b1.1,b1.2,fun h=> ?_,b2,?_,fun r hr=>zWr (oO hu) hL ht hr⟩
 ·simp[Cf,inB,h.1,h.2] at hs
 ·simp only[zQZ,inB,bE,decide_eq_true_eq] at b5
  exact⟨by omega,by omega⟩
def Po(u:ZD):ZB:=⟨u.fName,⟨0,0,0,0,0,0⟩,⟨#[]⟩⟩
theorem zzd(u:ZD)(hs:u.sm):∃(R:List ZB) (ok:Bool),R.length≤18001∧call tab Bh [u.x]=some (.tup [.d (.s 8 (R.map ZB.o)),B ok])∧call tab G6 [u.x]=some (.tup [.d (.s 8 (R.map ZB.o)),B ok]):=by
 have u0:=n5 u hs
 have u1:=Mo u hs
 by_cases hu:sX u=true
 ·have hr:=oO hu
  rw[hu] at u0 u1
  obtain⟨I1,hI,hL,_⟩:=kW u hr hs
  have i1:=Pa u hs hu
  obtain⟨F,L,g1⟩:=Ga u hs hr
  have hlen:=hr.len
  have hany:=sM s9 Cf emp 1 (lC _) (lC _) u.fCode (by omega) (fun t _=>Kx t emp 3 (lC _))
  have hgs:=zqH u (by omega) (I 0) (I 0) (I 0) (I 0) trivial u.fCode 0 rfl (by omega) [.r (aG F),.r (aG L),.r (aG (homU u).1),DI (homU u).2]
  have hsl:=Px hr
  by_cases hn:u.fCode.any Cf=true
  ·refine⟨[],false,by simp,?_,?_⟩
   ·rw[hn] at hany
    rw[aY sY _ rfl,pO]
    simp -implicitDefEqProofs (disch:=first|assumption|omega|(simp only[aE,aM,aF,i64,sa,aD,lm,la,lc,ln];omega)) only[go_sem,simprocAttr,u0,hany,mn]
   ·rw[if_pos hn] at hgs
    rw[aY tI _ rfl,pN]
    generalize homU u=S at *
    obtain⟨S1,S2⟩:=S
    simp -implicitDefEqProofs (disch:=first|assumption|omega|(simp only[aE,aM,aF,i64,sa,aD,lm,la,lc,ln];omega)) only[go_sem,simprocAttr,u1,g1,hgs,mn]
  ·rw[Bool.not_eq_true] at hn
   have hpl:=fun t ht=>zVy hu hL hn (t:=t) ht
   rw[hn] at hany
   rw[if_neg (by rw[hn];simp)] at hgs
   by_cases hf:(homU u).2+2≤60
   ·obtain⟨L1,l1,p1,p2⟩:=Vu u hs.1 hlen.2 (homU u).1 ((homU u).2+2) (by omega) (by omega) u.fCode 0 [Po u] rfl (by omega) (by simp;omega) hpl
    refine⟨[Po u]++L1,true,by simp;omega,?_,?_⟩
    ·clear p2 hpl g1 hgs
     simp only[eH] at p1
     generalize homU u=S at *
     obtain⟨S1,S2⟩:=S
     simp only at p1 hf hsl
     generalize [Po u]++L1=W at *
     rw[aY sY _ rfl,pO]
     simp only[Po,mc,mn,ZB.o] at p1
     simp -implicitDefEqProofs (disch:=first|assumption|omega|(simp only[aE,aM,aF,i64,sa,aD,lm,la,lc,ln];omega)) only[go_sem,simprocAttr,u0,hany,i1,p1,cO]
    ·clear p1 hpl i1
     simp only[gH] at p2
     generalize homU u=S at *
     obtain⟨S1,S2⟩:=S
     simp only at p2 hf hsl
     generalize [Po u]++L1=W at *
     rw[aY tI _ rfl,pN]
     simp only[Po,mc,mn,ZB.o] at p2
     simp -implicitDefEqProofs (disch:=first|assumption|omega|(simp only[aE,aM,aF,i64,sa,aD,lm,la,lc,ln];omega)) only[go_sem,simprocAttr,u1,g1,hgs,p2,mn,List.nil_append]
   ·refine⟨[],false,by simp,?_,?_⟩
    ·clear hpl g1 hgs
     generalize homU u=S at *
     obtain⟨S1,S2⟩:=S
     simp only at hf hsl
     rw[aY sY _ rfl,pO]
     simp -implicitDefEqProofs (disch:=first|assumption|omega|(simp only[aE,aM,aF,i64,sa,aD,lm,la,lc,ln];omega)) only[go_sem,simprocAttr,u0,hany,i1,mn]
    ·clear hpl i1
     generalize homU u=S at *
     obtain⟨S1,S2⟩:=S
     simp only at hf hsl
     rw[aY tI _ rfl,pN]
     simp -implicitDefEqProofs (disch:=first|assumption|omega|(simp only[aE,aM,aF,i64,sa,aD,lm,la,lc,ln];omega)) only[go_sem,simprocAttr,u1,g1,hgs,mn]
 ·rw[Bool.not_eq_true] at hu
  rw[hu] at u0 u1
  refine⟨[],false,by simp,?_,?_⟩
  ·rw[aY sY _ rfl,pO]
   simp -implicitDefEqProofs (disch:=first|assumption|omega|(simp only[aE,aM,aF,i64,sa,aD,lm,la,lc,ln];omega)) only[go_sem,simprocAttr,u0,mn]
  ·rw[aY tI _ rfl,pN]
   simp -implicitDefEqProofs (disch:=first|assumption|omega|(simp only[aE,aM,aF,i64,sa,aD,lm,la,lc,ln];omega)) only[go_sem,simprocAttr,u1,mn]
theorem Wq:∀xs:List ZB,ZB.cts xs=8*xs.length
 |[]=>rfl
 |x::xs=>by rw[ZB.cts,Wq xs];simp[ZB.ct];omega
theorem H3(u:ZD)(hU:u.ok):call tab oN [u.x]=some (B true):=by
 have g0:=J9 u 1048576 (by omega) hU
 rw[aY C9 _ rfl,rC]
 by_cases h0:(1048576:Int)<u.sz
 ·rw[if_pos h0] at g0
  simp -implicitDefEqProofs (disch:=first|assumption|omega|(simp only[aE,aM,aF,i64,sa,aD,lm,la,lc,ln];omega)) only[go_sem,simprocAttr,g0]
 ·rw[if_neg h0] at g0
  have r1:=ZD.sm_of (by omega:u.sz≤1048576)
  have g1:=Lx u r1
  obtain⟨R,ok,hR,e1,e2⟩:=zzd u r1
  have g4:=Lp u r1
  have n1:=u.ctv_le
  have g5:=G8 u 1 (by omega) (by omega)
  have g6:=F7 R (by omega)
  have n2:=Wq R
  have g7:=Ej R 1 (by omega) (by omega)
  have g8:=E8 R 1 (by omega) (by omega)
  have hz:¬1048576-u.sz<0:=by omega
  have hz0:0≤u.ctv:=by have:=ZC.cts_nn u.fCode;unfold ZD.ctv;omega
  generalize 1048576-u.sz=z at *
  cases ok<;>simp -implicitDefEqProofs (disch:=first|assumption|omega|(simp only[aE,aM,aF,i64,sa,aD,lm,la,lc,ln];omega)) only[go_sem,simprocAttr,g0,g1,e1,e2,g4,g5,g6,g7,g8,hz,ZB.fzs,ZB.fzr,ZB.noR,ZC.fzs,ZC.fzr,ZC.noR]
theorem pure_FnExactEmit(xs:List X)(h:zj2 [(true,[.s,.i .i64,.i .i64,.l 80 [.i .i64,.i .i64,.i .i64,.i .i64,.i .i64,.s,.l 8 [.i .i64]]])] xs):call tab oN xs=some (.d (.v (.bool true))):=by
 simp only[zj2,zXS] at h
 obtain⟨x0,r0,rfl,⟨d0,rfl,hf0⟩,rfl⟩:=h
 obtain⟨y0,rfl,hy0⟩:=ZD.fit hf0
 exact H3 y0 hy0
end Go.Ev.G
