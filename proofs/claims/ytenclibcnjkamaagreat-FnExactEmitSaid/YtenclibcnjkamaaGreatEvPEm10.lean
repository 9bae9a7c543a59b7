import Derived.Test.YtenclibcnjkamaaGreatEvPUnit2
import Derived.Test.YtenclibcnjkamaaGreatEvPNeed2
import Derived.Test.YtenclibcnjkamaaGreatEvQLine2
set_option linter.all false
namespace Go.Ev.G
set_option maxRecDepth 8000
set_option maxHeartbeats 4000000
theorem x9(f:Nat)(p:ZC→Bool)(h:Heap)(fr:Nat)(hh:cB fr h=h)(xs:List ZC)(hx:xs.length≤140737488351232)(hf:∀x∈xs,evCW tab f [x.x] h (fr+1)=some (B (p x),h)):∀(Bl:List ZC) (j:Int),xs.drop j.toNat=Bl→0≤j →
  loopW tab [0,1,7,8] bI {env:=upd (upd (upd (upd emp 8 (some (I j))) 7 (some (I (xs.length:Int)))) 1 (some (.d (.v (.func (.func f) #[] #[]))))) 0 (some (.d (.r (xs.map (ZC.r))))),heap:=h,fr:=fr,next:=0}=if bC p j Bl= -1 then some (.ext 0,{env:=emp,heap:=h,fr:=fr,next:=0}) else some (.ret,{env:=upd emp 4 (some (I (bC p j Bl))),heap:=h,fr:=fr,next:=0})
 |[],j,hd,hj=>by
  unfold loopW
  conv=>lhs;arg 1;unfold bI
  have:=cY hd hj
  simp only[bC,if_true]
  (repeat'(first|simp -implicitDefEqProofs (disch:=first|assumption|omega|(simp only[aE,aM,aF,i64,sa,aD,lm,la,lc,ln];omega)) only[go_sem,simprocAttr,hh]|((first|rw[aP]|rw[aH]|rw[aK]|rw[aO]|rw[aN]|rw[aJ]|rw[aI]|rw[aQ]|skip);split)))
 |x::Bl,j,hd,hj=>by
  unfold loopW
  conv=>lhs;arg 1;unfold bI
  have h4:=(cA hd hj).2.1
  have ih:=x9 f p h fr hh xs hx hf Bl (j+1) (cA hd hj).2.2.1 (by omega)
  have h2:=gC (ZC.r) (cA hd hj).1
  simp only[ZC.r] at h2
  have h3:=hf x (cA hd hj).2.2.2.1
  rw[bC]
  by_cases hp:p x=true
  ·rw[if_pos hp,if_neg (by omega)]
   (repeat'(first|simp -implicitDefEqProofs (disch:=first|assumption|omega|(simp only[aE,aM,aF,i64,sa,aD,lm,la,lc,ln];omega)) only[go_sem,simprocAttr,h2,h3,hh]|((first|rw[aP]|rw[aH]|rw[aK]|rw[aO]|rw[aN]|rw[aJ]|rw[aI]|rw[aQ]|skip);split)))
  ·rw[if_neg hp,←ih]
   (repeat'(first|simp -implicitDefEqProofs (disch:=first|assumption|omega|(simp only[aE,aM,aF,i64,sa,aD,lm,la,lc,ln];omega)) only[go_sem,simprocAttr,h2,h3,hh]|((first|rw[aP]|rw[aH]|rw[aK]|rw[aO]|rw[aN]|rw[aJ]|rw[aI]|rw[aQ]|skip);split)))
theorem xJ(f:Nat)(p:ZC→Bool)(h:Heap)(fr:Nat)(hh:cB fr h=h)(xs:List ZC)(hx:xs.length≤140737488351232)(hf:∀x∈xs,evCW tab f [x.x] h (fr+1)=some (B (p x),h)):evCW tab b9 [.d (.r (xs.map (ZC.r))),.d (.v (.func (.func f) #[] #[]))] h fr=some (I (bC p 0 xs),h):=by
 rw[aR eT _ _ _ rfl,dE]
 have h0:=x9 f p h fr hh xs hx hf xs 0 rfl (by omega)
 by_cases hp:bC p 0 xs= -1
 ·rw[if_pos hp] at h0
  (repeat'(first|simp -implicitDefEqProofs (disch:=first|assumption|omega|(simp only[aE,aM,aF,i64,sa,aD,lm,la,lc,ln];omega)) only[go_sem,simprocAttr,hh,h0,hp]|((first|rw[aP]|rw[aH]|rw[aK]|rw[aO]|rw[aN]|rw[aJ]|rw[aI]|rw[aQ]|skip);split)))
 ·rw[if_neg hp] at h0
  (repeat'(first|simp -implicitDefEqProofs (disch:=first|assumption|omega|(simp only[aE,aM,aF,i64,sa,aD,lm,la,lc,ln];omega)) only[go_sem,simprocAttr,hh,h0,hp]|((first|rw[aP]|rw[aH]|rw[aK]|rw[aO]|rw[aN]|rw[aJ]|rw[aI]|rw[aQ]|skip);split)))
theorem sQ(f:Nat)(p:ZC→Bool)(h:Heap)(fr:Nat)(hh:cB fr h=h)(hh':cB (fr+1) h=h)(xs:List ZC)(hx:xs.length≤140737488351232)(hf:∀x∈xs,evCW tab f [x.x] h (fr+2)=some (B (p x),h)):evCW tab c8 [.d (.r (xs.map (ZC.r))),.d (.v (.func (.func f) #[] #[]))] h fr=some (B (xs.any p),h):=by
 rw[aR kM _ _ _ rfl,d8]
 have h0:=xJ f p h (fr+1) hh' xs hx hf
 rw[At p 0 (by omega)]
 (repeat'(first|simp -implicitDefEqProofs (disch:=first|assumption|omega|(simp only[aE,aM,aF,i64,sa,aD,lm,la,lc,ln];omega)) only[go_sem,simprocAttr,hh,h0]|((first|rw[aP]|rw[aH]|rw[aK]|rw[aO]|rw[aN]|rw[aJ]|rw[aI]|rw[aQ]|skip);split)))
set_option maxRecDepth 8000
set_option maxHeartbeats 8000000
def aS(op r a bb n m:Int)(to:ByteArray):ZB:=⟨⟨#[]⟩,⟨op,r,a,bb,n,m⟩,to⟩
abbrev eH(u:ZD)(H:List Int)(fm:Int)(Ls:List ZB):Heap:=upd emp (0,0) (some (.s 7 [[DS u.fName,DI u.fParams,DI u.fRegs,.r (u.fCode.map ZC.r),.s 1 (aG H),DI fm,.s 8 (Ls.map ZB.o)]]))
abbrev gH(nm:ByteArray)(H:List Int)(fm:Int)(Ls:List ZB):Heap:=upd emp (0,0) (some (.s 4 [[DS nm,.r (aG H),DI fm,.s 8 (Ls.map ZB.o)]]))
theorem bN(x:Option D):cB 1 (upd emp (0,0) x)=upd emp (0,0) x:=by
 funext id
 simp only[cB]
 split
 ·rename_i h
  have:id≠(0,0):=fun e=>by rw[e] at h;simp at h
  simp[upd,this,emp]
 ·rfl
theorem zy5(Ls:List ZB)(op r a bb n m:Int)(to:ByteArray):(Ls++[aS op r a bb n m to]).map ZB.o=Ls.map ZB.o++[[DS ⟨#[]⟩,DI op,DI r,DI a,DI bb,DI n,DI m,DS to]]:=by simp[aS,ZB.o]
theorem pW(u:ZD)(H:List Int)(fm:Int)(Ls:List ZB)(hl:Ls.length≤1000000)(op r a bb n m:Int)(to:ByteArray):evCW tab bG [.ptr (0,0) [] 0 0,.agg [I op,I r,I a,I bb,I n,I m],Str to] (eH u H fm Ls) 1=some (.tup [],eH u H fm (Ls++[aS op r a bb n m to])):=by
 have hd:=bN
 have e:=zy5 Ls op r a bb n m to
 have h2:(Ls.map ZB.o).length≤1000000:=by simp;omega
 rw[aR De _ _ _ rfl,rK]
 simp only[eH,e]
 generalize Ls.map ZB.o=W at *
 simp -implicitDefEqProofs (disch:=first|assumption|omega|(simp only[aE,aM,aF,i64,sa,aD,lm,la,lc,ln];omega)) only[go_sem,simprocAttr,hd]
theorem uY(nm:ByteArray)(H:List Int)(fm:Int)(Ls:List ZB)(hl:Ls.length≤1000000)(op r a bb n m:Int):evCW tab cE [.ptr (0,0) [] 0 0,.agg [I op,I r,I a,I bb,I n,I m]] (gH nm H fm Ls) 1=some (.tup [],gH nm H fm (Ls++[aS op r a bb n m ⟨#[]⟩])):=by
 have hd:=bN
 have e:=zy5 Ls op r a bb n m ⟨#[]⟩
 have h2:(Ls.map ZB.o).length≤1000000:=by simp;omega
 rw[aR Ow _ _ _ rfl,C4]
 simp only[gH,e]
 generalize Ls.map ZB.o=W at *
 simp -implicitDefEqProofs (disch:=first|assumption|omega|(simp only[aE,aM,aF,i64,sa,aD,lm,la,lc,ln];omega)) only[go_sem,simprocAttr,hd]
theorem gto(nm:ByteArray)(H:List Int)(fm:Int)(Ls:List ZB)(hl:Ls.length≤1000000)(op r a bb n m:Int)(to:ByteArray):evCW tab oS [.ptr (0,0) [] 0 0,.agg [I op,I r,I a,I bb,I n,I m],Str to] (gH nm H fm Ls) 1=some (.tup [],gH nm H fm (Ls++[aS op r a bb n m to])):=by
 have hd:=bN
 have e:=zy5 Ls op r a bb n m to
 have h2:(Ls.map ZB.o).length≤1000000:=by simp;omega
 rw[aR Tx _ _ _ rfl,Eh]
 simp only[gH,e]
 generalize Ls.map ZB.o=W at *
 simp -implicitDefEqProofs (disch:=first|assumption|omega|(simp only[aE,aM,aF,i64,sa,aD,lm,la,lc,ln];omega)) only[go_sem,simprocAttr,hd]
def rdL(h r:Int):List ZB:=if h<10 then [] else [aS 8 r 6 0 (2+h-10) 0 ⟨#[]⟩]
def rdV(h r:Int):Int:=if h<10 then h else r
def kpL(h r:Int):List ZB:=if 10≤h then [aS 9 0 6 r (2+h-10) 0 ⟨#[]⟩] else if 0≤h∧h≠r then [aS 2 h r 0 0 0 ⟨#[]⟩] else []
theorem i7(u:ZD)(H:List Int)(fm:Int)(Ls:List ZB)(hl:Ls.length≤1000000)(q r:Int)(h0:0≤q)(hq:q<H.length)(hb:aB H q≤1000000)(hn:0≤aB H q):evCW tab bV [.ptr (0,0) [] 0 0,I q,I r] (eH u H fm Ls) 1=some (I (rdV (aB H q) r),eH u H fm (Ls++rdL (aB H q) r)):=by
 have hd:=bN
 have f1:=(bO (zs:=H) h0 hq).1
 have n1:(aG H).length=H.length:=by simp[aG]
 have p:=fun h=>pW u H fm Ls hl 8 r 6 0 (2+h-10) 0 ⟨#[]⟩
 rw[aR B9 _ _ _ rfl,qL]
 generalize aB H q=z at *
 have pz:=p z
 by_cases h:z<10
 ·rw[rdV,rdL,if_pos h,if_pos h,List.append_nil]
  simp -implicitDefEqProofs (disch:=first|assumption|omega|(simp only[aE,aM,aF,i64,sa,aD,lm,la,lc,ln];omega)) only[go_sem,simprocAttr,f1,n1,h,hd]
 ·rw[rdV,rdL,if_neg h,if_neg h]
  simp only[eH] at pz ⊢
  simp -implicitDefEqProofs (disch:=first|assumption|omega|(simp only[aE,aM,aF,i64,sa,aD,lm,la,lc,ln];omega)) only[go_sem,simprocAttr,f1,n1,h,hd,pz]
theorem jA(nm:ByteArray)(H:List Int)(fm:Int)(Ls:List ZB)(hl:Ls.length≤1000000)(q r:Int)(h0:0≤q)(hq:q<H.length)(hb:aB H q≤1000000)(hn:0≤aB H q):evCW tab eX [.ptr (0,0) [] 0 0,I q,I r] (gH nm H fm Ls) 1=some (I (rdV (aB H q) r),gH nm H fm (Ls++rdL (aB H q) r)):=by
 have hd:=bN
 have f1:=(bO (zs:=H) h0 hq).1
 have n1:(aG H).length=H.length:=by simp[aG]
 have p:=fun h=>uY nm H fm Ls hl 8 r 6 0 (2+h-10) 0
 rw[aR Mx _ _ _ rfl,z7]
 generalize aB H q=z at *
 have pz:=p z
 by_cases h:z<10
 ·rw[rdV,rdL,if_pos h,if_pos h,List.append_nil]
  simp -implicitDefEqProofs (disch:=first|assumption|omega|(simp only[aE,aM,aF,i64,sa,aD,lm,la,lc,ln];omega)) only[go_sem,simprocAttr,f1,n1,h,hn,hd]
 ·rw[rdV,rdL,if_neg h,if_neg h]
  simp only[gH] at pz ⊢
  simp -implicitDefEqProofs (disch:=first|assumption|omega|(simp only[aE,aM,aF,i64,sa,aD,lm,la,lc,ln];omega)) only[go_sem,simprocAttr,f1,n1,h,hn,show ¬z<0 by omega,hd,pz]
theorem x4(u:ZD)(H:List Int)(fm:Int)(Ls:List ZB)(hl:Ls.length≤1000000)(q r:Int)(h0:0≤q)(hq:q<H.length)(hb:aB H q≤1000000):evCW tab cJ [.ptr (0,0) [] 0 0,I q,I r] (eH u H fm Ls) 1=some (.tup [],eH u H fm (Ls++kpL (aB H q) r)):=by
 have hd:=bN
 have f1:=(bO (zs:=H) h0 hq).1
 have n1:(aG H).length=H.length:=by simp[aG]
 have p:=fun h=>pW u H fm Ls hl 9 0 6 r (2+h-10) 0 ⟨#[]⟩
 have p2:=fun h=>pW u H fm Ls hl 2 h r 0 0 0 ⟨#[]⟩
 rw[aR B8 _ _ _ rfl,qO]
 generalize aB H q=z at *
 have pz:=p z
 have pz2:=p2 z
 simp only[eH] at pz pz2 ⊢
 by_cases h:10≤z
 ·rw[kpL,if_pos h]
  simp -implicitDefEqProofs (disch:=first|assumption|omega|(simp only[aE,aM,aF,i64,sa,aD,lm,la,lc,ln];omega)) only[go_sem,simprocAttr,f1,n1,h,hd,pz]
 ·rw[kpL,if_neg h]
  by_cases h2:0≤z
  ·by_cases h3:z=r
   ·rw[if_neg (by simp[h3]),List.append_nil]
    subst h3
    simp -implicitDefEqProofs (disch:=first|assumption|omega|(simp only[aE,aM,aF,i64,sa,aD,lm,la,lc,ln];omega)) only[go_sem,simprocAttr,f1,n1,h,h2,hd]
   ·rw[if_pos ⟨h2,h3⟩]
    simp -implicitDefEqProofs (disch:=first|assumption|omega|(simp only[aE,aM,aF,i64,sa,aD,lm,la,lc,ln];omega)) only[go_sem,simprocAttr,f1,n1,h,h2,h3,hd,pz2]
  ·rw[if_neg (by omega),List.append_nil]
   simp -implicitDefEqProofs (disch:=first|assumption|omega|(simp only[aE,aM,aF,i64,sa,aD,lm,la,lc,ln];omega)) only[go_sem,simprocAttr,f1,n1,h,h2,hd]
theorem x7(nm:ByteArray)(H:List Int)(fm:Int)(Ls:List ZB)(hl:Ls.length≤1000000)(q r:Int)(h0:0≤q)(hq:q<H.length)(hb:aB H q≤1000000):evCW tab dU [.ptr (0,0) [] 0 0,I q,I r] (gH nm H fm Ls) 1=some (.tup [],gH nm H fm (Ls++kpL (aB H q) r)):=by
 have hd:=bN
 have f1:=(bO (zs:=H) h0 hq).1
 have n1:(aG H).length=H.length:=by simp[aG]
 have p:=fun h=>uY nm H fm Ls hl 9 0 6 r (2+h-10) 0
 have p2:=fun h=>uY nm H fm Ls hl 2 h r 0 0 0
 rw[aR Ib _ _ _ rfl,xZ]
 generalize aB H q=z at *
 have pz:=p z
 have pz2:=p2 z
 simp only[gH] at pz pz2 ⊢
 by_cases h:10≤z
 ·rw[kpL,if_pos h]
  simp -implicitDefEqProofs (disch:=first|assumption|omega|(simp only[aE,aM,aF,i64,sa,aD,lm,la,lc,ln];omega)) only[go_sem,simprocAttr,f1,n1,h,hd,pz]
 ·rw[kpL,if_neg h]
  by_cases h2:0≤z
  ·by_cases h3:z=r
   ·rw[if_neg (by simp[h3]),List.append_nil]
    subst h3
    simp -implicitDefEqProofs (disch:=first|assumption|omega|(simp only[aE,aM,aF,i64,sa,aD,lm,la,lc,ln];omega)) only[go_sem,simprocAttr,f1,n1,h,h2,hd]
   ·rw[if_pos ⟨h2,h3⟩]
    simp -implicitDefEqProofs (disch:=first|assumption|omega|(simp only[aE,aM,aF,i64,sa,aD,lm,la,lc,ln];omega)) only[go_sem,simprocAttr,f1,n1,h,h2,h3,hd,pz2]
  ·rw[if_neg (by omega),List.append_nil]
   simp -implicitDefEqProofs (disch:=first|assumption|omega|(simp only[aE,aM,aF,i64,sa,aD,lm,la,lc,ln];omega)) only[go_sem,simprocAttr,f1,n1,h,h2,hd]
set_option maxRecDepth 8000
set_option maxHeartbeats 8000000
def p9(nm:ByteArray)(n:Int):ByteArray:=nm++⟨#[46]⟩++dig n
def Di(nm:ByteArray)(n:Int):ZB:=⟨p9 nm n,⟨0,0,0,0,0,0⟩,⟨#[]⟩⟩
theorem aX(h r:Int):(rdL h r).length≤1:=by unfold rdL;split<;>simp
theorem mV(h r:Int):(kpL h r).length≤1:=by
 unfold kpL
 split
 ·simp
 ·split<;>simp
def okH(H:List Int)(q:Int):Prop:=0≤q∧q<H.length∧0≤aB H q∧aB H q≤1000000
theorem zjJ{nm:ByteArray}(h:nm.size≤1048576){n:Int}(hn:i64 n):aE nm ⟨#[46]⟩∧aE (nm++⟨#[46]⟩) (dig n):=by
 have h2:=Eu hn
 have h3:(⟨#[46]⟩:ByteArray).size=1:=rfl
 constructor
 ·show nm.size+(⟨#[46]⟩:ByteArray).size≤_
  omega
 ·show(nm++⟨#[46]⟩).size+(dig n).size≤_
  rw[sa]
  omega
theorem By(a:ByteArray)(l:List D):fzl (DS a::l)=DS a::fzl l:=rfl
theorem Zh(nm:ByteArray)(hn:nm.size≤1048576)(cs:List D)(n:Int)(h:i64 n):call tab fU [.rop (DS nm::cs),I n]=some (Str (p9 nm n)):=by
 have g:=Ke h
 obtain⟨c1,c2⟩:=zjJ hn h
 rw[aY Ag _ rfl,pK,p9]
 generalize dig n=dg at *
 simp -implicitDefEqProofs (disch:=first|assumption|omega|(simp only[aE,aM,aF,i64,sa,aD,lm,la,lc,ln];omega)) only[go_sem,simprocAttr,g,c1,c2,List.drop_zero,List.take_succ_cons,List.take_zero]
theorem zzP(nm:ByteArray)(hn:nm.size≤1048576)(cs:List D)(n:Int)(h:i64 n):call tab l7 [.rop (DS nm::cs),I n]=some (Str (p9 nm n)):=by
 have g:=M9 h
 obtain⟨c1,c2⟩:=zjJ hn h
 rw[aY Il _ rfl,yD,p9]
 generalize dig n=dg at *
 simp -implicitDefEqProofs (disch:=first|assumption|omega|(simp only[aE,aM,aF,i64,sa,aD,lm,la,lc,ln];omega)) only[go_sem,simprocAttr,g,c1,c2,List.drop_zero,List.take_succ_cons,List.take_zero]
def mY(H:List Int)(fm:Int):Int→List Int→List ZB
 |_,[]=>[]
 |j,q::qs=>rdL (aB H q) 3++[aS 9 0 6 (rdV (aB H q) 3) (fm+2+j) 0 ⟨#[]⟩]++mY H fm (j+1) qs
theorem Fl(H:List Int)(fm:Int):∀(qs:List Int) (j:Int),(mY H fm j qs).length≤2*qs.length
 |[],j=>by simp[mY]
 |q::qs,j=>by
  have h1:=aX (aB H q) 3
  have h2:=Fl H fm qs (j+1)
  rw[mY,la,la,List.length_singleton,lc]
  omega
theorem zYI(u:ZD)(op fD fA fB fN:Int)(fS:ByteArray)(H:List Int)(fm:Int)(hf:0≤fm)(hf2:fm≤1000)(xs:List Int)(hx:xs.length≤4)(hq:∀q∈xs,okH H q):∀(Bl:List Int) (j:Int) (Ls:List ZB),xs.drop j.toNat=Bl→0≤j→Ls.length≤900000+2*j →
  loopW tab [0,3,8,9,10] gA {env:=upd (upd (upd (upd (upd emp 10 (some (I j))) 9 (some (I (xs.length:Int)))) 8 (some (.d (.r (aG xs))))) 3 (some (.vp [I op,I fD,I fA,I fB,I fN,Str fS,.d (.r (aG xs))]))) 0 (some (.ptr (0,0) [] 0 0)),heap:=eH u H fm Ls,fr:=1,next:=0} =
  some (.ext 0,{env:=upd (upd emp 3 (some (.vp [I op,I fD,I fA,I fB,I fN,Str fS,.d (.r (aG xs))]))) 0 (some (.ptr (0,0) [] 0 0)),heap:=eH u H fm (Ls++mY H fm j Bl),fr:=1,next:=0})
 |[],j,Ls,hd,hj,hl=>by
  have hh:=cY hd hj
  have hdr:=bN
  unfold loopW
  conv=>lhs;arg 1;unfold gA
  simp only[mY,List.append_nil]
  simp -implicitDefEqProofs (disch:=first|assumption|omega) only[go_sem,simprocAttr,hh,hdr]
 |q::Bl,j,Ls,hd,hj,hl=>by
  have hc:=cA hd hj
  have hdr:=bN
  have h2:=gC (fun n=>[DI n]) hc.1
  have h4:=hc.2.1
  obtain⟨q0,q1,q2,q3⟩:=hq q hc.2.2.2.1
  have hrl:=aX (aB H q) 3
  have ih:=zYI u op fD fA fB fN fS H fm hf hf2 xs hx hq Bl (j+1) (Ls++rdL (aB H q) 3++[aS 9 0 6 (rdV (aB H q) 3) (fm+2+j) 0 ⟨#[]⟩]) hc.2.2.1 (by omega) (by simp only[la,List.length_singleton];omega)
  rw[mY,show Ls++(rdL (aB H q) 3++[aS 9 0 6 (rdV (aB H q) 3) (fm+2+j) 0 ⟨#[]⟩]++mY H fm (j+1) Bl)=Ls++rdL (aB H q) 3++[aS 9 0 6 (rdV (aB H q) 3) (fm+2+j) 0 ⟨#[]⟩]++mY H fm (j+1) Bl by simp,←ih]
  have s1:=i7 u H fm Ls (by omega) q 3 q0 q1 q3 q2
  have s2:=pW u H fm (Ls++rdL (aB H q) 3) (by rw[la];omega) 9 0 6 (rdV (aB H q) 3) (fm+2+j) 0 ⟨#[]⟩
  generalize Ls++rdL (aB H q) 3++[aS 9 0 6 (rdV (aB H q) 3) (fm+2+j) 0 ⟨#[]⟩]=L2 at *
  generalize Ls++rdL (aB H q) 3=L1 at *
  generalize rdV (aB H q) 3=v at *
  simp only[eH] at s1 s2 ⊢
  conv=>lhs;unfold loopW;arg 1;unfold gA
  simp -implicitDefEqProofs (disch:=first|assumption|omega|(simp only[aE,aM,aF,i64,sa,aD,lm,la,lc,ln];omega)) only[go_sem,simprocAttr,h2,h4,hdr,s1,s2]
theorem zYQ(nm:ByteArray)(op fD fA fB fN:Int)(fS:ByteArray)(H:List Int)(fm:Int)(hf:0≤fm)(hf2:fm≤1000)(xs:List Int)(hx:xs.length≤4)(hq:∀q∈xs,okH H q):∀(Bl:List Int) (j:Int) (Ls:List ZB),xs.drop j.toNat=Bl→0≤j→Ls.length≤900000+2*j →
  loopW tab [0,3,4] lI {env:=upd (upd (upd emp 4 (some (I j))) 3 (some (.vp [I op,I fD,I fA,I fB,I fN,Str fS,.d (.r (aG xs))]))) 0 (some (.ptr (0,0) [] 0 0)),heap:=gH nm H fm Ls,fr:=1,next:=0} =
  some (.ext 0,{env:=upd (upd emp 3 (some (.vp [I op,I fD,I fA,I fB,I fN,Str fS,.d (.r (aG xs))]))) 0 (some (.ptr (0,0) [] 0 0)),heap:=gH nm H fm (Ls++mY H fm j Bl),fr:=1,next:=0})
 |[],j,Ls,hd,hj,hl=>by
  have hh:=cY hd hj
  have hdr:=bN
  unfold loopW
  conv=>lhs;arg 1;unfold lI
  simp only[mY,List.append_nil]
  simp -implicitDefEqProofs (disch:=first|assumption|omega) only[go_sem,simprocAttr,hh,hdr]
 |q::Bl,j,Ls,hd,hj,hl=>by
  have hc:=cA hd hj
  have hdr:=bN
  have h2:=gC (fun n=>[DI n]) hc.1
  have h4:=hc.2.1
  obtain⟨q0,q1,q2,q3⟩:=hq q hc.2.2.2.1
  have hrl:=aX (aB H q) 3
  have ih:=zYQ nm op fD fA fB fN fS H fm hf hf2 xs hx hq Bl (j+1) (Ls++rdL (aB H q) 3++[aS 9 0 6 (rdV (aB H q) 3) (fm+2+j) 0 ⟨#[]⟩]) hc.2.2.1 (by omega) (by simp only[la,List.length_singleton];omega)
  rw[mY,show Ls++(rdL (aB H q) 3++[aS 9 0 6 (rdV (aB H q) 3) (fm+2+j) 0 ⟨#[]⟩]++mY H fm (j+1) Bl)=Ls++rdL (aB H q) 3++[aS 9 0 6 (rdV (aB H q) 3) (fm+2+j) 0 ⟨#[]⟩]++mY H fm (j+1) Bl by simp,←ih]
  have s1:=jA nm H fm Ls (by omega) q 3 q0 q1 q3 q2
  have s2:=uY nm H fm (Ls++rdL (aB H q) 3) (by rw[la];omega) 9 0 6 (rdV (aB H q) 3) (fm+2+j) 0
  generalize Ls++rdL (aB H q) 3++[aS 9 0 6 (rdV (aB H q) 3) (fm+2+j) 0 ⟨#[]⟩]=L2 at *
  generalize Ls++rdL (aB H q) 3=L1 at *
  generalize rdV (aB H q) 3=v at *
  simp only[gH] at s1 s2 ⊢
  conv=>lhs;unfold loopW;arg 1;unfold lI
  simp -implicitDefEqProofs (disch:=first|assumption|omega|(simp only[aE,aM,aF,i64,sa,aD,lm,la,lc,ln];omega)) only[go_sem,simprocAttr,h2,h4,hdr,s1,s2]
set_option maxRecDepth 8000
set_option maxHeartbeats 8000000
theorem z9V(u:ZD)(hnm:u.fName.size≤1048576)(H:List Int)(fm:Int)(hf:0≤fm)(hf2:fm≤1000)(fD fA fB fN:Int)(fS:ByteArray)(args:List Int)(Ls:List ZB)(hl:Ls.length≤900000)(hx:args.length≤4)(hq:∀q∈args,okH H q)(h_fD:okH H fD):evCW tab n6 [.ptr (0,0) [] 0 0,.agg [I 11,I fD,I fA,I fB,I fN,Str fS,.d (.r (aG args))]] (eH u H fm Ls) 1=some (.tup [],eH u H fm (Ls++mY H fm 0 args++[aS 13 0 0 0 0 fm fS]++kpL (aB H fD) 0)):=by
 have hdr:=bN
 obtain⟨fD0,fD1,fD2,fD3⟩:=h_fD
 have lar:=Fl H fm args 0
 have s0:=zYI u 11 fD fA fB fN fS H fm hf hf2 args hx hq args 0 Ls rfl (by omega) (by omega)
 have s1:=pW u H fm (Ls++mY H fm 0 args) (by first|exact(by omega)|(simp only[la,List.length_singleton];omega)) 13 0 0 0 0 fm fS
 have s2:=x4 u H fm (Ls++mY H fm 0 args++[aS 13 0 0 0 0 fm fS]) (by first|exact(by omega)|(simp only[la,List.length_singleton];omega)) fD 0 fD0 fD1 fD3
 generalize Ls++mY H fm 0 args++[aS 13 0 0 0 0 fm fS]++kpL (aB H fD) 0=L3 at *
 generalize Ls++mY H fm 0 args++[aS 13 0 0 0 0 fm fS]=L2 at *
 generalize Ls++mY H fm 0 args=L1 at *
 simp only[eH] at s0 s1 s2 ⊢
 rw[aR B7 _ _ _ rfl,qM]
 simp -implicitDefEqProofs (disch:=first|assumption|omega|(simp only[aE,aM,aF,i64,sa,aD,lm,la,lc,ln];omega)) only[go_sem,simprocAttr,hdr,s0,s1,s2]
theorem z88(u:ZD)(hnm:u.fName.size≤1048576)(H:List Int)(fm:Int)(hf:0≤fm)(hf2:fm≤1000)(fD fA fB fN:Int)(fS:ByteArray)(args:List Int)(Ls:List ZB)(hl:Ls.length≤900000)(h_fA:okH H fA)(h_fD:okH H fD):evCW tab eU [.ptr (0,0) [] 0 0,.agg [I 20,I fD,I fA,I fB,I fN,Str fS,.d (.r (aG args))]] (eH u H fm Ls) 1=some (.tup [],eH u H fm (Ls++rdL (aB H fA) 3++[aS 8 5 (rdV (aB H fA) 3) 0 0 0 ⟨#[]⟩]++kpL (aB H fD) 5)):=by
 have hdr:=bN
 obtain⟨fA0,fA1,fA2,fA3⟩:=h_fA
 obtain⟨fD0,fD1,fD2,fD3⟩:=h_fD
 have l_vA:=aX (aB H fA) 3
 have s0:=i7 u H fm (Ls) (by first|exact(by omega)|(simp only[la,List.length_singleton];omega)) fA 3 fA0 fA1 fA3 fA2
 have s1:=pW u H fm (Ls++rdL (aB H fA) 3) (by first|exact(by omega)|(simp only[la,List.length_singleton];omega)) 8 5 (rdV (aB H fA) 3) 0 0 0 ⟨#[]⟩
 have s2:=x4 u H fm (Ls++rdL (aB H fA) 3++[aS 8 5 (rdV (aB H fA) 3) 0 0 0 ⟨#[]⟩]) (by first|exact(by omega)|(simp only[la,List.length_singleton];omega)) fD 5 fD0 fD1 fD3
 generalize Ls++rdL (aB H fA) 3++[aS 8 5 (rdV (aB H fA) 3) 0 0 0 ⟨#[]⟩]++kpL (aB H fD) 5=L3 at *
 generalize Ls++rdL (aB H fA) 3++[aS 8 5 (rdV (aB H fA) 3) 0 0 0 ⟨#[]⟩]=L2 at *
 generalize Ls++rdL (aB H fA) 3=L1 at *
 generalize rdV (aB H fA) 3=vA at *
 simp only[eH] at s0 s1 s2 ⊢
 rw[aR j7 _ _ _ rfl,gB]
 simp -implicitDefEqProofs (disch:=first|assumption|omega|(simp only[aE,aM,aF,i64,sa,aD,lm,la,lc,ln];omega)) only[go_sem,simprocAttr,hdr,s0,s1,s2]
theorem z9W(u:ZD)(hnm:u.fName.size≤1048576)(H:List Int)(fm:Int)(hf:0≤fm)(hf2:fm≤1000)(fD fA fB fN:Int)(fS:ByteArray)(args:List Int)(Ls:List ZB)(hl:Ls.length≤900000)(h_fA:okH H fA)(h_fB:okH H fB):evCW tab eU [.ptr (0,0) [] 0 0,.agg [I 21,I fD,I fA,I fB,I fN,Str fS,.d (.r (aG args))]] (eH u H fm Ls) 1=some (.tup [],eH u H fm (Ls++rdL (aB H fA) 3++rdL (aB H fB) 4++[aS 9 0 (rdV (aB H fA) 3) (rdV (aB H fB) 4) 0 0 ⟨#[]⟩])):=by
 have hdr:=bN
 obtain⟨fA0,fA1,fA2,fA3⟩:=h_fA
 obtain⟨fB0,fB1,fB2,fB3⟩:=h_fB
 have l_vA:=aX (aB H fA) 3
 have l_vB:=aX (aB H fB) 4
 have s0:=i7 u H fm (Ls) (by first|exact(by omega)|(simp only[la,List.length_singleton];omega)) fA 3 fA0 fA1 fA3 fA2
 have s1:=i7 u H fm (Ls++rdL (aB H fA) 3) (by first|exact(by omega)|(simp only[la,List.length_singleton];omega)) fB 4 fB0 fB1 fB3 fB2
 have s2:=pW u H fm (Ls++rdL (aB H fA) 3++rdL (aB H fB) 4) (by first|exact(by omega)|(simp only[la,List.length_singleton];omega)) 9 0 (rdV (aB H fA) 3) (rdV (aB H fB) 4) 0 0 ⟨#[]⟩
 generalize Ls++rdL (aB H fA) 3++rdL (aB H fB) 4++[aS 9 0 (rdV (aB H fA) 3) (rdV (aB H fB) 4) 0 0 ⟨#[]⟩]=L3 at *
 generalize Ls++rdL (aB H fA) 3++rdL (aB H fB) 4=L2 at *
 generalize Ls++rdL (aB H fA) 3=L1 at *
 generalize rdV (aB H fA) 3=vA at *
 generalize rdV (aB H fB) 4=vB at *
 simp only[eH] at s0 s1 s2 ⊢
 rw[aR j7 _ _ _ rfl,gB]
 simp -implicitDefEqProofs (disch:=first|assumption|omega|(simp only[aE,aM,aF,i64,sa,aD,lm,la,lc,ln];omega)) only[go_sem,simprocAttr,hdr,s0,s1,s2]
theorem z9G(u:ZD)(hnm:u.fName.size≤1048576)(H:List Int)(fm:Int)(hf:0≤fm)(hf2:fm≤1000)(fD fA fB fN:Int)(fS:ByteArray)(q:Int)(Ls:List ZB)(hl:Ls.length≤900000)(h_fA:okH H fA)(h_fB:okH H fB)(h_q:okH H q)(h_fD:okH H fD):evCW tab eU [.ptr (0,0) [] 0 0,.agg [I 22,I fD,I fA,I fB,I fN,Str fS,.d (.r (aG [q]))]] (eH u H fm Ls) 1=some (.tup [],eH u H fm (Ls++rdL (aB H fA) 3++rdL (aB H fB) 4++[aS 2 5 (rdV (aB H fB) 4) 0 0 0 ⟨#[]⟩]++rdL (aB H q) 4++[aS 10 5 (rdV (aB H fA) 3) (rdV (aB H q) 4) 0 0 ⟨#[]⟩]++kpL (aB H fD) 5)):=by
 have hdr:=bN
 obtain⟨fA0,fA1,fA2,fA3⟩:=h_fA
 obtain⟨fB0,fB1,fB2,fB3⟩:=h_fB
 obtain⟨q0,q1,q2,q3⟩:=h_q
 obtain⟨fD0,fD1,fD2,fD3⟩:=h_fD
 have l_vA:=aX (aB H fA) 3
 have l_vB:=aX (aB H fB) 4
 have l_vC:=aX (aB H q) 4
 have s0:=i7 u H fm (Ls) (by first|exact(by omega)|(simp only[la,List.length_singleton];omega)) fA 3 fA0 fA1 fA3 fA2
 have s1:=i7 u H fm (Ls++rdL (aB H fA) 3) (by first|exact(by omega)|(simp only[la,List.length_singleton];omega)) fB 4 fB0 fB1 fB3 fB2
 have s2:=pW u H fm (Ls++rdL (aB H fA) 3++rdL (aB H fB) 4) (by first|exact(by omega)|(simp only[la,List.length_singleton];omega)) 2 5 (rdV (aB H fB) 4) 0 0 0 ⟨#[]⟩
 have s3:=i7 u H fm (Ls++rdL (aB H fA) 3++rdL (aB H fB) 4++[aS 2 5 (rdV (aB H fB) 4) 0 0 0 ⟨#[]⟩]) (by first|exact(by omega)|(simp only[la,List.length_singleton];omega)) q 4 q0 q1 q3 q2
 have s4:=pW u H fm (Ls++rdL (aB H fA) 3++rdL (aB H fB) 4++[aS 2 5 (rdV (aB H fB) 4) 0 0 0 ⟨#[]⟩]++rdL (aB H q) 4) (by first|exact(by omega)|(simp only[la,List.length_singleton];omega)) 10 5 (rdV (aB H fA) 3) (rdV (aB H q) 4) 0 0 ⟨#[]⟩
 have s5:=x4 u H fm (Ls++rdL (aB H fA) 3++rdL (aB H fB) 4++[aS 2 5 (rdV (aB H fB) 4) 0 0 0 ⟨#[]⟩]++rdL (aB H q) 4++[aS 10 5 (rdV (aB H fA) 3) (rdV (aB H q) 4) 0 0 ⟨#[]⟩]) (by first|exact(by omega)|(simp only[la,List.length_singleton];omega)) fD 5 fD0 fD1 fD3
 generalize Ls++rdL (aB H fA) 3++rdL (aB H fB) 4++[aS 2 5 (rdV (aB H fB) 4) 0 0 0 ⟨#[]⟩]++rdL (aB H q) 4++[aS 10 5 (rdV (aB H fA) 3) (rdV (aB H q) 4) 0 0 ⟨#[]⟩]++kpL (aB H fD) 5=L6 at *
 generalize Ls++rdL (aB H fA) 3++rdL (aB H fB) 4++[aS 2 5 (rdV (aB H fB) 4) 0 0 0 ⟨#[]⟩]++rdL (aB H q) 4++[aS 10 5 (rdV (aB H fA) 3) (rdV (aB H q) 4) 0 0 ⟨#[]⟩]=L5 at *
 generalize Ls++rdL (aB H fA) 3++rdL (aB H fB) 4++[aS 2 5 (rdV (aB H fB) 4) 0 0 0 ⟨#[]⟩]++rdL (aB H q) 4=L4 at *
 generalize Ls++rdL (aB H fA) 3++rdL (aB H fB) 4++[aS 2 5 (rdV (aB H fB) 4) 0 0 0 ⟨#[]⟩]=L3 at *
 generalize Ls++rdL (aB H fA) 3++rdL (aB H fB) 4=L2 at *
 generalize Ls++rdL (aB H fA) 3=L1 at *
 generalize rdV (aB H fA) 3=vA at *
 generalize rdV (aB H fB) 4=vB at *
 generalize rdV (aB H q) 4=vC at *
 simp only[eH] at s0 s1 s2 s3 s4 s5 ⊢
 rw[aR j7 _ _ _ rfl,gB]
 simp -implicitDefEqProofs (disch:=first|assumption|omega|(simp only[aE,aM,aF,i64,sa,aD,lm,la,lc,ln];omega)) only[go_sem,simprocAttr,hdr,s0,s1,s2,s3,s4,s5,aG,mc,mn]
theorem z8i(u:ZD)(hnm:u.fName.size≤1048576)(H:List Int)(fm:Int)(hf:0≤fm)(hf2:fm≤1000)(fD fA fB fN:Int)(fS:ByteArray)(args:List Int)(Ls:List ZB)(hl:Ls.length≤900000)(h_fA:okH H fA):evCW tab d5 [.ptr (0,0) [] 0 0,.agg [I 25,I fD,I fA,I fB,I fN,Str fS,.d (.r (aG args))]] (eH u H fm Ls) 1=some (.tup [],eH u H fm (Ls++rdL (aB H fA) 3++[aS 15 0 (rdV (aB H fA) 3) 0 0 0 ⟨#[]⟩])):=by
 have hdr:=bN
 obtain⟨fA0,fA1,fA2,fA3⟩:=h_fA
 have l_vA:=aX (aB H fA) 3
 have s0:=i7 u H fm (Ls) (by first|exact(by omega)|(simp only[la,List.length_singleton];omega)) fA 3 fA0 fA1 fA3 fA2
 have s1:=pW u H fm (Ls++rdL (aB H fA) 3) (by first|exact(by omega)|(simp only[la,List.length_singleton];omega)) 15 0 (rdV (aB H fA) 3) 0 0 0 ⟨#[]⟩
 generalize Ls++rdL (aB H fA) 3++[aS 15 0 (rdV (aB H fA) 3) 0 0 0 ⟨#[]⟩]=L2 at *
 generalize Ls++rdL (aB H fA) 3=L1 at *
 generalize rdV (aB H fA) 3=vA at *
 simp only[eH] at s0 s1 ⊢
 rw[aR gN _ _ _ rfl,eG]
 simp -implicitDefEqProofs (disch:=first|assumption|omega|(simp only[aE,aM,aF,i64,sa,aD,lm,la,lc,ln];omega)) only[go_sem,simprocAttr,hdr,s0,s1]
theorem z8O(u:ZD)(hnm:u.fName.size≤1048576)(H:List Int)(fm:Int)(hf:0≤fm)(hf2:fm≤1000)(fD fA fB fN:Int)(fS:ByteArray)(args:List Int)(Ls:List ZB)(hl:Ls.length≤900000)(h_fA:okH H fA)(h_fB:okH H fB):evCW tab d5 [.ptr (0,0) [] 0 0,.agg [I 26,I fD,I fA,I fB,I fN,Str fS,.d (.r (aG args))]] (eH u H fm Ls) 1=some (.tup [],eH u H fm (Ls++rdL (aB H fA) 3++rdL (aB H fB) 4++[aS 16 0 (rdV (aB H fA) 3) (rdV (aB H fB) 4) 0 0 ⟨#[]⟩])):=by
 have hdr:=bN
 obtain⟨fA0,fA1,fA2,fA3⟩:=h_fA
 obtain⟨fB0,fB1,fB2,fB3⟩:=h_fB
 have l_vA:=aX (aB H fA) 3
 have l_vB:=aX (aB H fB) 4
 have s0:=i7 u H fm (Ls) (by first|exact(by omega)|(simp only[la,List.length_singleton];omega)) fA 3 fA0 fA1 fA3 fA2
 have s1:=i7 u H fm (Ls++rdL (aB H fA) 3) (by first|exact(by omega)|(simp only[la,List.length_singleton];omega)) fB 4 fB0 fB1 fB3 fB2
 have s2:=pW u H fm (Ls++rdL (aB H fA) 3++rdL (aB H fB) 4) (by first|exact(by omega)|(simp only[la,List.length_singleton];omega)) 16 0 (rdV (aB H fA) 3) (rdV (aB H fB) 4) 0 0 ⟨#[]⟩
 generalize Ls++rdL (aB H fA) 3++rdL (aB H fB) 4++[aS 16 0 (rdV (aB H fA) 3) (rdV (aB H fB) 4) 0 0 ⟨#[]⟩]=L3 at *
 generalize Ls++rdL (aB H fA) 3++rdL (aB H fB) 4=L2 at *
 generalize Ls++rdL (aB H fA) 3=L1 at *
 generalize rdV (aB H fA) 3=vA at *
 generalize rdV (aB H fB) 4=vB at *
 simp only[eH] at s0 s1 s2 ⊢
 rw[aR gN _ _ _ rfl,eG]
 simp -implicitDefEqProofs (disch:=first|assumption|omega|(simp only[aE,aM,aF,i64,sa,aD,lm,la,lc,ln];omega)) only[go_sem,simprocAttr,hdr,s0,s1,s2]
theorem z9P(u:ZD)(hnm:u.fName.size≤1048576)(H:List Int)(fm:Int)(hf:0≤fm)(hf2:fm≤1000)(fD fA fB fN:Int)(fS:ByteArray)(args:List Int)(Ls:List ZB)(hl:Ls.length≤900000)(h_fA:okH H fA)(h_fB:okH H fB):evCW tab d5 [.ptr (0,0) [] 0 0,.agg [I 27,I fD,I fA,I fB,I fN,Str fS,.d (.r (aG args))]] (eH u H fm Ls) 1=some (.tup [],eH u H fm (Ls++rdL (aB H fA) 3++rdL (aB H fB) 4++[aS 17 0 (rdV (aB H fA) 3) (rdV (aB H fB) 4) 0 0 ⟨#[]⟩])):=by
 have hdr:=bN
 obtain⟨fA0,fA1,fA2,fA3⟩:=h_fA
 obtain⟨fB0,fB1,fB2,fB3⟩:=h_fB
 have l_vA:=aX (aB H fA) 3
 have l_vB:=aX (aB H fB) 4
 have s0:=i7 u H fm (Ls) (by first|exact(by omega)|(simp only[la,List.length_singleton];omega)) fA 3 fA0 fA1 fA3 fA2
 have s1:=i7 u H fm (Ls++rdL (aB H fA) 3) (by first|exact(by omega)|(simp only[la,List.length_singleton];omega)) fB 4 fB0 fB1 fB3 fB2
 have s2:=pW u H fm (Ls++rdL (aB H fA) 3++rdL (aB H fB) 4) (by first|exact(by omega)|(simp only[la,List.length_singleton];omega)) 17 0 (rdV (aB H fA) 3) (rdV (aB H fB) 4) 0 0 ⟨#[]⟩
 generalize Ls++rdL (aB H fA) 3++rdL (aB H fB) 4++[aS 17 0 (rdV (aB H fA) 3) (rdV (aB H fB) 4) 0 0 ⟨#[]⟩]=L3 at *
 generalize Ls++rdL (aB H fA) 3++rdL (aB H fB) 4=L2 at *
 generalize Ls++rdL (aB H fA) 3=L1 at *
 generalize rdV (aB H fA) 3=vA at *
 generalize rdV (aB H fB) 4=vB at *
 simp only[eH] at s0 s1 s2 ⊢
 rw[aR gN _ _ _ rfl,eG]
 simp -implicitDefEqProofs (disch:=first|assumption|omega|(simp only[aE,aM,aF,i64,sa,aD,lm,la,lc,ln];omega)) only[go_sem,simprocAttr,hdr,s0,s1,s2]
theorem z96(u:ZD)(hnm:u.fName.size≤1048576)(H:List Int)(fm:Int)(hf:0≤fm)(hf2:fm≤1000)(fD fA fB fN:Int)(fS:ByteArray)(args:List Int)(Ls:List ZB)(hl:Ls.length≤900000)(h_fA:okH H fA):evCW tab d5 [.ptr (0,0) [] 0 0,.agg [I 28,I fD,I fA,I fB,I fN,Str fS,.d (.r (aG args))]] (eH u H fm Ls) 1=some (.tup [],eH u H fm (Ls++rdL (aB H fA) 3++[aS 19 0 (rdV (aB H fA) 3) 0 0 0 ⟨#[]⟩])):=by
 have hdr:=bN
 obtain⟨fA0,fA1,fA2,fA3⟩:=h_fA
 have l_vA:=aX (aB H fA) 3
 have s0:=i7 u H fm (Ls) (by first|exact(by omega)|(simp only[la,List.length_singleton];omega)) fA 3 fA0 fA1 fA3 fA2
 have s1:=pW u H fm (Ls++rdL (aB H fA) 3) (by first|exact(by omega)|(simp only[la,List.length_singleton];omega)) 19 0 (rdV (aB H fA) 3) 0 0 0 ⟨#[]⟩
 generalize Ls++rdL (aB H fA) 3++[aS 19 0 (rdV (aB H fA) 3) 0 0 0 ⟨#[]⟩]=L2 at *
 generalize Ls++rdL (aB H fA) 3=L1 at *
 generalize rdV (aB H fA) 3=vA at *
 simp only[eH] at s0 s1 ⊢
 rw[aR gN _ _ _ rfl,eG]
 simp -implicitDefEqProofs (disch:=first|assumption|omega|(simp only[aE,aM,aF,i64,sa,aD,lm,la,lc,ln];omega)) only[go_sem,simprocAttr,hdr,s0,s1]
set_option maxRecDepth 8000
set_option maxHeartbeats 8000000
theorem z7h(u:ZD)(hnm:u.fName.size≤1048576)(H:List Int)(fm:Int)(hf:0≤fm)(hf2:fm≤1000)(fD fA fB fN:Int)(fS:ByteArray)(args:List Int)(Ls:List ZB)(hl:Ls.length≤900000)(h_fD:okH H fD):evCW tab aV [.ptr (0,0) [] 0 0,.agg [I 1,I fD,I fA,I fB,I fN,Str fS,.d (.r (aG args))]] (eH u H fm Ls) 1=some (.tup [],eH u H fm (Ls++[aS 1 3 0 0 fN 0 ⟨#[]⟩]++kpL (aB H fD) 3)):=by
 have hdr:=bN
 obtain⟨fD0,fD1,fD2,fD3⟩:=h_fD
 have s0:=pW u H fm (Ls) (by first|exact(by omega)|(simp only[la,List.length_singleton];omega)) 1 3 0 0 fN 0 ⟨#[]⟩
 have s1:=x4 u H fm (Ls++[aS 1 3 0 0 fN 0 ⟨#[]⟩]) (by first|exact(by omega)|(simp only[la,List.length_singleton];omega)) fD 3 fD0 fD1 fD3
 generalize Ls++[aS 1 3 0 0 fN 0 ⟨#[]⟩]++kpL (aB H fD) 3=L2 at *
 generalize Ls++[aS 1 3 0 0 fN 0 ⟨#[]⟩]=L1 at *
 simp only[eH] at s0 s1 ⊢
 rw[aR aW _ _ _ rfl,aT]
 simp -implicitDefEqProofs (disch:=first|assumption|omega|(simp only[aE,aM,aF,i64,sa,aD,lm,la,lc,ln];omega)) only[go_sem,simprocAttr,hdr,s0,s1]
theorem z7w(u:ZD)(hnm:u.fName.size≤1048576)(H:List Int)(fm:Int)(hf:0≤fm)(hf2:fm≤1000)(fD fA fB fN:Int)(fS:ByteArray)(args:List Int)(Ls:List ZB)(hl:Ls.length≤900000)(h_fA:okH H fA)(h_fD:okH H fD):evCW tab aV [.ptr (0,0) [] 0 0,.agg [I 2,I fD,I fA,I fB,I fN,Str fS,.d (.r (aG args))]] (eH u H fm Ls) 1=some (.tup [],eH u H fm (Ls++rdL (aB H fA) 3++kpL (aB H fD) (rdV (aB H fA) 3))):=by
 have hdr:=bN
 obtain⟨fA0,fA1,fA2,fA3⟩:=h_fA
 obtain⟨fD0,fD1,fD2,fD3⟩:=h_fD
 have l_vA:=aX (aB H fA) 3
 have s0:=i7 u H fm (Ls) (by first|exact(by omega)|(simp only[la,List.length_singleton];omega)) fA 3 fA0 fA1 fA3 fA2
 have s1:=x4 u H fm (Ls++rdL (aB H fA) 3) (by first|exact(by omega)|(simp only[la,List.length_singleton];omega)) fD (rdV (aB H fA) 3) fD0 fD1 fD3
 generalize Ls++rdL (aB H fA) 3++kpL (aB H fD) (rdV (aB H fA) 3)=L2 at *
 generalize Ls++rdL (aB H fA) 3=L1 at *
 generalize rdV (aB H fA) 3=vA at *
 simp only[eH] at s0 s1 ⊢
 rw[aR aW _ _ _ rfl,aT]
 simp -implicitDefEqProofs (disch:=first|assumption|omega|(simp only[aE,aM,aF,i64,sa,aD,lm,la,lc,ln];omega)) only[go_sem,simprocAttr,hdr,s0,s1]
theorem z7u(u:ZD)(hnm:u.fName.size≤1048576)(H:List Int)(fm:Int)(hf:0≤fm)(hf2:fm≤1000)(fD fA fB fN:Int)(fS:ByteArray)(args:List Int)(Ls:List ZB)(hl:Ls.length≤900000)(h_fA:okH H fA)(h_fB:okH H fB)(h_fD:okH H fD):evCW tab aV [.ptr (0,0) [] 0 0,.agg [I 3,I fD,I fA,I fB,I fN,Str fS,.d (.r (aG args))]] (eH u H fm Ls) 1=some (.tup [],eH u H fm (Ls++rdL (aB H fA) 3++rdL (aB H fB) 4++[aS 3 5 (rdV (aB H fA) 3) (rdV (aB H fB) 4) 0 0 ⟨#[]⟩]++kpL (aB H fD) 5)):=by
 have hdr:=bN
 obtain⟨fA0,fA1,fA2,fA3⟩:=h_fA
 obtain⟨fB0,fB1,fB2,fB3⟩:=h_fB
 obtain⟨fD0,fD1,fD2,fD3⟩:=h_fD
 have l_vA:=aX (aB H fA) 3
 have l_vB:=aX (aB H fB) 4
 have s0:=i7 u H fm (Ls) (by first|exact(by omega)|(simp only[la,List.length_singleton];omega)) fA 3 fA0 fA1 fA3 fA2
 have s1:=i7 u H fm (Ls++rdL (aB H fA) 3) (by first|exact(by omega)|(simp only[la,List.length_singleton];omega)) fB 4 fB0 fB1 fB3 fB2
 have s2:=pW u H fm (Ls++rdL (aB H fA) 3++rdL (aB H fB) 4) (by first|exact(by omega)|(simp only[la,List.length_singleton];omega)) 3 5 (rdV (aB H fA) 3) (rdV (aB H fB) 4) 0 0 ⟨#[]⟩
 have s3:=x4 u H fm (Ls++rdL (aB H fA) 3++rdL (aB H fB) 4++[aS 3 5 (rdV (aB H fA) 3) (rdV (aB H fB) 4) 0 0 ⟨#[]⟩]) (by first|exact(by omega)|(simp only[la,List.length_singleton];omega)) fD 5 fD0 fD1 fD3
 generalize Ls++rdL (aB H fA) 3++rdL (aB H fB) 4++[aS 3 5 (rdV (aB H fA) 3) (rdV (aB H fB) 4) 0 0 ⟨#[]⟩]++kpL (aB H fD) 5=L4 at *
 generalize Ls++rdL (aB H fA) 3++rdL (aB H fB) 4++[aS 3 5 (rdV (aB H fA) 3) (rdV (aB H fB) 4) 0 0 ⟨#[]⟩]=L3 at *
 generalize Ls++rdL (aB H fA) 3++rdL (aB H fB) 4=L2 at *
 generalize Ls++rdL (aB H fA) 3=L1 at *
 generalize rdV (aB H fA) 3=vA at *
 generalize rdV (aB H fB) 4=vB at *
 simp only[eH] at s0 s1 s2 s3 ⊢
 rw[aR aW _ _ _ rfl,aT]
 simp -implicitDefEqProofs (disch:=first|assumption|omega|(simp only[aE,aM,aF,i64,sa,aD,lm,la,lc,ln];omega)) only[go_sem,simprocAttr,hdr,s0,s1,s2,s3]
theorem z7l(u:ZD)(hnm:u.fName.size≤1048576)(H:List Int)(fm:Int)(hf:0≤fm)(hf2:fm≤1000)(fD fA fB fN:Int)(fS:ByteArray)(args:List Int)(Ls:List ZB)(hl:Ls.length≤900000)(h_fA:okH H fA)(h_fB:okH H fB)(h_fD:okH H fD):evCW tab aV [.ptr (0,0) [] 0 0,.agg [I 4,I fD,I fA,I fB,I fN,Str fS,.d (.r (aG args))]] (eH u H fm Ls) 1=some (.tup [],eH u H fm (Ls++rdL (aB H fA) 3++rdL (aB H fB) 4++[aS 4 5 (rdV (aB H fA) 3) (rdV (aB H fB) 4) 0 0 ⟨#[]⟩]++kpL (aB H fD) 5)):=by
 have hdr:=bN
 obtain⟨fA0,fA1,fA2,fA3⟩:=h_fA
 obtain⟨fB0,fB1,fB2,fB3⟩:=h_fB
 obtain⟨fD0,fD1,fD2,fD3⟩:=h_fD
 have l_vA:=aX (aB H fA) 3
 have l_vB:=aX (aB H fB) 4
 have s0:=i7 u H fm (Ls) (by first|exact(by omega)|(simp only[la,List.length_singleton];omega)) fA 3 fA0 fA1 fA3 fA2
 have s1:=i7 u H fm (Ls++rdL (aB H fA) 3) (by first|exact(by omega)|(simp only[la,List.length_singleton];omega)) fB 4 fB0 fB1 fB3 fB2
 have s2:=pW u H fm (Ls++rdL (aB H fA) 3++rdL (aB H fB) 4) (by first|exact(by omega)|(simp only[la,List.length_singleton];omega)) 4 5 (rdV (aB H fA) 3) (rdV (aB H fB) 4) 0 0 ⟨#[]⟩
 have s3:=x4 u H fm (Ls++rdL (aB H fA) 3++rdL (aB H fB) 4++[aS 4 5 (rdV (aB H fA) 3) (rdV (aB H fB) 4) 0 0 ⟨#[]⟩]) (by first|exact(by omega)|(simp only[la,List.length_singleton];omega)) fD 5 fD0 fD1 fD3
 generalize Ls++rdL (aB H fA) 3++rdL (aB H fB) 4++[aS 4 5 (rdV (aB H fA) 3) (rdV (aB H fB) 4) 0 0 ⟨#[]⟩]++kpL (aB H fD) 5=L4 at *
 generalize Ls++rdL (aB H fA) 3++rdL (aB H fB) 4++[aS 4 5 (rdV (aB H fA) 3) (rdV (aB H fB) 4) 0 0 ⟨#[]⟩]=L3 at *
 generalize Ls++rdL (aB H fA) 3++rdL (aB H fB) 4=L2 at *
 generalize Ls++rdL (aB H fA) 3=L1 at *
 generalize rdV (aB H fA) 3=vA at *
 generalize rdV (aB H fB) 4=vB at *
 simp only[eH] at s0 s1 s2 s3 ⊢
 rw[aR aW _ _ _ rfl,aT]
 simp -implicitDefEqProofs (disch:=first|assumption|omega|(simp only[aE,aM,aF,i64,sa,aD,lm,la,lc,ln];omega)) only[go_sem,simprocAttr,hdr,s0,s1,s2,s3]
theorem z7r(u:ZD)(hnm:u.fName.size≤1048576)(H:List Int)(fm:Int)(hf:0≤fm)(hf2:fm≤1000)(fD fA fB fN:Int)(fS:ByteArray)(args:List Int)(Ls:List ZB)(hl:Ls.length≤900000)(h_fA:okH H fA)(h_fB:okH H fB)(h_fD:okH H fD):evCW tab aV [.ptr (0,0) [] 0 0,.agg [I 5,I fD,I fA,I fB,I fN,Str fS,.d (.r (aG args))]] (eH u H fm Ls) 1=some (.tup [],eH u H fm (Ls++rdL (aB H fA) 3++rdL (aB H fB) 4++[aS 5 5 (rdV (aB H fA) 3) (rdV (aB H fB) 4) 0 0 ⟨#[]⟩]++kpL (aB H fD) 5)):=by
 have hdr:=bN
 obtain⟨fA0,fA1,fA2,fA3⟩:=h_fA
 obtain⟨fB0,fB1,fB2,fB3⟩:=h_fB
 obtain⟨fD0,fD1,fD2,fD3⟩:=h_fD
 have l_vA:=aX (aB H fA) 3
 have l_vB:=aX (aB H fB) 4
 have s0:=i7 u H fm (Ls) (by first|exact(by omega)|(simp only[la,List.length_singleton];omega)) fA 3 fA0 fA1 fA3 fA2
 have s1:=i7 u H fm (Ls++rdL (aB H fA) 3) (by first|exact(by omega)|(simp only[la,List.length_singleton];omega)) fB 4 fB0 fB1 fB3 fB2
 have s2:=pW u H fm (Ls++rdL (aB H fA) 3++rdL (aB H fB) 4) (by first|exact(by omega)|(simp only[la,List.length_singleton];omega)) 5 5 (rdV (aB H fA) 3) (rdV (aB H fB) 4) 0 0 ⟨#[]⟩
 have s3:=x4 u H fm (Ls++rdL (aB H fA) 3++rdL (aB H fB) 4++[aS 5 5 (rdV (aB H fA) 3) (rdV (aB H fB) 4) 0 0 ⟨#[]⟩]) (by first|exact(by omega)|(simp only[la,List.length_singleton];omega)) fD 5 fD0 fD1 fD3
 generalize Ls++rdL (aB H fA) 3++rdL (aB H fB) 4++[aS 5 5 (rdV (aB H fA) 3) (rdV (aB H fB) 4) 0 0 ⟨#[]⟩]++kpL (aB H fD) 5=L4 at *
 generalize Ls++rdL (aB H fA) 3++rdL (aB H fB) 4++[aS 5 5 (rdV (aB H fA) 3) (rdV (aB H fB) 4) 0 0 ⟨#[]⟩]=L3 at *
 generalize Ls++rdL (aB H fA) 3++rdL (aB H fB) 4=L2 at *
 generalize Ls++rdL (aB H fA) 3=L1 at *
 generalize rdV (aB H fA) 3=vA at *
 generalize rdV (aB H fB) 4=vB at *
 simp only[eH] at s0 s1 s2 s3 ⊢
 rw[aR aW _ _ _ rfl,aT]
 simp -implicitDefEqProofs (disch:=first|assumption|omega|(simp only[aE,aM,aF,i64,sa,aD,lm,la,lc,ln];omega)) only[go_sem,simprocAttr,hdr,s0,s1,s2,s3]
theorem z7k(u:ZD)(hnm:u.fName.size≤1048576)(H:List Int)(fm:Int)(hf:0≤fm)(hf2:fm≤1000)(fD fA fB fN:Int)(fS:ByteArray)(args:List Int)(Ls:List ZB)(hl:Ls.length≤900000)(h_fA:okH H fA)(h_fB:okH H fB)(h_fD:okH H fD):evCW tab aV [.ptr (0,0) [] 0 0,.agg [I 6,I fD,I fA,I fB,I fN,Str fS,.d (.r (aG args))]] (eH u H fm Ls) 1=some (.tup [],eH u H fm (Ls++rdL (aB H fA) 3++rdL (aB H fB) 4++[aS 6 5 (rdV (aB H fA) 3) (rdV (aB H fB) 4) 0 0 ⟨#[]⟩]++kpL (aB H fD) 5)):=by
 have hdr:=bN
 obtain⟨fA0,fA1,fA2,fA3⟩:=h_fA
 obtain⟨fB0,fB1,fB2,fB3⟩:=h_fB
 obtain⟨fD0,fD1,fD2,fD3⟩:=h_fD
 have l_vA:=aX (aB H fA) 3
 have l_vB:=aX (aB H fB) 4
 have s0:=i7 u H fm (Ls) (by first|exact(by omega)|(simp only[la,List.length_singleton];omega)) fA 3 fA0 fA1 fA3 fA2
 have s1:=i7 u H fm (Ls++rdL (aB H fA) 3) (by first|exact(by omega)|(simp only[la,List.length_singleton];omega)) fB 4 fB0 fB1 fB3 fB2
 have s2:=pW u H fm (Ls++rdL (aB H fA) 3++rdL (aB H fB) 4) (by first|exact(by omega)|(simp only[la,List.length_singleton];omega)) 6 5 (rdV (aB H fA) 3) (rdV (aB H fB) 4) 0 0 ⟨#[]⟩
 have s3:=x4 u H fm (Ls++rdL (aB H fA) 3++rdL (aB H fB) 4++[aS 6 5 (rdV (aB H fA) 3) (rdV (aB H fB) 4) 0 0 ⟨#[]⟩]) (by first|exact(by omega)|(simp only[la,List.length_singleton];omega)) fD 5 fD0 fD1 fD3
 generalize Ls++rdL (aB H fA) 3++rdL (aB H fB) 4++[aS 6 5 (rdV (aB H fA) 3) (rdV (aB H fB) 4) 0 0 ⟨#[]⟩]++kpL (aB H fD) 5=L4 at *
 generalize Ls++rdL (aB H fA) 3++rdL (aB H fB) 4++[aS 6 5 (rdV (aB H fA) 3) (rdV (aB H fB) 4) 0 0 ⟨#[]⟩]=L3 at *
 generalize Ls++rdL (aB H fA) 3++rdL (aB H fB) 4=L2 at *
 generalize Ls++rdL (aB H fA) 3=L1 at *
 generalize rdV (aB H fA) 3=vA at *
 generalize rdV (aB H fB) 4=vB at *
 simp only[eH] at s0 s1 s2 s3 ⊢
 rw[aR aW _ _ _ rfl,aT]
 simp -implicitDefEqProofs (disch:=first|assumption|omega|(simp only[aE,aM,aF,i64,sa,aD,lm,la,lc,ln];omega)) only[go_sem,simprocAttr,hdr,s0,s1,s2,s3]
theorem z7U(u:ZD)(hnm:u.fName.size≤1048576)(H:List Int)(fm:Int)(hf:0≤fm)(hf2:fm≤1000)(fD fA fB fN:Int)(fS:ByteArray)(args:List Int)(Ls:List ZB)(hl:Ls.length≤900000)(h_fA:okH H fA)(h_fB:okH H fB)(h_fD:okH H fD):evCW tab aV [.ptr (0,0) [] 0 0,.agg [I 7,I fD,I fA,I fB,I fN,Str fS,.d (.r (aG args))]] (eH u H fm Ls) 1=some (.tup [],eH u H fm (Ls++rdL (aB H fA) 3++rdL (aB H fB) 4++[aS 7 5 (rdV (aB H fA) 3) (rdV (aB H fB) 4) 0 0 ⟨#[]⟩]++kpL (aB H fD) 5)):=by
 have hdr:=bN
 obtain⟨fA0,fA1,fA2,fA3⟩:=h_fA
 obtain⟨fB0,fB1,fB2,fB3⟩:=h_fB
 obtain⟨fD0,fD1,fD2,fD3⟩:=h_fD
 have l_vA:=aX (aB H fA) 3
 have l_vB:=aX (aB H fB) 4
 have s0:=i7 u H fm (Ls) (by first|exact(by omega)|(simp only[la,List.length_singleton];omega)) fA 3 fA0 fA1 fA3 fA2
 have s1:=i7 u H fm (Ls++rdL (aB H fA) 3) (by first|exact(by omega)|(simp only[la,List.length_singleton];omega)) fB 4 fB0 fB1 fB3 fB2
 have s2:=pW u H fm (Ls++rdL (aB H fA) 3++rdL (aB H fB) 4) (by first|exact(by omega)|(simp only[la,List.length_singleton];omega)) 7 5 (rdV (aB H fA) 3) (rdV (aB H fB) 4) 0 0 ⟨#[]⟩
 have s3:=x4 u H fm (Ls++rdL (aB H fA) 3++rdL (aB H fB) 4++[aS 7 5 (rdV (aB H fA) 3) (rdV (aB H fB) 4) 0 0 ⟨#[]⟩]) (by first|exact(by omega)|(simp only[la,List.length_singleton];omega)) fD 5 fD0 fD1 fD3
 generalize Ls++rdL (aB H fA) 3++rdL (aB H fB) 4++[aS 7 5 (rdV (aB H fA) 3) (rdV (aB H fB) 4) 0 0 ⟨#[]⟩]++kpL (aB H fD) 5=L4 at *
 generalize Ls++rdL (aB H fA) 3++rdL (aB H fB) 4++[aS 7 5 (rdV (aB H fA) 3) (rdV (aB H fB) 4) 0 0 ⟨#[]⟩]=L3 at *
 generalize Ls++rdL (aB H fA) 3++rdL (aB H fB) 4=L2 at *
 generalize Ls++rdL (aB H fA) 3=L1 at *
 generalize rdV (aB H fA) 3=vA at *
 generalize rdV (aB H fB) 4=vB at *
 simp only[eH] at s0 s1 s2 s3 ⊢
 rw[aR aW _ _ _ rfl,aT]
 simp -implicitDefEqProofs (disch:=first|assumption|omega|(simp only[aE,aM,aF,i64,sa,aD,lm,la,lc,ln];omega)) only[go_sem,simprocAttr,hdr,s0,s1,s2,s3]
theorem z7i(u:ZD)(hnm:u.fName.size≤1048576)(H:List Int)(fm:Int)(hf:0≤fm)(hf2:fm≤1000)(fD fA fB fN:Int)(fS:ByteArray)(args:List Int)(Ls:List ZB)(hl:Ls.length≤900000)(hN:i64 fN):evCW tab aV [.ptr (0,0) [] 0 0,.agg [I 8,I fD,I fA,I fB,I fN,Str fS,.d (.r (aG args))]] (eH u H fm Ls) 1=some (.tup [],eH u H fm (Ls++[Di u.fName fN])):=by
 have hdr:=bN
 have sl:=fun cs=>Zh u.fName hnm cs fN hN
 have e0:(Ls++[Di u.fName fN]).map ZB.o=Ls.map ZB.o++[[DS (p9 u.fName fN),DI 0,DI 0,DI 0,DI 0,DI 0,DI 0,DS ⟨#[]⟩]]:=by simp[Di,ZB.o]
 have e1:(Ls.map ZB.o).length≤1000000:=by simp;omega
 simp only[eH,e0]
 generalize Ls.map ZB.o=W at *
 generalize p9 u.fName fN=lb at *
 rw[aR aW _ _ _ rfl,aT]
 simp -implicitDefEqProofs (disch:=first|assumption|omega|(simp only[aE,aM,aF,i64,sa,aD,lm,la,lc,ln];omega)) only[go_sem,simprocAttr,hdr,sl,By,List.drop_zero]
theorem z7K(u:ZD)(hnm:u.fName.size≤1048576)(H:List Int)(fm:Int)(hf:0≤fm)(hf2:fm≤1000)(fD fA fB fN:Int)(fS:ByteArray)(args:List Int)(Ls:List ZB)(hl:Ls.length≤900000)(hN:i64 fN):evCW tab aV [.ptr (0,0) [] 0 0,.agg [I 9,I fD,I fA,I fB,I fN,Str fS,.d (.r (aG args))]] (eH u H fm Ls) 1=some (.tup [],eH u H fm (Ls++[aS 11 0 0 0 0 0 (p9 u.fName fN)])):=by
 have hdr:=bN
 have s0:=pW u H fm (Ls) (by first|exact(by omega)|(simp only[la,List.length_singleton];omega)) 11 0 0 0 0 0 (p9 u.fName fN)
 have sl:=fun cs=>Zh u.fName hnm cs fN hN
 generalize Ls++[aS 11 0 0 0 0 0 (p9 u.fName fN)]=L1 at *
 simp only[eH] at s0 ⊢
 rw[aR aW _ _ _ rfl,aT]
 simp -implicitDefEqProofs (disch:=first|assumption|omega|(simp only[aE,aM,aF,i64,sa,aD,lm,la,lc,ln];omega)) only[go_sem,simprocAttr,hdr,s0,sl,By,List.drop_zero]
theorem z9E(u:ZD)(hnm:u.fName.size≤1048576)(H:List Int)(fm:Int)(hf:0≤fm)(hf2:fm≤1000)(fD fA fB fN:Int)(fS:ByteArray)(args:List Int)(Ls:List ZB)(hl:Ls.length≤900000)(h_fA:okH H fA)(hN:i64 fN):evCW tab aV [.ptr (0,0) [] 0 0,.agg [I 10,I fD,I fA,I fB,I fN,Str fS,.d (.r (aG args))]] (eH u H fm Ls) 1=some (.tup [],eH u H fm (Ls++rdL (aB H fA) 3++[aS 12 0 (rdV (aB H fA) 3) 0 0 0 (p9 u.fName fN)])):=by
 have hdr:=bN
 obtain⟨fA0,fA1,fA2,fA3⟩:=h_fA
 have l_vA:=aX (aB H fA) 3
 have s0:=i7 u H fm (Ls) (by first|exact(by omega)|(simp only[la,List.length_singleton];omega)) fA 3 fA0 fA1 fA3 fA2
 have s1:=pW u H fm (Ls++rdL (aB H fA) 3) (by first|exact(by omega)|(simp only[la,List.length_singleton];omega)) 12 0 (rdV (aB H fA) 3) 0 0 0 (p9 u.fName fN)
 have sl:=fun cs=>Zh u.fName hnm cs fN hN
 generalize Ls++rdL (aB H fA) 3++[aS 12 0 (rdV (aB H fA) 3) 0 0 0 (p9 u.fName fN)]=L2 at *
 generalize Ls++rdL (aB H fA) 3=L1 at *
 generalize rdV (aB H fA) 3=vA at *
 simp only[eH] at s0 s1 ⊢
 rw[aR aW _ _ _ rfl,aT]
 simp -implicitDefEqProofs (disch:=first|assumption|omega|(simp only[aE,aM,aF,i64,sa,aD,lm,la,lc,ln];omega)) only[go_sem,simprocAttr,hdr,s0,s1,sl,By,List.drop_zero]
theorem z8v(u:ZD)(hnm:u.fName.size≤1048576)(H:List Int)(fm:Int)(hf:0≤fm)(hf2:fm≤1000)(fD fA fB fN:Int)(fS:ByteArray)(args:List Int)(Ls:List ZB)(hl:Ls.length≤900000)(hx:args.length≤4)(hq:∀q∈args,okH H q)(h_fD:okH H fD):evCW tab aV [.ptr (0,0) [] 0 0,.agg [I 11,I fD,I fA,I fB,I fN,Str fS,.d (.r (aG args))]] (eH u H fm Ls) 1=some (.tup [],eH u H fm (Ls++mY H fm 0 args++[aS 13 0 0 0 0 fm fS]++kpL (aB H fD) 0)):=by
 have hdr:=bN
 have s1:=z9V u hnm H fm hf hf2 fD fA fB fN fS args Ls hl hx hq h_fD
 generalize Ls++mY H fm 0 args++[aS 13 0 0 0 0 fm fS]++kpL (aB H fD) 0=LF at *
 simp only[eH] at s1 ⊢
 rw[aR aW _ _ _ rfl,aT]
 simp -implicitDefEqProofs (disch:=first|assumption|omega|(simp only[aE,aM,aF,i64,sa,aD,lm,la,lc,ln];omega)) only[go_sem,simprocAttr,hdr,s1]
theorem z8J(u:ZD)(hnm:u.fName.size≤1048576)(H:List Int)(fm:Int)(hf:0≤fm)(hf2:fm≤1000)(fD fA fB fN:Int)(fS:ByteArray)(args:List Int)(Ls:List ZB)(hl:Ls.length≤900000)(h_fA:okH H fA):evCW tab aV [.ptr (0,0) [] 0 0,.agg [I 12,I fD,I fA,I fB,I fN,Str fS,.d (.r (aG args))]] (eH u H fm Ls) 1=some (.tup [],eH u H fm (Ls++rdL (aB H fA) 3++[aS 2 0 (rdV (aB H fA) 3) 0 0 0 ⟨#[]⟩]++[aS 14 0 0 0 0 0 ⟨#[]⟩])):=by
 have hdr:=bN
 obtain⟨fA0,fA1,fA2,fA3⟩:=h_fA
 have l_vA:=aX (aB H fA) 3
 have s0:=i7 u H fm (Ls) (by first|exact(by omega)|(simp only[la,List.length_singleton];omega)) fA 3 fA0 fA1 fA3 fA2
 have s1:=pW u H fm (Ls++rdL (aB H fA) 3) (by first|exact(by omega)|(simp only[la,List.length_singleton];omega)) 2 0 (rdV (aB H fA) 3) 0 0 0 ⟨#[]⟩
 have s2:=pW u H fm (Ls++rdL (aB H fA) 3++[aS 2 0 (rdV (aB H fA) 3) 0 0 0 ⟨#[]⟩]) (by first|exact(by omega)|(simp only[la,List.length_singleton];omega)) 14 0 0 0 0 0 ⟨#[]⟩
 generalize Ls++rdL (aB H fA) 3++[aS 2 0 (rdV (aB H fA) 3) 0 0 0 ⟨#[]⟩]++[aS 14 0 0 0 0 0 ⟨#[]⟩]=L3 at *
 generalize Ls++rdL (aB H fA) 3++[aS 2 0 (rdV (aB H fA) 3) 0 0 0 ⟨#[]⟩]=L2 at *
 generalize Ls++rdL (aB H fA) 3=L1 at *
 generalize rdV (aB H fA) 3=vA at *
 simp only[eH] at s0 s1 s2 ⊢
 rw[aR aW _ _ _ rfl,aT]
 simp -implicitDefEqProofs (disch:=first|assumption|omega|(simp only[aE,aM,aF,i64,sa,aD,lm,la,lc,ln];omega)) only[go_sem,simprocAttr,hdr,s0,s1,s2]
theorem z9M(u:ZD)(hnm:u.fName.size≤1048576)(H:List Int)(fm:Int)(hf:0≤fm)(hf2:fm≤1000)(fD fA fB fN:Int)(fS:ByteArray)(args:List Int)(Ls:List ZB)(hl:Ls.length≤900000)(h_fA:okH H fA)(h_fD:okH H fD):evCW tab aV [.ptr (0,0) [] 0 0,.agg [I 20,I fD,I fA,I fB,I fN,Str fS,.d (.r (aG args))]] (eH u H fm Ls) 1=some (.tup [],eH u H fm (Ls++rdL (aB H fA) 3++[aS 8 5 (rdV (aB H fA) 3) 0 0 0 ⟨#[]⟩]++kpL (aB H fD) 5)):=by
 have hdr:=bN
 have s1:=z88 u hnm H fm hf hf2 fD fA fB fN fS args Ls hl h_fA h_fD
 generalize Ls++rdL (aB H fA) 3++[aS 8 5 (rdV (aB H fA) 3) 0 0 0 ⟨#[]⟩]++kpL (aB H fD) 5=LF at *
 simp only[eH] at s1 ⊢
 rw[aR aW _ _ _ rfl,aT]
 simp -implicitDefEqProofs (disch:=first|assumption|omega|(simp only[aE,aM,aF,i64,sa,aD,lm,la,lc,ln];omega)) only[go_sem,simprocAttr,hdr,s1]
theorem z8o(u:ZD)(hnm:u.fName.size≤1048576)(H:List Int)(fm:Int)(hf:0≤fm)(hf2:fm≤1000)(fD fA fB fN:Int)(fS:ByteArray)(args:List Int)(Ls:List ZB)(hl:Ls.length≤900000)(h_fA:okH H fA)(h_fB:okH H fB):evCW tab aV [.ptr (0,0) [] 0 0,.agg [I 21,I fD,I fA,I fB,I fN,Str fS,.d (.r (aG args))]] (eH u H fm Ls) 1=some (.tup [],eH u H fm (Ls++rdL (aB H fA) 3++rdL (aB H fB) 4++[aS 9 0 (rdV (aB H fA) 3) (rdV (aB H fB) 4) 0 0 ⟨#[]⟩])):=by
 have hdr:=bN
 have s1:=z9W u hnm H fm hf hf2 fD fA fB fN fS args Ls hl h_fA h_fB
 generalize Ls++rdL (aB H fA) 3++rdL (aB H fB) 4++[aS 9 0 (rdV (aB H fA) 3) (rdV (aB H fB) 4) 0 0 ⟨#[]⟩]=LF at *
 simp only[eH] at s1 ⊢
 rw[aR aW _ _ _ rfl,aT]
 simp -implicitDefEqProofs (disch:=first|assumption|omega|(simp only[aE,aM,aF,i64,sa,aD,lm,la,lc,ln];omega)) only[go_sem,simprocAttr,hdr,s1]
theorem z9X(u:ZD)(hnm:u.fName.size≤1048576)(H:List Int)(fm:Int)(hf:0≤fm)(hf2:fm≤1000)(fD fA fB fN:Int)(fS:ByteArray)(q:Int)(Ls:List ZB)(hl:Ls.length≤900000)(h_fA:okH H fA)(h_fB:okH H fB)(h_q:okH H q)(h_fD:okH H fD):evCW tab aV [.ptr (0,0) [] 0 0,.agg [I 22,I fD,I fA,I fB,I fN,Str fS,.d (.r (aG [q]))]] (eH u H fm Ls) 1=some (.tup [],eH u H fm (Ls++rdL (aB H fA) 3++rdL (aB H fB) 4++[aS 2 5 (rdV (aB H fB) 4) 0 0 0 ⟨#[]⟩]++rdL (aB H q) 4++[aS 10 5 (rdV (aB H fA) 3) (rdV (aB H q) 4) 0 0 ⟨#[]⟩]++kpL (aB H fD) 5)):=by
 have hdr:=bN
 have s1:=z9G u hnm H fm hf hf2 fD fA fB fN fS q Ls hl h_fA h_fB h_q h_fD
 generalize Ls++rdL (aB H fA) 3++rdL (aB H fB) 4++[aS 2 5 (rdV (aB H fB) 4) 0 0 0 ⟨#[]⟩]++rdL (aB H q) 4++[aS 10 5 (rdV (aB H fA) 3) (rdV (aB H q) 4) 0 0 ⟨#[]⟩]++kpL (aB H fD) 5=LF at *
 simp only[eH,aG,mc,mn] at s1 ⊢
 rw[aR aW _ _ _ rfl,aT]
 simp -implicitDefEqProofs (disch:=first|assumption|omega|(simp only[aE,aM,aF,i64,sa,aD,lm,la,lc,ln];omega)) only[go_sem,simprocAttr,hdr,s1]
theorem z9B(u:ZD)(hnm:u.fName.size≤1048576)(H:List Int)(fm:Int)(hf:0≤fm)(hf2:fm≤1000)(fD fA fB fN:Int)(fS:ByteArray)(args:List Int)(Ls:List ZB)(hl:Ls.length≤900000)(h_fD:okH H fD):evCW tab aV [.ptr (0,0) [] 0 0,.agg [I 23,I fD,I fA,I fB,I fN,Str fS,.d (.r (aG args))]] (eH u H fm Ls) 1=some (.tup [],eH u H fm (Ls++[aS 18 5 0 0 0 0 ⟨#[]⟩]++kpL (aB H fD) 5)):=by
 have hdr:=bN
 obtain⟨fD0,fD1,fD2,fD3⟩:=h_fD
 have s0:=pW u H fm (Ls) (by first|exact(by omega)|(simp only[la,List.length_singleton];omega)) 18 5 0 0 0 0 ⟨#[]⟩
 have s1:=x4 u H fm (Ls++[aS 18 5 0 0 0 0 ⟨#[]⟩]) (by first|exact(by omega)|(simp only[la,List.length_singleton];omega)) fD 5 fD0 fD1 fD3
 generalize Ls++[aS 18 5 0 0 0 0 ⟨#[]⟩]++kpL (aB H fD) 5=L2 at *
 generalize Ls++[aS 18 5 0 0 0 0 ⟨#[]⟩]=L1 at *
 simp only[eH] at s0 s1 ⊢
 rw[aR aW _ _ _ rfl,aT]
 simp -implicitDefEqProofs (disch:=first|assumption|omega|(simp only[aE,aM,aF,i64,sa,aD,lm,la,lc,ln];omega)) only[go_sem,simprocAttr,hdr,s0,s1]
theorem z9Q(u:ZD)(hnm:u.fName.size≤1048576)(H:List Int)(fm:Int)(hf:0≤fm)(hf2:fm≤1000)(fD fA fB fN:Int)(fS:ByteArray)(args:List Int)(Ls:List ZB)(hl:Ls.length≤900000)(h_fD:okH H fD):evCW tab aV [.ptr (0,0) [] 0 0,.agg [I 24,I fD,I fA,I fB,I fN,Str fS,.d (.r (aG args))]] (eH u H fm Ls) 1=some (.tup [],eH u H fm (Ls++[aS 1 5 0 0 0 0 fS]++kpL (aB H fD) 5)):=by
 have hdr:=bN
 obtain⟨fD0,fD1,fD2,fD3⟩:=h_fD
 have s0:=pW u H fm (Ls) (by first|exact(by omega)|(simp only[la,List.length_singleton];omega)) 1 5 0 0 0 0 fS
 have s1:=x4 u H fm (Ls++[aS 1 5 0 0 0 0 fS]) (by first|exact(by omega)|(simp only[la,List.length_singleton];omega)) fD 5 fD0 fD1 fD3
 generalize Ls++[aS 1 5 0 0 0 0 fS]++kpL (aB H fD) 5=L2 at *
 generalize Ls++[aS 1 5 0 0 0 0 fS]=L1 at *
 simp only[eH] at s0 s1 ⊢
 rw[aR aW _ _ _ rfl,aT]
 simp -implicitDefEqProofs (disch:=first|assumption|omega|(simp only[aE,aM,aF,i64,sa,aD,lm,la,lc,ln];omega)) only[go_sem,simprocAttr,hdr,s0,s1]
theorem z8g(u:ZD)(hnm:u.fName.size≤1048576)(H:List Int)(fm:Int)(hf:0≤fm)(hf2:fm≤1000)(fD fA fB fN:Int)(fS:ByteArray)(args:List Int)(Ls:List ZB)(hl:Ls.length≤900000)(h_fA:okH H fA):evCW tab aV [.ptr (0,0) [] 0 0,.agg [I 25,I fD,I fA,I fB,I fN,Str fS,.d (.r (aG args))]] (eH u H fm Ls) 1=some (.tup [],eH u H fm (Ls++rdL (aB H fA) 3++[aS 15 0 (rdV (aB H fA) 3) 0 0 0 ⟨#[]⟩])):=by
 have hdr:=bN
 have s1:=z8i u hnm H fm hf hf2 fD fA fB fN fS args Ls hl h_fA
 generalize Ls++rdL (aB H fA) 3++[aS 15 0 (rdV (aB H fA) 3) 0 0 0 ⟨#[]⟩]=LF at *
 simp only[eH] at s1 ⊢
 rw[aR aW _ _ _ rfl,aT]
 simp -implicitDefEqProofs (disch:=first|assumption|omega|(simp only[aE,aM,aF,i64,sa,aD,lm,la,lc,ln];omega)) only[go_sem,simprocAttr,hdr,s1]
theorem z8B(u:ZD)(hnm:u.fName.size≤1048576)(H:List Int)(fm:Int)(hf:0≤fm)(hf2:fm≤1000)(fD fA fB fN:Int)(fS:ByteArray)(args:List Int)(Ls:List ZB)(hl:Ls.length≤900000)(h_fA:okH H fA)(h_fB:okH H fB):evCW tab aV [.ptr (0,0) [] 0 0,.agg [I 26,I fD,I fA,I fB,I fN,Str fS,.d (.r (aG args))]] (eH u H fm Ls) 1=some (.tup [],eH u H fm (Ls++rdL (aB H fA) 3++rdL (aB H fB) 4++[aS 16 0 (rdV (aB H fA) 3) (rdV (aB H fB) 4) 0 0 ⟨#[]⟩])):=by
 have hdr:=bN
 have s1:=z8O u hnm H fm hf hf2 fD fA fB fN fS args Ls hl h_fA h_fB
 generalize Ls++rdL (aB H fA) 3++rdL (aB H fB) 4++[aS 16 0 (rdV (aB H fA) 3) (rdV (aB H fB) 4) 0 0 ⟨#[]⟩]=LF at *
 simp only[eH] at s1 ⊢
 rw[aR aW _ _ _ rfl,aT]
 simp -implicitDefEqProofs (disch:=first|assumption|omega|(simp only[aE,aM,aF,i64,sa,aD,lm,la,lc,ln];omega)) only[go_sem,simprocAttr,hdr,s1]
theorem z8K(u:ZD)(hnm:u.fName.size≤1048576)(H:List Int)(fm:Int)(hf:0≤fm)(hf2:fm≤1000)(fD fA fB fN:Int)(fS:ByteArray)(args:List Int)(Ls:List ZB)(hl:Ls.length≤900000)(h_fA:okH H fA)(h_fB:okH H fB):evCW tab aV [.ptr (0,0) [] 0 0,.agg [I 27,I fD,I fA,I fB,I fN,Str fS,.d (.r (aG args))]] (eH u H fm Ls) 1=some (.tup [],eH u H fm (Ls++rdL (aB H fA) 3++rdL (aB H fB) 4++[aS 17 0 (rdV (aB H fA) 3) (rdV (aB H fB) 4) 0 0 ⟨#[]⟩])):=by
 have hdr:=bN
 have s1:=z9P u hnm H fm hf hf2 fD fA fB fN fS args Ls hl h_fA h_fB
 generalize Ls++rdL (aB H fA) 3++rdL (aB H fB) 4++[aS 17 0 (rdV (aB H fA) 3) (rdV (aB H fB) 4) 0 0 ⟨#[]⟩]=LF at *
 simp only[eH] at s1 ⊢
 rw[aR aW _ _ _ rfl,aT]
 simp -implicitDefEqProofs (disch:=first|assumption|omega|(simp only[aE,aM,aF,i64,sa,aD,lm,la,lc,ln];omega)) only[go_sem,simprocAttr,hdr,s1]
theorem z8S(u:ZD)(hnm:u.fName.size≤1048576)(H:List Int)(fm:Int)(hf:0≤fm)(hf2:fm≤1000)(fD fA fB fN:Int)(fS:ByteArray)(args:List Int)(Ls:List ZB)(hl:Ls.length≤900000)(h_fA:okH H fA):evCW tab aV [.ptr (0,0) [] 0 0,.agg [I 28,I fD,I fA,I fB,I fN,Str fS,.d (.r (aG args))]] (eH u H fm Ls) 1=some (.tup [],eH u H fm (Ls++rdL (aB H fA) 3++[aS 19 0 (rdV (aB H fA) 3) 0 0 0 ⟨#[]⟩])):=by
 have hdr:=bN
 have s1:=z96 u hnm H fm hf hf2 fD fA fB fN fS args Ls hl h_fA
 generalize Ls++rdL (aB H fA) 3++[aS 19 0 (rdV (aB H fA) 3) 0 0 0 ⟨#[]⟩]=LF at *
 simp only[eH] at s1 ⊢
 rw[aR aW _ _ _ rfl,aT]
 simp -implicitDefEqProofs (disch:=first|assumption|omega|(simp only[aE,aM,aF,i64,sa,aD,lm,la,lc,ln];omega)) only[go_sem,simprocAttr,hdr,s1]
set_option maxRecDepth 8000
set_option maxHeartbeats 8000000
theorem z7B(nm:ByteArray)(hnm:nm.size≤1048576)(H:List Int)(fm:Int)(hf:0≤fm)(hf2:fm≤1000)(fD fA fB fN:Int)(fS:ByteArray)(args:List Int)(Ls:List ZB)(hl:Ls.length≤900000)(h_fA:okH H fA)(h_fD:okH H fD):evCW tab i9 [.ptr (0,0) [] 0 0,.agg [I 2,I fD,I fA,I fB,I fN,Str fS,.d (.r (aG args))]] (gH nm H fm Ls) 1=some (.tup [],gH nm H fm (Ls++rdL (aB H fA) 3++kpL (aB H fD) (rdV (aB H fA) 3))):=by
 have hdr:=bN
 obtain⟨fA0,fA1,fA2,fA3⟩:=h_fA
 obtain⟨fD0,fD1,fD2,fD3⟩:=h_fD
 have l_vA:=aX (aB H fA) 3
 have s0:=jA nm H fm (Ls) (by first|exact(by omega)|(simp only[la,List.length_singleton];omega)) fA 3 fA0 fA1 fA3 fA2
 have s1:=x7 nm H fm (Ls++rdL (aB H fA) 3) (by first|exact(by omega)|(simp only[la,List.length_singleton];omega)) fD (rdV (aB H fA) 3) fD0 fD1 fD3
 generalize Ls++rdL (aB H fA) 3++kpL (aB H fD) (rdV (aB H fA) 3)=L2 at *
 generalize Ls++rdL (aB H fA) 3=L1 at *
 generalize rdV (aB H fA) 3=vA at *
 simp only[gH] at s0 s1 ⊢
 rw[aR jZ _ _ _ rfl,gP]
 simp -implicitDefEqProofs (disch:=first|assumption|omega|(simp only[aE,aM,aF,i64,sa,aD,lm,la,lc,ln];omega)) only[go_sem,simprocAttr,hdr,s0,s1]
theorem z7g(nm:ByteArray)(hnm:nm.size≤1048576)(H:List Int)(fm:Int)(hf:0≤fm)(hf2:fm≤1000)(fD fA fB fN:Int)(fS:ByteArray)(args:List Int)(Ls:List ZB)(hl:Ls.length≤900000)(h_fA:okH H fA)(h_fB:okH H fB)(h_fD:okH H fD):evCW tab fK [.ptr (0,0) [] 0 0,.agg [I 3,I fD,I fA,I fB,I fN,Str fS,.d (.r (aG args))]] (gH nm H fm Ls) 1=some (.tup [],gH nm H fm (Ls++rdL (aB H fA) 3++rdL (aB H fB) 4++[aS 3 5 (rdV (aB H fA) 3) (rdV (aB H fB) 4) 0 0 ⟨#[]⟩]++kpL (aB H fD) 5)):=by
 have hdr:=bN
 obtain⟨fA0,fA1,fA2,fA3⟩:=h_fA
 obtain⟨fB0,fB1,fB2,fB3⟩:=h_fB
 obtain⟨fD0,fD1,fD2,fD3⟩:=h_fD
 have l_vA:=aX (aB H fA) 3
 have l_vB:=aX (aB H fB) 4
 have s0:=jA nm H fm (Ls) (by first|exact(by omega)|(simp only[la,List.length_singleton];omega)) fA 3 fA0 fA1 fA3 fA2
 have s1:=jA nm H fm (Ls++rdL (aB H fA) 3) (by first|exact(by omega)|(simp only[la,List.length_singleton];omega)) fB 4 fB0 fB1 fB3 fB2
 have s2:=uY nm H fm (Ls++rdL (aB H fA) 3++rdL (aB H fB) 4) (by first|exact(by omega)|(simp only[la,List.length_singleton];omega)) 3 5 (rdV (aB H fA) 3) (rdV (aB H fB) 4) 0 0
 have s3:=x7 nm H fm (Ls++rdL (aB H fA) 3++rdL (aB H fB) 4++[aS 3 5 (rdV (aB H fA) 3) (rdV (aB H fB) 4) 0 0 ⟨#[]⟩]) (by first|exact(by omega)|(simp only[la,List.length_singleton];omega)) fD 5 fD0 fD1 fD3
 generalize Ls++rdL (aB H fA) 3++rdL (aB H fB) 4++[aS 3 5 (rdV (aB H fA) 3) (rdV (aB H fB) 4) 0 0 ⟨#[]⟩]++kpL (aB H fD) 5=L4 at *
 generalize Ls++rdL (aB H fA) 3++rdL (aB H fB) 4++[aS 3 5 (rdV (aB H fA) 3) (rdV (aB H fB) 4) 0 0 ⟨#[]⟩]=L3 at *
 generalize Ls++rdL (aB H fA) 3++rdL (aB H fB) 4=L2 at *
 generalize Ls++rdL (aB H fA) 3=L1 at *
 generalize rdV (aB H fA) 3=vA at *
 generalize rdV (aB H fB) 4=vB at *
 simp only[gH] at s0 s1 s2 s3 ⊢
 rw[aR fI _ _ _ rfl,d9]
 simp -implicitDefEqProofs (disch:=first|assumption|omega|(simp only[aE,aM,aF,i64,sa,aD,lm,la,lc,ln];omega)) only[go_sem,simprocAttr,hdr,s0,s1,s2,s3]
theorem z7f(nm:ByteArray)(hnm:nm.size≤1048576)(H:List Int)(fm:Int)(hf:0≤fm)(hf2:fm≤1000)(fD fA fB fN:Int)(fS:ByteArray)(args:List Int)(Ls:List ZB)(hl:Ls.length≤900000)(h_fA:okH H fA)(h_fB:okH H fB)(h_fD:okH H fD):evCW tab fK [.ptr (0,0) [] 0 0,.agg [I 4,I fD,I fA,I fB,I fN,Str fS,.d (.r (aG args))]] (gH nm H fm Ls) 1=some (.tup [],gH nm H fm (Ls++rdL (aB H fA) 3++rdL (aB H fB) 4++[aS 4 5 (rdV (aB H fA) 3) (rdV (aB H fB) 4) 0 0 ⟨#[]⟩]++kpL (aB H fD) 5)):=by
 have hdr:=bN
 obtain⟨fA0,fA1,fA2,fA3⟩:=h_fA
 obtain⟨fB0,fB1,fB2,fB3⟩:=h_fB
 obtain⟨fD0,fD1,fD2,fD3⟩:=h_fD
 have l_vA:=aX (aB H fA) 3
 have l_vB:=aX (aB H fB) 4
 have s0:=jA nm H fm (Ls) (by first|exact(by omega)|(simp only[la,List.length_singleton];omega)) fA 3 fA0 fA1 fA3 fA2
 have s1:=jA nm H fm (Ls++rdL (aB H fA) 3) (by first|exact(by omega)|(simp only[la,List.length_singleton];omega)) fB 4 fB0 fB1 fB3 fB2
 have s2:=uY nm H fm (Ls++rdL (aB H fA) 3++rdL (aB H fB) 4) (by first|exact(by omega)|(simp only[la,List.length_singleton];omega)) 4 5 (rdV (aB H fA) 3) (rdV (aB H fB) 4) 0 0
 have s3:=x7 nm H fm (Ls++rdL (aB H fA) 3++rdL (aB H fB) 4++[aS 4 5 (rdV (aB H fA) 3) (rdV (aB H fB) 4) 0 0 ⟨#[]⟩]) (by first|exact(by omega)|(simp only[la,List.length_singleton];omega)) fD 5 fD0 fD1 fD3
 generalize Ls++rdL (aB H fA) 3++rdL (aB H fB) 4++[aS 4 5 (rdV (aB H fA) 3) (rdV (aB H fB) 4) 0 0 ⟨#[]⟩]++kpL (aB H fD) 5=L4 at *
 generalize Ls++rdL (aB H fA) 3++rdL (aB H fB) 4++[aS 4 5 (rdV (aB H fA) 3) (rdV (aB H fB) 4) 0 0 ⟨#[]⟩]=L3 at *
 generalize Ls++rdL (aB H fA) 3++rdL (aB H fB) 4=L2 at *
 generalize Ls++rdL (aB H fA) 3=L1 at *
 generalize rdV (aB H fA) 3=vA at *
 generalize rdV (aB H fB) 4=vB at *
 simp only[gH] at s0 s1 s2 s3 ⊢
 rw[aR fI _ _ _ rfl,d9]
 simp -implicitDefEqProofs (disch:=first|assumption|omega|(simp only[aE,aM,aF,i64,sa,aD,lm,la,lc,ln];omega)) only[go_sem,simprocAttr,hdr,s0,s1,s2,s3]
theorem z7x(nm:ByteArray)(hnm:nm.size≤1048576)(H:List Int)(fm:Int)(hf:0≤fm)(hf2:fm≤1000)(fD fA fB fN:Int)(fS:ByteArray)(args:List Int)(Ls:List ZB)(hl:Ls.length≤900000)(h_fA:okH H fA)(h_fB:okH H fB)(h_fD:okH H fD):evCW tab fK [.ptr (0,0) [] 0 0,.agg [I 5,I fD,I fA,I fB,I fN,Str fS,.d (.r (aG args))]] (gH nm H fm Ls) 1=some (.tup [],gH nm H fm (Ls++rdL (aB H fA) 3++rdL (aB H fB) 4++[aS 5 5 (rdV (aB H fA) 3) (rdV (aB H fB) 4) 0 0 ⟨#[]⟩]++kpL (aB H fD) 5)):=by
 have hdr:=bN
 obtain⟨fA0,fA1,fA2,fA3⟩:=h_fA
 obtain⟨fB0,fB1,fB2,fB3⟩:=h_fB
 obtain⟨fD0,fD1,fD2,fD3⟩:=h_fD
 have l_vA:=aX (aB H fA) 3
 have l_vB:=aX (aB H fB) 4
 have s0:=jA nm H fm (Ls) (by first|exact(by omega)|(simp only[la,List.length_singleton];omega)) fA 3 fA0 fA1 fA3 fA2
 have s1:=jA nm H fm (Ls++rdL (aB H fA) 3) (by first|exact(by omega)|(simp only[la,List.length_singleton];omega)) fB 4 fB0 fB1 fB3 fB2
 have s2:=uY nm H fm (Ls++rdL (aB H fA) 3++rdL (aB H fB) 4) (by first|exact(by omega)|(simp only[la,List.length_singleton];omega)) 5 5 (rdV (aB H fA) 3) (rdV (aB H fB) 4) 0 0
 have s3:=x7 nm H fm (Ls++rdL (aB H fA) 3++rdL (aB H fB) 4++[aS 5 5 (rdV (aB H fA) 3) (rdV (aB H fB) 4) 0 0 ⟨#[]⟩]) (by first|exact(by omega)|(simp only[la,List.length_singleton];omega)) fD 5 fD0 fD1 fD3
 generalize Ls++rdL (aB H fA) 3++rdL (aB H fB) 4++[aS 5 5 (rdV (aB H fA) 3) (rdV (aB H fB) 4) 0 0 ⟨#[]⟩]++kpL (aB H fD) 5=L4 at *
 generalize Ls++rdL (aB H fA) 3++rdL (aB H fB) 4++[aS 5 5 (rdV (aB H fA) 3) (rdV (aB H fB) 4) 0 0 ⟨#[]⟩]=L3 at *
 generalize Ls++rdL (aB H fA) 3++rdL (aB H fB) 4=L2 at *
 generalize Ls++rdL (aB H fA) 3=L1 at *
 generalize rdV (aB H fA) 3=vA at *
 generalize rdV (aB H fB) 4=vB at *
 simp only[gH] at s0 s1 s2 s3 ⊢
 rw[aR fI _ _ _ rfl,d9]
 simp -implicitDefEqProofs (disch:=first|assumption|omega|(simp only[aE,aM,aF,i64,sa,aD,lm,la,lc,ln];omega)) only[go_sem,simprocAttr,hdr,s0,s1,s2,s3]
theorem z7t(nm:ByteArray)(hnm:nm.size≤1048576)(H:List Int)(fm:Int)(hf:0≤fm)(hf2:fm≤1000)(fD fA fB fN:Int)(fS:ByteArray)(args:List Int)(Ls:List ZB)(hl:Ls.length≤900000)(h_fA:okH H fA)(h_fB:okH H fB)(h_fD:okH H fD):evCW tab fK [.ptr (0,0) [] 0 0,.agg [I 6,I fD,I fA,I fB,I fN,Str fS,.d (.r (aG args))]] (gH nm H fm Ls) 1=some (.tup [],gH nm H fm (Ls++rdL (aB H fA) 3++rdL (aB H fB) 4++[aS 6 5 (rdV (aB H fA) 3) (rdV (aB H fB) 4) 0 0 ⟨#[]⟩]++kpL (aB H fD) 5)):=by
 have hdr:=bN
 obtain⟨fA0,fA1,fA2,fA3⟩:=h_fA
 obtain⟨fB0,fB1,fB2,fB3⟩:=h_fB
 obtain⟨fD0,fD1,fD2,fD3⟩:=h_fD
 have l_vA:=aX (aB H fA) 3
 have l_vB:=aX (aB H fB) 4
 have s0:=jA nm H fm (Ls) (by first|exact(by omega)|(simp only[la,List.length_singleton];omega)) fA 3 fA0 fA1 fA3 fA2
 have s1:=jA nm H fm (Ls++rdL (aB H fA) 3) (by first|exact(by omega)|(simp only[la,List.length_singleton];omega)) fB 4 fB0 fB1 fB3 fB2
 have s2:=uY nm H fm (Ls++rdL (aB H fA) 3++rdL (aB H fB) 4) (by first|exact(by omega)|(simp only[la,List.length_singleton];omega)) 6 5 (rdV (aB H fA) 3) (rdV (aB H fB) 4) 0 0
 have s3:=x7 nm H fm (Ls++rdL (aB H fA) 3++rdL (aB H fB) 4++[aS 6 5 (rdV (aB H fA) 3) (rdV (aB H fB) 4) 0 0 ⟨#[]⟩]) (by first|exact(by omega)|(simp only[la,List.length_singleton];omega)) fD 5 fD0 fD1 fD3
 generalize Ls++rdL (aB H fA) 3++rdL (aB H fB) 4++[aS 6 5 (rdV (aB H fA) 3) (rdV (aB H fB) 4) 0 0 ⟨#[]⟩]++kpL (aB H fD) 5=L4 at *
 generalize Ls++rdL (aB H fA) 3++rdL (aB H fB) 4++[aS 6 5 (rdV (aB H fA) 3) (rdV (aB H fB) 4) 0 0 ⟨#[]⟩]=L3 at *
 generalize Ls++rdL (aB H fA) 3++rdL (aB H fB) 4=L2 at *
 generalize Ls++rdL (aB H fA) 3=L1 at *
 generalize rdV (aB H fA) 3=vA at *
 generalize rdV (aB H fB) 4=vB at *
 simp only[gH] at s0 s1 s2 s3 ⊢
 rw[aR fI _ _ _ rfl,d9]
 simp -implicitDefEqProofs (disch:=first|assumption|omega|(simp only[aE,aM,aF,i64,sa,aD,lm,la,lc,ln];omega)) only[go_sem,simprocAttr,hdr,s0,s1,s2,s3]
theorem z7y(nm:ByteArray)(hnm:nm.size≤1048576)(H:List Int)(fm:Int)(hf:0≤fm)(hf2:fm≤1000)(fD fA fB fN:Int)(fS:ByteArray)(args:List Int)(Ls:List ZB)(hl:Ls.length≤900000)(h_fA:okH H fA)(h_fB:okH H fB)(h_fD:okH H fD):evCW tab fK [.ptr (0,0) [] 0 0,.agg [I 7,I fD,I fA,I fB,I fN,Str fS,.d (.r (aG args))]] (gH nm H fm Ls) 1=some (.tup [],gH nm H fm (Ls++rdL (aB H fA) 3++rdL (aB H fB) 4++[aS 7 5 (rdV (aB H fA) 3) (rdV (aB H fB) 4) 0 0 ⟨#[]⟩]++kpL (aB H fD) 5)):=by
 have hdr:=bN
 obtain⟨fA0,fA1,fA2,fA3⟩:=h_fA
 obtain⟨fB0,fB1,fB2,fB3⟩:=h_fB
 obtain⟨fD0,fD1,fD2,fD3⟩:=h_fD
 have l_vA:=aX (aB H fA) 3
 have l_vB:=aX (aB H fB) 4
 have s0:=jA nm H fm (Ls) (by first|exact(by omega)|(simp only[la,List.length_singleton];omega)) fA 3 fA0 fA1 fA3 fA2
 have s1:=jA nm H fm (Ls++rdL (aB H fA) 3) (by first|exact(by omega)|(simp only[la,List.length_singleton];omega)) fB 4 fB0 fB1 fB3 fB2
 have s2:=uY nm H fm (Ls++rdL (aB H fA) 3++rdL (aB H fB) 4) (by first|exact(by omega)|(simp only[la,List.length_singleton];omega)) 7 5 (rdV (aB H fA) 3) (rdV (aB H fB) 4) 0 0
 have s3:=x7 nm H fm (Ls++rdL (aB H fA) 3++rdL (aB H fB) 4++[aS 7 5 (rdV (aB H fA) 3) (rdV (aB H fB) 4) 0 0 ⟨#[]⟩]) (by first|exact(by omega)|(simp only[la,List.length_singleton];omega)) fD 5 fD0 fD1 fD3
 generalize Ls++rdL (aB H fA) 3++rdL (aB H fB) 4++[aS 7 5 (rdV (aB H fA) 3) (rdV (aB H fB) 4) 0 0 ⟨#[]⟩]++kpL (aB H fD) 5=L4 at *
 generalize Ls++rdL (aB H fA) 3++rdL (aB H fB) 4++[aS 7 5 (rdV (aB H fA) 3) (rdV (aB H fB) 4) 0 0 ⟨#[]⟩]=L3 at *
 generalize Ls++rdL (aB H fA) 3++rdL (aB H fB) 4=L2 at *
 generalize Ls++rdL (aB H fA) 3=L1 at *
 generalize rdV (aB H fA) 3=vA at *
 generalize rdV (aB H fB) 4=vB at *
 simp only[gH] at s0 s1 s2 s3 ⊢
 rw[aR fI _ _ _ rfl,d9]
 simp -implicitDefEqProofs (disch:=first|assumption|omega|(simp only[aE,aM,aF,i64,sa,aD,lm,la,lc,ln];omega)) only[go_sem,simprocAttr,hdr,s0,s1,s2,s3]
theorem z8f(nm:ByteArray)(hnm:nm.size≤1048576)(H:List Int)(fm:Int)(hf:0≤fm)(hf2:fm≤1000)(fD fA fB fN:Int)(fS:ByteArray)(args:List Int)(Ls:List ZB)(hl:Ls.length≤900000)(h_fA:okH H fA)(hN:i64 fN):evCW tab i9 [.ptr (0,0) [] 0 0,.agg [I 10,I fD,I fA,I fB,I fN,Str fS,.d (.r (aG args))]] (gH nm H fm Ls) 1=some (.tup [],gH nm H fm (Ls++rdL (aB H fA) 3++[aS 12 0 (rdV (aB H fA) 3) 0 0 0 (p9 nm fN)])):=by
 have hdr:=bN
 obtain⟨fA0,fA1,fA2,fA3⟩:=h_fA
 have l_vA:=aX (aB H fA) 3
 have s0:=jA nm H fm (Ls) (by first|exact(by omega)|(simp only[la,List.length_singleton];omega)) fA 3 fA0 fA1 fA3 fA2
 have s1:=gto nm H fm (Ls++rdL (aB H fA) 3) (by first|exact(by omega)|(simp only[la,List.length_singleton];omega)) 12 0 (rdV (aB H fA) 3) 0 0 0 (p9 nm fN)
 have sl:=fun cs=>zzP nm hnm cs fN hN
 generalize Ls++rdL (aB H fA) 3++[aS 12 0 (rdV (aB H fA) 3) 0 0 0 (p9 nm fN)]=L2 at *
 generalize Ls++rdL (aB H fA) 3=L1 at *
 generalize rdV (aB H fA) 3=vA at *
 simp only[gH] at s0 s1 ⊢
 rw[aR jZ _ _ _ rfl,gP]
 simp -implicitDefEqProofs (disch:=first|assumption|omega|(simp only[aE,aM,aF,i64,sa,aD,lm,la,lc,ln];omega)) only[go_sem,simprocAttr,hdr,s0,s1,sl,By,List.drop_zero]
theorem z85(nm:ByteArray)(hnm:nm.size≤1048576)(H:List Int)(fm:Int)(hf:0≤fm)(hf2:fm≤1000)(fD fA fB fN:Int)(fS:ByteArray)(args:List Int)(Ls:List ZB)(hl:Ls.length≤900000)(hx:args.length≤4)(hq:∀q∈args,okH H q)(h_fD:okH H fD):evCW tab xM [.ptr (0,0) [] 0 0,.agg [I 11,I fD,I fA,I fB,I fN,Str fS,.d (.r (aG args))]] (gH nm H fm Ls) 1=some (.tup [],gH nm H fm (Ls++mY H fm 0 args++[aS 13 0 0 0 0 fm fS]++kpL (aB H fD) 0)):=by
 have hdr:=bN
 obtain⟨fD0,fD1,fD2,fD3⟩:=h_fD
 have lar:=Fl H fm args 0
 have s0:=zYQ nm 11 fD fA fB fN fS H fm hf hf2 args hx hq args 0 Ls rfl (by omega) (by omega)
 have s1:=gto nm H fm (Ls++mY H fm 0 args) (by first|exact(by omega)|(simp only[la,List.length_singleton];omega)) 13 0 0 0 0 fm fS
 have s2:=x7 nm H fm (Ls++mY H fm 0 args++[aS 13 0 0 0 0 fm fS]) (by first|exact(by omega)|(simp only[la,List.length_singleton];omega)) fD 0 fD0 fD1 fD3
 generalize Ls++mY H fm 0 args++[aS 13 0 0 0 0 fm fS]++kpL (aB H fD) 0=L3 at *
 generalize Ls++mY H fm 0 args++[aS 13 0 0 0 0 fm fS]=L2 at *
 generalize Ls++mY H fm 0 args=L1 at *
 simp only[gH] at s0 s1 s2 ⊢
 rw[aR Mq _ _ _ rfl,A8]
 simp -implicitDefEqProofs (disch:=first|assumption|omega|(simp only[aE,aM,aF,i64,sa,aD,lm,la,lc,ln];omega)) only[go_sem,simprocAttr,hdr,s0,s1,s2]
theorem z97(nm:ByteArray)(hnm:nm.size≤1048576)(H:List Int)(fm:Int)(hf:0≤fm)(hf2:fm≤1000)(fD fA fB fN:Int)(fS:ByteArray)(args:List Int)(Ls:List ZB)(hl:Ls.length≤900000)(h_fA:okH H fA):evCW tab i9 [.ptr (0,0) [] 0 0,.agg [I 12,I fD,I fA,I fB,I fN,Str fS,.d (.r (aG args))]] (gH nm H fm Ls) 1=some (.tup [],gH nm H fm (Ls++rdL (aB H fA) 3++[aS 2 0 (rdV (aB H fA) 3) 0 0 0 ⟨#[]⟩]++[aS 14 0 0 0 0 0 ⟨#[]⟩])):=by
 have hdr:=bN
 obtain⟨fA0,fA1,fA2,fA3⟩:=h_fA
 have l_vA:=aX (aB H fA) 3
 have s0:=jA nm H fm (Ls) (by first|exact(by omega)|(simp only[la,List.length_singleton];omega)) fA 3 fA0 fA1 fA3 fA2
 have s1:=uY nm H fm (Ls++rdL (aB H fA) 3) (by first|exact(by omega)|(simp only[la,List.length_singleton];omega)) 2 0 (rdV (aB H fA) 3) 0 0 0
 have s2:=uY nm H fm (Ls++rdL (aB H fA) 3++[aS 2 0 (rdV (aB H fA) 3) 0 0 0 ⟨#[]⟩]) (by first|exact(by omega)|(simp only[la,List.length_singleton];omega)) 14 0 0 0 0 0
 generalize Ls++rdL (aB H fA) 3++[aS 2 0 (rdV (aB H fA) 3) 0 0 0 ⟨#[]⟩]++[aS 14 0 0 0 0 0 ⟨#[]⟩]=L3 at *
 generalize Ls++rdL (aB H fA) 3++[aS 2 0 (rdV (aB H fA) 3) 0 0 0 ⟨#[]⟩]=L2 at *
 generalize Ls++rdL (aB H fA) 3=L1 at *
 generalize rdV (aB H fA) 3=vA at *
 simp only[gH] at s0 s1 s2 ⊢
 rw[aR jZ _ _ _ rfl,gP]
 simp -implicitDefEqProofs (disch:=first|assumption|omega|(simp only[aE,aM,aF,i64,sa,aD,lm,la,lc,ln];omega)) only[go_sem,simprocAttr,hdr,s0,s1,s2]
theorem z8k(nm:ByteArray)(hnm:nm.size≤1048576)(H:List Int)(fm:Int)(hf:0≤fm)(hf2:fm≤1000)(fD fA fB fN:Int)(fS:ByteArray)(args:List Int)(Ls:List ZB)(hl:Ls.length≤900000)(h_fA:okH H fA)(h_fD:okH H fD):evCW tab i9 [.ptr (0,0) [] 0 0,.agg [I 20,I fD,I fA,I fB,I fN,Str fS,.d (.r (aG args))]] (gH nm H fm Ls) 1=some (.tup [],gH nm H fm (Ls++rdL (aB H fA) 3++[aS 8 5 (rdV (aB H fA) 3) 0 0 0 ⟨#[]⟩]++kpL (aB H fD) 5)):=by
 have hdr:=bN
 obtain⟨fA0,fA1,fA2,fA3⟩:=h_fA
 obtain⟨fD0,fD1,fD2,fD3⟩:=h_fD
 have l_vA:=aX (aB H fA) 3
 have s0:=jA nm H fm (Ls) (by first|exact(by omega)|(simp only[la,List.length_singleton];omega)) fA 3 fA0 fA1 fA3 fA2
 have s1:=uY nm H fm (Ls++rdL (aB H fA) 3) (by first|exact(by omega)|(simp only[la,List.length_singleton];omega)) 8 5 (rdV (aB H fA) 3) 0 0 0
 have s2:=x7 nm H fm (Ls++rdL (aB H fA) 3++[aS 8 5 (rdV (aB H fA) 3) 0 0 0 ⟨#[]⟩]) (by first|exact(by omega)|(simp only[la,List.length_singleton];omega)) fD 5 fD0 fD1 fD3
 generalize Ls++rdL (aB H fA) 3++[aS 8 5 (rdV (aB H fA) 3) 0 0 0 ⟨#[]⟩]++kpL (aB H fD) 5=L3 at *
 generalize Ls++rdL (aB H fA) 3++[aS 8 5 (rdV (aB H fA) 3) 0 0 0 ⟨#[]⟩]=L2 at *
 generalize Ls++rdL (aB H fA) 3=L1 at *
 generalize rdV (aB H fA) 3=vA at *
 simp only[gH] at s0 s1 s2 ⊢
 rw[aR jZ _ _ _ rfl,gP]
 simp -implicitDefEqProofs (disch:=first|assumption|omega|(simp only[aE,aM,aF,i64,sa,aD,lm,la,lc,ln];omega)) only[go_sem,simprocAttr,hdr,s0,s1,s2]
theorem z99(nm:ByteArray)(hnm:nm.size≤1048576)(H:List Int)(fm:Int)(hf:0≤fm)(hf2:fm≤1000)(fD fA fB fN:Int)(fS:ByteArray)(args:List Int)(Ls:List ZB)(hl:Ls.length≤900000)(h_fA:okH H fA)(h_fB:okH H fB):evCW tab fK [.ptr (0,0) [] 0 0,.agg [I 21,I fD,I fA,I fB,I fN,Str fS,.d (.r (aG args))]] (gH nm H fm Ls) 1=some (.tup [],gH nm H fm (Ls++rdL (aB H fA) 3++rdL (aB H fB) 4++[aS 9 0 (rdV (aB H fA) 3) (rdV (aB H fB) 4) 0 0 ⟨#[]⟩])):=by
 have hdr:=bN
 obtain⟨fA0,fA1,fA2,fA3⟩:=h_fA
 obtain⟨fB0,fB1,fB2,fB3⟩:=h_fB
 have l_vA:=aX (aB H fA) 3
 have l_vB:=aX (aB H fB) 4
 have s0:=jA nm H fm (Ls) (by first|exact(by omega)|(simp only[la,List.length_singleton];omega)) fA 3 fA0 fA1 fA3 fA2
 have s1:=jA nm H fm (Ls++rdL (aB H fA) 3) (by first|exact(by omega)|(simp only[la,List.length_singleton];omega)) fB 4 fB0 fB1 fB3 fB2
 have s2:=uY nm H fm (Ls++rdL (aB H fA) 3++rdL (aB H fB) 4) (by first|exact(by omega)|(simp only[la,List.length_singleton];omega)) 9 0 (rdV (aB H fA) 3) (rdV (aB H fB) 4) 0 0
 generalize Ls++rdL (aB H fA) 3++rdL (aB H fB) 4++[aS 9 0 (rdV (aB H fA) 3) (rdV (aB H fB) 4) 0 0 ⟨#[]⟩]=L3 at *
 generalize Ls++rdL (aB H fA) 3++rdL (aB H fB) 4=L2 at *
 generalize Ls++rdL (aB H fA) 3=L1 at *
 generalize rdV (aB H fA) 3=vA at *
 generalize rdV (aB H fB) 4=vB at *
 simp only[gH] at s0 s1 s2 ⊢
 rw[aR fI _ _ _ rfl,d9]
 simp -implicitDefEqProofs (disch:=first|assumption|omega|(simp only[aE,aM,aF,i64,sa,aD,lm,la,lc,ln];omega)) only[go_sem,simprocAttr,hdr,s0,s1,s2]
theorem z8m(nm:ByteArray)(hnm:nm.size≤1048576)(H:List Int)(fm:Int)(hf:0≤fm)(hf2:fm≤1000)(fD fA fB fN:Int)(fS:ByteArray)(q:Int)(Ls:List ZB)(hl:Ls.length≤900000)(h_fA:okH H fA)(h_fB:okH H fB)(h_q:okH H q)(h_fD:okH H fD):evCW tab y8 [.ptr (0,0) [] 0 0,.agg [I 22,I fD,I fA,I fB,I fN,Str fS,.d (.r (aG [q]))]] (gH nm H fm Ls) 1=some (.tup [],gH nm H fm (Ls++rdL (aB H fA) 3++rdL (aB H fB) 4++[aS 2 5 (rdV (aB H fB) 4) 0 0 0 ⟨#[]⟩]++rdL (aB H q) 4++[aS 10 5 (rdV (aB H fA) 3) (rdV (aB H q) 4) 0 0 ⟨#[]⟩]++kpL (aB H fD) 5)):=by
 have hdr:=bN
 obtain⟨fA0,fA1,fA2,fA3⟩:=h_fA
 obtain⟨fB0,fB1,fB2,fB3⟩:=h_fB
 obtain⟨q0,q1,q2,q3⟩:=h_q
 obtain⟨fD0,fD1,fD2,fD3⟩:=h_fD
 have l_vA:=aX (aB H fA) 3
 have l_vB:=aX (aB H fB) 4
 have l_vC:=aX (aB H q) 4
 have s0:=jA nm H fm (Ls) (by first|exact(by omega)|(simp only[la,List.length_singleton];omega)) fA 3 fA0 fA1 fA3 fA2
 have s1:=jA nm H fm (Ls++rdL (aB H fA) 3) (by first|exact(by omega)|(simp only[la,List.length_singleton];omega)) fB 4 fB0 fB1 fB3 fB2
 have s2:=uY nm H fm (Ls++rdL (aB H fA) 3++rdL (aB H fB) 4) (by first|exact(by omega)|(simp only[la,List.length_singleton];omega)) 2 5 (rdV (aB H fB) 4) 0 0 0
 have s3:=jA nm H fm (Ls++rdL (aB H fA) 3++rdL (aB H fB) 4++[aS 2 5 (rdV (aB H fB) 4) 0 0 0 ⟨#[]⟩]) (by first|exact(by omega)|(simp only[la,List.length_singleton];omega)) q 4 q0 q1 q3 q2
 have s4:=uY nm H fm (Ls++rdL (aB H fA) 3++rdL (aB H fB) 4++[aS 2 5 (rdV (aB H fB) 4) 0 0 0 ⟨#[]⟩]++rdL (aB H q) 4) (by first|exact(by omega)|(simp only[la,List.length_singleton];omega)) 10 5 (rdV (aB H fA) 3) (rdV (aB H q) 4) 0 0
 have s5:=x7 nm H fm (Ls++rdL (aB H fA) 3++rdL (aB H fB) 4++[aS 2 5 (rdV (aB H fB) 4) 0 0 0 ⟨#[]⟩]++rdL (aB H q) 4++[aS 10 5 (rdV (aB H fA) 3) (rdV (aB H q) 4) 0 0 ⟨#[]⟩]) (by first|exact(by omega)|(simp only[la,List.length_singleton];omega)) fD 5 fD0 fD1 fD3
 generalize Ls++rdL (aB H fA) 3++rdL (aB H fB) 4++[aS 2 5 (rdV (aB H fB) 4) 0 0 0 ⟨#[]⟩]++rdL (aB H q) 4++[aS 10 5 (rdV (aB H fA) 3) (rdV (aB H q) 4) 0 0 ⟨#[]⟩]++kpL (aB H fD) 5=L6 at *
 generalize Ls++rdL (aB H fA) 3++rdL (aB H fB) 4++[aS 2 5 (rdV (aB H fB) 4) 0 0 0 ⟨#[]⟩]++rdL (aB H q) 4++[aS 10 5 (rdV (aB H fA) 3) (rdV (aB H q) 4) 0 0 ⟨#[]⟩]=L5 at *
 generalize Ls++rdL (aB H fA) 3++rdL (aB H fB) 4++[aS 2 5 (rdV (aB H fB) 4) 0 0 0 ⟨#[]⟩]++rdL (aB H q) 4=L4 at *
 generalize Ls++rdL (aB H fA) 3++rdL (aB H fB) 4++[aS 2 5 (rdV (aB H fB) 4) 0 0 0 ⟨#[]⟩]=L3 at *
 generalize Ls++rdL (aB H fA) 3++rdL (aB H fB) 4=L2 at *
 generalize Ls++rdL (aB H fA) 3=L1 at *
 generalize rdV (aB H fA) 3=vA at *
 generalize rdV (aB H fB) 4=vB at *
 generalize rdV (aB H q) 4=vC at *
 simp only[gH] at s0 s1 s2 s3 s4 s5 ⊢
 rw[aR Oa _ _ _ rfl,Ct]
 simp -implicitDefEqProofs (disch:=first|assumption|omega|(simp only[aE,aM,aF,i64,sa,aD,lm,la,lc,ln];omega)) only[go_sem,simprocAttr,hdr,s0,s1,s2,s3,s4,s5,aG,mc,mn]
theorem z94(nm:ByteArray)(hnm:nm.size≤1048576)(H:List Int)(fm:Int)(hf:0≤fm)(hf2:fm≤1000)(fD fA fB fN:Int)(fS:ByteArray)(args:List Int)(Ls:List ZB)(hl:Ls.length≤900000)(h_fA:okH H fA):evCW tab i9 [.ptr (0,0) [] 0 0,.agg [I 25,I fD,I fA,I fB,I fN,Str fS,.d (.r (aG args))]] (gH nm H fm Ls) 1=some (.tup [],gH nm H fm (Ls++rdL (aB H fA) 3++[aS 15 0 (rdV (aB H fA) 3) 0 0 0 ⟨#[]⟩])):=by
 have hdr:=bN
 obtain⟨fA0,fA1,fA2,fA3⟩:=h_fA
 have l_vA:=aX (aB H fA) 3
 have s0:=jA nm H fm (Ls) (by first|exact(by omega)|(simp only[la,List.length_singleton];omega)) fA 3 fA0 fA1 fA3 fA2
 have s1:=uY nm H fm (Ls++rdL (aB H fA) 3) (by first|exact(by omega)|(simp only[la,List.length_singleton];omega)) 15 0 (rdV (aB H fA) 3) 0 0 0
 generalize Ls++rdL (aB H fA) 3++[aS 15 0 (rdV (aB H fA) 3) 0 0 0 ⟨#[]⟩]=L2 at *
 generalize Ls++rdL (aB H fA) 3=L1 at *
 generalize rdV (aB H fA) 3=vA at *
 simp only[gH] at s0 s1 ⊢
 rw[aR jZ _ _ _ rfl,gP]
 simp -implicitDefEqProofs (disch:=first|assumption|omega|(simp only[aE,aM,aF,i64,sa,aD,lm,la,lc,ln];omega)) only[go_sem,simprocAttr,hdr,s0,s1]
theorem z9Z(nm:ByteArray)(hnm:nm.size≤1048576)(H:List Int)(fm:Int)(hf:0≤fm)(hf2:fm≤1000)(fD fA fB fN:Int)(fS:ByteArray)(args:List Int)(Ls:List ZB)(hl:Ls.length≤900000)(h_fA:okH H fA)(h_fB:okH H fB):evCW tab fK [.ptr (0,0) [] 0 0,.agg [I 26,I fD,I fA,I fB,I fN,Str fS,.d (.r (aG args))]] (gH nm H fm Ls) 1=some (.tup [],gH nm H fm (Ls++rdL (aB H fA) 3++rdL (aB H fB) 4++[aS 16 0 (rdV (aB H fA) 3) (rdV (aB H fB) 4) 0 0 ⟨#[]⟩])):=by
 have hdr:=bN
 obtain⟨fA0,fA1,fA2,fA3⟩:=h_fA
 obtain⟨fB0,fB1,fB2,fB3⟩:=h_fB
 have l_vA:=aX (aB H fA) 3
 have l_vB:=aX (aB H fB) 4
 have s0:=jA nm H fm (Ls) (by first|exact(by omega)|(simp only[la,List.length_singleton];omega)) fA 3 fA0 fA1 fA3 fA2
 have s1:=jA nm H fm (Ls++rdL (aB H fA) 3) (by first|exact(by omega)|(simp only[la,List.length_singleton];omega)) fB 4 fB0 fB1 fB3 fB2
 have s2:=uY nm H fm (Ls++rdL (aB H fA) 3++rdL (aB H fB) 4) (by first|exact(by omega)|(simp only[la,List.length_singleton];omega)) 16 0 (rdV (aB H fA) 3) (rdV (aB H fB) 4) 0 0
 generalize Ls++rdL (aB H fA) 3++rdL (aB H fB) 4++[aS 16 0 (rdV (aB H fA) 3) (rdV (aB H fB) 4) 0 0 ⟨#[]⟩]=L3 at *
 generalize Ls++rdL (aB H fA) 3++rdL (aB H fB) 4=L2 at *
 generalize Ls++rdL (aB H fA) 3=L1 at *
 generalize rdV (aB H fA) 3=vA at *
 generalize rdV (aB H fB) 4=vB at *
 simp only[gH] at s0 s1 s2 ⊢
 rw[aR fI _ _ _ rfl,d9]
 simp -implicitDefEqProofs (disch:=first|assumption|omega|(simp only[aE,aM,aF,i64,sa,aD,lm,la,lc,ln];omega)) only[go_sem,simprocAttr,hdr,s0,s1,s2]
theorem z92(nm:ByteArray)(hnm:nm.size≤1048576)(H:List Int)(fm:Int)(hf:0≤fm)(hf2:fm≤1000)(fD fA fB fN:Int)(fS:ByteArray)(args:List Int)(Ls:List ZB)(hl:Ls.length≤900000)(h_fA:okH H fA)(h_fB:okH H fB):evCW tab fK [.ptr (0,0) [] 0 0,.agg [I 27,I fD,I fA,I fB,I fN,Str fS,.d (.r (aG args))]] (gH nm H fm Ls) 1=some (.tup [],gH nm H fm (Ls++rdL (aB H fA) 3++rdL (aB H fB) 4++[aS 17 0 (rdV (aB H fA) 3) (rdV (aB H fB) 4) 0 0 ⟨#[]⟩])):=by
 have hdr:=bN
 obtain⟨fA0,fA1,fA2,fA3⟩:=h_fA
 obtain⟨fB0,fB1,fB2,fB3⟩:=h_fB
 have l_vA:=aX (aB H fA) 3
 have l_vB:=aX (aB H fB) 4
 have s0:=jA nm H fm (Ls) (by first|exact(by omega)|(simp only[la,List.length_singleton];omega)) fA 3 fA0 fA1 fA3 fA2
 have s1:=jA nm H fm (Ls++rdL (aB H fA) 3) (by first|exact(by omega)|(simp only[la,List.length_singleton];omega)) fB 4 fB0 fB1 fB3 fB2
 have s2:=uY nm H fm (Ls++rdL (aB H fA) 3++rdL (aB H fB) 4) (by first|exact(by omega)|(simp only[la,List.length_singleton];omega)) 17 0 (rdV (aB H fA) 3) (rdV (aB H fB) 4) 0 0
 generalize Ls++rdL (aB H fA) 3++rdL (aB H fB) 4++[aS 17 0 (rdV (aB H fA) 3) (rdV (aB H fB) 4) 0 0 ⟨#[]⟩]=L3 at *
 generalize Ls++rdL (aB H fA) 3++rdL (aB H fB) 4=L2 at *
 generalize Ls++rdL (aB H fA) 3=L1 at *
 generalize rdV (aB H fA) 3=vA at *
 generalize rdV (aB H fB) 4=vB at *
 simp only[gH] at s0 s1 s2 ⊢
 rw[aR fI _ _ _ rfl,d9]
 simp -implicitDefEqProofs (disch:=first|assumption|omega|(simp only[aE,aM,aF,i64,sa,aD,lm,la,lc,ln];omega)) only[go_sem,simprocAttr,hdr,s0,s1,s2]
theorem z8U(nm:ByteArray)(hnm:nm.size≤1048576)(H:List Int)(fm:Int)(hf:0≤fm)(hf2:fm≤1000)(fD fA fB fN:Int)(fS:ByteArray)(args:List Int)(Ls:List ZB)(hl:Ls.length≤900000)(h_fA:okH H fA):evCW tab i9 [.ptr (0,0) [] 0 0,.agg [I 28,I fD,I fA,I fB,I fN,Str fS,.d (.r (aG args))]] (gH nm H fm Ls) 1=some (.tup [],gH nm H fm (Ls++rdL (aB H fA) 3++[aS 19 0 (rdV (aB H fA) 3) 0 0 0 ⟨#[]⟩])):=by
 have hdr:=bN
 obtain⟨fA0,fA1,fA2,fA3⟩:=h_fA
 have l_vA:=aX (aB H fA) 3
 have s0:=jA nm H fm (Ls) (by first|exact(by omega)|(simp only[la,List.length_singleton];omega)) fA 3 fA0 fA1 fA3 fA2
 have s1:=uY nm H fm (Ls++rdL (aB H fA) 3) (by first|exact(by omega)|(simp only[la,List.length_singleton];omega)) 19 0 (rdV (aB H fA) 3) 0 0 0
 generalize Ls++rdL (aB H fA) 3++[aS 19 0 (rdV (aB H fA) 3) 0 0 0 ⟨#[]⟩]=L2 at *
 generalize Ls++rdL (aB H fA) 3=L1 at *
 generalize rdV (aB H fA) 3=vA at *
 simp only[gH] at s0 s1 ⊢
 rw[aR jZ _ _ _ rfl,gP]
 simp -implicitDefEqProofs (disch:=first|assumption|omega|(simp only[aE,aM,aF,i64,sa,aD,lm,la,lc,ln];omega)) only[go_sem,simprocAttr,hdr,s0,s1]
set_option maxRecDepth 8000
set_option maxHeartbeats 8000000
theorem z7s(nm:ByteArray)(hnm:nm.size≤1048576)(H:List Int)(fm:Int)(hf:0≤fm)(hf2:fm≤1000)(fD fA fB fN:Int)(fS:ByteArray)(args:List Int)(Ls:List ZB)(hl:Ls.length≤900000)(h_fD:okH H fD):evCW tab bK [.ptr (0,0) [] 0 0,.agg [I 1,I fD,I fA,I fB,I fN,Str fS,.d (.r (aG args))]] (gH nm H fm Ls) 1=some (.tup [],gH nm H fm (Ls++[aS 1 3 0 0 fN 0 ⟨#[]⟩]++kpL (aB H fD) 3)):=by
 have hdr:=bN
 obtain⟨fD0,fD1,fD2,fD3⟩:=h_fD
 have s0:=uY nm H fm (Ls) (by first|exact(by omega)|(simp only[la,List.length_singleton];omega)) 1 3 0 0 fN 0
 have s1:=x7 nm H fm (Ls++[aS 1 3 0 0 fN 0 ⟨#[]⟩]) (by first|exact(by omega)|(simp only[la,List.length_singleton];omega)) fD 3 fD0 fD1 fD3
 generalize Ls++[aS 1 3 0 0 fN 0 ⟨#[]⟩]++kpL (aB H fD) 3=L2 at *
 generalize Ls++[aS 1 3 0 0 fN 0 ⟨#[]⟩]=L1 at *
 simp only[gH] at s0 s1 ⊢
 rw[aR bJ _ _ _ rfl,bF]
 simp -implicitDefEqProofs (disch:=first|assumption|omega|(simp only[aE,aM,aF,i64,sa,aD,lm,la,lc,ln];omega)) only[go_sem,simprocAttr,hdr,s0,s1]
theorem z7z(nm:ByteArray)(hnm:nm.size≤1048576)(H:List Int)(fm:Int)(hf:0≤fm)(hf2:fm≤1000)(fD fA fB fN:Int)(fS:ByteArray)(args:List Int)(Ls:List ZB)(hl:Ls.length≤900000)(h_fA:okH H fA)(h_fD:okH H fD):evCW tab bK [.ptr (0,0) [] 0 0,.agg [I 2,I fD,I fA,I fB,I fN,Str fS,.d (.r (aG args))]] (gH nm H fm Ls) 1=some (.tup [],gH nm H fm (Ls++rdL (aB H fA) 3++kpL (aB H fD) (rdV (aB H fA) 3))):=by
 have hdr:=bN
 have s1:=z7B nm hnm H fm hf hf2 fD fA fB fN fS args Ls hl h_fA h_fD
 generalize Ls++rdL (aB H fA) 3++kpL (aB H fD) (rdV (aB H fA) 3)=LF at *
 simp only[gH] at s1 ⊢
 rw[aR bJ _ _ _ rfl,bF]
 simp -implicitDefEqProofs (disch:=first|assumption|omega|(simp only[aE,aM,aF,i64,sa,aD,lm,la,lc,ln];omega)) only[go_sem,simprocAttr,hdr,s1]
theorem z7v(nm:ByteArray)(hnm:nm.size≤1048576)(H:List Int)(fm:Int)(hf:0≤fm)(hf2:fm≤1000)(fD fA fB fN:Int)(fS:ByteArray)(args:List Int)(Ls:List ZB)(hl:Ls.length≤900000)(h_fA:okH H fA)(h_fB:okH H fB)(h_fD:okH H fD):evCW tab bK [.ptr (0,0) [] 0 0,.agg [I 3,I fD,I fA,I fB,I fN,Str fS,.d (.r (aG args))]] (gH nm H fm Ls) 1=some (.tup [],gH nm H fm (Ls++rdL (aB H fA) 3++rdL (aB H fB) 4++[aS 3 5 (rdV (aB H fA) 3) (rdV (aB H fB) 4) 0 0 ⟨#[]⟩]++kpL (aB H fD) 5)):=by
 have hdr:=bN
 have s1:=z7g nm hnm H fm hf hf2 fD fA fB fN fS args Ls hl h_fA h_fB h_fD
 generalize Ls++rdL (aB H fA) 3++rdL (aB H fB) 4++[aS 3 5 (rdV (aB H fA) 3) (rdV (aB H fB) 4) 0 0 ⟨#[]⟩]++kpL (aB H fD) 5=LF at *
 simp only[gH] at s1 ⊢
 rw[aR bJ _ _ _ rfl,bF]
 simp -implicitDefEqProofs (disch:=first|assumption|omega|(simp only[aE,aM,aF,i64,sa,aD,lm,la,lc,ln];omega)) only[go_sem,simprocAttr,hdr,s1]
theorem z7j(nm:ByteArray)(hnm:nm.size≤1048576)(H:List Int)(fm:Int)(hf:0≤fm)(hf2:fm≤1000)(fD fA fB fN:Int)(fS:ByteArray)(args:List Int)(Ls:List ZB)(hl:Ls.length≤900000)(h_fA:okH H fA)(h_fB:okH H fB)(h_fD:okH H fD):evCW tab bK [.ptr (0,0) [] 0 0,.agg [I 4,I fD,I fA,I fB,I fN,Str fS,.d (.r (aG args))]] (gH nm H fm Ls) 1=some (.tup [],gH nm H fm (Ls++rdL (aB H fA) 3++rdL (aB H fB) 4++[aS 4 5 (rdV (aB H fA) 3) (rdV (aB H fB) 4) 0 0 ⟨#[]⟩]++kpL (aB H fD) 5)):=by
 have hdr:=bN
 have s1:=z7f nm hnm H fm hf hf2 fD fA fB fN fS args Ls hl h_fA h_fB h_fD
 generalize Ls++rdL (aB H fA) 3++rdL (aB H fB) 4++[aS 4 5 (rdV (aB H fA) 3) (rdV (aB H fB) 4) 0 0 ⟨#[]⟩]++kpL (aB H fD) 5=LF at *
 simp only[gH] at s1 ⊢
 rw[aR bJ _ _ _ rfl,bF]
 simp -implicitDefEqProofs (disch:=first|assumption|omega|(simp only[aE,aM,aF,i64,sa,aD,lm,la,lc,ln];omega)) only[go_sem,simprocAttr,hdr,s1]
theorem z7m(nm:ByteArray)(hnm:nm.size≤1048576)(H:List Int)(fm:Int)(hf:0≤fm)(hf2:fm≤1000)(fD fA fB fN:Int)(fS:ByteArray)(args:List Int)(Ls:List ZB)(hl:Ls.length≤900000)(h_fA:okH H fA)(h_fB:okH H fB)(h_fD:okH H fD):evCW tab bK [.ptr (0,0) [] 0 0,.agg [I 5,I fD,I fA,I fB,I fN,Str fS,.d (.r (aG args))]] (gH nm H fm Ls) 1=some (.tup [],gH nm H fm (Ls++rdL (aB H fA) 3++rdL (aB H fB) 4++[aS 5 5 (rdV (aB H fA) 3) (rdV (aB H fB) 4) 0 0 ⟨#[]⟩]++kpL (aB H fD) 5)):=by
 have hdr:=bN
 have s1:=z7x nm hnm H fm hf hf2 fD fA fB fN fS args Ls hl h_fA h_fB h_fD
 generalize Ls++rdL (aB H fA) 3++rdL (aB H fB) 4++[aS 5 5 (rdV (aB H fA) 3) (rdV (aB H fB) 4) 0 0 ⟨#[]⟩]++kpL (aB H fD) 5=LF at *
 simp only[gH] at s1 ⊢
 rw[aR bJ _ _ _ rfl,bF]
 simp -implicitDefEqProofs (disch:=first|assumption|omega|(simp only[aE,aM,aF,i64,sa,aD,lm,la,lc,ln];omega)) only[go_sem,simprocAttr,hdr,s1]
theorem z7O(nm:ByteArray)(hnm:nm.size≤1048576)(H:List Int)(fm:Int)(hf:0≤fm)(hf2:fm≤1000)(fD fA fB fN:Int)(fS:ByteArray)(args:List Int)(Ls:List ZB)(hl:Ls.length≤900000)(h_fA:okH H fA)(h_fB:okH H fB)(h_fD:okH H fD):evCW tab bK [.ptr (0,0) [] 0 0,.agg [I 6,I fD,I fA,I fB,I fN,Str fS,.d (.r (aG args))]] (gH nm H fm Ls) 1=some (.tup [],gH nm H fm (Ls++rdL (aB H fA) 3++rdL (aB H fB) 4++[aS 6 5 (rdV (aB H fA) 3) (rdV (aB H fB) 4) 0 0 ⟨#[]⟩]++kpL (aB H fD) 5)):=by
 have hdr:=bN
 have s1:=z7t nm hnm H fm hf hf2 fD fA fB fN fS args Ls hl h_fA h_fB h_fD
 generalize Ls++rdL (aB H fA) 3++rdL (aB H fB) 4++[aS 6 5 (rdV (aB H fA) 3) (rdV (aB H fB) 4) 0 0 ⟨#[]⟩]++kpL (aB H fD) 5=LF at *
 simp only[gH] at s1 ⊢
 rw[aR bJ _ _ _ rfl,bF]
 simp -implicitDefEqProofs (disch:=first|assumption|omega|(simp only[aE,aM,aF,i64,sa,aD,lm,la,lc,ln];omega)) only[go_sem,simprocAttr,hdr,s1]
theorem z7H(nm:ByteArray)(hnm:nm.size≤1048576)(H:List Int)(fm:Int)(hf:0≤fm)(hf2:fm≤1000)(fD fA fB fN:Int)(fS:ByteArray)(args:List Int)(Ls:List ZB)(hl:Ls.length≤900000)(h_fA:okH H fA)(h_fB:okH H fB)(h_fD:okH H fD):evCW tab bK [.ptr (0,0) [] 0 0,.agg [I 7,I fD,I fA,I fB,I fN,Str fS,.d (.r (aG args))]] (gH nm H fm Ls) 1=some (.tup [],gH nm H fm (Ls++rdL (aB H fA) 3++rdL (aB H fB) 4++[aS 7 5 (rdV (aB H fA) 3) (rdV (aB H fB) 4) 0 0 ⟨#[]⟩]++kpL (aB H fD) 5)):=by
 have hdr:=bN
 have s1:=z7y nm hnm H fm hf hf2 fD fA fB fN fS args Ls hl h_fA h_fB h_fD
 generalize Ls++rdL (aB H fA) 3++rdL (aB H fB) 4++[aS 7 5 (rdV (aB H fA) 3) (rdV (aB H fB) 4) 0 0 ⟨#[]⟩]++kpL (aB H fD) 5=LF at *
 simp only[gH] at s1 ⊢
 rw[aR bJ _ _ _ rfl,bF]
 simp -implicitDefEqProofs (disch:=first|assumption|omega|(simp only[aE,aM,aF,i64,sa,aD,lm,la,lc,ln];omega)) only[go_sem,simprocAttr,hdr,s1]
theorem z7V(nm:ByteArray)(hnm:nm.size≤1048576)(H:List Int)(fm:Int)(hf:0≤fm)(hf2:fm≤1000)(fD fA fB fN:Int)(fS:ByteArray)(args:List Int)(Ls:List ZB)(hl:Ls.length≤900000)(hN:i64 fN):evCW tab bK [.ptr (0,0) [] 0 0,.agg [I 8,I fD,I fA,I fB,I fN,Str fS,.d (.r (aG args))]] (gH nm H fm Ls) 1=some (.tup [],gH nm H fm (Ls++[Di nm fN])):=by
 have hdr:=bN
 have sl:=fun cs=>zzP nm hnm cs fN hN
 have e0:(Ls++[Di nm fN]).map ZB.o=Ls.map ZB.o++[[DS (p9 nm fN),DI 0,DI 0,DI 0,DI 0,DI 0,DI 0,DS ⟨#[]⟩]]:=by simp[Di,ZB.o]
 have e1:(Ls.map ZB.o).length≤1000000:=by simp;omega
 simp only[gH,e0]
 generalize Ls.map ZB.o=W at *
 generalize p9 nm fN=lb at *
 rw[aR bJ _ _ _ rfl,bF]
 simp -implicitDefEqProofs (disch:=first|assumption|omega|(simp only[aE,aM,aF,i64,sa,aD,lm,la,lc,ln];omega)) only[go_sem,simprocAttr,hdr,sl,By,List.drop_zero]
theorem z7o(nm:ByteArray)(hnm:nm.size≤1048576)(H:List Int)(fm:Int)(hf:0≤fm)(hf2:fm≤1000)(fD fA fB fN:Int)(fS:ByteArray)(args:List Int)(Ls:List ZB)(hl:Ls.length≤900000)(hN:i64 fN):evCW tab bK [.ptr (0,0) [] 0 0,.agg [I 9,I fD,I fA,I fB,I fN,Str fS,.d (.r (aG args))]] (gH nm H fm Ls) 1=some (.tup [],gH nm H fm (Ls++[aS 11 0 0 0 0 0 (p9 nm fN)])):=by
 have hdr:=bN
 have s0:=gto nm H fm (Ls) (by first|exact(by omega)|(simp only[la,List.length_singleton];omega)) 11 0 0 0 0 0 (p9 nm fN)
 have sl:=fun cs=>zzP nm hnm cs fN hN
 generalize Ls++[aS 11 0 0 0 0 0 (p9 nm fN)]=L1 at *
 simp only[gH] at s0 ⊢
 rw[aR bJ _ _ _ rfl,bF]
 simp -implicitDefEqProofs (disch:=first|assumption|omega|(simp only[aE,aM,aF,i64,sa,aD,lm,la,lc,ln];omega)) only[go_sem,simprocAttr,hdr,s0,sl,By,List.drop_zero]
theorem z81(nm:ByteArray)(hnm:nm.size≤1048576)(H:List Int)(fm:Int)(hf:0≤fm)(hf2:fm≤1000)(fD fA fB fN:Int)(fS:ByteArray)(args:List Int)(Ls:List ZB)(hl:Ls.length≤900000)(h_fA:okH H fA)(hN:i64 fN):evCW tab bK [.ptr (0,0) [] 0 0,.agg [I 10,I fD,I fA,I fB,I fN,Str fS,.d (.r (aG args))]] (gH nm H fm Ls) 1=some (.tup [],gH nm H fm (Ls++rdL (aB H fA) 3++[aS 12 0 (rdV (aB H fA) 3) 0 0 0 (p9 nm fN)])):=by
 have hdr:=bN
 have s1:=z8f nm hnm H fm hf hf2 fD fA fB fN fS args Ls hl h_fA hN
 generalize Ls++rdL (aB H fA) 3++[aS 12 0 (rdV (aB H fA) 3) 0 0 0 (p9 nm fN)]=LF at *
 simp only[gH] at s1 ⊢
 rw[aR bJ _ _ _ rfl,bF]
 simp -implicitDefEqProofs (disch:=first|assumption|omega|(simp only[aE,aM,aF,i64,sa,aD,lm,la,lc,ln];omega)) only[go_sem,simprocAttr,hdr,s1]
theorem z8V(nm:ByteArray)(hnm:nm.size≤1048576)(H:List Int)(fm:Int)(hf:0≤fm)(hf2:fm≤1000)(fD fA fB fN:Int)(fS:ByteArray)(args:List Int)(Ls:List ZB)(hl:Ls.length≤900000)(hx:args.length≤4)(hq:∀q∈args,okH H q)(h_fD:okH H fD):evCW tab bK [.ptr (0,0) [] 0 0,.agg [I 11,I fD,I fA,I fB,I fN,Str fS,.d (.r (aG args))]] (gH nm H fm Ls) 1=some (.tup [],gH nm H fm (Ls++mY H fm 0 args++[aS 13 0 0 0 0 fm fS]++kpL (aB H fD) 0)):=by
 have hdr:=bN
 have s1:=z85 nm hnm H fm hf hf2 fD fA fB fN fS args Ls hl hx hq h_fD
 generalize Ls++mY H fm 0 args++[aS 13 0 0 0 0 fm fS]++kpL (aB H fD) 0=LF at *
 simp only[gH] at s1 ⊢
 rw[aR bJ _ _ _ rfl,bF]
 simp -implicitDefEqProofs (disch:=first|assumption|omega|(simp only[aE,aM,aF,i64,sa,aD,lm,la,lc,ln];omega)) only[go_sem,simprocAttr,hdr,s1]
theorem z7c(nm:ByteArray)(hnm:nm.size≤1048576)(H:List Int)(fm:Int)(hf:0≤fm)(hf2:fm≤1000)(fD fA fB fN:Int)(fS:ByteArray)(args:List Int)(Ls:List ZB)(hl:Ls.length≤900000)(h_fA:okH H fA):evCW tab bK [.ptr (0,0) [] 0 0,.agg [I 12,I fD,I fA,I fB,I fN,Str fS,.d (.r (aG args))]] (gH nm H fm Ls) 1=some (.tup [],gH nm H fm (Ls++rdL (aB H fA) 3++[aS 2 0 (rdV (aB H fA) 3) 0 0 0 ⟨#[]⟩]++[aS 14 0 0 0 0 0 ⟨#[]⟩])):=by
 have hdr:=bN
 have s1:=z97 nm hnm H fm hf hf2 fD fA fB fN fS args Ls hl h_fA
 generalize Ls++rdL (aB H fA) 3++[aS 2 0 (rdV (aB H fA) 3) 0 0 0 ⟨#[]⟩]++[aS 14 0 0 0 0 0 ⟨#[]⟩]=LF at *
 simp only[gH] at s1 ⊢
 rw[aR bJ _ _ _ rfl,bF]
 simp -implicitDefEqProofs (disch:=first|assumption|omega|(simp only[aE,aM,aF,i64,sa,aD,lm,la,lc,ln];omega)) only[go_sem,simprocAttr,hdr,s1]
theorem z8P(nm:ByteArray)(hnm:nm.size≤1048576)(H:List Int)(fm:Int)(hf:0≤fm)(hf2:fm≤1000)(fD fA fB fN:Int)(fS:ByteArray)(args:List Int)(Ls:List ZB)(hl:Ls.length≤900000)(h_fA:okH H fA)(h_fD:okH H fD):evCW tab bK [.ptr (0,0) [] 0 0,.agg [I 20,I fD,I fA,I fB,I fN,Str fS,.d (.r (aG args))]] (gH nm H fm Ls) 1=some (.tup [],gH nm H fm (Ls++rdL (aB H fA) 3++[aS 8 5 (rdV (aB H fA) 3) 0 0 0 ⟨#[]⟩]++kpL (aB H fD) 5)):=by
 have hdr:=bN
 have s1:=z8k nm hnm H fm hf hf2 fD fA fB fN fS args Ls hl h_fA h_fD
 generalize Ls++rdL (aB H fA) 3++[aS 8 5 (rdV (aB H fA) 3) 0 0 0 ⟨#[]⟩]++kpL (aB H fD) 5=LF at *
 simp only[gH] at s1 ⊢
 rw[aR bJ _ _ _ rfl,bF]
 simp -implicitDefEqProofs (disch:=first|assumption|omega|(simp only[aE,aM,aF,i64,sa,aD,lm,la,lc,ln];omega)) only[go_sem,simprocAttr,hdr,s1]
theorem z8w(nm:ByteArray)(hnm:nm.size≤1048576)(H:List Int)(fm:Int)(hf:0≤fm)(hf2:fm≤1000)(fD fA fB fN:Int)(fS:ByteArray)(args:List Int)(Ls:List ZB)(hl:Ls.length≤900000)(h_fA:okH H fA)(h_fB:okH H fB):evCW tab bK [.ptr (0,0) [] 0 0,.agg [I 21,I fD,I fA,I fB,I fN,Str fS,.d (.r (aG args))]] (gH nm H fm Ls) 1=some (.tup [],gH nm H fm (Ls++rdL (aB H fA) 3++rdL (aB H fB) 4++[aS 9 0 (rdV (aB H fA) 3) (rdV (aB H fB) 4) 0 0 ⟨#[]⟩])):=by
 have hdr:=bN
 have s1:=z99 nm hnm H fm hf hf2 fD fA fB fN fS args Ls hl h_fA h_fB
 generalize Ls++rdL (aB H fA) 3++rdL (aB H fB) 4++[aS 9 0 (rdV (aB H fA) 3) (rdV (aB H fB) 4) 0 0 ⟨#[]⟩]=LF at *
 simp only[gH] at s1 ⊢
 rw[aR bJ _ _ _ rfl,bF]
 simp -implicitDefEqProofs (disch:=first|assumption|omega|(simp only[aE,aM,aF,i64,sa,aD,lm,la,lc,ln];omega)) only[go_sem,simprocAttr,hdr,s1]
theorem z9F(nm:ByteArray)(hnm:nm.size≤1048576)(H:List Int)(fm:Int)(hf:0≤fm)(hf2:fm≤1000)(fD fA fB fN:Int)(fS:ByteArray)(q:Int)(Ls:List ZB)(hl:Ls.length≤900000)(h_fA:okH H fA)(h_fB:okH H fB)(h_q:okH H q)(h_fD:okH H fD):evCW tab bK [.ptr (0,0) [] 0 0,.agg [I 22,I fD,I fA,I fB,I fN,Str fS,.d (.r (aG [q]))]] (gH nm H fm Ls) 1=some (.tup [],gH nm H fm (Ls++rdL (aB H fA) 3++rdL (aB H fB) 4++[aS 2 5 (rdV (aB H fB) 4) 0 0 0 ⟨#[]⟩]++rdL (aB H q) 4++[aS 10 5 (rdV (aB H fA) 3) (rdV (aB H q) 4) 0 0 ⟨#[]⟩]++kpL (aB H fD) 5)):=by
 have hdr:=bN
 have s1:=z8m nm hnm H fm hf hf2 fD fA fB fN fS q Ls hl h_fA h_fB h_q h_fD
 generalize Ls++rdL (aB H fA) 3++rdL (aB H fB) 4++[aS 2 5 (rdV (aB H fB) 4) 0 0 0 ⟨#[]⟩]++rdL (aB H q) 4++[aS 10 5 (rdV (aB H fA) 3) (rdV (aB H q) 4) 0 0 ⟨#[]⟩]++kpL (aB H fD) 5=LF at *
 simp only[gH,aG,mc,mn] at s1 ⊢
 rw[aR bJ _ _ _ rfl,bF]
 simp -implicitDefEqProofs (disch:=first|assumption|omega|(simp only[aE,aM,aF,i64,sa,aD,lm,la,lc,ln];omega)) only[go_sem,simprocAttr,hdr,s1]
theorem z8a(nm:ByteArray)(hnm:nm.size≤1048576)(H:List Int)(fm:Int)(hf:0≤fm)(hf2:fm≤1000)(fD fA fB fN:Int)(fS:ByteArray)(args:List Int)(Ls:List ZB)(hl:Ls.length≤900000)(h_fD:okH H fD):evCW tab bK [.ptr (0,0) [] 0 0,.agg [I 23,I fD,I fA,I fB,I fN,Str fS,.d (.r (aG args))]] (gH nm H fm Ls) 1=some (.tup [],gH nm H fm (Ls++[aS 18 5 0 0 0 0 ⟨#[]⟩]++kpL (aB H fD) 5)):=by
 have hdr:=bN
 obtain⟨fD0,fD1,fD2,fD3⟩:=h_fD
 have s0:=uY nm H fm (Ls) (by first|exact(by omega)|(simp only[la,List.length_singleton];omega)) 18 5 0 0 0 0
 have s1:=x7 nm H fm (Ls++[aS 18 5 0 0 0 0 ⟨#[]⟩]) (by first|exact(by omega)|(simp only[la,List.length_singleton];omega)) fD 5 fD0 fD1 fD3
 generalize Ls++[aS 18 5 0 0 0 0 ⟨#[]⟩]++kpL (aB H fD) 5=L2 at *
 generalize Ls++[aS 18 5 0 0 0 0 ⟨#[]⟩]=L1 at *
 simp only[gH] at s0 s1 ⊢
 rw[aR bJ _ _ _ rfl,bF]
 simp -implicitDefEqProofs (disch:=first|assumption|omega|(simp only[aE,aM,aF,i64,sa,aD,lm,la,lc,ln];omega)) only[go_sem,simprocAttr,hdr,s0,s1]
theorem z9I(nm:ByteArray)(hnm:nm.size≤1048576)(H:List Int)(fm:Int)(hf:0≤fm)(hf2:fm≤1000)(fD fA fB fN:Int)(fS:ByteArray)(args:List Int)(Ls:List ZB)(hl:Ls.length≤900000)(h_fD:okH H fD):evCW tab bK [.ptr (0,0) [] 0 0,.agg [I 24,I fD,I fA,I fB,I fN,Str fS,.d (.r (aG args))]] (gH nm H fm Ls) 1=some (.tup [],gH nm H fm (Ls++[aS 1 5 0 0 0 0 fS]++kpL (aB H fD) 5)):=by
 have hdr:=bN
 obtain⟨fD0,fD1,fD2,fD3⟩:=h_fD
 have s0:=gto nm H fm (Ls) (by first|exact(by omega)|(simp only[la,List.length_singleton];omega)) 1 5 0 0 0 0 fS
 have s1:=x7 nm H fm (Ls++[aS 1 5 0 0 0 0 fS]) (by first|exact(by omega)|(simp only[la,List.length_singleton];omega)) fD 5 fD0 fD1 fD3
 generalize Ls++[aS 1 5 0 0 0 0 fS]++kpL (aB H fD) 5=L2 at *
 generalize Ls++[aS 1 5 0 0 0 0 fS]=L1 at *
 simp only[gH] at s0 s1 ⊢
 rw[aR bJ _ _ _ rfl,bF]
 simp -implicitDefEqProofs (disch:=first|assumption|omega|(simp only[aE,aM,aF,i64,sa,aD,lm,la,lc,ln];omega)) only[go_sem,simprocAttr,hdr,s0,s1]
theorem z8h(nm:ByteArray)(hnm:nm.size≤1048576)(H:List Int)(fm:Int)(hf:0≤fm)(hf2:fm≤1000)(fD fA fB fN:Int)(fS:ByteArray)(args:List Int)(Ls:List ZB)(hl:Ls.length≤900000)(h_fA:okH H fA):evCW tab bK [.ptr (0,0) [] 0 0,.agg [I 25,I fD,I fA,I fB,I fN,Str fS,.d (.r (aG args))]] (gH nm H fm Ls) 1=some (.tup [],gH nm H fm (Ls++rdL (aB H fA) 3++[aS 15 0 (rdV (aB H fA) 3) 0 0 0 ⟨#[]⟩])):=by
 have hdr:=bN
 have s1:=z94 nm hnm H fm hf hf2 fD fA fB fN fS args Ls hl h_fA
 generalize Ls++rdL (aB H fA) 3++[aS 15 0 (rdV (aB H fA) 3) 0 0 0 ⟨#[]⟩]=LF at *
 simp only[gH] at s1 ⊢
 rw[aR bJ _ _ _ rfl,bF]
 simp -implicitDefEqProofs (disch:=first|assumption|omega|(simp only[aE,aM,aF,i64,sa,aD,lm,la,lc,ln];omega)) only[go_sem,simprocAttr,hdr,s1]
theorem z8t(nm:ByteArray)(hnm:nm.size≤1048576)(H:List Int)(fm:Int)(hf:0≤fm)(hf2:fm≤1000)(fD fA fB fN:Int)(fS:ByteArray)(args:List Int)(Ls:List ZB)(hl:Ls.length≤900000)(h_fA:okH H fA)(h_fB:okH H fB):evCW tab bK [.ptr (0,0) [] 0 0,.agg [I 26,I fD,I fA,I fB,I fN,Str fS,.d (.r (aG args))]] (gH nm H fm Ls) 1=some (.tup [],gH nm H fm (Ls++rdL (aB H fA) 3++rdL (aB H fB) 4++[aS 16 0 (rdV (aB H fA) 3) (rdV (aB H fB) 4) 0 0 ⟨#[]⟩])):=by
 have hdr:=bN
 have s1:=z9Z nm hnm H fm hf hf2 fD fA fB fN fS args Ls hl h_fA h_fB
 generalize Ls++rdL (aB H fA) 3++rdL (aB H fB) 4++[aS 16 0 (rdV (aB H fA) 3) (rdV (aB H fB) 4) 0 0 ⟨#[]⟩]=LF at *
 simp only[gH] at s1 ⊢
 rw[aR bJ _ _ _ rfl,bF]
 simp -implicitDefEqProofs (disch:=first|assumption|omega|(simp only[aE,aM,aF,i64,sa,aD,lm,la,lc,ln];omega)) only[go_sem,simprocAttr,hdr,s1]
theorem z8e(nm:ByteArray)(hnm:nm.size≤1048576)(H:List Int)(fm:Int)(hf:0≤fm)(hf2:fm≤1000)(fD fA fB fN:Int)(fS:ByteArray)(args:List Int)(Ls:List ZB)(hl:Ls.length≤900000)(h_fA:okH H fA)(h_fB:okH H fB):evCW tab bK [.ptr (0,0) [] 0 0,.agg [I 27,I fD,I fA,I fB,I fN,Str fS,.d (.r (aG args))]] (gH nm H fm Ls) 1=some (.tup [],gH nm H fm (Ls++rdL (aB H fA) 3++rdL (aB H fB) 4++[aS 17 0 (rdV (aB H fA) 3) (rdV (aB H fB) 4) 0 0 ⟨#[]⟩])):=by
 have hdr:=bN
 have s1:=z92 nm hnm H fm hf hf2 fD fA fB fN fS args Ls hl h_fA h_fB
 generalize Ls++rdL (aB H fA) 3++rdL (aB H fB) 4++[aS 17 0 (rdV (aB H fA) 3) (rdV (aB H fB) 4) 0 0 ⟨#[]⟩]=LF at *
 simp only[gH] at s1 ⊢
 rw[aR bJ _ _ _ rfl,bF]
 simp -implicitDefEqProofs (disch:=first|assumption|omega|(simp only[aE,aM,aF,i64,sa,aD,lm,la,lc,ln];omega)) only[go_sem,simprocAttr,hdr,s1]
theorem z9z(nm:ByteArray)(hnm:nm.size≤1048576)(H:List Int)(fm:Int)(hf:0≤fm)(hf2:fm≤1000)(fD fA fB fN:Int)(fS:ByteArray)(args:List Int)(Ls:List ZB)(hl:Ls.length≤900000)(h_fA:okH H fA):evCW tab bK [.ptr (0,0) [] 0 0,.agg [I 28,I fD,I fA,I fB,I fN,Str fS,.d (.r (aG args))]] (gH nm H fm Ls) 1=some (.tup [],gH nm H fm (Ls++rdL (aB H fA) 3++[aS 19 0 (rdV (aB H fA) 3) 0 0 0 ⟨#[]⟩])):=by
 have hdr:=bN
 have s1:=z8U nm hnm H fm hf hf2 fD fA fB fN fS args Ls hl h_fA
 generalize Ls++rdL (aB H fA) 3++[aS 19 0 (rdV (aB H fA) 3) 0 0 0 ⟨#[]⟩]=LF at *
 simp only[gH] at s1 ⊢
 rw[aR bJ _ _ _ rfl,bF]
 simp -implicitDefEqProofs (disch:=first|assumption|omega|(simp only[aE,aM,aF,i64,sa,aD,lm,la,lc,ln];omega)) only[go_sem,simprocAttr,hdr,s1]
set_option maxRecDepth 8000
set_option maxHeartbeats 8000000
theorem Mj:∀(ts:List ZC) (os:List BL) (j:Int) (P:List Int×List Int) (p:Nat),0≤j→ts.length≤os.length→(∀t∈ts,∀r∈aZ t++a8 t,0≤r)→p<P.1.length→((∃x,P.1[p]? = some x∧0≤x)∨∃t∈ts,(p:Int)∈aZ t++a8 t)→∃x,(jT ts os j P).1[p]? = some x∧0≤x
 |[],os,j,P,p,h0,hl,ht,hp,h=>by
  rw[jT]
  ·rcases h with h|⟨t,ht,_⟩
   ·exact h
   ·simp at ht
  ·intros;simp_all
 |t::ts,[],j,P,p,h0,hl,ht,hp,h=>by simp at hl
 |t::ts,o::os,j,P,p,h0,hl,ht,hp,h=>by
  rw[jT]
  have hnn:∀r∈qI t o,0≤r:=fun r hr=>by
   rcases List.mem_append.1 hr with h|h
   ·exact ht t (by simp) r h
   ·exact(vP h).1
  have hg:=A7 j h0 p (qI t o) P.1 hnn
  have hpe:P.1[p]? = some P.1[p]:=List.getElem?_eq_getElem hp
  refine Mj ts os (j+1) _ p (by omega) (by simpa using hl) (fun t h=>ht t (by simp[h])) (by show p<(p7 j P.1 (qI t o)).length;rw[zL];exact hp) ?_
  rcases h with⟨x,hx,hx0⟩|⟨t2,ht2,hm⟩
  ·refine .inl ⟨x,?_,hx0⟩
   show(p7 j P.1 (qI t o))[p]? = _
   rw[hg,hx]
   simp[show ¬x<0 by omega]
  ·rcases List.mem_cons.1 ht2 with rfl|ht3
   ·refine .inl ?_
    show ∃x,(p7 j P.1 (qI t2 o))[p]? = some x∧0≤x
    rw[hg,hpe]
    refine⟨_,rfl,?_⟩
    have:(p:Int)∈qI t2 o:=List.mem_append_left _ hm
    simp only[this,true_and]
    split<;>omega
   ·exact .inr ⟨t2,ht3,hm⟩
theorem zK6{u:ZD}(hr:Right u)(hL:(bH u).Least (live u)){t:ZC}(ht:t∈u.fCode){r:Int}(h:r∈aZ t++a8 t):0≤aB (spU u).1 r:=by
 have hrs:=vT hr t ht r h
 have hlv:=oT hL
 obtain⟨x,hx,hx0⟩:=Mj u.fCode (live u) 0 (List.replicate u.fRegs.toNat (-1),List.replicate u.fRegs.toNat (-1)) r.toNat (by omega) (by omega) (fun t ht r h=>(vT hr t ht r h).1) (by simp;omega) (.inr ⟨t,ht,by rw[show((r.toNat:Nat):Int)=r by omega];exact h⟩)
 show 0≤(((spU u).1)[r.toNat]?).getD 0
 rw[spU,hx]
 exact hx0
theorem zWy(F L C:List Int)(S:List Int×Int)(r k:Int)(h0:0≤r)(h1:r<S.1.length)(hk:0≤k)(hs:0≤S.2)(h:0≤aB S.1 k):0≤aB (asg F L C S r).1 k:=by
 unfold asg
 split
 ·show 0≤aB (S.1.set r.toNat (10+S.2)) k
  rw[rS h0 h1 hk]
  split<;>omega
 ·rename_i hn
  show 0≤aB (S.1.set r.toNat _) k
  rw[rS h0 h1 hk]
  split<;>omega
theorem zVE(F L C:List Int)(S:List Int×Int)(r k:Int)(h0:0≤r)(h1:r<S.1.length)(hk:0≤k)(hs:0≤S.2)(h:aB S.1 k≤10+S.2):aB (asg F L C S r).1 k≤10+(asg F L C S r).2:=by
 unfold asg
 split
 ·show aB (S.1.set r.toNat (10+S.2)) k≤10+(S.2+1)
  rw[rS h0 h1 hk]
  split<;>omega
 ·have:=E9 F L S.1 (tY 0 S.1.length) r
  show aB (S.1.set r.toNat _) k≤10+S.2
  rw[rS h0 h1 hk]
  split<;>omega
theorem Wq(F L C:List Int)(m:Nat):∀(ls P:List Int) (S:List Int×Int),Hom m P S→(∀r∈ls,0≤r∧r<m)→Hom m (P++ls) (ls.foldl (asg F L C) S)∧(∀k:Int,0≤k→0≤aB S.1 k→0≤aB (ls.foldl (asg F L C) S).1 k)∧((∀k:Int,0≤k→aB S.1 k≤10+S.2)→∀k:Int,0≤k→aB (ls.foldl (asg F L C) S).1 k≤10+(ls.foldl (asg F L C) S).2)
 |[],P,S,h,hl=>by rw[List.append_nil];exact⟨h,fun _ _ h=>h,fun h=>h⟩
 |r::ls,P,S,h,hl=>by
  have hr:=hl r (by simp)
  have hm:r<S.1.length:=by rw[h.len];exact hr.2
  obtain⟨a,b,c⟩:=Wq F L C m ls (P++[r]) (asg F L C S r) (h.step F L C hr.1 hr.2) (fun r h=>hl r (by simp[h]))
  rw[List.foldl_cons]
  refine⟨by simpa using a,fun k hk hp=>b k hk (zWy F L C S r k hr.1 hm hk h.slot.1 hp),fun hh=>c fun k hk=>zVE F L C S r k hr.1 hm hk h.slot.1 (hh k hk)⟩
theorem Uw{u:ZD}(hr:Right u):Hom u.fRegs.toNat (refU u) (homU u)∧(∀k:Int,0≤k→0≤aB (iZ u.fParams 0 u.fRegs.toNat) k→0≤aB (homU u).1 k)∧∀k:Int,0≤k→aB (homU u).1 k≤10+(homU u).2:=by
 have hs:=Hom.start (m:=u.fRegs.toNat) hr.pars.1 hr.pars.2.1 (by have:=hr.pars;omega)
 have hmem:∀r∈refU u,0≤r∧r<u.fRegs.toNat:=fun r h=>by
  have:=(R4 hr).perm.subset h
  rw[zP] at this
  omega
 obtain⟨a,b,c⟩:=Wq (spU u).1 (spU u).2 (crU u) u.fRegs.toNat (refU u) [] _ hs hmem
 refine⟨a,b,c fun k hk=> ?_⟩
 by_cases e:k.toNat<u.fRegs.toNat
 ·show((iZ u.fParams 0 u.fRegs.toNat)[k.toNat]?).getD 0≤_
  rw[Fa _ _ _ _ e,Option.getD_some]
  have:=hr.pars
  show _≤10+u.fParams
  split<;>omega
 ·show((iZ u.fParams 0 u.fRegs.toNat)[k.toNat]?).getD 0≤10+u.fParams
  rw[List.getElem?_eq_none (by rw[Fd];omega)]
  have:=hr.pars
  show(0:Int)≤_
  omega
theorem P8{u:ZD}(hr:Right u):0≤(homU u).2∧(homU u).2≤254:=by
 have h:=(Uw hr).1
 have h2:=(R4 hr).perm.length_eq
 have h3:(ordU u).length≤u.fRegs.toNat:=Lc (spU u).1 u.fParams u.fRegs.toNat 0
 have:=h.slot
 have:=hr.regs
 omega
theorem zW9{u:ZD}(hr:Right u)(hL:(bH u).Least (live u)){t:ZC}(ht:t∈u.fCode){r:Int}(h:r∈aZ t++a8 t):okH (homU u).1 r:=by
 have hrs:=vT hr t ht r h
 have hp:=zK6 hr hL ht h
 obtain⟨a,b,c⟩:=Uw hr
 have hsl:=P8 hr
 have hlen:(homU u).1.length=u.fRegs.toNat:=a.len
 refine⟨hrs.1,by rw[hlen];omega,?_,by have:=c r hrs.1;omega⟩
 by_cases e:r<u.fParams
 ·refine b r hrs.1 ?_
  show 0≤((iZ u.fParams 0 u.fRegs.toNat)[r.toNat]?).getD 0
  rw[Fa _ _ _ _ (by omega),Option.getD_some]
  split<;>omega
 ·refine(a.pos r ?_).2.2
  rw[Fm]
  have hin:=(zzY hr).1
  have hlt:aB (spU u).1 r<u.fCode.length:=by
   have:=(bO (zs:=(spU u).1) (k:=r) hrs.1 (by rw[(Jo u).1];omega)).2
   have:=hin _ this
   omega
  have:=hr.pars
  omega
set_option maxRecDepth 8000
set_option maxHeartbeats 8000000
abbrev PlT(u:ZD)(H:List Int)(fm:Int)(t:ZC)(Ls:List ZB):Prop:=∃L:List ZB,L.length≤20∧evCW tab aV [.ptr (0,0) [] 0 0,t.x] (eH u H fm Ls) 1=some (.tup [],eH u H fm (Ls++L))∧evCW tab bK [.ptr (0,0) [] 0 0,t.x] (gH u.fName H fm Ls) 1=some (.tup [],gH u.fName H fm (Ls++L))
theorem z7S(u:ZD)(hnm:u.fName.size≤1048576)(H:List Int)(fm:Int)(hf:0≤fm)(hf2:fm≤1000)(fD fA fB fN:Int)(fS:ByteArray)(args:List Int)(Ls:List ZB)(hl:Ls.length≤900000)(hA:eD ⟨1,fD,fA,fB,fN,fS,args⟩=true)(hN:i64 fN)(hr:∀r∈aZ ⟨1,fD,fA,fB,fN,fS,args⟩++a8 ⟨1,fD,fA,fB,fN,fS,args⟩,okH H r):PlT u H fm ⟨1,fD,fA,fB,fN,fS,args⟩ Ls:=by
 have h_fD:okH H fD:=hr _ (by simp[aZ,a8,show hb ⟨1,fD,fA,fB,fN,fS,args⟩ 1=true from by show iY (fL (1:Int)) 1=true;decide])
 have e1:=z7h u hnm H fm hf hf2 fD fA fB fN fS args Ls hl h_fD
 have e2:=z7s u.fName hnm H fm hf hf2 fD fA fB fN fS args Ls hl h_fD
 have:=mV (aB H fD) 3
 try simp only[List.append_assoc] at e1 e2
 refine⟨[aS 1 3 0 0 fN 0 ⟨#[]⟩]++kpL (aB H fD) 3,by simp only[la,List.length_singleton,lc,ln];omega,?_,?_⟩
 ·simpa only[List.append_assoc] using e1
 ·simpa only[List.append_assoc] using e2
theorem z7F(u:ZD)(hnm:u.fName.size≤1048576)(H:List Int)(fm:Int)(hf:0≤fm)(hf2:fm≤1000)(fD fA fB fN:Int)(fS:ByteArray)(args:List Int)(Ls:List ZB)(hl:Ls.length≤900000)(hA:eD ⟨2,fD,fA,fB,fN,fS,args⟩=true)(hN:i64 fN)(hr:∀r∈aZ ⟨2,fD,fA,fB,fN,fS,args⟩++a8 ⟨2,fD,fA,fB,fN,fS,args⟩,okH H r):PlT u H fm ⟨2,fD,fA,fB,fN,fS,args⟩ Ls:=by
 have h_fD:okH H fD:=hr _ (by simp[aZ,a8,show hb ⟨2,fD,fA,fB,fN,fS,args⟩ 1=true from by show iY (fL (2:Int)) 1=true;decide])
 have h_fA:okH H fA:=hr _ (by simp[aZ,a8,show hb ⟨2,fD,fA,fB,fN,fS,args⟩ 2=true from by show iY (fL (2:Int)) 2=true;decide])
 have e1:=z7w u hnm H fm hf hf2 fD fA fB fN fS args Ls hl h_fA h_fD
 have e2:=z7z u.fName hnm H fm hf hf2 fD fA fB fN fS args Ls hl h_fA h_fD
 have:=aX (aB H fA) 3
 have:=mV (aB H fD) (rdV (aB H fA) 3)
 try simp only[List.append_assoc] at e1 e2
 refine⟨rdL (aB H fA) 3++kpL (aB H fD) (rdV (aB H fA) 3),by simp only[la,List.length_singleton,lc,ln];omega,?_,?_⟩
 ·simpa only[List.append_assoc] using e1
 ·simpa only[List.append_assoc] using e2
theorem z7I(u:ZD)(hnm:u.fName.size≤1048576)(H:List Int)(fm:Int)(hf:0≤fm)(hf2:fm≤1000)(fD fA fB fN:Int)(fS:ByteArray)(args:List Int)(Ls:List ZB)(hl:Ls.length≤900000)(hA:eD ⟨3,fD,fA,fB,fN,fS,args⟩=true)(hN:i64 fN)(hr:∀r∈aZ ⟨3,fD,fA,fB,fN,fS,args⟩++a8 ⟨3,fD,fA,fB,fN,fS,args⟩,okH H r):PlT u H fm ⟨3,fD,fA,fB,fN,fS,args⟩ Ls:=by
 have h_fD:okH H fD:=hr _ (by simp[aZ,a8,show hb ⟨3,fD,fA,fB,fN,fS,args⟩ 1=true from by show iY (fL (3:Int)) 1=true;decide])
 have h_fA:okH H fA:=hr _ (by simp[aZ,a8,show hb ⟨3,fD,fA,fB,fN,fS,args⟩ 2=true from by show iY (fL (3:Int)) 2=true;decide])
 have h_fB:okH H fB:=hr _ (by simp[aZ,a8,show hb ⟨3,fD,fA,fB,fN,fS,args⟩ 4=true from by show iY (fL (3:Int)) 4=true;decide])
 have e1:=z7u u hnm H fm hf hf2 fD fA fB fN fS args Ls hl h_fA h_fB h_fD
 have e2:=z7v u.fName hnm H fm hf hf2 fD fA fB fN fS args Ls hl h_fA h_fB h_fD
 have:=aX (aB H fA) 3
 have:=aX (aB H fB) 4
 have:=mV (aB H fD) 5
 try simp only[List.append_assoc] at e1 e2
 refine⟨rdL (aB H fA) 3++rdL (aB H fB) 4++[aS 3 5 (rdV (aB H fA) 3) (rdV (aB H fB) 4) 0 0 ⟨#[]⟩]++kpL (aB H fD) 5,by simp only[la,List.length_singleton,lc,ln];omega,?_,?_⟩
 ·simpa only[List.append_assoc] using e1
 ·simpa only[List.append_assoc] using e2
theorem z7A(u:ZD)(hnm:u.fName.size≤1048576)(H:List Int)(fm:Int)(hf:0≤fm)(hf2:fm≤1000)(fD fA fB fN:Int)(fS:ByteArray)(args:List Int)(Ls:List ZB)(hl:Ls.length≤900000)(hA:eD ⟨4,fD,fA,fB,fN,fS,args⟩=true)(hN:i64 fN)(hr:∀r∈aZ ⟨4,fD,fA,fB,fN,fS,args⟩++a8 ⟨4,fD,fA,fB,fN,fS,args⟩,okH H r):PlT u H fm ⟨4,fD,fA,fB,fN,fS,args⟩ Ls:=by
 have h_fD:okH H fD:=hr _ (by simp[aZ,a8,show hb ⟨4,fD,fA,fB,fN,fS,args⟩ 1=true from by show iY (fL (4:Int)) 1=true;decide])
 have h_fA:okH H fA:=hr _ (by simp[aZ,a8,show hb ⟨4,fD,fA,fB,fN,fS,args⟩ 2=true from by show iY (fL (4:Int)) 2=true;decide])
 have h_fB:okH H fB:=hr _ (by simp[aZ,a8,show hb ⟨4,fD,fA,fB,fN,fS,args⟩ 4=true from by show iY (fL (4:Int)) 4=true;decide])
 have e1:=z7l u hnm H fm hf hf2 fD fA fB fN fS args Ls hl h_fA h_fB h_fD
 have e2:=z7j u.fName hnm H fm hf hf2 fD fA fB fN fS args Ls hl h_fA h_fB h_fD
 have:=aX (aB H fA) 3
 have:=aX (aB H fB) 4
 have:=mV (aB H fD) 5
 try simp only[List.append_assoc] at e1 e2
 refine⟨rdL (aB H fA) 3++rdL (aB H fB) 4++[aS 4 5 (rdV (aB H fA) 3) (rdV (aB H fB) 4) 0 0 ⟨#[]⟩]++kpL (aB H fD) 5,by simp only[la,List.length_singleton,lc,ln];omega,?_,?_⟩
 ·simpa only[List.append_assoc] using e1
 ·simpa only[List.append_assoc] using e2
theorem z7R(u:ZD)(hnm:u.fName.size≤1048576)(H:List Int)(fm:Int)(hf:0≤fm)(hf2:fm≤1000)(fD fA fB fN:Int)(fS:ByteArray)(args:List Int)(Ls:List ZB)(hl:Ls.length≤900000)(hA:eD ⟨5,fD,fA,fB,fN,fS,args⟩=true)(hN:i64 fN)(hr:∀r∈aZ ⟨5,fD,fA,fB,fN,fS,args⟩++a8 ⟨5,fD,fA,fB,fN,fS,args⟩,okH H r):PlT u H fm ⟨5,fD,fA,fB,fN,fS,args⟩ Ls:=by
 have h_fD:okH H fD:=hr _ (by simp[aZ,a8,show hb ⟨5,fD,fA,fB,fN,fS,args⟩ 1=true from by show iY (fL (5:Int)) 1=true;decide])
 have h_fA:okH H fA:=hr _ (by simp[aZ,a8,show hb ⟨5,fD,fA,fB,fN,fS,args⟩ 2=true from by show iY (fL (5:Int)) 2=true;decide])
 have h_fB:okH H fB:=hr _ (by simp[aZ,a8,show hb ⟨5,fD,fA,fB,fN,fS,args⟩ 4=true from by show iY (fL (5:Int)) 4=true;decide])
 have e1:=z7r u hnm H fm hf hf2 fD fA fB fN fS args Ls hl h_fA h_fB h_fD
 have e2:=z7m u.fName hnm H fm hf hf2 fD fA fB fN fS args Ls hl h_fA h_fB h_fD
 have:=aX (aB H fA) 3
 have:=aX (aB H fB) 4
 have:=mV (aB H fD) 5
 try simp only[List.append_assoc] at e1 e2
 refine⟨rdL (aB H fA) 3++rdL (aB H fB) 4++[aS 5 5 (rdV (aB H fA) 3) (rdV (aB H fB) 4) 0 0 ⟨#[]⟩]++kpL (aB H fD) 5,by simp only[la,List.length_singleton,lc,ln];omega,?_,?_⟩
 ·simpa only[List.append_assoc] using e1
 ·simpa only[List.append_assoc] using e2
theorem z7p(u:ZD)(hnm:u.fName.size≤1048576)(H:List Int)(fm:Int)(hf:0≤fm)(hf2:fm≤1000)(fD fA fB fN:Int)(fS:ByteArray)(args:List Int)(Ls:List ZB)(hl:Ls.length≤900000)(hA:eD ⟨6,fD,fA,fB,fN,fS,args⟩=true)(hN:i64 fN)(hr:∀r∈aZ ⟨6,fD,fA,fB,fN,fS,args⟩++a8 ⟨6,fD,fA,fB,fN,fS,args⟩,okH H r):PlT u H fm ⟨6,fD,fA,fB,fN,fS,args⟩ Ls:=by
 have h_fD:okH H fD:=hr _ (by simp[aZ,a8,show hb ⟨6,fD,fA,fB,fN,fS,args⟩ 1=true from by show iY (fL (6:Int)) 1=true;decide])
 have h_fA:okH H fA:=hr _ (by simp[aZ,a8,show hb ⟨6,fD,fA,fB,fN,fS,args⟩ 2=true from by show iY (fL (6:Int)) 2=true;decide])
 have h_fB:okH H fB:=hr _ (by simp[aZ,a8,show hb ⟨6,fD,fA,fB,fN,fS,args⟩ 4=true from by show iY (fL (6:Int)) 4=true;decide])
 have e1:=z7k u hnm H fm hf hf2 fD fA fB fN fS args Ls hl h_fA h_fB h_fD
 have e2:=z7O u.fName hnm H fm hf hf2 fD fA fB fN fS args Ls hl h_fA h_fB h_fD
 have:=aX (aB H fA) 3
 have:=aX (aB H fB) 4
 have:=mV (aB H fD) 5
 try simp only[List.append_assoc] at e1 e2
 refine⟨rdL (aB H fA) 3++rdL (aB H fB) 4++[aS 6 5 (rdV (aB H fA) 3) (rdV (aB H fB) 4) 0 0 ⟨#[]⟩]++kpL (aB H fD) 5,by simp only[la,List.length_singleton,lc,ln];omega,?_,?_⟩
 ·simpa only[List.append_assoc] using e1
 ·simpa only[List.append_assoc] using e2
theorem z7Q(u:ZD)(hnm:u.fName.size≤1048576)(H:List Int)(fm:Int)(hf:0≤fm)(hf2:fm≤1000)(fD fA fB fN:Int)(fS:ByteArray)(args:List Int)(Ls:List ZB)(hl:Ls.length≤900000)(hA:eD ⟨7,fD,fA,fB,fN,fS,args⟩=true)(hN:i64 fN)(hr:∀r∈aZ ⟨7,fD,fA,fB,fN,fS,args⟩++a8 ⟨7,fD,fA,fB,fN,fS,args⟩,okH H r):PlT u H fm ⟨7,fD,fA,fB,fN,fS,args⟩ Ls:=by
 have h_fD:okH H fD:=hr _ (by simp[aZ,a8,show hb ⟨7,fD,fA,fB,fN,fS,args⟩ 1=true from by show iY (fL (7:Int)) 1=true;decide])
 have h_fA:okH H fA:=hr _ (by simp[aZ,a8,show hb ⟨7,fD,fA,fB,fN,fS,args⟩ 2=true from by show iY (fL (7:Int)) 2=true;decide])
 have h_fB:okH H fB:=hr _ (by simp[aZ,a8,show hb ⟨7,fD,fA,fB,fN,fS,args⟩ 4=true from by show iY (fL (7:Int)) 4=true;decide])
 have e1:=z7U u hnm H fm hf hf2 fD fA fB fN fS args Ls hl h_fA h_fB h_fD
 have e2:=z7H u.fName hnm H fm hf hf2 fD fA fB fN fS args Ls hl h_fA h_fB h_fD
 have:=aX (aB H fA) 3
 have:=aX (aB H fB) 4
 have:=mV (aB H fD) 5
 try simp only[List.append_assoc] at e1 e2
 refine⟨rdL (aB H fA) 3++rdL (aB H fB) 4++[aS 7 5 (rdV (aB H fA) 3) (rdV (aB H fB) 4) 0 0 ⟨#[]⟩]++kpL (aB H fD) 5,by simp only[la,List.length_singleton,lc,ln];omega,?_,?_⟩
 ·simpa only[List.append_assoc] using e1
 ·simpa only[List.append_assoc] using e2
theorem z7C(u:ZD)(hnm:u.fName.size≤1048576)(H:List Int)(fm:Int)(hf:0≤fm)(hf2:fm≤1000)(fD fA fB fN:Int)(fS:ByteArray)(args:List Int)(Ls:List ZB)(hl:Ls.length≤900000)(hA:eD ⟨8,fD,fA,fB,fN,fS,args⟩=true)(hN:i64 fN)(hr:∀r∈aZ ⟨8,fD,fA,fB,fN,fS,args⟩++a8 ⟨8,fD,fA,fB,fN,fS,args⟩,okH H r):PlT u H fm ⟨8,fD,fA,fB,fN,fS,args⟩ Ls:=by
 have e1:=z7i u hnm H fm hf hf2 fD fA fB fN fS args Ls hl hN
 have e2:=z7V u.fName hnm H fm hf hf2 fD fA fB fN fS args Ls hl hN
 try simp only[List.append_assoc] at e1 e2
 refine⟨[Di u.fName fN],by simp only[la,List.length_singleton,lc,ln];omega,?_,?_⟩
 ·simpa only[List.append_assoc] using e1
 ·simpa only[List.append_assoc] using e2
theorem z7P(u:ZD)(hnm:u.fName.size≤1048576)(H:List Int)(fm:Int)(hf:0≤fm)(hf2:fm≤1000)(fD fA fB fN:Int)(fS:ByteArray)(args:List Int)(Ls:List ZB)(hl:Ls.length≤900000)(hA:eD ⟨9,fD,fA,fB,fN,fS,args⟩=true)(hN:i64 fN)(hr:∀r∈aZ ⟨9,fD,fA,fB,fN,fS,args⟩++a8 ⟨9,fD,fA,fB,fN,fS,args⟩,okH H r):PlT u H fm ⟨9,fD,fA,fB,fN,fS,args⟩ Ls:=by
 have e1:=z7K u hnm H fm hf hf2 fD fA fB fN fS args Ls hl hN
 have e2:=z7o u.fName hnm H fm hf hf2 fD fA fB fN fS args Ls hl hN
 try simp only[List.append_assoc] at e1 e2
 refine⟨[aS 11 0 0 0 0 0 (p9 u.fName fN)],by simp only[la,List.length_singleton,lc,ln];omega,?_,?_⟩
 ·simpa only[List.append_assoc] using e1
 ·simpa only[List.append_assoc] using e2
theorem z91(u:ZD)(hnm:u.fName.size≤1048576)(H:List Int)(fm:Int)(hf:0≤fm)(hf2:fm≤1000)(fD fA fB fN:Int)(fS:ByteArray)(args:List Int)(Ls:List ZB)(hl:Ls.length≤900000)(hA:eD ⟨10,fD,fA,fB,fN,fS,args⟩=true)(hN:i64 fN)(hr:∀r∈aZ ⟨10,fD,fA,fB,fN,fS,args⟩++a8 ⟨10,fD,fA,fB,fN,fS,args⟩,okH H r):PlT u H fm ⟨10,fD,fA,fB,fN,fS,args⟩ Ls:=by
 have h_fA:okH H fA:=hr _ (by simp[aZ,a8,show hb ⟨10,fD,fA,fB,fN,fS,args⟩ 2=true from by show iY (fL (10:Int)) 2=true;decide])
 have e1:=z9E u hnm H fm hf hf2 fD fA fB fN fS args Ls hl h_fA hN
 have e2:=z81 u.fName hnm H fm hf hf2 fD fA fB fN fS args Ls hl h_fA hN
 have:=aX (aB H fA) 3
 try simp only[List.append_assoc] at e1 e2
 refine⟨rdL (aB H fA) 3++[aS 12 0 (rdV (aB H fA) 3) 0 0 0 (p9 u.fName fN)],by simp only[la,List.length_singleton,lc,ln];omega,?_,?_⟩
 ·simpa only[List.append_assoc] using e1
 ·simpa only[List.append_assoc] using e2
theorem z8p(u:ZD)(hnm:u.fName.size≤1048576)(H:List Int)(fm:Int)(hf:0≤fm)(hf2:fm≤1000)(fD fA fB fN:Int)(fS:ByteArray)(args:List Int)(Ls:List ZB)(hl:Ls.length≤900000)(hA:eD ⟨11,fD,fA,fB,fN,fS,args⟩=true)(hN:i64 fN)(hr:∀r∈aZ ⟨11,fD,fA,fB,fN,fS,args⟩++a8 ⟨11,fD,fA,fB,fN,fS,args⟩,okH H r):PlT u H fm ⟨11,fD,fA,fB,fN,fS,args⟩ Ls:=by
 have h_fD:okH H fD:=hr _ (by simp[aZ,a8,show hb ⟨11,fD,fA,fB,fN,fS,args⟩ 1=true from by show iY (fL (11:Int)) 1=true;decide])
 have hq:∀q∈args,okH H q:=fun q hq=>hr _ (by simp[aZ,a8,Bw ⟨11,fD,fA,fB,fN,fS,args⟩ (by show(11:Int)≠19;decide),show hb ⟨11,fD,fA,fB,fN,fS,args⟩ 32=true from by show iY (fL (11:Int)) 32=true;decide,hq])
 have hx:args.length≤4:=by simp[eD] at hA;omega
 have e1:=z8v u hnm H fm hf hf2 fD fA fB fN fS args Ls hl hx hq h_fD
 have e2:=z8V u.fName hnm H fm hf hf2 fD fA fB fN fS args Ls hl hx hq h_fD
 have:=Fl H fm args 0
 have:=mV (aB H fD) 0
 try simp only[List.append_assoc] at e1 e2
 refine⟨mY H fm 0 args++[aS 13 0 0 0 0 fm fS]++kpL (aB H fD) 0,by simp only[la,List.length_singleton,lc,ln];omega,?_,?_⟩
 ·simpa only[List.append_assoc] using e1
 ·simpa only[List.append_assoc] using e2
theorem z8C(u:ZD)(hnm:u.fName.size≤1048576)(H:List Int)(fm:Int)(hf:0≤fm)(hf2:fm≤1000)(fD fA fB fN:Int)(fS:ByteArray)(args:List Int)(Ls:List ZB)(hl:Ls.length≤900000)(hA:eD ⟨12,fD,fA,fB,fN,fS,args⟩=true)(hN:i64 fN)(hr:∀r∈aZ ⟨12,fD,fA,fB,fN,fS,args⟩++a8 ⟨12,fD,fA,fB,fN,fS,args⟩,okH H r):PlT u H fm ⟨12,fD,fA,fB,fN,fS,args⟩ Ls:=by
 have h_fA:okH H fA:=hr _ (by simp[aZ,a8,show hb ⟨12,fD,fA,fB,fN,fS,args⟩ 2=true from by show iY (fL (12:Int)) 2=true;decide])
 have e1:=z8J u hnm H fm hf hf2 fD fA fB fN fS args Ls hl h_fA
 have e2:=z7c u.fName hnm H fm hf hf2 fD fA fB fN fS args Ls hl h_fA
 have:=aX (aB H fA) 3
 try simp only[List.append_assoc] at e1 e2
 refine⟨rdL (aB H fA) 3++[aS 2 0 (rdV (aB H fA) 3) 0 0 0 ⟨#[]⟩]++[aS 14 0 0 0 0 0 ⟨#[]⟩],by simp only[la,List.length_singleton,lc,ln];omega,?_,?_⟩
 ·simpa only[List.append_assoc] using e1
 ·simpa only[List.append_assoc] using e2
theorem z90(u:ZD)(hnm:u.fName.size≤1048576)(H:List Int)(fm:Int)(hf:0≤fm)(hf2:fm≤1000)(fD fA fB fN:Int)(fS:ByteArray)(args:List Int)(Ls:List ZB)(hl:Ls.length≤900000)(hA:eD ⟨20,fD,fA,fB,fN,fS,args⟩=true)(hN:i64 fN)(hr:∀r∈aZ ⟨20,fD,fA,fB,fN,fS,args⟩++a8 ⟨20,fD,fA,fB,fN,fS,args⟩,okH H r):PlT u H fm ⟨20,fD,fA,fB,fN,fS,args⟩ Ls:=by
 have h_fD:okH H fD:=hr _ (by simp[aZ,a8,show hb ⟨20,fD,fA,fB,fN,fS,args⟩ 1=true from by show iY (fL (20:Int)) 1=true;decide])
 have h_fA:okH H fA:=hr _ (by simp[aZ,a8,show hb ⟨20,fD,fA,fB,fN,fS,args⟩ 2=true from by show iY (fL (20:Int)) 2=true;decide])
 have e1:=z9M u hnm H fm hf hf2 fD fA fB fN fS args Ls hl h_fA h_fD
 have e2:=z8P u.fName hnm H fm hf hf2 fD fA fB fN fS args Ls hl h_fA h_fD
 have:=aX (aB H fA) 3
 have:=mV (aB H fD) 5
 try simp only[List.append_assoc] at e1 e2
 refine⟨rdL (aB H fA) 3++[aS 8 5 (rdV (aB H fA) 3) 0 0 0 ⟨#[]⟩]++kpL (aB H fD) 5,by simp only[la,List.length_singleton,lc,ln];omega,?_,?_⟩
 ·simpa only[List.append_assoc] using e1
 ·simpa only[List.append_assoc] using e2
theorem z8Z(u:ZD)(hnm:u.fName.size≤1048576)(H:List Int)(fm:Int)(hf:0≤fm)(hf2:fm≤1000)(fD fA fB fN:Int)(fS:ByteArray)(args:List Int)(Ls:List ZB)(hl:Ls.length≤900000)(hA:eD ⟨21,fD,fA,fB,fN,fS,args⟩=true)(hN:i64 fN)(hr:∀r∈aZ ⟨21,fD,fA,fB,fN,fS,args⟩++a8 ⟨21,fD,fA,fB,fN,fS,args⟩,okH H r):PlT u H fm ⟨21,fD,fA,fB,fN,fS,args⟩ Ls:=by
 have h_fA:okH H fA:=hr _ (by simp[aZ,a8,show hb ⟨21,fD,fA,fB,fN,fS,args⟩ 2=true from by show iY (fL (21:Int)) 2=true;decide])
 have h_fB:okH H fB:=hr _ (by simp[aZ,a8,show hb ⟨21,fD,fA,fB,fN,fS,args⟩ 4=true from by show iY (fL (21:Int)) 4=true;decide])
 have e1:=z8o u hnm H fm hf hf2 fD fA fB fN fS args Ls hl h_fA h_fB
 have e2:=z8w u.fName hnm H fm hf hf2 fD fA fB fN fS args Ls hl h_fA h_fB
 have:=aX (aB H fA) 3
 have:=aX (aB H fB) 4
 try simp only[List.append_assoc] at e1 e2
 refine⟨rdL (aB H fA) 3++rdL (aB H fB) 4++[aS 9 0 (rdV (aB H fA) 3) (rdV (aB H fB) 4) 0 0 ⟨#[]⟩],by simp only[la,List.length_singleton,lc,ln];omega,?_,?_⟩
 ·simpa only[List.append_assoc] using e1
 ·simpa only[List.append_assoc] using e2
theorem z8q(u:ZD)(hnm:u.fName.size≤1048576)(H:List Int)(fm:Int)(hf:0≤fm)(hf2:fm≤1000)(fD fA fB fN:Int)(fS:ByteArray)(args:List Int)(Ls:List ZB)(hl:Ls.length≤900000)(hA:eD ⟨22,fD,fA,fB,fN,fS,args⟩=true)(hN:i64 fN)(hr:∀r∈aZ ⟨22,fD,fA,fB,fN,fS,args⟩++a8 ⟨22,fD,fA,fB,fN,fS,args⟩,okH H r):PlT u H fm ⟨22,fD,fA,fB,fN,fS,args⟩ Ls:=by
 have h_fD:okH H fD:=hr _ (by simp[aZ,a8,show hb ⟨22,fD,fA,fB,fN,fS,args⟩ 1=true from by show iY (fL (22:Int)) 1=true;decide])
 have h_fA:okH H fA:=hr _ (by simp[aZ,a8,show hb ⟨22,fD,fA,fB,fN,fS,args⟩ 2=true from by show iY (fL (22:Int)) 2=true;decide])
 have h_fB:okH H fB:=hr _ (by simp[aZ,a8,show hb ⟨22,fD,fA,fB,fN,fS,args⟩ 4=true from by show iY (fL (22:Int)) 4=true;decide])
 have hq:∀q∈args,okH H q:=fun q hq=>hr _ (by simp[aZ,a8,Bw ⟨22,fD,fA,fB,fN,fS,args⟩ (by show(22:Int)≠19;decide),show hb ⟨22,fD,fA,fB,fN,fS,args⟩ 32=true from by show iY (fL (22:Int)) 32=true;decide,hq])
 have hx:args.length=1:=by simp[eD] at hA;omega
 obtain⟨q,rfl⟩:=List.length_eq_one_iff.1 hx
 have h_q:okH H q:=hq q (by simp)
 have e1:=z9X u hnm H fm hf hf2 fD fA fB fN fS q Ls hl h_fA h_fB h_q h_fD
 have e2:=z9F u.fName hnm H fm hf hf2 fD fA fB fN fS q Ls hl h_fA h_fB h_q h_fD
 have:=aX (aB H fA) 3
 have:=aX (aB H fB) 4
 have:=aX (aB H q) 4
 have:=mV (aB H fD) 5
 try simp only[List.append_assoc] at e1 e2
 refine⟨rdL (aB H fA) 3++rdL (aB H fB) 4++[aS 2 5 (rdV (aB H fB) 4) 0 0 0 ⟨#[]⟩]++rdL (aB H q) 4++[aS 10 5 (rdV (aB H fA) 3) (rdV (aB H q) 4) 0 0 ⟨#[]⟩]++kpL (aB H fD) 5,by simp only[la,List.length_singleton,lc,ln];omega,?_,?_⟩
 ·simpa only[List.append_assoc] using e1
 ·simpa only[List.append_assoc] using e2
theorem z9A(u:ZD)(hnm:u.fName.size≤1048576)(H:List Int)(fm:Int)(hf:0≤fm)(hf2:fm≤1000)(fD fA fB fN:Int)(fS:ByteArray)(args:List Int)(Ls:List ZB)(hl:Ls.length≤900000)(hA:eD ⟨23,fD,fA,fB,fN,fS,args⟩=true)(hN:i64 fN)(hr:∀r∈aZ ⟨23,fD,fA,fB,fN,fS,args⟩++a8 ⟨23,fD,fA,fB,fN,fS,args⟩,okH H r):PlT u H fm ⟨23,fD,fA,fB,fN,fS,args⟩ Ls:=by
 have h_fD:okH H fD:=hr _ (by simp[aZ,a8,show hb ⟨23,fD,fA,fB,fN,fS,args⟩ 1=true from by show iY (fL (23:Int)) 1=true;decide])
 have e1:=z9B u hnm H fm hf hf2 fD fA fB fN fS args Ls hl h_fD
 have e2:=z8a u.fName hnm H fm hf hf2 fD fA fB fN fS args Ls hl h_fD
 have:=mV (aB H fD) 5
 try simp only[List.append_assoc] at e1 e2
 refine⟨[aS 18 5 0 0 0 0 ⟨#[]⟩]++kpL (aB H fD) 5,by simp only[la,List.length_singleton,lc,ln];omega,?_,?_⟩
 ·simpa only[List.append_assoc] using e1
 ·simpa only[List.append_assoc] using e2
theorem z9R(u:ZD)(hnm:u.fName.size≤1048576)(H:List Int)(fm:Int)(hf:0≤fm)(hf2:fm≤1000)(fD fA fB fN:Int)(fS:ByteArray)(args:List Int)(Ls:List ZB)(hl:Ls.length≤900000)(hA:eD ⟨24,fD,fA,fB,fN,fS,args⟩=true)(hN:i64 fN)(hr:∀r∈aZ ⟨24,fD,fA,fB,fN,fS,args⟩++a8 ⟨24,fD,fA,fB,fN,fS,args⟩,okH H r):PlT u H fm ⟨24,fD,fA,fB,fN,fS,args⟩ Ls:=by
 have h_fD:okH H fD:=hr _ (by simp[aZ,a8,show hb ⟨24,fD,fA,fB,fN,fS,args⟩ 1=true from by show iY (fL (24:Int)) 1=true;decide])
 have e1:=z9Q u hnm H fm hf hf2 fD fA fB fN fS args Ls hl h_fD
 have e2:=z9I u.fName hnm H fm hf hf2 fD fA fB fN fS args Ls hl h_fD
 have:=mV (aB H fD) 5
 try simp only[List.append_assoc] at e1 e2
 refine⟨[aS 1 5 0 0 0 0 fS]++kpL (aB H fD) 5,by simp only[la,List.length_singleton,lc,ln];omega,?_,?_⟩
 ·simpa only[List.append_assoc] using e1
 ·simpa only[List.append_assoc] using e2
theorem z80(u:ZD)(hnm:u.fName.size≤1048576)(H:List Int)(fm:Int)(hf:0≤fm)(hf2:fm≤1000)(fD fA fB fN:Int)(fS:ByteArray)(args:List Int)(Ls:List ZB)(hl:Ls.length≤900000)(hA:eD ⟨25,fD,fA,fB,fN,fS,args⟩=true)(hN:i64 fN)(hr:∀r∈aZ ⟨25,fD,fA,fB,fN,fS,args⟩++a8 ⟨25,fD,fA,fB,fN,fS,args⟩,okH H r):PlT u H fm ⟨25,fD,fA,fB,fN,fS,args⟩ Ls:=by
 have h_fA:okH H fA:=hr _ (by simp[aZ,a8,show hb ⟨25,fD,fA,fB,fN,fS,args⟩ 2=true from by show iY (fL (25:Int)) 2=true;decide])
 have e1:=z8g u hnm H fm hf hf2 fD fA fB fN fS args Ls hl h_fA
 have e2:=z8h u.fName hnm H fm hf hf2 fD fA fB fN fS args Ls hl h_fA
 have:=aX (aB H fA) 3
 try simp only[List.append_assoc] at e1 e2
 refine⟨rdL (aB H fA) 3++[aS 15 0 (rdV (aB H fA) 3) 0 0 0 ⟨#[]⟩],by simp only[la,List.length_singleton,lc,ln];omega,?_,?_⟩
 ·simpa only[List.append_assoc] using e1
 ·simpa only[List.append_assoc] using e2
theorem z89(u:ZD)(hnm:u.fName.size≤1048576)(H:List Int)(fm:Int)(hf:0≤fm)(hf2:fm≤1000)(fD fA fB fN:Int)(fS:ByteArray)(args:List Int)(Ls:List ZB)(hl:Ls.length≤900000)(hA:eD ⟨26,fD,fA,fB,fN,fS,args⟩=true)(hN:i64 fN)(hr:∀r∈aZ ⟨26,fD,fA,fB,fN,fS,args⟩++a8 ⟨26,fD,fA,fB,fN,fS,args⟩,okH H r):PlT u H fm ⟨26,fD,fA,fB,fN,fS,args⟩ Ls:=by
 have h_fA:okH H fA:=hr _ (by simp[aZ,a8,show hb ⟨26,fD,fA,fB,fN,fS,args⟩ 2=true from by show iY (fL (26:Int)) 2=true;decide])
 have h_fB:okH H fB:=hr _ (by simp[aZ,a8,show hb ⟨26,fD,fA,fB,fN,fS,args⟩ 4=true from by show iY (fL (26:Int)) 4=true;decide])
 have e1:=z8B u hnm H fm hf hf2 fD fA fB fN fS args Ls hl h_fA h_fB
 have e2:=z8t u.fName hnm H fm hf hf2 fD fA fB fN fS args Ls hl h_fA h_fB
 have:=aX (aB H fA) 3
 have:=aX (aB H fB) 4
 try simp only[List.append_assoc] at e1 e2
 refine⟨rdL (aB H fA) 3++rdL (aB H fB) 4++[aS 16 0 (rdV (aB H fA) 3) (rdV (aB H fB) 4) 0 0 ⟨#[]⟩],by simp only[la,List.length_singleton,lc,ln];omega,?_,?_⟩
 ·simpa only[List.append_assoc] using e1
 ·simpa only[List.append_assoc] using e2
theorem z8H(u:ZD)(hnm:u.fName.size≤1048576)(H:List Int)(fm:Int)(hf:0≤fm)(hf2:fm≤1000)(fD fA fB fN:Int)(fS:ByteArray)(args:List Int)(Ls:List ZB)(hl:Ls.length≤900000)(hA:eD ⟨27,fD,fA,fB,fN,fS,args⟩=true)(hN:i64 fN)(hr:∀r∈aZ ⟨27,fD,fA,fB,fN,fS,args⟩++a8 ⟨27,fD,fA,fB,fN,fS,args⟩,okH H r):PlT u H fm ⟨27,fD,fA,fB,fN,fS,args⟩ Ls:=by
 have h_fA:okH H fA:=hr _ (by simp[aZ,a8,show hb ⟨27,fD,fA,fB,fN,fS,args⟩ 2=true from by show iY (fL (27:Int)) 2=true;decide])
 have h_fB:okH H fB:=hr _ (by simp[aZ,a8,show hb ⟨27,fD,fA,fB,fN,fS,args⟩ 4=true from by show iY (fL (27:Int)) 4=true;decide])
 have e1:=z8K u hnm H fm hf hf2 fD fA fB fN fS args Ls hl h_fA h_fB
 have e2:=z8e u.fName hnm H fm hf hf2 fD fA fB fN fS args Ls hl h_fA h_fB
 have:=aX (aB H fA) 3
 have:=aX (aB H fB) 4
 try simp only[List.append_assoc] at e1 e2
 refine⟨rdL (aB H fA) 3++rdL (aB H fB) 4++[aS 17 0 (rdV (aB H fA) 3) (rdV (aB H fB) 4) 0 0 ⟨#[]⟩],by simp only[la,List.length_singleton,lc,ln];omega,?_,?_⟩
 ·simpa only[List.append_assoc] using e1
 ·simpa only[List.append_assoc] using e2
theorem z8c(u:ZD)(hnm:u.fName.size≤1048576)(H:List Int)(fm:Int)(hf:0≤fm)(hf2:fm≤1000)(fD fA fB fN:Int)(fS:ByteArray)(args:List Int)(Ls:List ZB)(hl:Ls.length≤900000)(hA:eD ⟨28,fD,fA,fB,fN,fS,args⟩=true)(hN:i64 fN)(hr:∀r∈aZ ⟨28,fD,fA,fB,fN,fS,args⟩++a8 ⟨28,fD,fA,fB,fN,fS,args⟩,okH H r):PlT u H fm ⟨28,fD,fA,fB,fN,fS,args⟩ Ls:=by
 have h_fA:okH H fA:=hr _ (by simp[aZ,a8,show hb ⟨28,fD,fA,fB,fN,fS,args⟩ 2=true from by show iY (fL (28:Int)) 2=true;decide])
 have e1:=z8S u hnm H fm hf hf2 fD fA fB fN fS args Ls hl h_fA
 have e2:=z9z u.fName hnm H fm hf hf2 fD fA fB fN fS args Ls hl h_fA
 have:=aX (aB H fA) 3
 try simp only[List.append_assoc] at e1 e2
 refine⟨rdL (aB H fA) 3++[aS 19 0 (rdV (aB H fA) 3) 0 0 0 ⟨#[]⟩],by simp only[la,List.length_singleton,lc,ln];omega,?_,?_⟩
 ·simpa only[List.append_assoc] using e1
 ·simpa only[List.append_assoc] using e2
theorem zZH(u:ZD)(hnm:u.fName.size≤1048576)(H:List Int)(fm:Int)(hf:0≤fm)(hf2:fm≤1000)(t:ZC)(Ls:List ZB)(hl:Ls.length≤900000)(h1:1≤t.fOp)(h2:t.fOp≤28)(h3:¬(13≤t.fOp∧t.fOp≤19))(hA:eD t=true)(hN:i64 t.fN)(hr:∀r∈aZ t++a8 t,okH H r):PlT u H fm t Ls:=by
 obtain⟨op,fD,fA,fB,fN,fS,args⟩:=t
 have h1:1≤op:=h1
 have h2:op≤28:=h2
 have h3:¬(13≤op∧op≤19):=h3
 rcases K5 h1 h2 with rfl|rfl|rfl|rfl|rfl|rfl|rfl|rfl|rfl|rfl|rfl|rfl|rfl|rfl|rfl|rfl|rfl|rfl|rfl|rfl|rfl|rfl|rfl|rfl|rfl|rfl|rfl|rfl
 ·exact z7S u hnm H fm hf hf2 fD fA fB fN fS args Ls hl hA hN hr
 ·exact z7F u hnm H fm hf hf2 fD fA fB fN fS args Ls hl hA hN hr
 ·exact z7I u hnm H fm hf hf2 fD fA fB fN fS args Ls hl hA hN hr
 ·exact z7A u hnm H fm hf hf2 fD fA fB fN fS args Ls hl hA hN hr
 ·exact z7R u hnm H fm hf hf2 fD fA fB fN fS args Ls hl hA hN hr
 ·exact z7p u hnm H fm hf hf2 fD fA fB fN fS args Ls hl hA hN hr
 ·exact z7Q u hnm H fm hf hf2 fD fA fB fN fS args Ls hl hA hN hr
 ·exact z7C u hnm H fm hf hf2 fD fA fB fN fS args Ls hl hA hN hr
 ·exact z7P u hnm H fm hf hf2 fD fA fB fN fS args Ls hl hA hN hr
 ·exact z91 u hnm H fm hf hf2 fD fA fB fN fS args Ls hl hA hN hr
 ·exact z8p u hnm H fm hf hf2 fD fA fB fN fS args Ls hl hA hN hr
 ·exact z8C u hnm H fm hf hf2 fD fA fB fN fS args Ls hl hA hN hr
 ·omega
 ·omega
 ·omega
 ·omega
 ·omega
 ·omega
 ·omega
 ·exact z90 u hnm H fm hf hf2 fD fA fB fN fS args Ls hl hA hN hr
 ·exact z8Z u hnm H fm hf hf2 fD fA fB fN fS args Ls hl hA hN hr
 ·exact z8q u hnm H fm hf hf2 fD fA fB fN fS args Ls hl hA hN hr
 ·exact z9A u hnm H fm hf hf2 fD fA fB fN fS args Ls hl hA hN hr
 ·exact z9R u hnm H fm hf hf2 fD fA fB fN fS args Ls hl hA hN hr
 ·exact z80 u hnm H fm hf hf2 fD fA fB fN fS args Ls hl hA hN hr
 ·exact z89 u hnm H fm hf hf2 fD fA fB fN fS args Ls hl hA hN hr
 ·exact z8H u hnm H fm hf hf2 fD fA fB fN fS args Ls hl hA hN hr
 ·exact z8c u hnm H fm hf hf2 fD fA fB fN fS args Ls hl hA hN hr
set_option maxRecDepth 8000
set_option maxHeartbeats 8000000
def Cd(t:ZC):Bool:=inB t.fOp 13 19
theorem Kp(op:Int):call tab A6 [I op]=some (B (inB op 13 19)):=by
 have h:=dL op 13 19
 rw[aY Of _ rfl,Cm]
 simp -implicitDefEqProofs (disch:=first|assumption|omega) only[go_sem,simprocAttr,h]
theorem Iu(op:Int):call tab xO [I op]=some (B (inB op 13 19)):=by
 have h:=dW op 13 19
 rw[aY Kl _ rfl,zW]
 simp -implicitDefEqProofs (disch:=first|assumption|omega) only[go_sem,simprocAttr,h]
theorem Ma(t:ZC)(h:Heap)(fr:Nat)(hh:cB fr h=h):evCW tab sU [t.x] h fr=some (B (Cd t),h):=by
 have g:=Kp t.fOp
 rw[aR Nn _ _ _ rfl,Cj,Cd]
 generalize inB t.fOp 13 19=b at *
 simp -implicitDefEqProofs (disch:=first|assumption|omega) only[go_sem,simprocAttr,g,hh]
theorem zjU(u:ZD)(hl:u.fCode.length≤1048576)(F L H S:X)(hF:True):∀(Bl:List ZC) (j:Int),u.fCode.drop j.toNat=Bl→0≤j→∀x5:List D,
  loopW tab [1,4,5,6] l9 {env:=upd (upd (upd (upd emp 6 (some (I j))) 5 (some (.rop x5))) 4 (some (.ref (0,0) []))) 1 (some (vpU u)),heap:=upd emp (0,0) (some (.s 8 [])),fr:=0,next:=1} =
  if Bl.any Cd=true then some (.ret,{env:=upd (upd emp 3 (some (B false))) 2 (some (.ref (0,0) [])),heap:=upd emp (0,0) (some (.s 8 [])),fr:=0,next:=1}) else some (.ext 0,{env:=upd (upd (upd emp 5 (some (.rop x5))) 4 (some (.ref (0,0) []))) 1 (some (vpU u)),heap:=upd emp (0,0) (some (.s 8 [])),fr:=0,next:=1})
 |[],j,hd,hj,x5=>by
  have hh:=cY hd hj
  rw[List.any_nil,if_neg (by simp)]
  unfold loopW
  conv=>lhs;arg 1;unfold l9
  simp -implicitDefEqProofs (disch:=first|assumption|omega) only[go_sem,simprocAttr,hh]
 |t::Bl,j,hd,hj,x5=>by
  have hc:=cA hd hj
  have h2:=gC ZC.r hc.1
  have h4:=hc.2.1
  simp only[ZC.r] at h2
  have g:=Iu t.fOp
  rw[show inB t.fOp 13 19=Cd t from rfl] at g
  have ih:=zjU u hl F L H S hF Bl (j+1) hc.2.2.1 (by omega) x5
  rw[List.any_cons]
  cases hs:Cd t
  ·rw[hs] at g
   rw[Bool.false_or,←ih]
   conv=>lhs;unfold loopW;arg 1;unfold l9
   simp -implicitDefEqProofs (disch:=first|assumption|omega) only[go_sem,simprocAttr,h2,h4,g]
  ·rw[hs] at g
   rw[Bool.true_or,if_pos rfl]
   conv=>lhs;unfold loopW;arg 1;unfold l9
   simp -implicitDefEqProofs (disch:=first|assumption|omega) only[go_sem,simprocAttr,h2,h4,g]
structure PlOk (H:List Int) (t:ZC):Prop where
 lo:1≤t.fOp
 hi:t.fOp≤28
 un:¬(13≤t.fOp∧t.fOp≤19)
 ar:eD t=true
 nn:i64 t.fN
 rs:∀r∈aZ t++a8 t,okH H r
theorem Vf(u:ZD)(hnm:u.fName.size≤1048576)(hl:u.fCode.length≤900)(H:List Int)(fm:Int)(hf:0≤fm)(hf2:fm≤1000):∀(Bl:List ZC) (j:Int) (Ls:List ZB),u.fCode.drop j.toNat=Bl→0≤j→Ls.length+20*Bl.length≤100000→(∀t∈Bl,PlOk H t) →
  ∃L:List ZB,L.length≤20*Bl.length ∧
  loopW tab [6,36,37,38] o9 {env:=upd (upd (upd (upd emp 38 (some (I j))) 37 (some (I (u.fCode.length:Int)))) 36 (some (.d (.r (u.fCode.map ZC.r))))) 6 (some (.ptr (0,0) [] 0 0)),heap:=eH u H fm Ls,fr:=0,next:=1} =
   some (.ext 0,{env:=upd emp 6 (some (.ptr (0,0) [] 0 0)),heap:=eH u H fm (Ls++L),fr:=0,next:=1}) ∧
  loopW tab [1,7,8] oW {env:=upd (upd (upd emp 8 (some (I j))) 7 (some (.ptr (0,0) [] 0 0))) 1 (some (vpU u)),heap:=gH u.fName H fm Ls,fr:=0,next:=1} =
   some (.ext 2,{env:=upd emp 7 (some (.ptr (0,0) [] 0 0)),heap:=gH u.fName H fm (Ls++L),fr:=0,next:=1})
 |[],j,Ls,hd,hj,hb,hp=>by
  have hh:=cY hd hj
  refine⟨[],by simp,?_,?_⟩
  ·rw[List.append_nil]
   unfold loopW
   conv=>lhs;arg 1;unfold o9
   simp -implicitDefEqProofs (disch:=first|assumption|omega) only[go_sem,simprocAttr,hh]
  ·rw[List.append_nil]
   unfold loopW
   conv=>lhs;arg 1;unfold oW
   simp -implicitDefEqProofs (disch:=first|assumption|omega) only[go_sem,simprocAttr,hh]
 |t::Bl,j,Ls,hd,hj,hb,hp=>by
  have hc:=cA hd hj
  have h2:=gC ZC.r hc.1
  have h4:=hc.2.1
  simp only[ZC.r] at h2
  have ht:=hp t (by simp)
  rw[lc] at hb
  obtain⟨L1,l1,p1,p2⟩:=zZH u hnm H fm hf hf2 t Ls (by omega) ht.lo ht.hi ht.un ht.ar ht.nn ht.rs
  obtain⟨L2,l2,q1,q2⟩:=Vf u hnm hl H fm hf hf2 Bl (j+1) (Ls++L1) hc.2.2.1 (by omega) (by rw[la];omega) (fun t h=>hp t (by simp[h]))
  refine⟨L1++L2,by rw[la,lc];omega,?_,?_⟩
  ·rw[←List.append_assoc,←q1]
   generalize Ls++L1=W at *
   clear q1 q2 p2
   simp only[eH,ZC.x] at p1 ⊢
   conv=>lhs;unfold loopW;arg 1;unfold o9
   simp -implicitDefEqProofs (disch:=first|assumption|omega|(simp only[aE,aM,aF,i64,sa,aD,lm,la,lc,ln];omega)) only[go_sem,simprocAttr,h2,h4,p1]
  ·rw[←List.append_assoc,←q2]
   generalize Ls++L1=W at *
   clear q1 q2 p1
   simp only[gH,ZC.x] at p2 ⊢
   conv=>lhs;unfold loopW;arg 1;unfold oW
   simp -implicitDefEqProofs (disch:=first|assumption|omega|(simp only[aE,aM,aF,i64,sa,aD,lm,la,lc,ln];omega)) only[go_sem,simprocAttr,h2,h4,p2]
set_option maxRecDepth 8000
set_option maxHeartbeats 16000000
theorem zZO{u:ZD}(h:s8 u=true){t:ZC}(ht:t∈u.fCode):O8 t u.fRegs=true:=by
 simp only[s8,bE,inB,decide_eq_true_eq] at h
 obtain⟨⟨⟨⟨h1,h2⟩,h3⟩,h4⟩,h5⟩:=h
 obtain⟨k,hk⟩:=List.mem_iff_getElem?.1 ht
 have:=Dw u u.fCode 0 h4 k t hk
 simp only[Ax,bE] at this
 exact this.1
theorem zWf{u:ZD}(hu:s8 u=true)(hL:(bH u).Least (live u))(hn:u.fCode.any Cd=false){t:ZC}(ht:t∈u.fCode):PlOk (homU u).1 t:=by
 have hb:=zZO hu ht
 simp only[O8,bE] at hb
 obtain⟨⟨⟨⟨⟨⟨⟨⟨⟨b1,b2⟩,b3⟩,b4⟩,b5⟩,_⟩,_⟩,_⟩,_⟩,_⟩:=hb
 simp only[inB,bE,decide_eq_true_eq] at b1
 have hs:Cd t=false:=by
  rw[List.any_eq_false] at hn
  simpa using hn t ht
 refine⟨b1.1,b1.2,fun h=> ?_,b2,?_,fun r hr=>zW9 (oQ hu) hL ht hr⟩
 ·simp[Cd,inB,h.1,h.2] at hs
 ·simp only[zyC,inB,bE,decide_eq_true_eq] at b5
  exact⟨by omega,by omega⟩
def Pw(u:ZD):ZB:=⟨u.fName,⟨0,0,0,0,0,0⟩,⟨#[]⟩⟩
theorem zzR(u:ZD)(hs:u.sm):∃(R:List ZB) (ok:Bool),R.length≤18001∧call tab Br [u.x]=some (.tup [.d (.s 8 (R.map ZB.o)),B ok])∧call tab Gz [u.x]=some (.tup [.d (.s 8 (R.map ZB.o)),B ok]):=by
 have u0:=nP u hs
 have u1:=J9 u hs
 by_cases hu:s8 u=true
 ·have hr:=oQ hu
  rw[hu] at u0 u1
  obtain⟨I1,hI,hL,_⟩:=kT u hr hs
  have i1:=N5 u hs hu
  obtain⟨F,L,g1⟩:=F9 u hs hr
  have hlen:=hr.len
  have hany:=sQ sU Cd emp 1 (lK _) (lK _) u.fCode (by omega) (fun t _=>Ma t emp 3 (lK _))
  have hgs:=zjU u (by omega) (I 0) (I 0) (I 0) (I 0) trivial u.fCode 0 rfl (by omega) [.r (aG F),.r (aG L),.r (aG (homU u).1),DI (homU u).2]
  have hsl:=P8 hr
  by_cases hn:u.fCode.any Cd=true
  ·refine⟨[],false,by simp,?_,?_⟩
   ·rw[hn] at hany
    rw[aY tE _ rfl,pG]
    simp -implicitDefEqProofs (disch:=first|assumption|omega|(simp only[aE,aM,aF,i64,sa,aD,lm,la,lc,ln];omega)) only[go_sem,simprocAttr,u0,hany,mn]
   ·rw[if_pos hn] at hgs
    rw[aY tJ _ rfl,pF]
    generalize homU u=S at *
    obtain⟨S1,S2⟩:=S
    simp -implicitDefEqProofs (disch:=first|assumption|omega|(simp only[aE,aM,aF,i64,sa,aD,lm,la,lc,ln];omega)) only[go_sem,simprocAttr,u1,g1,hgs,mn]
  ·rw[Bool.not_eq_true] at hn
   have hpl:=fun t ht=>zWf hu hL hn (t:=t) ht
   rw[hn] at hany
   rw[if_neg (by rw[hn];simp)] at hgs
   by_cases hf:(homU u).2+2≤60
   ·obtain⟨L1,l1,p1,p2⟩:=Vf u hs.1 hlen.2 (homU u).1 ((homU u).2+2) (by omega) (by omega) u.fCode 0 [Pw u] rfl (by omega) (by simp;omega) hpl
    refine⟨[Pw u]++L1,true,by simp;omega,?_,?_⟩
    ·clear p2 hpl g1 hgs
     simp only[eH] at p1
     generalize homU u=S at *
     obtain⟨S1,S2⟩:=S
     simp only at p1 hf hsl
     generalize [Pw u]++L1=W at *
     rw[aY tE _ rfl,pG]
     simp only[Pw,mc,mn,ZB.o] at p1
     simp -implicitDefEqProofs (disch:=first|assumption|omega|(simp only[aE,aM,aF,i64,sa,aD,lm,la,lc,ln];omega)) only[go_sem,simprocAttr,u0,hany,i1,p1,cN]
    ·clear p1 hpl i1
     simp only[gH] at p2
     generalize homU u=S at *
     obtain⟨S1,S2⟩:=S
     simp only at p2 hf hsl
     generalize [Pw u]++L1=W at *
     rw[aY tJ _ rfl,pF]
     simp only[Pw,mc,mn,ZB.o] at p2
     simp -implicitDefEqProofs (disch:=first|assumption|omega|(simp only[aE,aM,aF,i64,sa,aD,lm,la,lc,ln];omega)) only[go_sem,simprocAttr,u1,g1,hgs,p2,mn,List.nil_append]
   ·refine⟨[],false,by simp,?_,?_⟩
    ·clear hpl g1 hgs
     generalize homU u=S at *
     obtain⟨S1,S2⟩:=S
     simp only at hf hsl
     rw[aY tE _ rfl,pG]
     simp -implicitDefEqProofs (disch:=first|assumption|omega|(simp only[aE,aM,aF,i64,sa,aD,lm,la,lc,ln];omega)) only[go_sem,simprocAttr,u0,hany,i1,mn]
    ·clear hpl i1
     generalize homU u=S at *
     obtain⟨S1,S2⟩:=S
     simp only at hf hsl
     rw[aY tJ _ rfl,pF]
     simp -implicitDefEqProofs (disch:=first|assumption|omega|(simp only[aE,aM,aF,i64,sa,aD,lm,la,lc,ln];omega)) only[go_sem,simprocAttr,u1,g1,hgs,mn]
 ·rw[Bool.not_eq_true] at hu
  rw[hu] at u0 u1
  refine⟨[],false,by simp,?_,?_⟩
  ·rw[aY tE _ rfl,pG]
   simp -implicitDefEqProofs (disch:=first|assumption|omega|(simp only[aE,aM,aF,i64,sa,aD,lm,la,lc,ln];omega)) only[go_sem,simprocAttr,u0,mn]
  ·rw[aY tJ _ rfl,pF]
   simp -implicitDefEqProofs (disch:=first|assumption|omega|(simp only[aE,aM,aF,i64,sa,aD,lm,la,lc,ln];omega)) only[go_sem,simprocAttr,u1,mn]
theorem Wc:∀xs:List ZB,ZB.cts xs=8*xs.length
 |[]=>rfl
 |x::xs=>by rw[ZB.cts,Wc xs];simp[ZB.ct];omega
theorem H9(u:ZD)(hU:u.ok):call tab oP [u.x]=some (B true):=by
 have g0:=Kb u 1048576 (by omega) hU
 rw[aY Dy _ rfl,rH]
 by_cases h0:(1048576:Int)<u.sz
 ·rw[if_pos h0] at g0
  simp -implicitDefEqProofs (disch:=first|assumption|omega|(simp only[aE,aM,aF,i64,sa,aD,lm,la,lc,ln];omega)) only[go_sem,simprocAttr,g0]
 ·rw[if_neg h0] at g0
  have r1:=ZD.sm_of (by omega:u.sz≤1048576)
  have g1:=Jx u r1
  obtain⟨R,ok,hR,e1,e2⟩:=zzR u r1
  have g4:=J7 u r1
  have n1:=u.ctv_le
  have g5:=G4 u 1 (by omega) (by omega)
  have g6:=Gd R (by omega)
  have n2:=Wc R
  have g7:=Fu R 1 (by omega) (by omega)
  have g8:=Ff R 1 (by omega) (by omega)
  have hz:¬1048576-u.sz<0:=by omega
  have hz0:0≤u.ctv:=by have:=ZC.cts_nn u.fCode;unfold ZD.ctv;omega
  generalize 1048576-u.sz=z at *
  cases ok<;>simp -implicitDefEqProofs (disch:=first|assumption|omega|(simp only[aE,aM,aF,i64,sa,aD,lm,la,lc,ln];omega)) only[go_sem,simprocAttr,g0,g1,e1,e2,g4,g5,g6,g7,g8,hz,ZB.fzs,ZB.fzr,ZB.noR,ZC.fzs,ZC.fzr,ZC.noR]
theorem pure_FnExactEmit(xs:List X)(h:zqF [(true,[.s,.i .i64,.i .i64,.l 80 [.i .i64,.i .i64,.i .i64,.i .i64,.i .i64,.s,.l 8 [.i .i64]]])] xs):call tab oP xs=some (.d (.v (.bool true))):=by
 simp only[zqF,zXQ] at h
 obtain⟨x0,r0,rfl,⟨d0,rfl,hf0⟩,rfl⟩:=h
 obtain⟨y0,rfl,hy0⟩:=ZD.fit hf0
 exact H9 y0 hy0
end Go.Ev.G
