import Derived.Test.YtenclibcnjkamaaGreatEvPUnit2
import Derived.Test.YtenclibcnjkamaaGreatEvPNeed2
import Derived.Test.YtenclibcnjkamaaGreatEvQLine2
set_option linter.all false
namespace Go.Ev.G
set_option maxRecDepth 8000
set_option maxHeartbeats 4000000
theorem Ad(f:Nat)(p:ZC→Bool)(h:Heap)(fr:Nat)(hh:cC fr h=h)(xs:List ZC)(hx:xs.length≤140737488351232)(hf:∀x∈xs,evCW tab f [x.x] h (fr+1)=some (B (p x),h)):∀(Bl:List ZC) (j:Int),xs.drop j.toNat=Bl→0≤j →
  loopW tab [0,1,7,8] bI {env:=upd (upd (upd (upd emp 8 (some (I j))) 7 (some (I (xs.length:Int)))) 1 (some (.d (.v (.func (.func f) #[] #[]))))) 0 (some (.d (.r (xs.map (ZC.r))))),heap:=h,fr:=fr,next:=0}=if aZ p j Bl= -1 then some (.ext 0,{env:=emp,heap:=h,fr:=fr,next:=0}) else some (.ret,{env:=upd emp 4 (some (I (aZ p j Bl))),heap:=h,fr:=fr,next:=0})
 |[],j,hd,hj=>by
  unfold loopW
  conv=>lhs;arg 1;unfold bI
  have:=cJ hd hj
  simp only[aZ,if_true]
  (repeat'(first|simp -implicitDefEqProofs (disch:=first|assumption|omega|(simp only[aE,aL,aF,i64,sa,aB,lm,la,lc,ln];omega)) only[go_sem,simprocAttr,hh]|((first|rw[aP]|rw[aJ]|rw[aI]|rw[aQ]|rw[aO]|rw[aK]|rw[aH]|rw[aN]|skip);split)))
 |x::Bl,j,hd,hj=>by
  unfold loopW
  conv=>lhs;arg 1;unfold bI
  have h4:=(bT hd hj).2.1
  have ih:=Ad f p h fr hh xs hx hf Bl (j+1) (bT hd hj).2.2.1 (by omega)
  have h2:=d6 (ZC.r) (bT hd hj).1
  simp only[ZC.r] at h2
  have h3:=hf x (bT hd hj).2.2.2.1
  rw[aZ]
  by_cases hp:p x=true
  ·rw[if_pos hp,if_neg (by omega)]
   (repeat'(first|simp -implicitDefEqProofs (disch:=first|assumption|omega|(simp only[aE,aL,aF,i64,sa,aB,lm,la,lc,ln];omega)) only[go_sem,simprocAttr,h2,h3,hh]|((first|rw[aP]|rw[aJ]|rw[aI]|rw[aQ]|rw[aO]|rw[aK]|rw[aH]|rw[aN]|skip);split)))
  ·rw[if_neg hp,←ih]
   (repeat'(first|simp -implicitDefEqProofs (disch:=first|assumption|omega|(simp only[aE,aL,aF,i64,sa,aB,lm,la,lc,ln];omega)) only[go_sem,simprocAttr,h2,h3,hh]|((first|rw[aP]|rw[aJ]|rw[aI]|rw[aQ]|rw[aO]|rw[aK]|rw[aH]|rw[aN]|skip);split)))
theorem zO(f:Nat)(p:ZC→Bool)(h:Heap)(fr:Nat)(hh:cC fr h=h)(xs:List ZC)(hx:xs.length≤140737488351232)(hf:∀x∈xs,evCW tab f [x.x] h (fr+1)=some (B (p x),h)):evCW tab cB [.d (.r (xs.map (ZC.r))),.d (.v (.func (.func f) #[] #[]))] h fr=some (I (aZ p 0 xs),h):=by
 rw[aR fC _ _ _ rfl,dF]
 have h0:=Ad f p h fr hh xs hx hf xs 0 rfl (by omega)
 by_cases hp:aZ p 0 xs= -1
 ·rw[if_pos hp] at h0
  (repeat'(first|simp -implicitDefEqProofs (disch:=first|assumption|omega|(simp only[aE,aL,aF,i64,sa,aB,lm,la,lc,ln];omega)) only[go_sem,simprocAttr,hh,h0,hp]|((first|rw[aP]|rw[aJ]|rw[aI]|rw[aQ]|rw[aO]|rw[aK]|rw[aH]|rw[aN]|skip);split)))
 ·rw[if_neg hp] at h0
  (repeat'(first|simp -implicitDefEqProofs (disch:=first|assumption|omega|(simp only[aE,aL,aF,i64,sa,aB,lm,la,lc,ln];omega)) only[go_sem,simprocAttr,hh,h0,hp]|((first|rw[aP]|rw[aJ]|rw[aI]|rw[aQ]|rw[aO]|rw[aK]|rw[aH]|rw[aN]|skip);split)))
theorem t7(f:Nat)(p:ZC→Bool)(h:Heap)(fr:Nat)(hh:cC fr h=h)(hh':cC (fr+1) h=h)(xs:List ZC)(hx:xs.length≤140737488351232)(hf:∀x∈xs,evCW tab f [x.x] h (fr+2)=some (B (p x),h)):evCW tab dB [.d (.r (xs.map (ZC.r))),.d (.v (.func (.func f) #[] #[]))] h fr=some (B (xs.any p),h):=by
 rw[aR lD _ _ _ rfl,eD]
 have h0:=zO f p h (fr+1) hh' xs hx hf
 rw[Co p 0 (by omega)]
 (repeat'(first|simp -implicitDefEqProofs (disch:=first|assumption|omega|(simp only[aE,aL,aF,i64,sa,aB,lm,la,lc,ln];omega)) only[go_sem,simprocAttr,hh,h0]|((first|rw[aP]|rw[aJ]|rw[aI]|rw[aQ]|rw[aO]|rw[aK]|rw[aH]|rw[aN]|skip);split)))
set_option maxRecDepth 8000
set_option maxHeartbeats 8000000
def aS(op r a bb n m:Int)(to:ByteArray):ZB:=⟨⟨#[]⟩,⟨op,r,a,bb,n,m⟩,to⟩
abbrev eH(u:ZD)(H:List Int)(fm:Int)(Ls:List ZB):Heap:=upd emp (0,0) (some (.s 7 [[DS u.fName,DI u.fParams,DI u.fRegs,.r (u.fCode.map ZC.r),.s 1 (aG H),DI fm,.s 8 (Ls.map ZB.o)]]))
abbrev gH(nm:ByteArray)(H:List Int)(fm:Int)(Ls:List ZB):Heap:=upd emp (0,0) (some (.s 4 [[DS nm,.r (aG H),DI fm,.s 8 (Ls.map ZB.o)]]))
theorem bO(x:Option D):cC 1 (upd emp (0,0) x)=upd emp (0,0) x:=by
 funext id
 simp only[cC]
 split
 ·rename_i h
  have:id≠(0,0):=fun e=>by rw[e] at h;simp at h
  simp[upd,this,emp]
 ·rfl
theorem zJW(Ls:List ZB)(op r a bb n m:Int)(to:ByteArray):(Ls++[aS op r a bb n m to]).map ZB.o=Ls.map ZB.o++[[DS ⟨#[]⟩,DI op,DI r,DI a,DI bb,DI n,DI m,DS to]]:=by simp[aS,ZB.o]
theorem rE(u:ZD)(H:List Int)(fm:Int)(Ls:List ZB)(hl:Ls.length≤1000000)(op r a bb n m:Int)(to:ByteArray):evCW tab bG [.ptr (0,0) [] 0 0,.agg [I op,I r,I a,I bb,I n,I m],Str to] (eH u H fm Ls) 1=some (.tup [],eH u H fm (Ls++[aS op r a bb n m to])):=by
 have hd:=bO
 have e:=zJW Ls op r a bb n m to
 have h2:(Ls.map ZB.o).length≤1000000:=by simp;omega
 rw[aR Gt _ _ _ rfl,tE]
 simp only[eH,e]
 generalize Ls.map ZB.o=W at *
 simp -implicitDefEqProofs (disch:=first|assumption|omega|(simp only[aE,aL,aF,i64,sa,aB,lm,la,lc,ln];omega)) only[go_sem,simprocAttr,hd]
theorem vI(nm:ByteArray)(H:List Int)(fm:Int)(Ls:List ZB)(hl:Ls.length≤1000000)(op r a bb n m:Int):evCW tab cG [.ptr (0,0) [] 0 0,.agg [I op,I r,I a,I bb,I n,I m]] (gH nm H fm Ls) 1=some (.tup [],gH nm H fm (Ls++[aS op r a bb n m ⟨#[]⟩])):=by
 have hd:=bO
 have e:=zJW Ls op r a bb n m ⟨#[]⟩
 have h2:(Ls.map ZB.o).length≤1000000:=by simp;omega
 rw[aR Ru _ _ _ rfl,Fl]
 simp only[gH,e]
 generalize Ls.map ZB.o=W at *
 simp -implicitDefEqProofs (disch:=first|assumption|omega|(simp only[aE,aL,aF,i64,sa,aB,lm,la,lc,ln];omega)) only[go_sem,simprocAttr,hd]
theorem gto(nm:ByteArray)(H:List Int)(fm:Int)(Ls:List ZB)(hl:Ls.length≤1000000)(op r a bb n m:Int)(to:ByteArray):evCW tab pJ [.ptr (0,0) [] 0 0,.agg [I op,I r,I a,I bb,I n,I m],Str to] (gH nm H fm Ls) 1=some (.tup [],gH nm H fm (Ls++[aS op r a bb n m to])):=by
 have hd:=bO
 have e:=zJW Ls op r a bb n m to
 have h2:(Ls.map ZB.o).length≤1000000:=by simp;omega
 rw[aR Vu _ _ _ rfl,G9]
 simp only[gH,e]
 generalize Ls.map ZB.o=W at *
 simp -implicitDefEqProofs (disch:=first|assumption|omega|(simp only[aE,aL,aF,i64,sa,aB,lm,la,lc,ln];omega)) only[go_sem,simprocAttr,hd]
def rdL(h r:Int):List ZB:=if h<10 then [] else [aS 8 r 6 0 (2+h-10) 0 ⟨#[]⟩]
def rdV(h r:Int):Int:=if h<10 then h else r
def kpL(h r:Int):List ZB:=if 10≤h then [aS 9 0 6 r (2+h-10) 0 ⟨#[]⟩] else if 0≤h∧h≠r then [aS 2 h r 0 0 0 ⟨#[]⟩] else []
theorem jM(u:ZD)(H:List Int)(fm:Int)(Ls:List ZB)(hl:Ls.length≤1000000)(q r:Int)(h0:0≤q)(hq:q<H.length)(hb:aC H q≤1000000)(hn:0≤aC H q):evCW tab bW [.ptr (0,0) [] 0 0,I q,I r] (eH u H fm Ls) 1=some (I (rdV (aC H q) r),eH u H fm (Ls++rdL (aC H q) r)):=by
 have hd:=bO
 have f1:=(bN (zs:=H) h0 hq).1
 have n1:(aG H).length=H.length:=by simp[aG]
 have p:=fun h=>rE u H fm Ls hl 8 r 6 0 (2+h-10) 0 ⟨#[]⟩
 rw[aR En _ _ _ rfl,rR]
 generalize aC H q=z at *
 have pz:=p z
 by_cases h:z<10
 ·rw[rdV,rdL,if_pos h,if_pos h,zqe]
  simp -implicitDefEqProofs (disch:=first|assumption|omega|(simp only[aE,aL,aF,i64,sa,aB,lm,la,lc,ln];omega)) only[go_sem,simprocAttr,f1,n1,h,hd]
 ·rw[rdV,rdL,if_neg h,if_neg h]
  simp only[eH] at pz ⊢
  simp -implicitDefEqProofs (disch:=first|assumption|omega|(simp only[aE,aL,aF,i64,sa,aB,lm,la,lc,ln];omega)) only[go_sem,simprocAttr,f1,n1,h,hd,pz]
theorem jJ(nm:ByteArray)(H:List Int)(fm:Int)(Ls:List ZB)(hl:Ls.length≤1000000)(q r:Int)(h0:0≤q)(hq:q<H.length)(hb:aC H q≤1000000)(hn:0≤aC H q):evCW tab fH [.ptr (0,0) [] 0 0,I q,I r] (gH nm H fm Ls) 1=some (I (rdV (aC H q) r),gH nm H fm (Ls++rdL (aC H q) r)):=by
 have hd:=bO
 have f1:=(bN (zs:=H) h0 hq).1
 have n1:(aG H).length=H.length:=by simp[aG]
 have p:=fun h=>vI nm H fm Ls hl 8 r 6 0 (2+h-10) 0
 rw[aR Nt _ _ _ rfl,Da]
 generalize aC H q=z at *
 have pz:=p z
 by_cases h:z<10
 ·rw[rdV,rdL,if_pos h,if_pos h,zqe]
  simp -implicitDefEqProofs (disch:=first|assumption|omega|(simp only[aE,aL,aF,i64,sa,aB,lm,la,lc,ln];omega)) only[go_sem,simprocAttr,f1,n1,h,hn,hd]
 ·rw[rdV,rdL,if_neg h,if_neg h]
  simp only[gH] at pz ⊢
  simp -implicitDefEqProofs (disch:=first|assumption|omega|(simp only[aE,aL,aF,i64,sa,aB,lm,la,lc,ln];omega)) only[go_sem,simprocAttr,f1,n1,h,hn,show ¬z<0 by omega,hd,pz]
theorem Ai(u:ZD)(H:List Int)(fm:Int)(Ls:List ZB)(hl:Ls.length≤1000000)(q r:Int)(h0:0≤q)(hq:q<H.length)(hb:aC H q≤1000000):evCW tab cN [.ptr (0,0) [] 0 0,I q,I r] (eH u H fm Ls) 1=some (.tup [],eH u H fm (Ls++kpL (aC H q) r)):=by
 have hd:=bO
 have f1:=(bN (zs:=H) h0 hq).1
 have n1:(aG H).length=H.length:=by simp[aG]
 have p:=fun h=>rE u H fm Ls hl 9 0 6 r (2+h-10) 0 ⟨#[]⟩
 have p2:=fun h=>rE u H fm Ls hl 2 h r 0 0 0 ⟨#[]⟩
 rw[aR Ej _ _ _ rfl,rP]
 generalize aC H q=z at *
 have pz:=p z
 have pz2:=p2 z
 simp only[eH] at pz pz2 ⊢
 by_cases h:10≤z
 ·rw[kpL,if_pos h]
  simp -implicitDefEqProofs (disch:=first|assumption|omega|(simp only[aE,aL,aF,i64,sa,aB,lm,la,lc,ln];omega)) only[go_sem,simprocAttr,f1,n1,h,hd,pz]
 ·rw[kpL,if_neg h]
  by_cases h2:0≤z
  ·by_cases h3:z=r
   ·rw[if_neg (by simp[h3]),zqe]
    subst h3
    simp -implicitDefEqProofs (disch:=first|assumption|omega|(simp only[aE,aL,aF,i64,sa,aB,lm,la,lc,ln];omega)) only[go_sem,simprocAttr,f1,n1,h,h2,hd]
   ·rw[if_pos ⟨h2,h3⟩]
    simp -implicitDefEqProofs (disch:=first|assumption|omega|(simp only[aE,aL,aF,i64,sa,aB,lm,la,lc,ln];omega)) only[go_sem,simprocAttr,f1,n1,h,h2,h3,hd,pz2]
  ·rw[if_neg (by omega),zqe]
   simp -implicitDefEqProofs (disch:=first|assumption|omega|(simp only[aE,aL,aF,i64,sa,aB,lm,la,lc,ln];omega)) only[go_sem,simprocAttr,f1,n1,h,h2,hd]
theorem Ar(nm:ByteArray)(H:List Int)(fm:Int)(Ls:List ZB)(hl:Ls.length≤1000000)(q r:Int)(h0:0≤q)(hq:q<H.length)(hb:aC H q≤1000000):evCW tab dZ [.ptr (0,0) [] 0 0,I q,I r] (gH nm H fm Ls) 1=some (.tup [],gH nm H fm (Ls++kpL (aC H q) r)):=by
 have hd:=bO
 have f1:=(bN (zs:=H) h0 hq).1
 have n1:(aG H).length=H.length:=by simp[aG]
 have p:=fun h=>vI nm H fm Ls hl 9 0 6 r (2+h-10) 0
 have p2:=fun h=>vI nm H fm Ls hl 2 h r 0 0 0
 rw[aR Mj _ _ _ rfl,Ab]
 generalize aC H q=z at *
 have pz:=p z
 have pz2:=p2 z
 simp only[gH] at pz pz2 ⊢
 by_cases h:10≤z
 ·rw[kpL,if_pos h]
  simp -implicitDefEqProofs (disch:=first|assumption|omega|(simp only[aE,aL,aF,i64,sa,aB,lm,la,lc,ln];omega)) only[go_sem,simprocAttr,f1,n1,h,hd,pz]
 ·rw[kpL,if_neg h]
  by_cases h2:0≤z
  ·by_cases h3:z=r
   ·rw[if_neg (by simp[h3]),zqe]
    subst h3
    simp -implicitDefEqProofs (disch:=first|assumption|omega|(simp only[aE,aL,aF,i64,sa,aB,lm,la,lc,ln];omega)) only[go_sem,simprocAttr,f1,n1,h,h2,hd]
   ·rw[if_pos ⟨h2,h3⟩]
    simp -implicitDefEqProofs (disch:=first|assumption|omega|(simp only[aE,aL,aF,i64,sa,aB,lm,la,lc,ln];omega)) only[go_sem,simprocAttr,f1,n1,h,h2,h3,hd,pz2]
  ·rw[if_neg (by omega),zqe]
   simp -implicitDefEqProofs (disch:=first|assumption|omega|(simp only[aE,aL,aF,i64,sa,aB,lm,la,lc,ln];omega)) only[go_sem,simprocAttr,f1,n1,h,h2,hd]
set_option maxRecDepth 8000
set_option maxHeartbeats 8000000
def q8(nm:ByteArray)(n:Int):ByteArray:=nm++⟨#[46]⟩++dig n
def Ge(nm:ByteArray)(n:Int):ZB:=⟨q8 nm n,⟨0,0,0,0,0,0⟩,⟨#[]⟩⟩
theorem aY(h r:Int):(rdL h r).length≤1:=by unfold rdL;split<;>simp
theorem nK(h r:Int):(kpL h r).length≤1:=by
 unfold kpL
 split
 ·simp
 ·split<;>simp
def okH(H:List Int)(q:Int):Prop:=0≤q∧q<H.length∧0≤aC H q∧aC H q≤1000000
theorem zvX{nm:ByteArray}(h:nm.size≤1048576){n:Int}(hn:i64 n):aE nm ⟨#[46]⟩∧aE (nm++⟨#[46]⟩) (dig n):=by
 have h2:=Hr hn
 have h3:(⟨#[46]⟩:ByteArray).size=1:=rfl
 constructor
 ·show nm.size+(⟨#[46]⟩:ByteArray).size≤_
  omega
 ·show(nm++⟨#[46]⟩).size+(dig n).size≤_
  rw[sa]
  omega
theorem Ed(a:ByteArray)(l:List D):fzl (DS a::l)=DS a::fzl l:=rfl
theorem zjt(nm:ByteArray)(hn:nm.size≤1048576)(cs:List D)(n:Int)(h:i64 n):call tab gA [.rop (DS nm::cs),I n]=some (Str (q8 nm n)):=by
 have g:=N5 h
 obtain⟨c1,c2⟩:=zvX hn h
 rw[aT Dq _ rfl,qE,q8]
 generalize dig n=dg at *
 simp -implicitDefEqProofs (disch:=first|assumption|omega|(simp only[aE,aL,aF,i64,sa,aB,lm,la,lc,ln];omega)) only[go_sem,simprocAttr,g,c1,c2,List.drop_zero,List.take_succ_cons,List.take_zero]
theorem zq9(nm:ByteArray)(hn:nm.size≤1048576)(cs:List D)(n:Int)(h:i64 n):call tab m5 [.rop (DS nm::cs),I n]=some (Str (q8 nm n)):=by
 have g:=Qk h
 obtain⟨c1,c2⟩:=zvX hn h
 rw[aT L9 _ rfl,Aq,q8]
 generalize dig n=dg at *
 simp -implicitDefEqProofs (disch:=first|assumption|omega|(simp only[aE,aL,aF,i64,sa,aB,lm,la,lc,ln];omega)) only[go_sem,simprocAttr,g,c1,c2,List.drop_zero,List.take_succ_cons,List.take_zero]
def nX(H:List Int)(fm:Int):Int→List Int→List ZB
 |_,[]=>[]
 |j,q::qs=>rdL (aC H q) 3++[aS 9 0 6 (rdV (aC H q) 3) (fm+2+j) 0 ⟨#[]⟩]++nX H fm (j+1) qs
theorem Hg(H:List Int)(fm:Int):∀(qs:List Int) (j:Int),(nX H fm j qs).length≤2*qs.length
 |[],j=>by simp[nX]
 |q::qs,j=>by
  have h1:=aY (aC H q) 3
  have h2:=Hg H fm qs (j+1)
  rw[nX,la,la,zqa,lc]
  omega
theorem z8x(u:ZD)(op fD fA fB fN:Int)(fS:ByteArray)(H:List Int)(fm:Int)(hf:0≤fm)(hf2:fm≤1000)(xs:List Int)(hx:xs.length≤4)(hq:∀q∈xs,okH H q):∀(Bl:List Int) (j:Int) (Ls:List ZB),xs.drop j.toNat=Bl→0≤j→Ls.length≤900000+2*j →
  loopW tab [0,3,8,9,10] gK {env:=upd (upd (upd (upd (upd emp 10 (some (I j))) 9 (some (I (xs.length:Int)))) 8 (some (.d (.r (aG xs))))) 3 (some (.vp [I op,I fD,I fA,I fB,I fN,Str fS,.d (.r (aG xs))]))) 0 (some (.ptr (0,0) [] 0 0)),heap:=eH u H fm Ls,fr:=1,next:=0} =
  some (.ext 0,{env:=upd (upd emp 3 (some (.vp [I op,I fD,I fA,I fB,I fN,Str fS,.d (.r (aG xs))]))) 0 (some (.ptr (0,0) [] 0 0)),heap:=eH u H fm (Ls++nX H fm j Bl),fr:=1,next:=0})
 |[],j,Ls,hd,hj,hl=>by
  have hh:=cJ hd hj
  have hdr:=bO
  unfold loopW
  conv=>lhs;arg 1;unfold gK
  simp only[nX,zqe]
  simp -implicitDefEqProofs (disch:=first|assumption|omega) only[go_sem,simprocAttr,hh,hdr]
 |q::Bl,j,Ls,hd,hj,hl=>by
  have hc:=bT hd hj
  have hdr:=bO
  have h2:=d6 (fun n=>[DI n]) hc.1
  have h4:=hc.2.1
  obtain⟨q0,q1,q2,q3⟩:=hq q hc.2.2.2.1
  have hrl:=aY (aC H q) 3
  have ih:=z8x u op fD fA fB fN fS H fm hf hf2 xs hx hq Bl (j+1) (Ls++rdL (aC H q) 3++[aS 9 0 6 (rdV (aC H q) 3) (fm+2+j) 0 ⟨#[]⟩]) hc.2.2.1 (by omega) (by simp only[la,zqa];omega)
  rw[nX,show Ls++(rdL (aC H q) 3++[aS 9 0 6 (rdV (aC H q) 3) (fm+2+j) 0 ⟨#[]⟩]++nX H fm (j+1) Bl)=Ls++rdL (aC H q) 3++[aS 9 0 6 (rdV (aC H q) 3) (fm+2+j) 0 ⟨#[]⟩]++nX H fm (j+1) Bl by simp,←ih]
  have s1:=jM u H fm Ls (by omega) q 3 q0 q1 q3 q2
  have s2:=rE u H fm (Ls++rdL (aC H q) 3) (by rw[la];omega) 9 0 6 (rdV (aC H q) 3) (fm+2+j) 0 ⟨#[]⟩
  generalize Ls++rdL (aC H q) 3++[aS 9 0 6 (rdV (aC H q) 3) (fm+2+j) 0 ⟨#[]⟩]=L2 at *
  generalize Ls++rdL (aC H q) 3=L1 at *
  generalize rdV (aC H q) 3=v at *
  simp only[eH] at s1 s2 ⊢
  conv=>lhs;unfold loopW;arg 1;unfold gK
  simp -implicitDefEqProofs (disch:=first|assumption|omega|(simp only[aE,aL,aF,i64,sa,aB,lm,la,lc,ln];omega)) only[go_sem,simprocAttr,h2,h4,hdr,s1,s2]
theorem z8q(nm:ByteArray)(op fD fA fB fN:Int)(fS:ByteArray)(H:List Int)(fm:Int)(hf:0≤fm)(hf2:fm≤1000)(xs:List Int)(hx:xs.length≤4)(hq:∀q∈xs,okH H q):∀(Bl:List Int) (j:Int) (Ls:List ZB),xs.drop j.toNat=Bl→0≤j→Ls.length≤900000+2*j →
  loopW tab [0,3,4] mO {env:=upd (upd (upd emp 4 (some (I j))) 3 (some (.vp [I op,I fD,I fA,I fB,I fN,Str fS,.d (.r (aG xs))]))) 0 (some (.ptr (0,0) [] 0 0)),heap:=gH nm H fm Ls,fr:=1,next:=0} =
  some (.ext 0,{env:=upd (upd emp 3 (some (.vp [I op,I fD,I fA,I fB,I fN,Str fS,.d (.r (aG xs))]))) 0 (some (.ptr (0,0) [] 0 0)),heap:=gH nm H fm (Ls++nX H fm j Bl),fr:=1,next:=0})
 |[],j,Ls,hd,hj,hl=>by
  have hh:=cJ hd hj
  have hdr:=bO
  unfold loopW
  conv=>lhs;arg 1;unfold mO
  simp only[nX,zqe]
  simp -implicitDefEqProofs (disch:=first|assumption|omega) only[go_sem,simprocAttr,hh,hdr]
 |q::Bl,j,Ls,hd,hj,hl=>by
  have hc:=bT hd hj
  have hdr:=bO
  have h2:=d6 (fun n=>[DI n]) hc.1
  have h4:=hc.2.1
  obtain⟨q0,q1,q2,q3⟩:=hq q hc.2.2.2.1
  have hrl:=aY (aC H q) 3
  have ih:=z8q nm op fD fA fB fN fS H fm hf hf2 xs hx hq Bl (j+1) (Ls++rdL (aC H q) 3++[aS 9 0 6 (rdV (aC H q) 3) (fm+2+j) 0 ⟨#[]⟩]) hc.2.2.1 (by omega) (by simp only[la,zqa];omega)
  rw[nX,show Ls++(rdL (aC H q) 3++[aS 9 0 6 (rdV (aC H q) 3) (fm+2+j) 0 ⟨#[]⟩]++nX H fm (j+1) Bl)=Ls++rdL (aC H q) 3++[aS 9 0 6 (rdV (aC H q) 3) (fm+2+j) 0 ⟨#[]⟩]++nX H fm (j+1) Bl by simp,←ih]
  have s1:=jJ nm H fm Ls (by omega) q 3 q0 q1 q3 q2
  have s2:=vI nm H fm (Ls++rdL (aC H q) 3) (by rw[la];omega) 9 0 6 (rdV (aC H q) 3) (fm+2+j) 0
  generalize Ls++rdL (aC H q) 3++[aS 9 0 6 (rdV (aC H q) 3) (fm+2+j) 0 ⟨#[]⟩]=L2 at *
  generalize Ls++rdL (aC H q) 3=L1 at *
  generalize rdV (aC H q) 3=v at *
  simp only[gH] at s1 s2 ⊢
  conv=>lhs;unfold loopW;arg 1;unfold mO
  simp -implicitDefEqProofs (disch:=first|assumption|omega|(simp only[aE,aL,aF,i64,sa,aB,lm,la,lc,ln];omega)) only[go_sem,simprocAttr,h2,h4,hdr,s1,s2]
set_option maxRecDepth 8000
set_option maxHeartbeats 8000000
theorem z6Z(u:ZD)(hnm:u.fName.size≤1048576)(H:List Int)(fm:Int)(hf:0≤fm)(hf2:fm≤1000)(fD fA fB fN:Int)(fS:ByteArray)(args:List Int)(Ls:List ZB)(hl:Ls.length≤900000)(hx:args.length≤4)(hq:∀q∈args,okH H q)(h_fD:okH H fD):evCW tab o7 [.ptr (0,0) [] 0 0,.agg [I 11,I fD,I fA,I fB,I fN,Str fS,.d (.r (aG args))]] (eH u H fm Ls) 1=some (.tup [],eH u H fm (Ls++nX H fm 0 args++[aS 13 0 0 0 0 fm fS]++kpL (aC H fD) 0)):=by
 have hdr:=bO
 obtain⟨fD0,fD1,fD2,fD3⟩:=h_fD
 have lar:=Hg H fm args 0
 have s0:=z8x u 11 fD fA fB fN fS H fm hf hf2 args hx hq args 0 Ls rfl (by omega) (by omega)
 have s1:=rE u H fm (Ls++nX H fm 0 args) (by first|exact(by omega)|(simp only[la,zqa];omega)) 13 0 0 0 0 fm fS
 have s2:=Ai u H fm (Ls++nX H fm 0 args++[aS 13 0 0 0 0 fm fS]) (by first|exact(by omega)|(simp only[la,zqa];omega)) fD 0 fD0 fD1 fD3
 generalize Ls++nX H fm 0 args++[aS 13 0 0 0 0 fm fS]++kpL (aC H fD) 0=L3 at *
 generalize Ls++nX H fm 0 args++[aS 13 0 0 0 0 fm fS]=L2 at *
 generalize Ls++nX H fm 0 args=L1 at *
 simp only[eH] at s0 s1 s2 ⊢
 rw[aR Eo _ _ _ rfl,rS]
 simp -implicitDefEqProofs (disch:=first|assumption|omega|(simp only[aE,aL,aF,i64,sa,aB,lm,la,lc,ln];omega)) only[go_sem,simprocAttr,hdr,s0,s1,s2]
theorem z6W(u:ZD)(hnm:u.fName.size≤1048576)(H:List Int)(fm:Int)(hf:0≤fm)(hf2:fm≤1000)(fD fA fB fN:Int)(fS:ByteArray)(args:List Int)(Ls:List ZB)(hl:Ls.length≤900000)(h_fA:okH H fA)(h_fD:okH H fD):evCW tab e9 [.ptr (0,0) [] 0 0,.agg [I 20,I fD,I fA,I fB,I fN,Str fS,.d (.r (aG args))]] (eH u H fm Ls) 1=some (.tup [],eH u H fm (Ls++rdL (aC H fA) 3++[aS 8 5 (rdV (aC H fA) 3) 0 0 0 ⟨#[]⟩]++kpL (aC H fD) 5)):=by
 have hdr:=bO
 obtain⟨fA0,fA1,fA2,fA3⟩:=h_fA
 obtain⟨fD0,fD1,fD2,fD3⟩:=h_fD
 have l_vA:=aY (aC H fA) 3
 have s0:=jM u H fm (Ls) (by first|exact(by omega)|(simp only[la,zqa];omega)) fA 3 fA0 fA1 fA3 fA2
 have s1:=rE u H fm (Ls++rdL (aC H fA) 3) (by first|exact(by omega)|(simp only[la,zqa];omega)) 8 5 (rdV (aC H fA) 3) 0 0 0 ⟨#[]⟩
 have s2:=Ai u H fm (Ls++rdL (aC H fA) 3++[aS 8 5 (rdV (aC H fA) 3) 0 0 0 ⟨#[]⟩]) (by first|exact(by omega)|(simp only[la,zqa];omega)) fD 5 fD0 fD1 fD3
 generalize Ls++rdL (aC H fA) 3++[aS 8 5 (rdV (aC H fA) 3) 0 0 0 ⟨#[]⟩]++kpL (aC H fD) 5=L3 at *
 generalize Ls++rdL (aC H fA) 3++[aS 8 5 (rdV (aC H fA) 3) 0 0 0 ⟨#[]⟩]=L2 at *
 generalize Ls++rdL (aC H fA) 3=L1 at *
 generalize rdV (aC H fA) 3=vA at *
 simp only[eH] at s0 s1 s2 ⊢
 rw[aR kK _ _ _ rfl,gJ]
 simp -implicitDefEqProofs (disch:=first|assumption|omega|(simp only[aE,aL,aF,i64,sa,aB,lm,la,lc,ln];omega)) only[go_sem,simprocAttr,hdr,s0,s1,s2]
theorem z6K(u:ZD)(hnm:u.fName.size≤1048576)(H:List Int)(fm:Int)(hf:0≤fm)(hf2:fm≤1000)(fD fA fB fN:Int)(fS:ByteArray)(args:List Int)(Ls:List ZB)(hl:Ls.length≤900000)(h_fA:okH H fA)(h_fB:okH H fB):evCW tab e9 [.ptr (0,0) [] 0 0,.agg [I 21,I fD,I fA,I fB,I fN,Str fS,.d (.r (aG args))]] (eH u H fm Ls) 1=some (.tup [],eH u H fm (Ls++rdL (aC H fA) 3++rdL (aC H fB) 4++[aS 9 0 (rdV (aC H fA) 3) (rdV (aC H fB) 4) 0 0 ⟨#[]⟩])):=by
 have hdr:=bO
 obtain⟨fA0,fA1,fA2,fA3⟩:=h_fA
 obtain⟨fB0,fB1,fB2,fB3⟩:=h_fB
 have l_vA:=aY (aC H fA) 3
 have l_vB:=aY (aC H fB) 4
 have s0:=jM u H fm (Ls) (by first|exact(by omega)|(simp only[la,zqa];omega)) fA 3 fA0 fA1 fA3 fA2
 have s1:=jM u H fm (Ls++rdL (aC H fA) 3) (by first|exact(by omega)|(simp only[la,zqa];omega)) fB 4 fB0 fB1 fB3 fB2
 have s2:=rE u H fm (Ls++rdL (aC H fA) 3++rdL (aC H fB) 4) (by first|exact(by omega)|(simp only[la,zqa];omega)) 9 0 (rdV (aC H fA) 3) (rdV (aC H fB) 4) 0 0 ⟨#[]⟩
 generalize Ls++rdL (aC H fA) 3++rdL (aC H fB) 4++[aS 9 0 (rdV (aC H fA) 3) (rdV (aC H fB) 4) 0 0 ⟨#[]⟩]=L3 at *
 generalize Ls++rdL (aC H fA) 3++rdL (aC H fB) 4=L2 at *
 generalize Ls++rdL (aC H fA) 3=L1 at *
 generalize rdV (aC H fA) 3=vA at *
 generalize rdV (aC H fB) 4=vB at *
 simp only[eH] at s0 s1 s2 ⊢
 rw[aR kK _ _ _ rfl,gJ]
 simp -implicitDefEqProofs (disch:=first|assumption|omega|(simp only[aE,aL,aF,i64,sa,aB,lm,la,lc,ln];omega)) only[go_sem,simprocAttr,hdr,s0,s1,s2]
theorem z6i(u:ZD)(hnm:u.fName.size≤1048576)(H:List Int)(fm:Int)(hf:0≤fm)(hf2:fm≤1000)(fD fA fB fN:Int)(fS:ByteArray)(q:Int)(Ls:List ZB)(hl:Ls.length≤900000)(h_fA:okH H fA)(h_fB:okH H fB)(h_q:okH H q)(h_fD:okH H fD):evCW tab e9 [.ptr (0,0) [] 0 0,.agg [I 22,I fD,I fA,I fB,I fN,Str fS,.d (.r (aG [q]))]] (eH u H fm Ls) 1=some (.tup [],eH u H fm (Ls++rdL (aC H fA) 3++rdL (aC H fB) 4++[aS 2 5 (rdV (aC H fB) 4) 0 0 0 ⟨#[]⟩]++rdL (aC H q) 4++[aS 10 5 (rdV (aC H fA) 3) (rdV (aC H q) 4) 0 0 ⟨#[]⟩]++kpL (aC H fD) 5)):=by
 have hdr:=bO
 obtain⟨fA0,fA1,fA2,fA3⟩:=h_fA
 obtain⟨fB0,fB1,fB2,fB3⟩:=h_fB
 obtain⟨q0,q1,q2,q3⟩:=h_q
 obtain⟨fD0,fD1,fD2,fD3⟩:=h_fD
 have l_vA:=aY (aC H fA) 3
 have l_vB:=aY (aC H fB) 4
 have l_vC:=aY (aC H q) 4
 have s0:=jM u H fm (Ls) (by first|exact(by omega)|(simp only[la,zqa];omega)) fA 3 fA0 fA1 fA3 fA2
 have s1:=jM u H fm (Ls++rdL (aC H fA) 3) (by first|exact(by omega)|(simp only[la,zqa];omega)) fB 4 fB0 fB1 fB3 fB2
 have s2:=rE u H fm (Ls++rdL (aC H fA) 3++rdL (aC H fB) 4) (by first|exact(by omega)|(simp only[la,zqa];omega)) 2 5 (rdV (aC H fB) 4) 0 0 0 ⟨#[]⟩
 have s3:=jM u H fm (Ls++rdL (aC H fA) 3++rdL (aC H fB) 4++[aS 2 5 (rdV (aC H fB) 4) 0 0 0 ⟨#[]⟩]) (by first|exact(by omega)|(simp only[la,zqa];omega)) q 4 q0 q1 q3 q2
 have s4:=rE u H fm (Ls++rdL (aC H fA) 3++rdL (aC H fB) 4++[aS 2 5 (rdV (aC H fB) 4) 0 0 0 ⟨#[]⟩]++rdL (aC H q) 4) (by first|exact(by omega)|(simp only[la,zqa];omega)) 10 5 (rdV (aC H fA) 3) (rdV (aC H q) 4) 0 0 ⟨#[]⟩
 have s5:=Ai u H fm (Ls++rdL (aC H fA) 3++rdL (aC H fB) 4++[aS 2 5 (rdV (aC H fB) 4) 0 0 0 ⟨#[]⟩]++rdL (aC H q) 4++[aS 10 5 (rdV (aC H fA) 3) (rdV (aC H q) 4) 0 0 ⟨#[]⟩]) (by first|exact(by omega)|(simp only[la,zqa];omega)) fD 5 fD0 fD1 fD3
 generalize Ls++rdL (aC H fA) 3++rdL (aC H fB) 4++[aS 2 5 (rdV (aC H fB) 4) 0 0 0 ⟨#[]⟩]++rdL (aC H q) 4++[aS 10 5 (rdV (aC H fA) 3) (rdV (aC H q) 4) 0 0 ⟨#[]⟩]++kpL (aC H fD) 5=L6 at *
 generalize Ls++rdL (aC H fA) 3++rdL (aC H fB) 4++[aS 2 5 (rdV (aC H fB) 4) 0 0 0 ⟨#[]⟩]++rdL (aC H q) 4++[aS 10 5 (rdV (aC H fA) 3) (rdV (aC H q) 4) 0 0 ⟨#[]⟩]=L5 at *
 generalize Ls++rdL (aC H fA) 3++rdL (aC H fB) 4++[aS 2 5 (rdV (aC H fB) 4) 0 0 0 ⟨#[]⟩]++rdL (aC H q) 4=L4 at *
 generalize Ls++rdL (aC H fA) 3++rdL (aC H fB) 4++[aS 2 5 (rdV (aC H fB) 4) 0 0 0 ⟨#[]⟩]=L3 at *
 generalize Ls++rdL (aC H fA) 3++rdL (aC H fB) 4=L2 at *
 generalize Ls++rdL (aC H fA) 3=L1 at *
 generalize rdV (aC H fA) 3=vA at *
 generalize rdV (aC H fB) 4=vB at *
 generalize rdV (aC H q) 4=vC at *
 simp only[eH] at s0 s1 s2 s3 s4 s5 ⊢
 rw[aR kK _ _ _ rfl,gJ]
 simp -implicitDefEqProofs (disch:=first|assumption|omega|(simp only[aE,aL,aF,i64,sa,aB,lm,la,lc,ln];omega)) only[go_sem,simprocAttr,hdr,s0,s1,s2,s3,s4,s5,aG,mc,mn]
theorem z6O(u:ZD)(hnm:u.fName.size≤1048576)(H:List Int)(fm:Int)(hf:0≤fm)(hf2:fm≤1000)(fD fA fB fN:Int)(fS:ByteArray)(args:List Int)(Ls:List ZB)(hl:Ls.length≤900000)(h_fA:okH H fA):evCW tab eB [.ptr (0,0) [] 0 0,.agg [I 25,I fD,I fA,I fB,I fN,Str fS,.d (.r (aG args))]] (eH u H fm Ls) 1=some (.tup [],eH u H fm (Ls++rdL (aC H fA) 3++[aS 15 0 (rdV (aC H fA) 3) 0 0 0 ⟨#[]⟩])):=by
 have hdr:=bO
 obtain⟨fA0,fA1,fA2,fA3⟩:=h_fA
 have l_vA:=aY (aC H fA) 3
 have s0:=jM u H fm (Ls) (by first|exact(by omega)|(simp only[la,zqa];omega)) fA 3 fA0 fA1 fA3 fA2
 have s1:=rE u H fm (Ls++rdL (aC H fA) 3) (by first|exact(by omega)|(simp only[la,zqa];omega)) 15 0 (rdV (aC H fA) 3) 0 0 0 ⟨#[]⟩
 generalize Ls++rdL (aC H fA) 3++[aS 15 0 (rdV (aC H fA) 3) 0 0 0 ⟨#[]⟩]=L2 at *
 generalize Ls++rdL (aC H fA) 3=L1 at *
 generalize rdV (aC H fA) 3=vA at *
 simp only[eH] at s0 s1 ⊢
 rw[aR gW _ _ _ rfl,eN]
 simp -implicitDefEqProofs (disch:=first|assumption|omega|(simp only[aE,aL,aF,i64,sa,aB,lm,la,lc,ln];omega)) only[go_sem,simprocAttr,hdr,s0,s1]
theorem z6I(u:ZD)(hnm:u.fName.size≤1048576)(H:List Int)(fm:Int)(hf:0≤fm)(hf2:fm≤1000)(fD fA fB fN:Int)(fS:ByteArray)(args:List Int)(Ls:List ZB)(hl:Ls.length≤900000)(h_fA:okH H fA)(h_fB:okH H fB):evCW tab eB [.ptr (0,0) [] 0 0,.agg [I 26,I fD,I fA,I fB,I fN,Str fS,.d (.r (aG args))]] (eH u H fm Ls) 1=some (.tup [],eH u H fm (Ls++rdL (aC H fA) 3++rdL (aC H fB) 4++[aS 16 0 (rdV (aC H fA) 3) (rdV (aC H fB) 4) 0 0 ⟨#[]⟩])):=by
 have hdr:=bO
 obtain⟨fA0,fA1,fA2,fA3⟩:=h_fA
 obtain⟨fB0,fB1,fB2,fB3⟩:=h_fB
 have l_vA:=aY (aC H fA) 3
 have l_vB:=aY (aC H fB) 4
 have s0:=jM u H fm (Ls) (by first|exact(by omega)|(simp only[la,zqa];omega)) fA 3 fA0 fA1 fA3 fA2
 have s1:=jM u H fm (Ls++rdL (aC H fA) 3) (by first|exact(by omega)|(simp only[la,zqa];omega)) fB 4 fB0 fB1 fB3 fB2
 have s2:=rE u H fm (Ls++rdL (aC H fA) 3++rdL (aC H fB) 4) (by first|exact(by omega)|(simp only[la,zqa];omega)) 16 0 (rdV (aC H fA) 3) (rdV (aC H fB) 4) 0 0 ⟨#[]⟩
 generalize Ls++rdL (aC H fA) 3++rdL (aC H fB) 4++[aS 16 0 (rdV (aC H fA) 3) (rdV (aC H fB) 4) 0 0 ⟨#[]⟩]=L3 at *
 generalize Ls++rdL (aC H fA) 3++rdL (aC H fB) 4=L2 at *
 generalize Ls++rdL (aC H fA) 3=L1 at *
 generalize rdV (aC H fA) 3=vA at *
 generalize rdV (aC H fB) 4=vB at *
 simp only[eH] at s0 s1 s2 ⊢
 rw[aR gW _ _ _ rfl,eN]
 simp -implicitDefEqProofs (disch:=first|assumption|omega|(simp only[aE,aL,aF,i64,sa,aB,lm,la,lc,ln];omega)) only[go_sem,simprocAttr,hdr,s0,s1,s2]
theorem z5F(u:ZD)(hnm:u.fName.size≤1048576)(H:List Int)(fm:Int)(hf:0≤fm)(hf2:fm≤1000)(fD fA fB fN:Int)(fS:ByteArray)(args:List Int)(Ls:List ZB)(hl:Ls.length≤900000)(h_fA:okH H fA)(h_fB:okH H fB):evCW tab eB [.ptr (0,0) [] 0 0,.agg [I 27,I fD,I fA,I fB,I fN,Str fS,.d (.r (aG args))]] (eH u H fm Ls) 1=some (.tup [],eH u H fm (Ls++rdL (aC H fA) 3++rdL (aC H fB) 4++[aS 17 0 (rdV (aC H fA) 3) (rdV (aC H fB) 4) 0 0 ⟨#[]⟩])):=by
 have hdr:=bO
 obtain⟨fA0,fA1,fA2,fA3⟩:=h_fA
 obtain⟨fB0,fB1,fB2,fB3⟩:=h_fB
 have l_vA:=aY (aC H fA) 3
 have l_vB:=aY (aC H fB) 4
 have s0:=jM u H fm (Ls) (by first|exact(by omega)|(simp only[la,zqa];omega)) fA 3 fA0 fA1 fA3 fA2
 have s1:=jM u H fm (Ls++rdL (aC H fA) 3) (by first|exact(by omega)|(simp only[la,zqa];omega)) fB 4 fB0 fB1 fB3 fB2
 have s2:=rE u H fm (Ls++rdL (aC H fA) 3++rdL (aC H fB) 4) (by first|exact(by omega)|(simp only[la,zqa];omega)) 17 0 (rdV (aC H fA) 3) (rdV (aC H fB) 4) 0 0 ⟨#[]⟩
 generalize Ls++rdL (aC H fA) 3++rdL (aC H fB) 4++[aS 17 0 (rdV (aC H fA) 3) (rdV (aC H fB) 4) 0 0 ⟨#[]⟩]=L3 at *
 generalize Ls++rdL (aC H fA) 3++rdL (aC H fB) 4=L2 at *
 generalize Ls++rdL (aC H fA) 3=L1 at *
 generalize rdV (aC H fA) 3=vA at *
 generalize rdV (aC H fB) 4=vB at *
 simp only[eH] at s0 s1 s2 ⊢
 rw[aR gW _ _ _ rfl,eN]
 simp -implicitDefEqProofs (disch:=first|assumption|omega|(simp only[aE,aL,aF,i64,sa,aB,lm,la,lc,ln];omega)) only[go_sem,simprocAttr,hdr,s0,s1,s2]
theorem z61(u:ZD)(hnm:u.fName.size≤1048576)(H:List Int)(fm:Int)(hf:0≤fm)(hf2:fm≤1000)(fD fA fB fN:Int)(fS:ByteArray)(args:List Int)(Ls:List ZB)(hl:Ls.length≤900000)(h_fA:okH H fA):evCW tab eB [.ptr (0,0) [] 0 0,.agg [I 28,I fD,I fA,I fB,I fN,Str fS,.d (.r (aG args))]] (eH u H fm Ls) 1=some (.tup [],eH u H fm (Ls++rdL (aC H fA) 3++[aS 19 0 (rdV (aC H fA) 3) 0 0 0 ⟨#[]⟩])):=by
 have hdr:=bO
 obtain⟨fA0,fA1,fA2,fA3⟩:=h_fA
 have l_vA:=aY (aC H fA) 3
 have s0:=jM u H fm (Ls) (by first|exact(by omega)|(simp only[la,zqa];omega)) fA 3 fA0 fA1 fA3 fA2
 have s1:=rE u H fm (Ls++rdL (aC H fA) 3) (by first|exact(by omega)|(simp only[la,zqa];omega)) 19 0 (rdV (aC H fA) 3) 0 0 0 ⟨#[]⟩
 generalize Ls++rdL (aC H fA) 3++[aS 19 0 (rdV (aC H fA) 3) 0 0 0 ⟨#[]⟩]=L2 at *
 generalize Ls++rdL (aC H fA) 3=L1 at *
 generalize rdV (aC H fA) 3=vA at *
 simp only[eH] at s0 s1 ⊢
 rw[aR gW _ _ _ rfl,eN]
 simp -implicitDefEqProofs (disch:=first|assumption|omega|(simp only[aE,aL,aF,i64,sa,aB,lm,la,lc,ln];omega)) only[go_sem,simprocAttr,hdr,s0,s1]
set_option maxRecDepth 8000
set_option maxHeartbeats 8000000
theorem z4b(u:ZD)(hnm:u.fName.size≤1048576)(H:List Int)(fm:Int)(hf:0≤fm)(hf2:fm≤1000)(fD fA fB fN:Int)(fS:ByteArray)(args:List Int)(Ls:List ZB)(hl:Ls.length≤900000)(h_fD:okH H fD):evCW tab aW [.ptr (0,0) [] 0 0,.agg [I 1,I fD,I fA,I fB,I fN,Str fS,.d (.r (aG args))]] (eH u H fm Ls) 1=some (.tup [],eH u H fm (Ls++[aS 1 3 0 0 fN 0 ⟨#[]⟩]++kpL (aC H fD) 3)):=by
 have hdr:=bO
 obtain⟨fD0,fD1,fD2,fD3⟩:=h_fD
 have s0:=rE u H fm (Ls) (by first|exact(by omega)|(simp only[la,zqa];omega)) 1 3 0 0 fN 0 ⟨#[]⟩
 have s1:=Ai u H fm (Ls++[aS 1 3 0 0 fN 0 ⟨#[]⟩]) (by first|exact(by omega)|(simp only[la,zqa];omega)) fD 3 fD0 fD1 fD3
 generalize Ls++[aS 1 3 0 0 fN 0 ⟨#[]⟩]++kpL (aC H fD) 3=L2 at *
 generalize Ls++[aS 1 3 0 0 fN 0 ⟨#[]⟩]=L1 at *
 simp only[eH] at s0 s1 ⊢
 rw[aR aX _ _ _ rfl,aV]
 simp -implicitDefEqProofs (disch:=first|assumption|omega|(simp only[aE,aL,aF,i64,sa,aB,lm,la,lc,ln];omega)) only[go_sem,simprocAttr,hdr,s0,s1]
theorem z5Z(u:ZD)(hnm:u.fName.size≤1048576)(H:List Int)(fm:Int)(hf:0≤fm)(hf2:fm≤1000)(fD fA fB fN:Int)(fS:ByteArray)(args:List Int)(Ls:List ZB)(hl:Ls.length≤900000)(h_fA:okH H fA)(h_fD:okH H fD):evCW tab aW [.ptr (0,0) [] 0 0,.agg [I 2,I fD,I fA,I fB,I fN,Str fS,.d (.r (aG args))]] (eH u H fm Ls) 1=some (.tup [],eH u H fm (Ls++rdL (aC H fA) 3++kpL (aC H fD) (rdV (aC H fA) 3))):=by
 have hdr:=bO
 obtain⟨fA0,fA1,fA2,fA3⟩:=h_fA
 obtain⟨fD0,fD1,fD2,fD3⟩:=h_fD
 have l_vA:=aY (aC H fA) 3
 have s0:=jM u H fm (Ls) (by first|exact(by omega)|(simp only[la,zqa];omega)) fA 3 fA0 fA1 fA3 fA2
 have s1:=Ai u H fm (Ls++rdL (aC H fA) 3) (by first|exact(by omega)|(simp only[la,zqa];omega)) fD (rdV (aC H fA) 3) fD0 fD1 fD3
 generalize Ls++rdL (aC H fA) 3++kpL (aC H fD) (rdV (aC H fA) 3)=L2 at *
 generalize Ls++rdL (aC H fA) 3=L1 at *
 generalize rdV (aC H fA) 3=vA at *
 simp only[eH] at s0 s1 ⊢
 rw[aR aX _ _ _ rfl,aV]
 simp -implicitDefEqProofs (disch:=first|assumption|omega|(simp only[aE,aL,aF,i64,sa,aB,lm,la,lc,ln];omega)) only[go_sem,simprocAttr,hdr,s0,s1]
theorem z4v(u:ZD)(hnm:u.fName.size≤1048576)(H:List Int)(fm:Int)(hf:0≤fm)(hf2:fm≤1000)(fD fA fB fN:Int)(fS:ByteArray)(args:List Int)(Ls:List ZB)(hl:Ls.length≤900000)(h_fA:okH H fA)(h_fB:okH H fB)(h_fD:okH H fD):evCW tab aW [.ptr (0,0) [] 0 0,.agg [I 3,I fD,I fA,I fB,I fN,Str fS,.d (.r (aG args))]] (eH u H fm Ls) 1=some (.tup [],eH u H fm (Ls++rdL (aC H fA) 3++rdL (aC H fB) 4++[aS 3 5 (rdV (aC H fA) 3) (rdV (aC H fB) 4) 0 0 ⟨#[]⟩]++kpL (aC H fD) 5)):=by
 have hdr:=bO
 obtain⟨fA0,fA1,fA2,fA3⟩:=h_fA
 obtain⟨fB0,fB1,fB2,fB3⟩:=h_fB
 obtain⟨fD0,fD1,fD2,fD3⟩:=h_fD
 have l_vA:=aY (aC H fA) 3
 have l_vB:=aY (aC H fB) 4
 have s0:=jM u H fm (Ls) (by first|exact(by omega)|(simp only[la,zqa];omega)) fA 3 fA0 fA1 fA3 fA2
 have s1:=jM u H fm (Ls++rdL (aC H fA) 3) (by first|exact(by omega)|(simp only[la,zqa];omega)) fB 4 fB0 fB1 fB3 fB2
 have s2:=rE u H fm (Ls++rdL (aC H fA) 3++rdL (aC H fB) 4) (by first|exact(by omega)|(simp only[la,zqa];omega)) 3 5 (rdV (aC H fA) 3) (rdV (aC H fB) 4) 0 0 ⟨#[]⟩
 have s3:=Ai u H fm (Ls++rdL (aC H fA) 3++rdL (aC H fB) 4++[aS 3 5 (rdV (aC H fA) 3) (rdV (aC H fB) 4) 0 0 ⟨#[]⟩]) (by first|exact(by omega)|(simp only[la,zqa];omega)) fD 5 fD0 fD1 fD3
 generalize Ls++rdL (aC H fA) 3++rdL (aC H fB) 4++[aS 3 5 (rdV (aC H fA) 3) (rdV (aC H fB) 4) 0 0 ⟨#[]⟩]++kpL (aC H fD) 5=L4 at *
 generalize Ls++rdL (aC H fA) 3++rdL (aC H fB) 4++[aS 3 5 (rdV (aC H fA) 3) (rdV (aC H fB) 4) 0 0 ⟨#[]⟩]=L3 at *
 generalize Ls++rdL (aC H fA) 3++rdL (aC H fB) 4=L2 at *
 generalize Ls++rdL (aC H fA) 3=L1 at *
 generalize rdV (aC H fA) 3=vA at *
 generalize rdV (aC H fB) 4=vB at *
 simp only[eH] at s0 s1 s2 s3 ⊢
 rw[aR aX _ _ _ rfl,aV]
 simp -implicitDefEqProofs (disch:=first|assumption|omega|(simp only[aE,aL,aF,i64,sa,aB,lm,la,lc,ln];omega)) only[go_sem,simprocAttr,hdr,s0,s1,s2,s3]
theorem z4c(u:ZD)(hnm:u.fName.size≤1048576)(H:List Int)(fm:Int)(hf:0≤fm)(hf2:fm≤1000)(fD fA fB fN:Int)(fS:ByteArray)(args:List Int)(Ls:List ZB)(hl:Ls.length≤900000)(h_fA:okH H fA)(h_fB:okH H fB)(h_fD:okH H fD):evCW tab aW [.ptr (0,0) [] 0 0,.agg [I 4,I fD,I fA,I fB,I fN,Str fS,.d (.r (aG args))]] (eH u H fm Ls) 1=some (.tup [],eH u H fm (Ls++rdL (aC H fA) 3++rdL (aC H fB) 4++[aS 4 5 (rdV (aC H fA) 3) (rdV (aC H fB) 4) 0 0 ⟨#[]⟩]++kpL (aC H fD) 5)):=by
 have hdr:=bO
 obtain⟨fA0,fA1,fA2,fA3⟩:=h_fA
 obtain⟨fB0,fB1,fB2,fB3⟩:=h_fB
 obtain⟨fD0,fD1,fD2,fD3⟩:=h_fD
 have l_vA:=aY (aC H fA) 3
 have l_vB:=aY (aC H fB) 4
 have s0:=jM u H fm (Ls) (by first|exact(by omega)|(simp only[la,zqa];omega)) fA 3 fA0 fA1 fA3 fA2
 have s1:=jM u H fm (Ls++rdL (aC H fA) 3) (by first|exact(by omega)|(simp only[la,zqa];omega)) fB 4 fB0 fB1 fB3 fB2
 have s2:=rE u H fm (Ls++rdL (aC H fA) 3++rdL (aC H fB) 4) (by first|exact(by omega)|(simp only[la,zqa];omega)) 4 5 (rdV (aC H fA) 3) (rdV (aC H fB) 4) 0 0 ⟨#[]⟩
 have s3:=Ai u H fm (Ls++rdL (aC H fA) 3++rdL (aC H fB) 4++[aS 4 5 (rdV (aC H fA) 3) (rdV (aC H fB) 4) 0 0 ⟨#[]⟩]) (by first|exact(by omega)|(simp only[la,zqa];omega)) fD 5 fD0 fD1 fD3
 generalize Ls++rdL (aC H fA) 3++rdL (aC H fB) 4++[aS 4 5 (rdV (aC H fA) 3) (rdV (aC H fB) 4) 0 0 ⟨#[]⟩]++kpL (aC H fD) 5=L4 at *
 generalize Ls++rdL (aC H fA) 3++rdL (aC H fB) 4++[aS 4 5 (rdV (aC H fA) 3) (rdV (aC H fB) 4) 0 0 ⟨#[]⟩]=L3 at *
 generalize Ls++rdL (aC H fA) 3++rdL (aC H fB) 4=L2 at *
 generalize Ls++rdL (aC H fA) 3=L1 at *
 generalize rdV (aC H fA) 3=vA at *
 generalize rdV (aC H fB) 4=vB at *
 simp only[eH] at s0 s1 s2 s3 ⊢
 rw[aR aX _ _ _ rfl,aV]
 simp -implicitDefEqProofs (disch:=first|assumption|omega|(simp only[aE,aL,aF,i64,sa,aB,lm,la,lc,ln];omega)) only[go_sem,simprocAttr,hdr,s0,s1,s2,s3]
theorem z4d(u:ZD)(hnm:u.fName.size≤1048576)(H:List Int)(fm:Int)(hf:0≤fm)(hf2:fm≤1000)(fD fA fB fN:Int)(fS:ByteArray)(args:List Int)(Ls:List ZB)(hl:Ls.length≤900000)(h_fA:okH H fA)(h_fB:okH H fB)(h_fD:okH H fD):evCW tab aW [.ptr (0,0) [] 0 0,.agg [I 5,I fD,I fA,I fB,I fN,Str fS,.d (.r (aG args))]] (eH u H fm Ls) 1=some (.tup [],eH u H fm (Ls++rdL (aC H fA) 3++rdL (aC H fB) 4++[aS 5 5 (rdV (aC H fA) 3) (rdV (aC H fB) 4) 0 0 ⟨#[]⟩]++kpL (aC H fD) 5)):=by
 have hdr:=bO
 obtain⟨fA0,fA1,fA2,fA3⟩:=h_fA
 obtain⟨fB0,fB1,fB2,fB3⟩:=h_fB
 obtain⟨fD0,fD1,fD2,fD3⟩:=h_fD
 have l_vA:=aY (aC H fA) 3
 have l_vB:=aY (aC H fB) 4
 have s0:=jM u H fm (Ls) (by first|exact(by omega)|(simp only[la,zqa];omega)) fA 3 fA0 fA1 fA3 fA2
 have s1:=jM u H fm (Ls++rdL (aC H fA) 3) (by first|exact(by omega)|(simp only[la,zqa];omega)) fB 4 fB0 fB1 fB3 fB2
 have s2:=rE u H fm (Ls++rdL (aC H fA) 3++rdL (aC H fB) 4) (by first|exact(by omega)|(simp only[la,zqa];omega)) 5 5 (rdV (aC H fA) 3) (rdV (aC H fB) 4) 0 0 ⟨#[]⟩
 have s3:=Ai u H fm (Ls++rdL (aC H fA) 3++rdL (aC H fB) 4++[aS 5 5 (rdV (aC H fA) 3) (rdV (aC H fB) 4) 0 0 ⟨#[]⟩]) (by first|exact(by omega)|(simp only[la,zqa];omega)) fD 5 fD0 fD1 fD3
 generalize Ls++rdL (aC H fA) 3++rdL (aC H fB) 4++[aS 5 5 (rdV (aC H fA) 3) (rdV (aC H fB) 4) 0 0 ⟨#[]⟩]++kpL (aC H fD) 5=L4 at *
 generalize Ls++rdL (aC H fA) 3++rdL (aC H fB) 4++[aS 5 5 (rdV (aC H fA) 3) (rdV (aC H fB) 4) 0 0 ⟨#[]⟩]=L3 at *
 generalize Ls++rdL (aC H fA) 3++rdL (aC H fB) 4=L2 at *
 generalize Ls++rdL (aC H fA) 3=L1 at *
 generalize rdV (aC H fA) 3=vA at *
 generalize rdV (aC H fB) 4=vB at *
 simp only[eH] at s0 s1 s2 s3 ⊢
 rw[aR aX _ _ _ rfl,aV]
 simp -implicitDefEqProofs (disch:=first|assumption|omega|(simp only[aE,aL,aF,i64,sa,aB,lm,la,lc,ln];omega)) only[go_sem,simprocAttr,hdr,s0,s1,s2,s3]
theorem z4o(u:ZD)(hnm:u.fName.size≤1048576)(H:List Int)(fm:Int)(hf:0≤fm)(hf2:fm≤1000)(fD fA fB fN:Int)(fS:ByteArray)(args:List Int)(Ls:List ZB)(hl:Ls.length≤900000)(h_fA:okH H fA)(h_fB:okH H fB)(h_fD:okH H fD):evCW tab aW [.ptr (0,0) [] 0 0,.agg [I 6,I fD,I fA,I fB,I fN,Str fS,.d (.r (aG args))]] (eH u H fm Ls) 1=some (.tup [],eH u H fm (Ls++rdL (aC H fA) 3++rdL (aC H fB) 4++[aS 6 5 (rdV (aC H fA) 3) (rdV (aC H fB) 4) 0 0 ⟨#[]⟩]++kpL (aC H fD) 5)):=by
 have hdr:=bO
 obtain⟨fA0,fA1,fA2,fA3⟩:=h_fA
 obtain⟨fB0,fB1,fB2,fB3⟩:=h_fB
 obtain⟨fD0,fD1,fD2,fD3⟩:=h_fD
 have l_vA:=aY (aC H fA) 3
 have l_vB:=aY (aC H fB) 4
 have s0:=jM u H fm (Ls) (by first|exact(by omega)|(simp only[la,zqa];omega)) fA 3 fA0 fA1 fA3 fA2
 have s1:=jM u H fm (Ls++rdL (aC H fA) 3) (by first|exact(by omega)|(simp only[la,zqa];omega)) fB 4 fB0 fB1 fB3 fB2
 have s2:=rE u H fm (Ls++rdL (aC H fA) 3++rdL (aC H fB) 4) (by first|exact(by omega)|(simp only[la,zqa];omega)) 6 5 (rdV (aC H fA) 3) (rdV (aC H fB) 4) 0 0 ⟨#[]⟩
 have s3:=Ai u H fm (Ls++rdL (aC H fA) 3++rdL (aC H fB) 4++[aS 6 5 (rdV (aC H fA) 3) (rdV (aC H fB) 4) 0 0 ⟨#[]⟩]) (by first|exact(by omega)|(simp only[la,zqa];omega)) fD 5 fD0 fD1 fD3
 generalize Ls++rdL (aC H fA) 3++rdL (aC H fB) 4++[aS 6 5 (rdV (aC H fA) 3) (rdV (aC H fB) 4) 0 0 ⟨#[]⟩]++kpL (aC H fD) 5=L4 at *
 generalize Ls++rdL (aC H fA) 3++rdL (aC H fB) 4++[aS 6 5 (rdV (aC H fA) 3) (rdV (aC H fB) 4) 0 0 ⟨#[]⟩]=L3 at *
 generalize Ls++rdL (aC H fA) 3++rdL (aC H fB) 4=L2 at *
 generalize Ls++rdL (aC H fA) 3=L1 at *
 generalize rdV (aC H fA) 3=vA at *
 generalize rdV (aC H fB) 4=vB at *
 simp only[eH] at s0 s1 s2 s3 ⊢
 rw[aR aX _ _ _ rfl,aV]
 simp -implicitDefEqProofs (disch:=first|assumption|omega|(simp only[aE,aL,aF,i64,sa,aB,lm,la,lc,ln];omega)) only[go_sem,simprocAttr,hdr,s0,s1,s2,s3]
theorem z4y(u:ZD)(hnm:u.fName.size≤1048576)(H:List Int)(fm:Int)(hf:0≤fm)(hf2:fm≤1000)(fD fA fB fN:Int)(fS:ByteArray)(args:List Int)(Ls:List ZB)(hl:Ls.length≤900000)(h_fA:okH H fA)(h_fB:okH H fB)(h_fD:okH H fD):evCW tab aW [.ptr (0,0) [] 0 0,.agg [I 7,I fD,I fA,I fB,I fN,Str fS,.d (.r (aG args))]] (eH u H fm Ls) 1=some (.tup [],eH u H fm (Ls++rdL (aC H fA) 3++rdL (aC H fB) 4++[aS 7 5 (rdV (aC H fA) 3) (rdV (aC H fB) 4) 0 0 ⟨#[]⟩]++kpL (aC H fD) 5)):=by
 have hdr:=bO
 obtain⟨fA0,fA1,fA2,fA3⟩:=h_fA
 obtain⟨fB0,fB1,fB2,fB3⟩:=h_fB
 obtain⟨fD0,fD1,fD2,fD3⟩:=h_fD
 have l_vA:=aY (aC H fA) 3
 have l_vB:=aY (aC H fB) 4
 have s0:=jM u H fm (Ls) (by first|exact(by omega)|(simp only[la,zqa];omega)) fA 3 fA0 fA1 fA3 fA2
 have s1:=jM u H fm (Ls++rdL (aC H fA) 3) (by first|exact(by omega)|(simp only[la,zqa];omega)) fB 4 fB0 fB1 fB3 fB2
 have s2:=rE u H fm (Ls++rdL (aC H fA) 3++rdL (aC H fB) 4) (by first|exact(by omega)|(simp only[la,zqa];omega)) 7 5 (rdV (aC H fA) 3) (rdV (aC H fB) 4) 0 0 ⟨#[]⟩
 have s3:=Ai u H fm (Ls++rdL (aC H fA) 3++rdL (aC H fB) 4++[aS 7 5 (rdV (aC H fA) 3) (rdV (aC H fB) 4) 0 0 ⟨#[]⟩]) (by first|exact(by omega)|(simp only[la,zqa];omega)) fD 5 fD0 fD1 fD3
 generalize Ls++rdL (aC H fA) 3++rdL (aC H fB) 4++[aS 7 5 (rdV (aC H fA) 3) (rdV (aC H fB) 4) 0 0 ⟨#[]⟩]++kpL (aC H fD) 5=L4 at *
 generalize Ls++rdL (aC H fA) 3++rdL (aC H fB) 4++[aS 7 5 (rdV (aC H fA) 3) (rdV (aC H fB) 4) 0 0 ⟨#[]⟩]=L3 at *
 generalize Ls++rdL (aC H fA) 3++rdL (aC H fB) 4=L2 at *
 generalize Ls++rdL (aC H fA) 3=L1 at *
 generalize rdV (aC H fA) 3=vA at *
 generalize rdV (aC H fB) 4=vB at *
 simp only[eH] at s0 s1 s2 s3 ⊢
 rw[aR aX _ _ _ rfl,aV]
 simp -implicitDefEqProofs (disch:=first|assumption|omega|(simp only[aE,aL,aF,i64,sa,aB,lm,la,lc,ln];omega)) only[go_sem,simprocAttr,hdr,s0,s1,s2,s3]
theorem z55(u:ZD)(hnm:u.fName.size≤1048576)(H:List Int)(fm:Int)(hf:0≤fm)(hf2:fm≤1000)(fD fA fB fN:Int)(fS:ByteArray)(args:List Int)(Ls:List ZB)(hl:Ls.length≤900000)(hN:i64 fN):evCW tab aW [.ptr (0,0) [] 0 0,.agg [I 8,I fD,I fA,I fB,I fN,Str fS,.d (.r (aG args))]] (eH u H fm Ls) 1=some (.tup [],eH u H fm (Ls++[Ge u.fName fN])):=by
 have hdr:=bO
 have sl:=fun cs=>zjt u.fName hnm cs fN hN
 have e0:(Ls++[Ge u.fName fN]).map ZB.o=Ls.map ZB.o++[[DS (q8 u.fName fN),DI 0,DI 0,DI 0,DI 0,DI 0,DI 0,DS ⟨#[]⟩]]:=by simp[Ge,ZB.o]
 have e1:(Ls.map ZB.o).length≤1000000:=by simp;omega
 simp only[eH,e0]
 generalize Ls.map ZB.o=W at *
 generalize q8 u.fName fN=lb at *
 rw[aR aX _ _ _ rfl,aV]
 simp -implicitDefEqProofs (disch:=first|assumption|omega|(simp only[aE,aL,aF,i64,sa,aB,lm,la,lc,ln];omega)) only[go_sem,simprocAttr,hdr,sl,Ed,List.drop_zero]
theorem z58(u:ZD)(hnm:u.fName.size≤1048576)(H:List Int)(fm:Int)(hf:0≤fm)(hf2:fm≤1000)(fD fA fB fN:Int)(fS:ByteArray)(args:List Int)(Ls:List ZB)(hl:Ls.length≤900000)(hN:i64 fN):evCW tab aW [.ptr (0,0) [] 0 0,.agg [I 9,I fD,I fA,I fB,I fN,Str fS,.d (.r (aG args))]] (eH u H fm Ls) 1=some (.tup [],eH u H fm (Ls++[aS 11 0 0 0 0 0 (q8 u.fName fN)])):=by
 have hdr:=bO
 have s0:=rE u H fm (Ls) (by first|exact(by omega)|(simp only[la,zqa];omega)) 11 0 0 0 0 0 (q8 u.fName fN)
 have sl:=fun cs=>zjt u.fName hnm cs fN hN
 generalize Ls++[aS 11 0 0 0 0 0 (q8 u.fName fN)]=L1 at *
 simp only[eH] at s0 ⊢
 rw[aR aX _ _ _ rfl,aV]
 simp -implicitDefEqProofs (disch:=first|assumption|omega|(simp only[aE,aL,aF,i64,sa,aB,lm,la,lc,ln];omega)) only[go_sem,simprocAttr,hdr,s0,sl,Ed,List.drop_zero]
theorem z62(u:ZD)(hnm:u.fName.size≤1048576)(H:List Int)(fm:Int)(hf:0≤fm)(hf2:fm≤1000)(fD fA fB fN:Int)(fS:ByteArray)(args:List Int)(Ls:List ZB)(hl:Ls.length≤900000)(h_fA:okH H fA)(hN:i64 fN):evCW tab aW [.ptr (0,0) [] 0 0,.agg [I 10,I fD,I fA,I fB,I fN,Str fS,.d (.r (aG args))]] (eH u H fm Ls) 1=some (.tup [],eH u H fm (Ls++rdL (aC H fA) 3++[aS 12 0 (rdV (aC H fA) 3) 0 0 0 (q8 u.fName fN)])):=by
 have hdr:=bO
 obtain⟨fA0,fA1,fA2,fA3⟩:=h_fA
 have l_vA:=aY (aC H fA) 3
 have s0:=jM u H fm (Ls) (by first|exact(by omega)|(simp only[la,zqa];omega)) fA 3 fA0 fA1 fA3 fA2
 have s1:=rE u H fm (Ls++rdL (aC H fA) 3) (by first|exact(by omega)|(simp only[la,zqa];omega)) 12 0 (rdV (aC H fA) 3) 0 0 0 (q8 u.fName fN)
 have sl:=fun cs=>zjt u.fName hnm cs fN hN
 generalize Ls++rdL (aC H fA) 3++[aS 12 0 (rdV (aC H fA) 3) 0 0 0 (q8 u.fName fN)]=L2 at *
 generalize Ls++rdL (aC H fA) 3=L1 at *
 generalize rdV (aC H fA) 3=vA at *
 simp only[eH] at s0 s1 ⊢
 rw[aR aX _ _ _ rfl,aV]
 simp -implicitDefEqProofs (disch:=first|assumption|omega|(simp only[aE,aL,aF,i64,sa,aB,lm,la,lc,ln];omega)) only[go_sem,simprocAttr,hdr,s0,s1,sl,Ed,List.drop_zero]
theorem z5B(u:ZD)(hnm:u.fName.size≤1048576)(H:List Int)(fm:Int)(hf:0≤fm)(hf2:fm≤1000)(fD fA fB fN:Int)(fS:ByteArray)(args:List Int)(Ls:List ZB)(hl:Ls.length≤900000)(hx:args.length≤4)(hq:∀q∈args,okH H q)(h_fD:okH H fD):evCW tab aW [.ptr (0,0) [] 0 0,.agg [I 11,I fD,I fA,I fB,I fN,Str fS,.d (.r (aG args))]] (eH u H fm Ls) 1=some (.tup [],eH u H fm (Ls++nX H fm 0 args++[aS 13 0 0 0 0 fm fS]++kpL (aC H fD) 0)):=by
 have hdr:=bO
 have s1:=z6Z u hnm H fm hf hf2 fD fA fB fN fS args Ls hl hx hq h_fD
 generalize Ls++nX H fm 0 args++[aS 13 0 0 0 0 fm fS]++kpL (aC H fD) 0=LF at *
 simp only[eH] at s1 ⊢
 rw[aR aX _ _ _ rfl,aV]
 simp -implicitDefEqProofs (disch:=first|assumption|omega|(simp only[aE,aL,aF,i64,sa,aB,lm,la,lc,ln];omega)) only[go_sem,simprocAttr,hdr,s1]
theorem z68(u:ZD)(hnm:u.fName.size≤1048576)(H:List Int)(fm:Int)(hf:0≤fm)(hf2:fm≤1000)(fD fA fB fN:Int)(fS:ByteArray)(args:List Int)(Ls:List ZB)(hl:Ls.length≤900000)(h_fA:okH H fA):evCW tab aW [.ptr (0,0) [] 0 0,.agg [I 12,I fD,I fA,I fB,I fN,Str fS,.d (.r (aG args))]] (eH u H fm Ls) 1=some (.tup [],eH u H fm (Ls++rdL (aC H fA) 3++[aS 2 0 (rdV (aC H fA) 3) 0 0 0 ⟨#[]⟩]++[aS 14 0 0 0 0 0 ⟨#[]⟩])):=by
 have hdr:=bO
 obtain⟨fA0,fA1,fA2,fA3⟩:=h_fA
 have l_vA:=aY (aC H fA) 3
 have s0:=jM u H fm (Ls) (by first|exact(by omega)|(simp only[la,zqa];omega)) fA 3 fA0 fA1 fA3 fA2
 have s1:=rE u H fm (Ls++rdL (aC H fA) 3) (by first|exact(by omega)|(simp only[la,zqa];omega)) 2 0 (rdV (aC H fA) 3) 0 0 0 ⟨#[]⟩
 have s2:=rE u H fm (Ls++rdL (aC H fA) 3++[aS 2 0 (rdV (aC H fA) 3) 0 0 0 ⟨#[]⟩]) (by first|exact(by omega)|(simp only[la,zqa];omega)) 14 0 0 0 0 0 ⟨#[]⟩
 generalize Ls++rdL (aC H fA) 3++[aS 2 0 (rdV (aC H fA) 3) 0 0 0 ⟨#[]⟩]++[aS 14 0 0 0 0 0 ⟨#[]⟩]=L3 at *
 generalize Ls++rdL (aC H fA) 3++[aS 2 0 (rdV (aC H fA) 3) 0 0 0 ⟨#[]⟩]=L2 at *
 generalize Ls++rdL (aC H fA) 3=L1 at *
 generalize rdV (aC H fA) 3=vA at *
 simp only[eH] at s0 s1 s2 ⊢
 rw[aR aX _ _ _ rfl,aV]
 simp -implicitDefEqProofs (disch:=first|assumption|omega|(simp only[aE,aL,aF,i64,sa,aB,lm,la,lc,ln];omega)) only[go_sem,simprocAttr,hdr,s0,s1,s2]
theorem z6r(u:ZD)(hnm:u.fName.size≤1048576)(H:List Int)(fm:Int)(hf:0≤fm)(hf2:fm≤1000)(fD fA fB fN:Int)(fS:ByteArray)(args:List Int)(Ls:List ZB)(hl:Ls.length≤900000)(h_fA:okH H fA)(h_fD:okH H fD):evCW tab aW [.ptr (0,0) [] 0 0,.agg [I 20,I fD,I fA,I fB,I fN,Str fS,.d (.r (aG args))]] (eH u H fm Ls) 1=some (.tup [],eH u H fm (Ls++rdL (aC H fA) 3++[aS 8 5 (rdV (aC H fA) 3) 0 0 0 ⟨#[]⟩]++kpL (aC H fD) 5)):=by
 have hdr:=bO
 have s1:=z6W u hnm H fm hf hf2 fD fA fB fN fS args Ls hl h_fA h_fD
 generalize Ls++rdL (aC H fA) 3++[aS 8 5 (rdV (aC H fA) 3) 0 0 0 ⟨#[]⟩]++kpL (aC H fD) 5=LF at *
 simp only[eH] at s1 ⊢
 rw[aR aX _ _ _ rfl,aV]
 simp -implicitDefEqProofs (disch:=first|assumption|omega|(simp only[aE,aL,aF,i64,sa,aB,lm,la,lc,ln];omega)) only[go_sem,simprocAttr,hdr,s1]
theorem z6M(u:ZD)(hnm:u.fName.size≤1048576)(H:List Int)(fm:Int)(hf:0≤fm)(hf2:fm≤1000)(fD fA fB fN:Int)(fS:ByteArray)(args:List Int)(Ls:List ZB)(hl:Ls.length≤900000)(h_fA:okH H fA)(h_fB:okH H fB):evCW tab aW [.ptr (0,0) [] 0 0,.agg [I 21,I fD,I fA,I fB,I fN,Str fS,.d (.r (aG args))]] (eH u H fm Ls) 1=some (.tup [],eH u H fm (Ls++rdL (aC H fA) 3++rdL (aC H fB) 4++[aS 9 0 (rdV (aC H fA) 3) (rdV (aC H fB) 4) 0 0 ⟨#[]⟩])):=by
 have hdr:=bO
 have s1:=z6K u hnm H fm hf hf2 fD fA fB fN fS args Ls hl h_fA h_fB
 generalize Ls++rdL (aC H fA) 3++rdL (aC H fB) 4++[aS 9 0 (rdV (aC H fA) 3) (rdV (aC H fB) 4) 0 0 ⟨#[]⟩]=LF at *
 simp only[eH] at s1 ⊢
 rw[aR aX _ _ _ rfl,aV]
 simp -implicitDefEqProofs (disch:=first|assumption|omega|(simp only[aE,aL,aF,i64,sa,aB,lm,la,lc,ln];omega)) only[go_sem,simprocAttr,hdr,s1]
theorem z5w(u:ZD)(hnm:u.fName.size≤1048576)(H:List Int)(fm:Int)(hf:0≤fm)(hf2:fm≤1000)(fD fA fB fN:Int)(fS:ByteArray)(q:Int)(Ls:List ZB)(hl:Ls.length≤900000)(h_fA:okH H fA)(h_fB:okH H fB)(h_q:okH H q)(h_fD:okH H fD):evCW tab aW [.ptr (0,0) [] 0 0,.agg [I 22,I fD,I fA,I fB,I fN,Str fS,.d (.r (aG [q]))]] (eH u H fm Ls) 1=some (.tup [],eH u H fm (Ls++rdL (aC H fA) 3++rdL (aC H fB) 4++[aS 2 5 (rdV (aC H fB) 4) 0 0 0 ⟨#[]⟩]++rdL (aC H q) 4++[aS 10 5 (rdV (aC H fA) 3) (rdV (aC H q) 4) 0 0 ⟨#[]⟩]++kpL (aC H fD) 5)):=by
 have hdr:=bO
 have s1:=z6i u hnm H fm hf hf2 fD fA fB fN fS q Ls hl h_fA h_fB h_q h_fD
 generalize Ls++rdL (aC H fA) 3++rdL (aC H fB) 4++[aS 2 5 (rdV (aC H fB) 4) 0 0 0 ⟨#[]⟩]++rdL (aC H q) 4++[aS 10 5 (rdV (aC H fA) 3) (rdV (aC H q) 4) 0 0 ⟨#[]⟩]++kpL (aC H fD) 5=LF at *
 simp only[eH,aG,mc,mn] at s1 ⊢
 rw[aR aX _ _ _ rfl,aV]
 simp -implicitDefEqProofs (disch:=first|assumption|omega|(simp only[aE,aL,aF,i64,sa,aB,lm,la,lc,ln];omega)) only[go_sem,simprocAttr,hdr,s1]
theorem z5I(u:ZD)(hnm:u.fName.size≤1048576)(H:List Int)(fm:Int)(hf:0≤fm)(hf2:fm≤1000)(fD fA fB fN:Int)(fS:ByteArray)(args:List Int)(Ls:List ZB)(hl:Ls.length≤900000)(h_fD:okH H fD):evCW tab aW [.ptr (0,0) [] 0 0,.agg [I 23,I fD,I fA,I fB,I fN,Str fS,.d (.r (aG args))]] (eH u H fm Ls) 1=some (.tup [],eH u H fm (Ls++[aS 18 5 0 0 0 0 ⟨#[]⟩]++kpL (aC H fD) 5)):=by
 have hdr:=bO
 obtain⟨fD0,fD1,fD2,fD3⟩:=h_fD
 have s0:=rE u H fm (Ls) (by first|exact(by omega)|(simp only[la,zqa];omega)) 18 5 0 0 0 0 ⟨#[]⟩
 have s1:=Ai u H fm (Ls++[aS 18 5 0 0 0 0 ⟨#[]⟩]) (by first|exact(by omega)|(simp only[la,zqa];omega)) fD 5 fD0 fD1 fD3
 generalize Ls++[aS 18 5 0 0 0 0 ⟨#[]⟩]++kpL (aC H fD) 5=L2 at *
 generalize Ls++[aS 18 5 0 0 0 0 ⟨#[]⟩]=L1 at *
 simp only[eH] at s0 s1 ⊢
 rw[aR aX _ _ _ rfl,aV]
 simp -implicitDefEqProofs (disch:=first|assumption|omega|(simp only[aE,aL,aF,i64,sa,aB,lm,la,lc,ln];omega)) only[go_sem,simprocAttr,hdr,s0,s1]
theorem z5t(u:ZD)(hnm:u.fName.size≤1048576)(H:List Int)(fm:Int)(hf:0≤fm)(hf2:fm≤1000)(fD fA fB fN:Int)(fS:ByteArray)(args:List Int)(Ls:List ZB)(hl:Ls.length≤900000)(h_fD:okH H fD):evCW tab aW [.ptr (0,0) [] 0 0,.agg [I 24,I fD,I fA,I fB,I fN,Str fS,.d (.r (aG args))]] (eH u H fm Ls) 1=some (.tup [],eH u H fm (Ls++[aS 1 5 0 0 0 0 fS]++kpL (aC H fD) 5)):=by
 have hdr:=bO
 obtain⟨fD0,fD1,fD2,fD3⟩:=h_fD
 have s0:=rE u H fm (Ls) (by first|exact(by omega)|(simp only[la,zqa];omega)) 1 5 0 0 0 0 fS
 have s1:=Ai u H fm (Ls++[aS 1 5 0 0 0 0 fS]) (by first|exact(by omega)|(simp only[la,zqa];omega)) fD 5 fD0 fD1 fD3
 generalize Ls++[aS 1 5 0 0 0 0 fS]++kpL (aC H fD) 5=L2 at *
 generalize Ls++[aS 1 5 0 0 0 0 fS]=L1 at *
 simp only[eH] at s0 s1 ⊢
 rw[aR aX _ _ _ rfl,aV]
 simp -implicitDefEqProofs (disch:=first|assumption|omega|(simp only[aE,aL,aF,i64,sa,aB,lm,la,lc,ln];omega)) only[go_sem,simprocAttr,hdr,s0,s1]
theorem z6X(u:ZD)(hnm:u.fName.size≤1048576)(H:List Int)(fm:Int)(hf:0≤fm)(hf2:fm≤1000)(fD fA fB fN:Int)(fS:ByteArray)(args:List Int)(Ls:List ZB)(hl:Ls.length≤900000)(h_fA:okH H fA):evCW tab aW [.ptr (0,0) [] 0 0,.agg [I 25,I fD,I fA,I fB,I fN,Str fS,.d (.r (aG args))]] (eH u H fm Ls) 1=some (.tup [],eH u H fm (Ls++rdL (aC H fA) 3++[aS 15 0 (rdV (aC H fA) 3) 0 0 0 ⟨#[]⟩])):=by
 have hdr:=bO
 have s1:=z6O u hnm H fm hf hf2 fD fA fB fN fS args Ls hl h_fA
 generalize Ls++rdL (aC H fA) 3++[aS 15 0 (rdV (aC H fA) 3) 0 0 0 ⟨#[]⟩]=LF at *
 simp only[eH] at s1 ⊢
 rw[aR aX _ _ _ rfl,aV]
 simp -implicitDefEqProofs (disch:=first|assumption|omega|(simp only[aE,aL,aF,i64,sa,aB,lm,la,lc,ln];omega)) only[go_sem,simprocAttr,hdr,s1]
theorem z64(u:ZD)(hnm:u.fName.size≤1048576)(H:List Int)(fm:Int)(hf:0≤fm)(hf2:fm≤1000)(fD fA fB fN:Int)(fS:ByteArray)(args:List Int)(Ls:List ZB)(hl:Ls.length≤900000)(h_fA:okH H fA)(h_fB:okH H fB):evCW tab aW [.ptr (0,0) [] 0 0,.agg [I 26,I fD,I fA,I fB,I fN,Str fS,.d (.r (aG args))]] (eH u H fm Ls) 1=some (.tup [],eH u H fm (Ls++rdL (aC H fA) 3++rdL (aC H fB) 4++[aS 16 0 (rdV (aC H fA) 3) (rdV (aC H fB) 4) 0 0 ⟨#[]⟩])):=by
 have hdr:=bO
 have s1:=z6I u hnm H fm hf hf2 fD fA fB fN fS args Ls hl h_fA h_fB
 generalize Ls++rdL (aC H fA) 3++rdL (aC H fB) 4++[aS 16 0 (rdV (aC H fA) 3) (rdV (aC H fB) 4) 0 0 ⟨#[]⟩]=LF at *
 simp only[eH] at s1 ⊢
 rw[aR aX _ _ _ rfl,aV]
 simp -implicitDefEqProofs (disch:=first|assumption|omega|(simp only[aE,aL,aF,i64,sa,aB,lm,la,lc,ln];omega)) only[go_sem,simprocAttr,hdr,s1]
theorem z5L(u:ZD)(hnm:u.fName.size≤1048576)(H:List Int)(fm:Int)(hf:0≤fm)(hf2:fm≤1000)(fD fA fB fN:Int)(fS:ByteArray)(args:List Int)(Ls:List ZB)(hl:Ls.length≤900000)(h_fA:okH H fA)(h_fB:okH H fB):evCW tab aW [.ptr (0,0) [] 0 0,.agg [I 27,I fD,I fA,I fB,I fN,Str fS,.d (.r (aG args))]] (eH u H fm Ls) 1=some (.tup [],eH u H fm (Ls++rdL (aC H fA) 3++rdL (aC H fB) 4++[aS 17 0 (rdV (aC H fA) 3) (rdV (aC H fB) 4) 0 0 ⟨#[]⟩])):=by
 have hdr:=bO
 have s1:=z5F u hnm H fm hf hf2 fD fA fB fN fS args Ls hl h_fA h_fB
 generalize Ls++rdL (aC H fA) 3++rdL (aC H fB) 4++[aS 17 0 (rdV (aC H fA) 3) (rdV (aC H fB) 4) 0 0 ⟨#[]⟩]=LF at *
 simp only[eH] at s1 ⊢
 rw[aR aX _ _ _ rfl,aV]
 simp -implicitDefEqProofs (disch:=first|assumption|omega|(simp only[aE,aL,aF,i64,sa,aB,lm,la,lc,ln];omega)) only[go_sem,simprocAttr,hdr,s1]
theorem z5e(u:ZD)(hnm:u.fName.size≤1048576)(H:List Int)(fm:Int)(hf:0≤fm)(hf2:fm≤1000)(fD fA fB fN:Int)(fS:ByteArray)(args:List Int)(Ls:List ZB)(hl:Ls.length≤900000)(h_fA:okH H fA):evCW tab aW [.ptr (0,0) [] 0 0,.agg [I 28,I fD,I fA,I fB,I fN,Str fS,.d (.r (aG args))]] (eH u H fm Ls) 1=some (.tup [],eH u H fm (Ls++rdL (aC H fA) 3++[aS 19 0 (rdV (aC H fA) 3) 0 0 0 ⟨#[]⟩])):=by
 have hdr:=bO
 have s1:=z61 u hnm H fm hf hf2 fD fA fB fN fS args Ls hl h_fA
 generalize Ls++rdL (aC H fA) 3++[aS 19 0 (rdV (aC H fA) 3) 0 0 0 ⟨#[]⟩]=LF at *
 simp only[eH] at s1 ⊢
 rw[aR aX _ _ _ rfl,aV]
 simp -implicitDefEqProofs (disch:=first|assumption|omega|(simp only[aE,aL,aF,i64,sa,aB,lm,la,lc,ln];omega)) only[go_sem,simprocAttr,hdr,s1]
set_option maxRecDepth 8000
set_option maxHeartbeats 8000000
theorem z4m(nm:ByteArray)(hnm:nm.size≤1048576)(H:List Int)(fm:Int)(hf:0≤fm)(hf2:fm≤1000)(fD fA fB fN:Int)(fS:ByteArray)(args:List Int)(Ls:List ZB)(hl:Ls.length≤900000)(h_fA:okH H fA)(h_fD:okH H fD):evCW tab jL [.ptr (0,0) [] 0 0,.agg [I 2,I fD,I fA,I fB,I fN,Str fS,.d (.r (aG args))]] (gH nm H fm Ls) 1=some (.tup [],gH nm H fm (Ls++rdL (aC H fA) 3++kpL (aC H fD) (rdV (aC H fA) 3))):=by
 have hdr:=bO
 obtain⟨fA0,fA1,fA2,fA3⟩:=h_fA
 obtain⟨fD0,fD1,fD2,fD3⟩:=h_fD
 have l_vA:=aY (aC H fA) 3
 have s0:=jJ nm H fm (Ls) (by first|exact(by omega)|(simp only[la,zqa];omega)) fA 3 fA0 fA1 fA3 fA2
 have s1:=Ar nm H fm (Ls++rdL (aC H fA) 3) (by first|exact(by omega)|(simp only[la,zqa];omega)) fD (rdV (aC H fA) 3) fD0 fD1 fD3
 generalize Ls++rdL (aC H fA) 3++kpL (aC H fD) (rdV (aC H fA) 3)=L2 at *
 generalize Ls++rdL (aC H fA) 3=L1 at *
 generalize rdV (aC H fA) 3=vA at *
 simp only[gH] at s0 s1 ⊢
 rw[aR kD _ _ _ rfl,iD]
 simp -implicitDefEqProofs (disch:=first|assumption|omega|(simp only[aE,aL,aF,i64,sa,aB,lm,la,lc,ln];omega)) only[go_sem,simprocAttr,hdr,s0,s1]
theorem z4u(nm:ByteArray)(hnm:nm.size≤1048576)(H:List Int)(fm:Int)(hf:0≤fm)(hf2:fm≤1000)(fD fA fB fN:Int)(fS:ByteArray)(args:List Int)(Ls:List ZB)(hl:Ls.length≤900000)(h_fA:okH H fA)(h_fB:okH H fB)(h_fD:okH H fD):evCW tab fU [.ptr (0,0) [] 0 0,.agg [I 3,I fD,I fA,I fB,I fN,Str fS,.d (.r (aG args))]] (gH nm H fm Ls) 1=some (.tup [],gH nm H fm (Ls++rdL (aC H fA) 3++rdL (aC H fB) 4++[aS 3 5 (rdV (aC H fA) 3) (rdV (aC H fB) 4) 0 0 ⟨#[]⟩]++kpL (aC H fD) 5)):=by
 have hdr:=bO
 obtain⟨fA0,fA1,fA2,fA3⟩:=h_fA
 obtain⟨fB0,fB1,fB2,fB3⟩:=h_fB
 obtain⟨fD0,fD1,fD2,fD3⟩:=h_fD
 have l_vA:=aY (aC H fA) 3
 have l_vB:=aY (aC H fB) 4
 have s0:=jJ nm H fm (Ls) (by first|exact(by omega)|(simp only[la,zqa];omega)) fA 3 fA0 fA1 fA3 fA2
 have s1:=jJ nm H fm (Ls++rdL (aC H fA) 3) (by first|exact(by omega)|(simp only[la,zqa];omega)) fB 4 fB0 fB1 fB3 fB2
 have s2:=vI nm H fm (Ls++rdL (aC H fA) 3++rdL (aC H fB) 4) (by first|exact(by omega)|(simp only[la,zqa];omega)) 3 5 (rdV (aC H fA) 3) (rdV (aC H fB) 4) 0 0
 have s3:=Ar nm H fm (Ls++rdL (aC H fA) 3++rdL (aC H fB) 4++[aS 3 5 (rdV (aC H fA) 3) (rdV (aC H fB) 4) 0 0 ⟨#[]⟩]) (by first|exact(by omega)|(simp only[la,zqa];omega)) fD 5 fD0 fD1 fD3
 generalize Ls++rdL (aC H fA) 3++rdL (aC H fB) 4++[aS 3 5 (rdV (aC H fA) 3) (rdV (aC H fB) 4) 0 0 ⟨#[]⟩]++kpL (aC H fD) 5=L4 at *
 generalize Ls++rdL (aC H fA) 3++rdL (aC H fB) 4++[aS 3 5 (rdV (aC H fA) 3) (rdV (aC H fB) 4) 0 0 ⟨#[]⟩]=L3 at *
 generalize Ls++rdL (aC H fA) 3++rdL (aC H fB) 4=L2 at *
 generalize Ls++rdL (aC H fA) 3=L1 at *
 generalize rdV (aC H fA) 3=vA at *
 generalize rdV (aC H fB) 4=vB at *
 simp only[gH] at s0 s1 s2 s3 ⊢
 rw[aR fW _ _ _ rfl,eE]
 simp -implicitDefEqProofs (disch:=first|assumption|omega|(simp only[aE,aL,aF,i64,sa,aB,lm,la,lc,ln];omega)) only[go_sem,simprocAttr,hdr,s0,s1,s2,s3]
theorem z4e(nm:ByteArray)(hnm:nm.size≤1048576)(H:List Int)(fm:Int)(hf:0≤fm)(hf2:fm≤1000)(fD fA fB fN:Int)(fS:ByteArray)(args:List Int)(Ls:List ZB)(hl:Ls.length≤900000)(h_fA:okH H fA)(h_fB:okH H fB)(h_fD:okH H fD):evCW tab fU [.ptr (0,0) [] 0 0,.agg [I 4,I fD,I fA,I fB,I fN,Str fS,.d (.r (aG args))]] (gH nm H fm Ls) 1=some (.tup [],gH nm H fm (Ls++rdL (aC H fA) 3++rdL (aC H fB) 4++[aS 4 5 (rdV (aC H fA) 3) (rdV (aC H fB) 4) 0 0 ⟨#[]⟩]++kpL (aC H fD) 5)):=by
 have hdr:=bO
 obtain⟨fA0,fA1,fA2,fA3⟩:=h_fA
 obtain⟨fB0,fB1,fB2,fB3⟩:=h_fB
 obtain⟨fD0,fD1,fD2,fD3⟩:=h_fD
 have l_vA:=aY (aC H fA) 3
 have l_vB:=aY (aC H fB) 4
 have s0:=jJ nm H fm (Ls) (by first|exact(by omega)|(simp only[la,zqa];omega)) fA 3 fA0 fA1 fA3 fA2
 have s1:=jJ nm H fm (Ls++rdL (aC H fA) 3) (by first|exact(by omega)|(simp only[la,zqa];omega)) fB 4 fB0 fB1 fB3 fB2
 have s2:=vI nm H fm (Ls++rdL (aC H fA) 3++rdL (aC H fB) 4) (by first|exact(by omega)|(simp only[la,zqa];omega)) 4 5 (rdV (aC H fA) 3) (rdV (aC H fB) 4) 0 0
 have s3:=Ar nm H fm (Ls++rdL (aC H fA) 3++rdL (aC H fB) 4++[aS 4 5 (rdV (aC H fA) 3) (rdV (aC H fB) 4) 0 0 ⟨#[]⟩]) (by first|exact(by omega)|(simp only[la,zqa];omega)) fD 5 fD0 fD1 fD3
 generalize Ls++rdL (aC H fA) 3++rdL (aC H fB) 4++[aS 4 5 (rdV (aC H fA) 3) (rdV (aC H fB) 4) 0 0 ⟨#[]⟩]++kpL (aC H fD) 5=L4 at *
 generalize Ls++rdL (aC H fA) 3++rdL (aC H fB) 4++[aS 4 5 (rdV (aC H fA) 3) (rdV (aC H fB) 4) 0 0 ⟨#[]⟩]=L3 at *
 generalize Ls++rdL (aC H fA) 3++rdL (aC H fB) 4=L2 at *
 generalize Ls++rdL (aC H fA) 3=L1 at *
 generalize rdV (aC H fA) 3=vA at *
 generalize rdV (aC H fB) 4=vB at *
 simp only[gH] at s0 s1 s2 s3 ⊢
 rw[aR fW _ _ _ rfl,eE]
 simp -implicitDefEqProofs (disch:=first|assumption|omega|(simp only[aE,aL,aF,i64,sa,aB,lm,la,lc,ln];omega)) only[go_sem,simprocAttr,hdr,s0,s1,s2,s3]
theorem z4z(nm:ByteArray)(hnm:nm.size≤1048576)(H:List Int)(fm:Int)(hf:0≤fm)(hf2:fm≤1000)(fD fA fB fN:Int)(fS:ByteArray)(args:List Int)(Ls:List ZB)(hl:Ls.length≤900000)(h_fA:okH H fA)(h_fB:okH H fB)(h_fD:okH H fD):evCW tab fU [.ptr (0,0) [] 0 0,.agg [I 5,I fD,I fA,I fB,I fN,Str fS,.d (.r (aG args))]] (gH nm H fm Ls) 1=some (.tup [],gH nm H fm (Ls++rdL (aC H fA) 3++rdL (aC H fB) 4++[aS 5 5 (rdV (aC H fA) 3) (rdV (aC H fB) 4) 0 0 ⟨#[]⟩]++kpL (aC H fD) 5)):=by
 have hdr:=bO
 obtain⟨fA0,fA1,fA2,fA3⟩:=h_fA
 obtain⟨fB0,fB1,fB2,fB3⟩:=h_fB
 obtain⟨fD0,fD1,fD2,fD3⟩:=h_fD
 have l_vA:=aY (aC H fA) 3
 have l_vB:=aY (aC H fB) 4
 have s0:=jJ nm H fm (Ls) (by first|exact(by omega)|(simp only[la,zqa];omega)) fA 3 fA0 fA1 fA3 fA2
 have s1:=jJ nm H fm (Ls++rdL (aC H fA) 3) (by first|exact(by omega)|(simp only[la,zqa];omega)) fB 4 fB0 fB1 fB3 fB2
 have s2:=vI nm H fm (Ls++rdL (aC H fA) 3++rdL (aC H fB) 4) (by first|exact(by omega)|(simp only[la,zqa];omega)) 5 5 (rdV (aC H fA) 3) (rdV (aC H fB) 4) 0 0
 have s3:=Ar nm H fm (Ls++rdL (aC H fA) 3++rdL (aC H fB) 4++[aS 5 5 (rdV (aC H fA) 3) (rdV (aC H fB) 4) 0 0 ⟨#[]⟩]) (by first|exact(by omega)|(simp only[la,zqa];omega)) fD 5 fD0 fD1 fD3
 generalize Ls++rdL (aC H fA) 3++rdL (aC H fB) 4++[aS 5 5 (rdV (aC H fA) 3) (rdV (aC H fB) 4) 0 0 ⟨#[]⟩]++kpL (aC H fD) 5=L4 at *
 generalize Ls++rdL (aC H fA) 3++rdL (aC H fB) 4++[aS 5 5 (rdV (aC H fA) 3) (rdV (aC H fB) 4) 0 0 ⟨#[]⟩]=L3 at *
 generalize Ls++rdL (aC H fA) 3++rdL (aC H fB) 4=L2 at *
 generalize Ls++rdL (aC H fA) 3=L1 at *
 generalize rdV (aC H fA) 3=vA at *
 generalize rdV (aC H fB) 4=vB at *
 simp only[gH] at s0 s1 s2 s3 ⊢
 rw[aR fW _ _ _ rfl,eE]
 simp -implicitDefEqProofs (disch:=first|assumption|omega|(simp only[aE,aL,aF,i64,sa,aB,lm,la,lc,ln];omega)) only[go_sem,simprocAttr,hdr,s0,s1,s2,s3]
theorem z4i(nm:ByteArray)(hnm:nm.size≤1048576)(H:List Int)(fm:Int)(hf:0≤fm)(hf2:fm≤1000)(fD fA fB fN:Int)(fS:ByteArray)(args:List Int)(Ls:List ZB)(hl:Ls.length≤900000)(h_fA:okH H fA)(h_fB:okH H fB)(h_fD:okH H fD):evCW tab fU [.ptr (0,0) [] 0 0,.agg [I 6,I fD,I fA,I fB,I fN,Str fS,.d (.r (aG args))]] (gH nm H fm Ls) 1=some (.tup [],gH nm H fm (Ls++rdL (aC H fA) 3++rdL (aC H fB) 4++[aS 6 5 (rdV (aC H fA) 3) (rdV (aC H fB) 4) 0 0 ⟨#[]⟩]++kpL (aC H fD) 5)):=by
 have hdr:=bO
 obtain⟨fA0,fA1,fA2,fA3⟩:=h_fA
 obtain⟨fB0,fB1,fB2,fB3⟩:=h_fB
 obtain⟨fD0,fD1,fD2,fD3⟩:=h_fD
 have l_vA:=aY (aC H fA) 3
 have l_vB:=aY (aC H fB) 4
 have s0:=jJ nm H fm (Ls) (by first|exact(by omega)|(simp only[la,zqa];omega)) fA 3 fA0 fA1 fA3 fA2
 have s1:=jJ nm H fm (Ls++rdL (aC H fA) 3) (by first|exact(by omega)|(simp only[la,zqa];omega)) fB 4 fB0 fB1 fB3 fB2
 have s2:=vI nm H fm (Ls++rdL (aC H fA) 3++rdL (aC H fB) 4) (by first|exact(by omega)|(simp only[la,zqa];omega)) 6 5 (rdV (aC H fA) 3) (rdV (aC H fB) 4) 0 0
 have s3:=Ar nm H fm (Ls++rdL (aC H fA) 3++rdL (aC H fB) 4++[aS 6 5 (rdV (aC H fA) 3) (rdV (aC H fB) 4) 0 0 ⟨#[]⟩]) (by first|exact(by omega)|(simp only[la,zqa];omega)) fD 5 fD0 fD1 fD3
 generalize Ls++rdL (aC H fA) 3++rdL (aC H fB) 4++[aS 6 5 (rdV (aC H fA) 3) (rdV (aC H fB) 4) 0 0 ⟨#[]⟩]++kpL (aC H fD) 5=L4 at *
 generalize Ls++rdL (aC H fA) 3++rdL (aC H fB) 4++[aS 6 5 (rdV (aC H fA) 3) (rdV (aC H fB) 4) 0 0 ⟨#[]⟩]=L3 at *
 generalize Ls++rdL (aC H fA) 3++rdL (aC H fB) 4=L2 at *
 generalize Ls++rdL (aC H fA) 3=L1 at *
 generalize rdV (aC H fA) 3=vA at *
 generalize rdV (aC H fB) 4=vB at *
 simp only[gH] at s0 s1 s2 s3 ⊢
 rw[aR fW _ _ _ rfl,eE]
 simp -implicitDefEqProofs (disch:=first|assumption|omega|(simp only[aE,aL,aF,i64,sa,aB,lm,la,lc,ln];omega)) only[go_sem,simprocAttr,hdr,s0,s1,s2,s3]
theorem z4C(nm:ByteArray)(hnm:nm.size≤1048576)(H:List Int)(fm:Int)(hf:0≤fm)(hf2:fm≤1000)(fD fA fB fN:Int)(fS:ByteArray)(args:List Int)(Ls:List ZB)(hl:Ls.length≤900000)(h_fA:okH H fA)(h_fB:okH H fB)(h_fD:okH H fD):evCW tab fU [.ptr (0,0) [] 0 0,.agg [I 7,I fD,I fA,I fB,I fN,Str fS,.d (.r (aG args))]] (gH nm H fm Ls) 1=some (.tup [],gH nm H fm (Ls++rdL (aC H fA) 3++rdL (aC H fB) 4++[aS 7 5 (rdV (aC H fA) 3) (rdV (aC H fB) 4) 0 0 ⟨#[]⟩]++kpL (aC H fD) 5)):=by
 have hdr:=bO
 obtain⟨fA0,fA1,fA2,fA3⟩:=h_fA
 obtain⟨fB0,fB1,fB2,fB3⟩:=h_fB
 obtain⟨fD0,fD1,fD2,fD3⟩:=h_fD
 have l_vA:=aY (aC H fA) 3
 have l_vB:=aY (aC H fB) 4
 have s0:=jJ nm H fm (Ls) (by first|exact(by omega)|(simp only[la,zqa];omega)) fA 3 fA0 fA1 fA3 fA2
 have s1:=jJ nm H fm (Ls++rdL (aC H fA) 3) (by first|exact(by omega)|(simp only[la,zqa];omega)) fB 4 fB0 fB1 fB3 fB2
 have s2:=vI nm H fm (Ls++rdL (aC H fA) 3++rdL (aC H fB) 4) (by first|exact(by omega)|(simp only[la,zqa];omega)) 7 5 (rdV (aC H fA) 3) (rdV (aC H fB) 4) 0 0
 have s3:=Ar nm H fm (Ls++rdL (aC H fA) 3++rdL (aC H fB) 4++[aS 7 5 (rdV (aC H fA) 3) (rdV (aC H fB) 4) 0 0 ⟨#[]⟩]) (by first|exact(by omega)|(simp only[la,zqa];omega)) fD 5 fD0 fD1 fD3
 generalize Ls++rdL (aC H fA) 3++rdL (aC H fB) 4++[aS 7 5 (rdV (aC H fA) 3) (rdV (aC H fB) 4) 0 0 ⟨#[]⟩]++kpL (aC H fD) 5=L4 at *
 generalize Ls++rdL (aC H fA) 3++rdL (aC H fB) 4++[aS 7 5 (rdV (aC H fA) 3) (rdV (aC H fB) 4) 0 0 ⟨#[]⟩]=L3 at *
 generalize Ls++rdL (aC H fA) 3++rdL (aC H fB) 4=L2 at *
 generalize Ls++rdL (aC H fA) 3=L1 at *
 generalize rdV (aC H fA) 3=vA at *
 generalize rdV (aC H fB) 4=vB at *
 simp only[gH] at s0 s1 s2 s3 ⊢
 rw[aR fW _ _ _ rfl,eE]
 simp -implicitDefEqProofs (disch:=first|assumption|omega|(simp only[aE,aL,aF,i64,sa,aB,lm,la,lc,ln];omega)) only[go_sem,simprocAttr,hdr,s0,s1,s2,s3]
theorem z5p(nm:ByteArray)(hnm:nm.size≤1048576)(H:List Int)(fm:Int)(hf:0≤fm)(hf2:fm≤1000)(fD fA fB fN:Int)(fS:ByteArray)(args:List Int)(Ls:List ZB)(hl:Ls.length≤900000)(h_fA:okH H fA)(hN:i64 fN):evCW tab jL [.ptr (0,0) [] 0 0,.agg [I 10,I fD,I fA,I fB,I fN,Str fS,.d (.r (aG args))]] (gH nm H fm Ls) 1=some (.tup [],gH nm H fm (Ls++rdL (aC H fA) 3++[aS 12 0 (rdV (aC H fA) 3) 0 0 0 (q8 nm fN)])):=by
 have hdr:=bO
 obtain⟨fA0,fA1,fA2,fA3⟩:=h_fA
 have l_vA:=aY (aC H fA) 3
 have s0:=jJ nm H fm (Ls) (by first|exact(by omega)|(simp only[la,zqa];omega)) fA 3 fA0 fA1 fA3 fA2
 have s1:=gto nm H fm (Ls++rdL (aC H fA) 3) (by first|exact(by omega)|(simp only[la,zqa];omega)) 12 0 (rdV (aC H fA) 3) 0 0 0 (q8 nm fN)
 have sl:=fun cs=>zq9 nm hnm cs fN hN
 generalize Ls++rdL (aC H fA) 3++[aS 12 0 (rdV (aC H fA) 3) 0 0 0 (q8 nm fN)]=L2 at *
 generalize Ls++rdL (aC H fA) 3=L1 at *
 generalize rdV (aC H fA) 3=vA at *
 simp only[gH] at s0 s1 ⊢
 rw[aR kD _ _ _ rfl,iD]
 simp -implicitDefEqProofs (disch:=first|assumption|omega|(simp only[aE,aL,aF,i64,sa,aB,lm,la,lc,ln];omega)) only[go_sem,simprocAttr,hdr,s0,s1,sl,Ed,List.drop_zero]
theorem z6T(nm:ByteArray)(hnm:nm.size≤1048576)(H:List Int)(fm:Int)(hf:0≤fm)(hf2:fm≤1000)(fD fA fB fN:Int)(fS:ByteArray)(args:List Int)(Ls:List ZB)(hl:Ls.length≤900000)(hx:args.length≤4)(hq:∀q∈args,okH H q)(h_fD:okH H fD):evCW tab yH [.ptr (0,0) [] 0 0,.agg [I 11,I fD,I fA,I fB,I fN,Str fS,.d (.r (aG args))]] (gH nm H fm Ls) 1=some (.tup [],gH nm H fm (Ls++nX H fm 0 args++[aS 13 0 0 0 0 fm fS]++kpL (aC H fD) 0)):=by
 have hdr:=bO
 obtain⟨fD0,fD1,fD2,fD3⟩:=h_fD
 have lar:=Hg H fm args 0
 have s0:=z8q nm 11 fD fA fB fN fS H fm hf hf2 args hx hq args 0 Ls rfl (by omega) (by omega)
 have s1:=gto nm H fm (Ls++nX H fm 0 args) (by first|exact(by omega)|(simp only[la,zqa];omega)) 13 0 0 0 0 fm fS
 have s2:=Ar nm H fm (Ls++nX H fm 0 args++[aS 13 0 0 0 0 fm fS]) (by first|exact(by omega)|(simp only[la,zqa];omega)) fD 0 fD0 fD1 fD3
 generalize Ls++nX H fm 0 args++[aS 13 0 0 0 0 fm fS]++kpL (aC H fD) 0=L3 at *
 generalize Ls++nX H fm 0 args++[aS 13 0 0 0 0 fm fS]=L2 at *
 generalize Ls++nX H fm 0 args=L1 at *
 simp only[gH] at s0 s1 s2 ⊢
 rw[aR Pg _ _ _ rfl,D2]
 simp -implicitDefEqProofs (disch:=first|assumption|omega|(simp only[aE,aL,aF,i64,sa,aB,lm,la,lc,ln];omega)) only[go_sem,simprocAttr,hdr,s0,s1,s2]
theorem z5s(nm:ByteArray)(hnm:nm.size≤1048576)(H:List Int)(fm:Int)(hf:0≤fm)(hf2:fm≤1000)(fD fA fB fN:Int)(fS:ByteArray)(args:List Int)(Ls:List ZB)(hl:Ls.length≤900000)(h_fA:okH H fA):evCW tab jL [.ptr (0,0) [] 0 0,.agg [I 12,I fD,I fA,I fB,I fN,Str fS,.d (.r (aG args))]] (gH nm H fm Ls) 1=some (.tup [],gH nm H fm (Ls++rdL (aC H fA) 3++[aS 2 0 (rdV (aC H fA) 3) 0 0 0 ⟨#[]⟩]++[aS 14 0 0 0 0 0 ⟨#[]⟩])):=by
 have hdr:=bO
 obtain⟨fA0,fA1,fA2,fA3⟩:=h_fA
 have l_vA:=aY (aC H fA) 3
 have s0:=jJ nm H fm (Ls) (by first|exact(by omega)|(simp only[la,zqa];omega)) fA 3 fA0 fA1 fA3 fA2
 have s1:=vI nm H fm (Ls++rdL (aC H fA) 3) (by first|exact(by omega)|(simp only[la,zqa];omega)) 2 0 (rdV (aC H fA) 3) 0 0 0
 have s2:=vI nm H fm (Ls++rdL (aC H fA) 3++[aS 2 0 (rdV (aC H fA) 3) 0 0 0 ⟨#[]⟩]) (by first|exact(by omega)|(simp only[la,zqa];omega)) 14 0 0 0 0 0
 generalize Ls++rdL (aC H fA) 3++[aS 2 0 (rdV (aC H fA) 3) 0 0 0 ⟨#[]⟩]++[aS 14 0 0 0 0 0 ⟨#[]⟩]=L3 at *
 generalize Ls++rdL (aC H fA) 3++[aS 2 0 (rdV (aC H fA) 3) 0 0 0 ⟨#[]⟩]=L2 at *
 generalize Ls++rdL (aC H fA) 3=L1 at *
 generalize rdV (aC H fA) 3=vA at *
 simp only[gH] at s0 s1 s2 ⊢
 rw[aR kD _ _ _ rfl,iD]
 simp -implicitDefEqProofs (disch:=first|assumption|omega|(simp only[aE,aL,aF,i64,sa,aB,lm,la,lc,ln];omega)) only[go_sem,simprocAttr,hdr,s0,s1,s2]
theorem z69(nm:ByteArray)(hnm:nm.size≤1048576)(H:List Int)(fm:Int)(hf:0≤fm)(hf2:fm≤1000)(fD fA fB fN:Int)(fS:ByteArray)(args:List Int)(Ls:List ZB)(hl:Ls.length≤900000)(h_fA:okH H fA)(h_fD:okH H fD):evCW tab jL [.ptr (0,0) [] 0 0,.agg [I 20,I fD,I fA,I fB,I fN,Str fS,.d (.r (aG args))]] (gH nm H fm Ls) 1=some (.tup [],gH nm H fm (Ls++rdL (aC H fA) 3++[aS 8 5 (rdV (aC H fA) 3) 0 0 0 ⟨#[]⟩]++kpL (aC H fD) 5)):=by
 have hdr:=bO
 obtain⟨fA0,fA1,fA2,fA3⟩:=h_fA
 obtain⟨fD0,fD1,fD2,fD3⟩:=h_fD
 have l_vA:=aY (aC H fA) 3
 have s0:=jJ nm H fm (Ls) (by first|exact(by omega)|(simp only[la,zqa];omega)) fA 3 fA0 fA1 fA3 fA2
 have s1:=vI nm H fm (Ls++rdL (aC H fA) 3) (by first|exact(by omega)|(simp only[la,zqa];omega)) 8 5 (rdV (aC H fA) 3) 0 0 0
 have s2:=Ar nm H fm (Ls++rdL (aC H fA) 3++[aS 8 5 (rdV (aC H fA) 3) 0 0 0 ⟨#[]⟩]) (by first|exact(by omega)|(simp only[la,zqa];omega)) fD 5 fD0 fD1 fD3
 generalize Ls++rdL (aC H fA) 3++[aS 8 5 (rdV (aC H fA) 3) 0 0 0 ⟨#[]⟩]++kpL (aC H fD) 5=L3 at *
 generalize Ls++rdL (aC H fA) 3++[aS 8 5 (rdV (aC H fA) 3) 0 0 0 ⟨#[]⟩]=L2 at *
 generalize Ls++rdL (aC H fA) 3=L1 at *
 generalize rdV (aC H fA) 3=vA at *
 simp only[gH] at s0 s1 s2 ⊢
 rw[aR kD _ _ _ rfl,iD]
 simp -implicitDefEqProofs (disch:=first|assumption|omega|(simp only[aE,aL,aF,i64,sa,aB,lm,la,lc,ln];omega)) only[go_sem,simprocAttr,hdr,s0,s1,s2]
theorem z5E(nm:ByteArray)(hnm:nm.size≤1048576)(H:List Int)(fm:Int)(hf:0≤fm)(hf2:fm≤1000)(fD fA fB fN:Int)(fS:ByteArray)(args:List Int)(Ls:List ZB)(hl:Ls.length≤900000)(h_fA:okH H fA)(h_fB:okH H fB):evCW tab fU [.ptr (0,0) [] 0 0,.agg [I 21,I fD,I fA,I fB,I fN,Str fS,.d (.r (aG args))]] (gH nm H fm Ls) 1=some (.tup [],gH nm H fm (Ls++rdL (aC H fA) 3++rdL (aC H fB) 4++[aS 9 0 (rdV (aC H fA) 3) (rdV (aC H fB) 4) 0 0 ⟨#[]⟩])):=by
 have hdr:=bO
 obtain⟨fA0,fA1,fA2,fA3⟩:=h_fA
 obtain⟨fB0,fB1,fB2,fB3⟩:=h_fB
 have l_vA:=aY (aC H fA) 3
 have l_vB:=aY (aC H fB) 4
 have s0:=jJ nm H fm (Ls) (by first|exact(by omega)|(simp only[la,zqa];omega)) fA 3 fA0 fA1 fA3 fA2
 have s1:=jJ nm H fm (Ls++rdL (aC H fA) 3) (by first|exact(by omega)|(simp only[la,zqa];omega)) fB 4 fB0 fB1 fB3 fB2
 have s2:=vI nm H fm (Ls++rdL (aC H fA) 3++rdL (aC H fB) 4) (by first|exact(by omega)|(simp only[la,zqa];omega)) 9 0 (rdV (aC H fA) 3) (rdV (aC H fB) 4) 0 0
 generalize Ls++rdL (aC H fA) 3++rdL (aC H fB) 4++[aS 9 0 (rdV (aC H fA) 3) (rdV (aC H fB) 4) 0 0 ⟨#[]⟩]=L3 at *
 generalize Ls++rdL (aC H fA) 3++rdL (aC H fB) 4=L2 at *
 generalize Ls++rdL (aC H fA) 3=L1 at *
 generalize rdV (aC H fA) 3=vA at *
 generalize rdV (aC H fB) 4=vB at *
 simp only[gH] at s0 s1 s2 ⊢
 rw[aR fW _ _ _ rfl,eE]
 simp -implicitDefEqProofs (disch:=first|assumption|omega|(simp only[aE,aL,aF,i64,sa,aB,lm,la,lc,ln];omega)) only[go_sem,simprocAttr,hdr,s0,s1,s2]
theorem z5P(nm:ByteArray)(hnm:nm.size≤1048576)(H:List Int)(fm:Int)(hf:0≤fm)(hf2:fm≤1000)(fD fA fB fN:Int)(fS:ByteArray)(q:Int)(Ls:List ZB)(hl:Ls.length≤900000)(h_fA:okH H fA)(h_fB:okH H fB)(h_q:okH H q)(h_fD:okH H fD):evCW tab Cw [.ptr (0,0) [] 0 0,.agg [I 22,I fD,I fA,I fB,I fN,Str fS,.d (.r (aG [q]))]] (gH nm H fm Ls) 1=some (.tup [],gH nm H fm (Ls++rdL (aC H fA) 3++rdL (aC H fB) 4++[aS 2 5 (rdV (aC H fB) 4) 0 0 0 ⟨#[]⟩]++rdL (aC H q) 4++[aS 10 5 (rdV (aC H fA) 3) (rdV (aC H q) 4) 0 0 ⟨#[]⟩]++kpL (aC H fD) 5)):=by
 have hdr:=bO
 obtain⟨fA0,fA1,fA2,fA3⟩:=h_fA
 obtain⟨fB0,fB1,fB2,fB3⟩:=h_fB
 obtain⟨q0,q1,q2,q3⟩:=h_q
 obtain⟨fD0,fD1,fD2,fD3⟩:=h_fD
 have l_vA:=aY (aC H fA) 3
 have l_vB:=aY (aC H fB) 4
 have l_vC:=aY (aC H q) 4
 have s0:=jJ nm H fm (Ls) (by first|exact(by omega)|(simp only[la,zqa];omega)) fA 3 fA0 fA1 fA3 fA2
 have s1:=jJ nm H fm (Ls++rdL (aC H fA) 3) (by first|exact(by omega)|(simp only[la,zqa];omega)) fB 4 fB0 fB1 fB3 fB2
 have s2:=vI nm H fm (Ls++rdL (aC H fA) 3++rdL (aC H fB) 4) (by first|exact(by omega)|(simp only[la,zqa];omega)) 2 5 (rdV (aC H fB) 4) 0 0 0
 have s3:=jJ nm H fm (Ls++rdL (aC H fA) 3++rdL (aC H fB) 4++[aS 2 5 (rdV (aC H fB) 4) 0 0 0 ⟨#[]⟩]) (by first|exact(by omega)|(simp only[la,zqa];omega)) q 4 q0 q1 q3 q2
 have s4:=vI nm H fm (Ls++rdL (aC H fA) 3++rdL (aC H fB) 4++[aS 2 5 (rdV (aC H fB) 4) 0 0 0 ⟨#[]⟩]++rdL (aC H q) 4) (by first|exact(by omega)|(simp only[la,zqa];omega)) 10 5 (rdV (aC H fA) 3) (rdV (aC H q) 4) 0 0
 have s5:=Ar nm H fm (Ls++rdL (aC H fA) 3++rdL (aC H fB) 4++[aS 2 5 (rdV (aC H fB) 4) 0 0 0 ⟨#[]⟩]++rdL (aC H q) 4++[aS 10 5 (rdV (aC H fA) 3) (rdV (aC H q) 4) 0 0 ⟨#[]⟩]) (by first|exact(by omega)|(simp only[la,zqa];omega)) fD 5 fD0 fD1 fD3
 generalize Ls++rdL (aC H fA) 3++rdL (aC H fB) 4++[aS 2 5 (rdV (aC H fB) 4) 0 0 0 ⟨#[]⟩]++rdL (aC H q) 4++[aS 10 5 (rdV (aC H fA) 3) (rdV (aC H q) 4) 0 0 ⟨#[]⟩]++kpL (aC H fD) 5=L6 at *
 generalize Ls++rdL (aC H fA) 3++rdL (aC H fB) 4++[aS 2 5 (rdV (aC H fB) 4) 0 0 0 ⟨#[]⟩]++rdL (aC H q) 4++[aS 10 5 (rdV (aC H fA) 3) (rdV (aC H q) 4) 0 0 ⟨#[]⟩]=L5 at *
 generalize Ls++rdL (aC H fA) 3++rdL (aC H fB) 4++[aS 2 5 (rdV (aC H fB) 4) 0 0 0 ⟨#[]⟩]++rdL (aC H q) 4=L4 at *
 generalize Ls++rdL (aC H fA) 3++rdL (aC H fB) 4++[aS 2 5 (rdV (aC H fB) 4) 0 0 0 ⟨#[]⟩]=L3 at *
 generalize Ls++rdL (aC H fA) 3++rdL (aC H fB) 4=L2 at *
 generalize Ls++rdL (aC H fA) 3=L1 at *
 generalize rdV (aC H fA) 3=vA at *
 generalize rdV (aC H fB) 4=vB at *
 generalize rdV (aC H q) 4=vC at *
 simp only[gH] at s0 s1 s2 s3 s4 s5 ⊢
 rw[aR Rg _ _ _ rfl,Fn]
 simp -implicitDefEqProofs (disch:=first|assumption|omega|(simp only[aE,aL,aF,i64,sa,aB,lm,la,lc,ln];omega)) only[go_sem,simprocAttr,hdr,s0,s1,s2,s3,s4,s5,aG,mc,mn]
theorem z5G(nm:ByteArray)(hnm:nm.size≤1048576)(H:List Int)(fm:Int)(hf:0≤fm)(hf2:fm≤1000)(fD fA fB fN:Int)(fS:ByteArray)(args:List Int)(Ls:List ZB)(hl:Ls.length≤900000)(h_fA:okH H fA):evCW tab jL [.ptr (0,0) [] 0 0,.agg [I 25,I fD,I fA,I fB,I fN,Str fS,.d (.r (aG args))]] (gH nm H fm Ls) 1=some (.tup [],gH nm H fm (Ls++rdL (aC H fA) 3++[aS 15 0 (rdV (aC H fA) 3) 0 0 0 ⟨#[]⟩])):=by
 have hdr:=bO
 obtain⟨fA0,fA1,fA2,fA3⟩:=h_fA
 have l_vA:=aY (aC H fA) 3
 have s0:=jJ nm H fm (Ls) (by first|exact(by omega)|(simp only[la,zqa];omega)) fA 3 fA0 fA1 fA3 fA2
 have s1:=vI nm H fm (Ls++rdL (aC H fA) 3) (by first|exact(by omega)|(simp only[la,zqa];omega)) 15 0 (rdV (aC H fA) 3) 0 0 0
 generalize Ls++rdL (aC H fA) 3++[aS 15 0 (rdV (aC H fA) 3) 0 0 0 ⟨#[]⟩]=L2 at *
 generalize Ls++rdL (aC H fA) 3=L1 at *
 generalize rdV (aC H fA) 3=vA at *
 simp only[gH] at s0 s1 ⊢
 rw[aR kD _ _ _ rfl,iD]
 simp -implicitDefEqProofs (disch:=first|assumption|omega|(simp only[aE,aL,aF,i64,sa,aB,lm,la,lc,ln];omega)) only[go_sem,simprocAttr,hdr,s0,s1]
theorem z5b(nm:ByteArray)(hnm:nm.size≤1048576)(H:List Int)(fm:Int)(hf:0≤fm)(hf2:fm≤1000)(fD fA fB fN:Int)(fS:ByteArray)(args:List Int)(Ls:List ZB)(hl:Ls.length≤900000)(h_fA:okH H fA)(h_fB:okH H fB):evCW tab fU [.ptr (0,0) [] 0 0,.agg [I 26,I fD,I fA,I fB,I fN,Str fS,.d (.r (aG args))]] (gH nm H fm Ls) 1=some (.tup [],gH nm H fm (Ls++rdL (aC H fA) 3++rdL (aC H fB) 4++[aS 16 0 (rdV (aC H fA) 3) (rdV (aC H fB) 4) 0 0 ⟨#[]⟩])):=by
 have hdr:=bO
 obtain⟨fA0,fA1,fA2,fA3⟩:=h_fA
 obtain⟨fB0,fB1,fB2,fB3⟩:=h_fB
 have l_vA:=aY (aC H fA) 3
 have l_vB:=aY (aC H fB) 4
 have s0:=jJ nm H fm (Ls) (by first|exact(by omega)|(simp only[la,zqa];omega)) fA 3 fA0 fA1 fA3 fA2
 have s1:=jJ nm H fm (Ls++rdL (aC H fA) 3) (by first|exact(by omega)|(simp only[la,zqa];omega)) fB 4 fB0 fB1 fB3 fB2
 have s2:=vI nm H fm (Ls++rdL (aC H fA) 3++rdL (aC H fB) 4) (by first|exact(by omega)|(simp only[la,zqa];omega)) 16 0 (rdV (aC H fA) 3) (rdV (aC H fB) 4) 0 0
 generalize Ls++rdL (aC H fA) 3++rdL (aC H fB) 4++[aS 16 0 (rdV (aC H fA) 3) (rdV (aC H fB) 4) 0 0 ⟨#[]⟩]=L3 at *
 generalize Ls++rdL (aC H fA) 3++rdL (aC H fB) 4=L2 at *
 generalize Ls++rdL (aC H fA) 3=L1 at *
 generalize rdV (aC H fA) 3=vA at *
 generalize rdV (aC H fB) 4=vB at *
 simp only[gH] at s0 s1 s2 ⊢
 rw[aR fW _ _ _ rfl,eE]
 simp -implicitDefEqProofs (disch:=first|assumption|omega|(simp only[aE,aL,aF,i64,sa,aB,lm,la,lc,ln];omega)) only[go_sem,simprocAttr,hdr,s0,s1,s2]
theorem z60(nm:ByteArray)(hnm:nm.size≤1048576)(H:List Int)(fm:Int)(hf:0≤fm)(hf2:fm≤1000)(fD fA fB fN:Int)(fS:ByteArray)(args:List Int)(Ls:List ZB)(hl:Ls.length≤900000)(h_fA:okH H fA)(h_fB:okH H fB):evCW tab fU [.ptr (0,0) [] 0 0,.agg [I 27,I fD,I fA,I fB,I fN,Str fS,.d (.r (aG args))]] (gH nm H fm Ls) 1=some (.tup [],gH nm H fm (Ls++rdL (aC H fA) 3++rdL (aC H fB) 4++[aS 17 0 (rdV (aC H fA) 3) (rdV (aC H fB) 4) 0 0 ⟨#[]⟩])):=by
 have hdr:=bO
 obtain⟨fA0,fA1,fA2,fA3⟩:=h_fA
 obtain⟨fB0,fB1,fB2,fB3⟩:=h_fB
 have l_vA:=aY (aC H fA) 3
 have l_vB:=aY (aC H fB) 4
 have s0:=jJ nm H fm (Ls) (by first|exact(by omega)|(simp only[la,zqa];omega)) fA 3 fA0 fA1 fA3 fA2
 have s1:=jJ nm H fm (Ls++rdL (aC H fA) 3) (by first|exact(by omega)|(simp only[la,zqa];omega)) fB 4 fB0 fB1 fB3 fB2
 have s2:=vI nm H fm (Ls++rdL (aC H fA) 3++rdL (aC H fB) 4) (by first|exact(by omega)|(simp only[la,zqa];omega)) 17 0 (rdV (aC H fA) 3) (rdV (aC H fB) 4) 0 0
 generalize Ls++rdL (aC H fA) 3++rdL (aC H fB) 4++[aS 17 0 (rdV (aC H fA) 3) (rdV (aC H fB) 4) 0 0 ⟨#[]⟩]=L3 at *
 generalize Ls++rdL (aC H fA) 3++rdL (aC H fB) 4=L2 at *
 generalize Ls++rdL (aC H fA) 3=L1 at *
 generalize rdV (aC H fA) 3=vA at *
 generalize rdV (aC H fB) 4=vB at *
 simp only[gH] at s0 s1 s2 ⊢
 rw[aR fW _ _ _ rfl,eE]
 simp -implicitDefEqProofs (disch:=first|assumption|omega|(simp only[aE,aL,aF,i64,sa,aB,lm,la,lc,ln];omega)) only[go_sem,simprocAttr,hdr,s0,s1,s2]
theorem z6j(nm:ByteArray)(hnm:nm.size≤1048576)(H:List Int)(fm:Int)(hf:0≤fm)(hf2:fm≤1000)(fD fA fB fN:Int)(fS:ByteArray)(args:List Int)(Ls:List ZB)(hl:Ls.length≤900000)(h_fA:okH H fA):evCW tab jL [.ptr (0,0) [] 0 0,.agg [I 28,I fD,I fA,I fB,I fN,Str fS,.d (.r (aG args))]] (gH nm H fm Ls) 1=some (.tup [],gH nm H fm (Ls++rdL (aC H fA) 3++[aS 19 0 (rdV (aC H fA) 3) 0 0 0 ⟨#[]⟩])):=by
 have hdr:=bO
 obtain⟨fA0,fA1,fA2,fA3⟩:=h_fA
 have l_vA:=aY (aC H fA) 3
 have s0:=jJ nm H fm (Ls) (by first|exact(by omega)|(simp only[la,zqa];omega)) fA 3 fA0 fA1 fA3 fA2
 have s1:=vI nm H fm (Ls++rdL (aC H fA) 3) (by first|exact(by omega)|(simp only[la,zqa];omega)) 19 0 (rdV (aC H fA) 3) 0 0 0
 generalize Ls++rdL (aC H fA) 3++[aS 19 0 (rdV (aC H fA) 3) 0 0 0 ⟨#[]⟩]=L2 at *
 generalize Ls++rdL (aC H fA) 3=L1 at *
 generalize rdV (aC H fA) 3=vA at *
 simp only[gH] at s0 s1 ⊢
 rw[aR kD _ _ _ rfl,iD]
 simp -implicitDefEqProofs (disch:=first|assumption|omega|(simp only[aE,aL,aF,i64,sa,aB,lm,la,lc,ln];omega)) only[go_sem,simprocAttr,hdr,s0,s1]
set_option maxRecDepth 8000
set_option maxHeartbeats 8000000
theorem z4I(nm:ByteArray)(hnm:nm.size≤1048576)(H:List Int)(fm:Int)(hf:0≤fm)(hf2:fm≤1000)(fD fA fB fN:Int)(fS:ByteArray)(args:List Int)(Ls:List ZB)(hl:Ls.length≤900000)(h_fD:okH H fD):evCW tab bK [.ptr (0,0) [] 0 0,.agg [I 1,I fD,I fA,I fB,I fN,Str fS,.d (.r (aG args))]] (gH nm H fm Ls) 1=some (.tup [],gH nm H fm (Ls++[aS 1 3 0 0 fN 0 ⟨#[]⟩]++kpL (aC H fD) 3)):=by
 have hdr:=bO
 obtain⟨fD0,fD1,fD2,fD3⟩:=h_fD
 have s0:=vI nm H fm (Ls) (by first|exact(by omega)|(simp only[la,zqa];omega)) 1 3 0 0 fN 0
 have s1:=Ar nm H fm (Ls++[aS 1 3 0 0 fN 0 ⟨#[]⟩]) (by first|exact(by omega)|(simp only[la,zqa];omega)) fD 3 fD0 fD1 fD3
 generalize Ls++[aS 1 3 0 0 fN 0 ⟨#[]⟩]++kpL (aC H fD) 3=L2 at *
 generalize Ls++[aS 1 3 0 0 fN 0 ⟨#[]⟩]=L1 at *
 simp only[gH] at s0 s1 ⊢
 rw[aR bJ _ _ _ rfl,bF]
 simp -implicitDefEqProofs (disch:=first|assumption|omega|(simp only[aE,aL,aF,i64,sa,aB,lm,la,lc,ln];omega)) only[go_sem,simprocAttr,hdr,s0,s1]
theorem z4x(nm:ByteArray)(hnm:nm.size≤1048576)(H:List Int)(fm:Int)(hf:0≤fm)(hf2:fm≤1000)(fD fA fB fN:Int)(fS:ByteArray)(args:List Int)(Ls:List ZB)(hl:Ls.length≤900000)(h_fA:okH H fA)(h_fD:okH H fD):evCW tab bK [.ptr (0,0) [] 0 0,.agg [I 2,I fD,I fA,I fB,I fN,Str fS,.d (.r (aG args))]] (gH nm H fm Ls) 1=some (.tup [],gH nm H fm (Ls++rdL (aC H fA) 3++kpL (aC H fD) (rdV (aC H fA) 3))):=by
 have hdr:=bO
 have s1:=z4m nm hnm H fm hf hf2 fD fA fB fN fS args Ls hl h_fA h_fD
 generalize Ls++rdL (aC H fA) 3++kpL (aC H fD) (rdV (aC H fA) 3)=LF at *
 simp only[gH] at s1 ⊢
 rw[aR bJ _ _ _ rfl,bF]
 simp -implicitDefEqProofs (disch:=first|assumption|omega|(simp only[aE,aL,aF,i64,sa,aB,lm,la,lc,ln];omega)) only[go_sem,simprocAttr,hdr,s1]
theorem z4B(nm:ByteArray)(hnm:nm.size≤1048576)(H:List Int)(fm:Int)(hf:0≤fm)(hf2:fm≤1000)(fD fA fB fN:Int)(fS:ByteArray)(args:List Int)(Ls:List ZB)(hl:Ls.length≤900000)(h_fA:okH H fA)(h_fB:okH H fB)(h_fD:okH H fD):evCW tab bK [.ptr (0,0) [] 0 0,.agg [I 3,I fD,I fA,I fB,I fN,Str fS,.d (.r (aG args))]] (gH nm H fm Ls) 1=some (.tup [],gH nm H fm (Ls++rdL (aC H fA) 3++rdL (aC H fB) 4++[aS 3 5 (rdV (aC H fA) 3) (rdV (aC H fB) 4) 0 0 ⟨#[]⟩]++kpL (aC H fD) 5)):=by
 have hdr:=bO
 have s1:=z4u nm hnm H fm hf hf2 fD fA fB fN fS args Ls hl h_fA h_fB h_fD
 generalize Ls++rdL (aC H fA) 3++rdL (aC H fB) 4++[aS 3 5 (rdV (aC H fA) 3) (rdV (aC H fB) 4) 0 0 ⟨#[]⟩]++kpL (aC H fD) 5=LF at *
 simp only[gH] at s1 ⊢
 rw[aR bJ _ _ _ rfl,bF]
 simp -implicitDefEqProofs (disch:=first|assumption|omega|(simp only[aE,aL,aF,i64,sa,aB,lm,la,lc,ln];omega)) only[go_sem,simprocAttr,hdr,s1]
theorem z4k(nm:ByteArray)(hnm:nm.size≤1048576)(H:List Int)(fm:Int)(hf:0≤fm)(hf2:fm≤1000)(fD fA fB fN:Int)(fS:ByteArray)(args:List Int)(Ls:List ZB)(hl:Ls.length≤900000)(h_fA:okH H fA)(h_fB:okH H fB)(h_fD:okH H fD):evCW tab bK [.ptr (0,0) [] 0 0,.agg [I 4,I fD,I fA,I fB,I fN,Str fS,.d (.r (aG args))]] (gH nm H fm Ls) 1=some (.tup [],gH nm H fm (Ls++rdL (aC H fA) 3++rdL (aC H fB) 4++[aS 4 5 (rdV (aC H fA) 3) (rdV (aC H fB) 4) 0 0 ⟨#[]⟩]++kpL (aC H fD) 5)):=by
 have hdr:=bO
 have s1:=z4e nm hnm H fm hf hf2 fD fA fB fN fS args Ls hl h_fA h_fB h_fD
 generalize Ls++rdL (aC H fA) 3++rdL (aC H fB) 4++[aS 4 5 (rdV (aC H fA) 3) (rdV (aC H fB) 4) 0 0 ⟨#[]⟩]++kpL (aC H fD) 5=LF at *
 simp only[gH] at s1 ⊢
 rw[aR bJ _ _ _ rfl,bF]
 simp -implicitDefEqProofs (disch:=first|assumption|omega|(simp only[aE,aL,aF,i64,sa,aB,lm,la,lc,ln];omega)) only[go_sem,simprocAttr,hdr,s1]
theorem z54(nm:ByteArray)(hnm:nm.size≤1048576)(H:List Int)(fm:Int)(hf:0≤fm)(hf2:fm≤1000)(fD fA fB fN:Int)(fS:ByteArray)(args:List Int)(Ls:List ZB)(hl:Ls.length≤900000)(h_fA:okH H fA)(h_fB:okH H fB)(h_fD:okH H fD):evCW tab bK [.ptr (0,0) [] 0 0,.agg [I 5,I fD,I fA,I fB,I fN,Str fS,.d (.r (aG args))]] (gH nm H fm Ls) 1=some (.tup [],gH nm H fm (Ls++rdL (aC H fA) 3++rdL (aC H fB) 4++[aS 5 5 (rdV (aC H fA) 3) (rdV (aC H fB) 4) 0 0 ⟨#[]⟩]++kpL (aC H fD) 5)):=by
 have hdr:=bO
 have s1:=z4z nm hnm H fm hf hf2 fD fA fB fN fS args Ls hl h_fA h_fB h_fD
 generalize Ls++rdL (aC H fA) 3++rdL (aC H fB) 4++[aS 5 5 (rdV (aC H fA) 3) (rdV (aC H fB) 4) 0 0 ⟨#[]⟩]++kpL (aC H fD) 5=LF at *
 simp only[gH] at s1 ⊢
 rw[aR bJ _ _ _ rfl,bF]
 simp -implicitDefEqProofs (disch:=first|assumption|omega|(simp only[aE,aL,aF,i64,sa,aB,lm,la,lc,ln];omega)) only[go_sem,simprocAttr,hdr,s1]
theorem z4l(nm:ByteArray)(hnm:nm.size≤1048576)(H:List Int)(fm:Int)(hf:0≤fm)(hf2:fm≤1000)(fD fA fB fN:Int)(fS:ByteArray)(args:List Int)(Ls:List ZB)(hl:Ls.length≤900000)(h_fA:okH H fA)(h_fB:okH H fB)(h_fD:okH H fD):evCW tab bK [.ptr (0,0) [] 0 0,.agg [I 6,I fD,I fA,I fB,I fN,Str fS,.d (.r (aG args))]] (gH nm H fm Ls) 1=some (.tup [],gH nm H fm (Ls++rdL (aC H fA) 3++rdL (aC H fB) 4++[aS 6 5 (rdV (aC H fA) 3) (rdV (aC H fB) 4) 0 0 ⟨#[]⟩]++kpL (aC H fD) 5)):=by
 have hdr:=bO
 have s1:=z4i nm hnm H fm hf hf2 fD fA fB fN fS args Ls hl h_fA h_fB h_fD
 generalize Ls++rdL (aC H fA) 3++rdL (aC H fB) 4++[aS 6 5 (rdV (aC H fA) 3) (rdV (aC H fB) 4) 0 0 ⟨#[]⟩]++kpL (aC H fD) 5=LF at *
 simp only[gH] at s1 ⊢
 rw[aR bJ _ _ _ rfl,bF]
 simp -implicitDefEqProofs (disch:=first|assumption|omega|(simp only[aE,aL,aF,i64,sa,aB,lm,la,lc,ln];omega)) only[go_sem,simprocAttr,hdr,s1]
theorem z4r(nm:ByteArray)(hnm:nm.size≤1048576)(H:List Int)(fm:Int)(hf:0≤fm)(hf2:fm≤1000)(fD fA fB fN:Int)(fS:ByteArray)(args:List Int)(Ls:List ZB)(hl:Ls.length≤900000)(h_fA:okH H fA)(h_fB:okH H fB)(h_fD:okH H fD):evCW tab bK [.ptr (0,0) [] 0 0,.agg [I 7,I fD,I fA,I fB,I fN,Str fS,.d (.r (aG args))]] (gH nm H fm Ls) 1=some (.tup [],gH nm H fm (Ls++rdL (aC H fA) 3++rdL (aC H fB) 4++[aS 7 5 (rdV (aC H fA) 3) (rdV (aC H fB) 4) 0 0 ⟨#[]⟩]++kpL (aC H fD) 5)):=by
 have hdr:=bO
 have s1:=z4C nm hnm H fm hf hf2 fD fA fB fN fS args Ls hl h_fA h_fB h_fD
 generalize Ls++rdL (aC H fA) 3++rdL (aC H fB) 4++[aS 7 5 (rdV (aC H fA) 3) (rdV (aC H fB) 4) 0 0 ⟨#[]⟩]++kpL (aC H fD) 5=LF at *
 simp only[gH] at s1 ⊢
 rw[aR bJ _ _ _ rfl,bF]
 simp -implicitDefEqProofs (disch:=first|assumption|omega|(simp only[aE,aL,aF,i64,sa,aB,lm,la,lc,ln];omega)) only[go_sem,simprocAttr,hdr,s1]
theorem z50(nm:ByteArray)(hnm:nm.size≤1048576)(H:List Int)(fm:Int)(hf:0≤fm)(hf2:fm≤1000)(fD fA fB fN:Int)(fS:ByteArray)(args:List Int)(Ls:List ZB)(hl:Ls.length≤900000)(hN:i64 fN):evCW tab bK [.ptr (0,0) [] 0 0,.agg [I 8,I fD,I fA,I fB,I fN,Str fS,.d (.r (aG args))]] (gH nm H fm Ls) 1=some (.tup [],gH nm H fm (Ls++[Ge nm fN])):=by
 have hdr:=bO
 have sl:=fun cs=>zq9 nm hnm cs fN hN
 have e0:(Ls++[Ge nm fN]).map ZB.o=Ls.map ZB.o++[[DS (q8 nm fN),DI 0,DI 0,DI 0,DI 0,DI 0,DI 0,DS ⟨#[]⟩]]:=by simp[Ge,ZB.o]
 have e1:(Ls.map ZB.o).length≤1000000:=by simp;omega
 simp only[gH,e0]
 generalize Ls.map ZB.o=W at *
 generalize q8 nm fN=lb at *
 rw[aR bJ _ _ _ rfl,bF]
 simp -implicitDefEqProofs (disch:=first|assumption|omega|(simp only[aE,aL,aF,i64,sa,aB,lm,la,lc,ln];omega)) only[go_sem,simprocAttr,hdr,sl,Ed,List.drop_zero]
theorem z4p(nm:ByteArray)(hnm:nm.size≤1048576)(H:List Int)(fm:Int)(hf:0≤fm)(hf2:fm≤1000)(fD fA fB fN:Int)(fS:ByteArray)(args:List Int)(Ls:List ZB)(hl:Ls.length≤900000)(hN:i64 fN):evCW tab bK [.ptr (0,0) [] 0 0,.agg [I 9,I fD,I fA,I fB,I fN,Str fS,.d (.r (aG args))]] (gH nm H fm Ls) 1=some (.tup [],gH nm H fm (Ls++[aS 11 0 0 0 0 0 (q8 nm fN)])):=by
 have hdr:=bO
 have s0:=gto nm H fm (Ls) (by first|exact(by omega)|(simp only[la,zqa];omega)) 11 0 0 0 0 0 (q8 nm fN)
 have sl:=fun cs=>zq9 nm hnm cs fN hN
 generalize Ls++[aS 11 0 0 0 0 0 (q8 nm fN)]=L1 at *
 simp only[gH] at s0 ⊢
 rw[aR bJ _ _ _ rfl,bF]
 simp -implicitDefEqProofs (disch:=first|assumption|omega|(simp only[aE,aL,aF,i64,sa,aB,lm,la,lc,ln];omega)) only[go_sem,simprocAttr,hdr,s0,sl,Ed,List.drop_zero]
theorem z5O(nm:ByteArray)(hnm:nm.size≤1048576)(H:List Int)(fm:Int)(hf:0≤fm)(hf2:fm≤1000)(fD fA fB fN:Int)(fS:ByteArray)(args:List Int)(Ls:List ZB)(hl:Ls.length≤900000)(h_fA:okH H fA)(hN:i64 fN):evCW tab bK [.ptr (0,0) [] 0 0,.agg [I 10,I fD,I fA,I fB,I fN,Str fS,.d (.r (aG args))]] (gH nm H fm Ls) 1=some (.tup [],gH nm H fm (Ls++rdL (aC H fA) 3++[aS 12 0 (rdV (aC H fA) 3) 0 0 0 (q8 nm fN)])):=by
 have hdr:=bO
 have s1:=z5p nm hnm H fm hf hf2 fD fA fB fN fS args Ls hl h_fA hN
 generalize Ls++rdL (aC H fA) 3++[aS 12 0 (rdV (aC H fA) 3) 0 0 0 (q8 nm fN)]=LF at *
 simp only[gH] at s1 ⊢
 rw[aR bJ _ _ _ rfl,bF]
 simp -implicitDefEqProofs (disch:=first|assumption|omega|(simp only[aE,aL,aF,i64,sa,aB,lm,la,lc,ln];omega)) only[go_sem,simprocAttr,hdr,s1]
theorem z5N(nm:ByteArray)(hnm:nm.size≤1048576)(H:List Int)(fm:Int)(hf:0≤fm)(hf2:fm≤1000)(fD fA fB fN:Int)(fS:ByteArray)(args:List Int)(Ls:List ZB)(hl:Ls.length≤900000)(hx:args.length≤4)(hq:∀q∈args,okH H q)(h_fD:okH H fD):evCW tab bK [.ptr (0,0) [] 0 0,.agg [I 11,I fD,I fA,I fB,I fN,Str fS,.d (.r (aG args))]] (gH nm H fm Ls) 1=some (.tup [],gH nm H fm (Ls++nX H fm 0 args++[aS 13 0 0 0 0 fm fS]++kpL (aC H fD) 0)):=by
 have hdr:=bO
 have s1:=z6T nm hnm H fm hf hf2 fD fA fB fN fS args Ls hl hx hq h_fD
 generalize Ls++nX H fm 0 args++[aS 13 0 0 0 0 fm fS]++kpL (aC H fD) 0=LF at *
 simp only[gH] at s1 ⊢
 rw[aR bJ _ _ _ rfl,bF]
 simp -implicitDefEqProofs (disch:=first|assumption|omega|(simp only[aE,aL,aF,i64,sa,aB,lm,la,lc,ln];omega)) only[go_sem,simprocAttr,hdr,s1]
theorem z67(nm:ByteArray)(hnm:nm.size≤1048576)(H:List Int)(fm:Int)(hf:0≤fm)(hf2:fm≤1000)(fD fA fB fN:Int)(fS:ByteArray)(args:List Int)(Ls:List ZB)(hl:Ls.length≤900000)(h_fA:okH H fA):evCW tab bK [.ptr (0,0) [] 0 0,.agg [I 12,I fD,I fA,I fB,I fN,Str fS,.d (.r (aG args))]] (gH nm H fm Ls) 1=some (.tup [],gH nm H fm (Ls++rdL (aC H fA) 3++[aS 2 0 (rdV (aC H fA) 3) 0 0 0 ⟨#[]⟩]++[aS 14 0 0 0 0 0 ⟨#[]⟩])):=by
 have hdr:=bO
 have s1:=z5s nm hnm H fm hf hf2 fD fA fB fN fS args Ls hl h_fA
 generalize Ls++rdL (aC H fA) 3++[aS 2 0 (rdV (aC H fA) 3) 0 0 0 ⟨#[]⟩]++[aS 14 0 0 0 0 0 ⟨#[]⟩]=LF at *
 simp only[gH] at s1 ⊢
 rw[aR bJ _ _ _ rfl,bF]
 simp -implicitDefEqProofs (disch:=first|assumption|omega|(simp only[aE,aL,aF,i64,sa,aB,lm,la,lc,ln];omega)) only[go_sem,simprocAttr,hdr,s1]
theorem z6C(nm:ByteArray)(hnm:nm.size≤1048576)(H:List Int)(fm:Int)(hf:0≤fm)(hf2:fm≤1000)(fD fA fB fN:Int)(fS:ByteArray)(args:List Int)(Ls:List ZB)(hl:Ls.length≤900000)(h_fA:okH H fA)(h_fD:okH H fD):evCW tab bK [.ptr (0,0) [] 0 0,.agg [I 20,I fD,I fA,I fB,I fN,Str fS,.d (.r (aG args))]] (gH nm H fm Ls) 1=some (.tup [],gH nm H fm (Ls++rdL (aC H fA) 3++[aS 8 5 (rdV (aC H fA) 3) 0 0 0 ⟨#[]⟩]++kpL (aC H fD) 5)):=by
 have hdr:=bO
 have s1:=z69 nm hnm H fm hf hf2 fD fA fB fN fS args Ls hl h_fA h_fD
 generalize Ls++rdL (aC H fA) 3++[aS 8 5 (rdV (aC H fA) 3) 0 0 0 ⟨#[]⟩]++kpL (aC H fD) 5=LF at *
 simp only[gH] at s1 ⊢
 rw[aR bJ _ _ _ rfl,bF]
 simp -implicitDefEqProofs (disch:=first|assumption|omega|(simp only[aE,aL,aF,i64,sa,aB,lm,la,lc,ln];omega)) only[go_sem,simprocAttr,hdr,s1]
theorem z6P(nm:ByteArray)(hnm:nm.size≤1048576)(H:List Int)(fm:Int)(hf:0≤fm)(hf2:fm≤1000)(fD fA fB fN:Int)(fS:ByteArray)(args:List Int)(Ls:List ZB)(hl:Ls.length≤900000)(h_fA:okH H fA)(h_fB:okH H fB):evCW tab bK [.ptr (0,0) [] 0 0,.agg [I 21,I fD,I fA,I fB,I fN,Str fS,.d (.r (aG args))]] (gH nm H fm Ls) 1=some (.tup [],gH nm H fm (Ls++rdL (aC H fA) 3++rdL (aC H fB) 4++[aS 9 0 (rdV (aC H fA) 3) (rdV (aC H fB) 4) 0 0 ⟨#[]⟩])):=by
 have hdr:=bO
 have s1:=z5E nm hnm H fm hf hf2 fD fA fB fN fS args Ls hl h_fA h_fB
 generalize Ls++rdL (aC H fA) 3++rdL (aC H fB) 4++[aS 9 0 (rdV (aC H fA) 3) (rdV (aC H fB) 4) 0 0 ⟨#[]⟩]=LF at *
 simp only[gH] at s1 ⊢
 rw[aR bJ _ _ _ rfl,bF]
 simp -implicitDefEqProofs (disch:=first|assumption|omega|(simp only[aE,aL,aF,i64,sa,aB,lm,la,lc,ln];omega)) only[go_sem,simprocAttr,hdr,s1]
theorem z6J(nm:ByteArray)(hnm:nm.size≤1048576)(H:List Int)(fm:Int)(hf:0≤fm)(hf2:fm≤1000)(fD fA fB fN:Int)(fS:ByteArray)(q:Int)(Ls:List ZB)(hl:Ls.length≤900000)(h_fA:okH H fA)(h_fB:okH H fB)(h_q:okH H q)(h_fD:okH H fD):evCW tab bK [.ptr (0,0) [] 0 0,.agg [I 22,I fD,I fA,I fB,I fN,Str fS,.d (.r (aG [q]))]] (gH nm H fm Ls) 1=some (.tup [],gH nm H fm (Ls++rdL (aC H fA) 3++rdL (aC H fB) 4++[aS 2 5 (rdV (aC H fB) 4) 0 0 0 ⟨#[]⟩]++rdL (aC H q) 4++[aS 10 5 (rdV (aC H fA) 3) (rdV (aC H q) 4) 0 0 ⟨#[]⟩]++kpL (aC H fD) 5)):=by
 have hdr:=bO
 have s1:=z5P nm hnm H fm hf hf2 fD fA fB fN fS q Ls hl h_fA h_fB h_q h_fD
 generalize Ls++rdL (aC H fA) 3++rdL (aC H fB) 4++[aS 2 5 (rdV (aC H fB) 4) 0 0 0 ⟨#[]⟩]++rdL (aC H q) 4++[aS 10 5 (rdV (aC H fA) 3) (rdV (aC H q) 4) 0 0 ⟨#[]⟩]++kpL (aC H fD) 5=LF at *
 simp only[gH,aG,mc,mn] at s1 ⊢
 rw[aR bJ _ _ _ rfl,bF]
 simp -implicitDefEqProofs (disch:=first|assumption|omega|(simp only[aE,aL,aF,i64,sa,aB,lm,la,lc,ln];omega)) only[go_sem,simprocAttr,hdr,s1]
theorem z6S(nm:ByteArray)(hnm:nm.size≤1048576)(H:List Int)(fm:Int)(hf:0≤fm)(hf2:fm≤1000)(fD fA fB fN:Int)(fS:ByteArray)(args:List Int)(Ls:List ZB)(hl:Ls.length≤900000)(h_fD:okH H fD):evCW tab bK [.ptr (0,0) [] 0 0,.agg [I 23,I fD,I fA,I fB,I fN,Str fS,.d (.r (aG args))]] (gH nm H fm Ls) 1=some (.tup [],gH nm H fm (Ls++[aS 18 5 0 0 0 0 ⟨#[]⟩]++kpL (aC H fD) 5)):=by
 have hdr:=bO
 obtain⟨fD0,fD1,fD2,fD3⟩:=h_fD
 have s0:=vI nm H fm (Ls) (by first|exact(by omega)|(simp only[la,zqa];omega)) 18 5 0 0 0 0
 have s1:=Ar nm H fm (Ls++[aS 18 5 0 0 0 0 ⟨#[]⟩]) (by first|exact(by omega)|(simp only[la,zqa];omega)) fD 5 fD0 fD1 fD3
 generalize Ls++[aS 18 5 0 0 0 0 ⟨#[]⟩]++kpL (aC H fD) 5=L2 at *
 generalize Ls++[aS 18 5 0 0 0 0 ⟨#[]⟩]=L1 at *
 simp only[gH] at s0 s1 ⊢
 rw[aR bJ _ _ _ rfl,bF]
 simp -implicitDefEqProofs (disch:=first|assumption|omega|(simp only[aE,aL,aF,i64,sa,aB,lm,la,lc,ln];omega)) only[go_sem,simprocAttr,hdr,s0,s1]
theorem z5H(nm:ByteArray)(hnm:nm.size≤1048576)(H:List Int)(fm:Int)(hf:0≤fm)(hf2:fm≤1000)(fD fA fB fN:Int)(fS:ByteArray)(args:List Int)(Ls:List ZB)(hl:Ls.length≤900000)(h_fD:okH H fD):evCW tab bK [.ptr (0,0) [] 0 0,.agg [I 24,I fD,I fA,I fB,I fN,Str fS,.d (.r (aG args))]] (gH nm H fm Ls) 1=some (.tup [],gH nm H fm (Ls++[aS 1 5 0 0 0 0 fS]++kpL (aC H fD) 5)):=by
 have hdr:=bO
 obtain⟨fD0,fD1,fD2,fD3⟩:=h_fD
 have s0:=gto nm H fm (Ls) (by first|exact(by omega)|(simp only[la,zqa];omega)) 1 5 0 0 0 0 fS
 have s1:=Ar nm H fm (Ls++[aS 1 5 0 0 0 0 fS]) (by first|exact(by omega)|(simp only[la,zqa];omega)) fD 5 fD0 fD1 fD3
 generalize Ls++[aS 1 5 0 0 0 0 fS]++kpL (aC H fD) 5=L2 at *
 generalize Ls++[aS 1 5 0 0 0 0 fS]=L1 at *
 simp only[gH] at s0 s1 ⊢
 rw[aR bJ _ _ _ rfl,bF]
 simp -implicitDefEqProofs (disch:=first|assumption|omega|(simp only[aE,aL,aF,i64,sa,aB,lm,la,lc,ln];omega)) only[go_sem,simprocAttr,hdr,s0,s1]
theorem z5q(nm:ByteArray)(hnm:nm.size≤1048576)(H:List Int)(fm:Int)(hf:0≤fm)(hf2:fm≤1000)(fD fA fB fN:Int)(fS:ByteArray)(args:List Int)(Ls:List ZB)(hl:Ls.length≤900000)(h_fA:okH H fA):evCW tab bK [.ptr (0,0) [] 0 0,.agg [I 25,I fD,I fA,I fB,I fN,Str fS,.d (.r (aG args))]] (gH nm H fm Ls) 1=some (.tup [],gH nm H fm (Ls++rdL (aC H fA) 3++[aS 15 0 (rdV (aC H fA) 3) 0 0 0 ⟨#[]⟩])):=by
 have hdr:=bO
 have s1:=z5G nm hnm H fm hf hf2 fD fA fB fN fS args Ls hl h_fA
 generalize Ls++rdL (aC H fA) 3++[aS 15 0 (rdV (aC H fA) 3) 0 0 0 ⟨#[]⟩]=LF at *
 simp only[gH] at s1 ⊢
 rw[aR bJ _ _ _ rfl,bF]
 simp -implicitDefEqProofs (disch:=first|assumption|omega|(simp only[aE,aL,aF,i64,sa,aB,lm,la,lc,ln];omega)) only[go_sem,simprocAttr,hdr,s1]
theorem z6E(nm:ByteArray)(hnm:nm.size≤1048576)(H:List Int)(fm:Int)(hf:0≤fm)(hf2:fm≤1000)(fD fA fB fN:Int)(fS:ByteArray)(args:List Int)(Ls:List ZB)(hl:Ls.length≤900000)(h_fA:okH H fA)(h_fB:okH H fB):evCW tab bK [.ptr (0,0) [] 0 0,.agg [I 26,I fD,I fA,I fB,I fN,Str fS,.d (.r (aG args))]] (gH nm H fm Ls) 1=some (.tup [],gH nm H fm (Ls++rdL (aC H fA) 3++rdL (aC H fB) 4++[aS 16 0 (rdV (aC H fA) 3) (rdV (aC H fB) 4) 0 0 ⟨#[]⟩])):=by
 have hdr:=bO
 have s1:=z5b nm hnm H fm hf hf2 fD fA fB fN fS args Ls hl h_fA h_fB
 generalize Ls++rdL (aC H fA) 3++rdL (aC H fB) 4++[aS 16 0 (rdV (aC H fA) 3) (rdV (aC H fB) 4) 0 0 ⟨#[]⟩]=LF at *
 simp only[gH] at s1 ⊢
 rw[aR bJ _ _ _ rfl,bF]
 simp -implicitDefEqProofs (disch:=first|assumption|omega|(simp only[aE,aL,aF,i64,sa,aB,lm,la,lc,ln];omega)) only[go_sem,simprocAttr,hdr,s1]
theorem z63(nm:ByteArray)(hnm:nm.size≤1048576)(H:List Int)(fm:Int)(hf:0≤fm)(hf2:fm≤1000)(fD fA fB fN:Int)(fS:ByteArray)(args:List Int)(Ls:List ZB)(hl:Ls.length≤900000)(h_fA:okH H fA)(h_fB:okH H fB):evCW tab bK [.ptr (0,0) [] 0 0,.agg [I 27,I fD,I fA,I fB,I fN,Str fS,.d (.r (aG args))]] (gH nm H fm Ls) 1=some (.tup [],gH nm H fm (Ls++rdL (aC H fA) 3++rdL (aC H fB) 4++[aS 17 0 (rdV (aC H fA) 3) (rdV (aC H fB) 4) 0 0 ⟨#[]⟩])):=by
 have hdr:=bO
 have s1:=z60 nm hnm H fm hf hf2 fD fA fB fN fS args Ls hl h_fA h_fB
 generalize Ls++rdL (aC H fA) 3++rdL (aC H fB) 4++[aS 17 0 (rdV (aC H fA) 3) (rdV (aC H fB) 4) 0 0 ⟨#[]⟩]=LF at *
 simp only[gH] at s1 ⊢
 rw[aR bJ _ _ _ rfl,bF]
 simp -implicitDefEqProofs (disch:=first|assumption|omega|(simp only[aE,aL,aF,i64,sa,aB,lm,la,lc,ln];omega)) only[go_sem,simprocAttr,hdr,s1]
theorem z5j(nm:ByteArray)(hnm:nm.size≤1048576)(H:List Int)(fm:Int)(hf:0≤fm)(hf2:fm≤1000)(fD fA fB fN:Int)(fS:ByteArray)(args:List Int)(Ls:List ZB)(hl:Ls.length≤900000)(h_fA:okH H fA):evCW tab bK [.ptr (0,0) [] 0 0,.agg [I 28,I fD,I fA,I fB,I fN,Str fS,.d (.r (aG args))]] (gH nm H fm Ls) 1=some (.tup [],gH nm H fm (Ls++rdL (aC H fA) 3++[aS 19 0 (rdV (aC H fA) 3) 0 0 0 ⟨#[]⟩])):=by
 have hdr:=bO
 have s1:=z6j nm hnm H fm hf hf2 fD fA fB fN fS args Ls hl h_fA
 generalize Ls++rdL (aC H fA) 3++[aS 19 0 (rdV (aC H fA) 3) 0 0 0 ⟨#[]⟩]=LF at *
 simp only[gH] at s1 ⊢
 rw[aR bJ _ _ _ rfl,bF]
 simp -implicitDefEqProofs (disch:=first|assumption|omega|(simp only[aE,aL,aF,i64,sa,aB,lm,la,lc,ln];omega)) only[go_sem,simprocAttr,hdr,s1]
set_option maxRecDepth 8000
set_option maxHeartbeats 8000000
theorem Qx:∀(ts:List ZC) (os:List BL) (j:Int) (P:List Int×List Int) (p:Nat),0≤j→ts.length≤os.length→(∀t∈ts,∀r∈bA t++bB t,0≤r)→p<P.1.length→((∃x,P.1[p]? = some x∧0≤x)∨∃t∈ts,(p:Int)∈bA t++bB t)→∃x,(kC ts os j P).1[p]? = some x∧0≤x
 |[],os,j,P,p,h0,hl,ht,hp,h=>by
  rw[kC]
  ·rcases h with h|⟨t,ht,_⟩
   ·exact h
   ·simp at ht
  ·intros;simp_all
 |t::ts,[],j,P,p,h0,hl,ht,hp,h=>by simp at hl
 |t::ts,o::os,j,P,p,h0,hl,ht,hp,h=>by
  rw[kC]
  have hnn:∀r∈q9 t o,0≤r:=fun r hr=>by
   rcases List.mem_append.1 hr with h|h
   ·exact ht t (by simp) r h
   ·exact(xO h).1
  have hg:=D1 j h0 p (q9 t o) P.1 hnn
  have hpe:P.1[p]? = some P.1[p]:=List.getElem?_eq_getElem hp
  refine Qx ts os (j+1) _ p (by omega) (by simpa using hl) (fun t h=>ht t (by simp[h])) (by show p<(rF j P.1 (q9 t o)).length;rw[B3];exact hp) ?_
  rcases h with⟨x,hx,hx0⟩|⟨t2,ht2,hm⟩
  ·refine .inl ⟨x,?_,hx0⟩
   show(rF j P.1 (q9 t o))[p]? = _
   rw[hg,hx]
   simp[show ¬x<0 by omega]
  ·rcases List.mem_cons.1 ht2 with rfl|ht3
   ·refine .inl ?_
    show ∃x,(rF j P.1 (q9 t2 o))[p]? = some x∧0≤x
    rw[hg,hpe]
    refine⟨_,rfl,?_⟩
    have:(p:Int)∈q9 t2 o:=List.mem_append_left _ hm
    simp only[this,true_and]
    split<;>omega
   ·exact .inr ⟨t2,ht3,hm⟩
theorem z9h{u:ZD}(hr:Right u)(hL:(bH u).Least (live u)){t:ZC}(ht:t∈u.fCode){r:Int}(h:r∈bA t++bB t):0≤aC (spU u).1 r:=by
 have hrs:=wW hr t ht r h
 have hlv:=pM hL
 obtain⟨x,hx,hx0⟩:=Qx u.fCode (live u) 0 (List.replicate u.fRegs.toNat (-1),List.replicate u.fRegs.toNat (-1)) r.toNat (by omega) (by omega) (fun t ht r h=>(wW hr t ht r h).1) (by simp;omega) (.inr ⟨t,ht,by rw[show((r.toNat:Nat):Int)=r by omega];exact h⟩)
 show 0≤(((spU u).1)[r.toNat]?).getD 0
 rw[spU,hx]
 exact hx0
theorem zXO(F L C:List Int)(S:List Int×Int)(r k:Int)(h0:0≤r)(h1:r<S.1.length)(hk:0≤k)(hs:0≤S.2)(h:0≤aC S.1 k):0≤aC (asg F L C S r).1 k:=by
 unfold asg
 split
 ·show 0≤aC (S.1.set r.toNat (10+S.2)) k
  rw[sW h0 h1 hk]
  split<;>omega
 ·rename_i hn
  show 0≤aC (S.1.set r.toNat _) k
  rw[sW h0 h1 hk]
  split<;>omega
theorem zXg(F L C:List Int)(S:List Int×Int)(r k:Int)(h0:0≤r)(h1:r<S.1.length)(hk:0≤k)(hs:0≤S.2)(h:aC S.1 k≤10+S.2):aC (asg F L C S r).1 k≤10+(asg F L C S r).2:=by
 unfold asg
 split
 ·show aC (S.1.set r.toNat (10+S.2)) k≤10+(S.2+1)
  rw[sW h0 h1 hk]
  split<;>omega
 ·have:=Ho F L S.1 (vJ 0 S.1.length) r
  show aC (S.1.set r.toNat _) k≤10+S.2
  rw[sW h0 h1 hk]
  split<;>omega
theorem zzt(F L C:List Int)(m:Nat):∀(ls P:List Int) (S:List Int×Int),Hom m P S→(∀r∈ls,0≤r∧r<m)→Hom m (P++ls) (ls.foldl (asg F L C) S)∧(∀k:Int,0≤k→0≤aC S.1 k→0≤aC (ls.foldl (asg F L C) S).1 k)∧((∀k:Int,0≤k→aC S.1 k≤10+S.2)→∀k:Int,0≤k→aC (ls.foldl (asg F L C) S).1 k≤10+(ls.foldl (asg F L C) S).2)
 |[],P,S,h,hl=>by rw[zqe];exact⟨h,fun _ _ h=>h,fun h=>h⟩
 |r::ls,P,S,h,hl=>by
  have hr:=hl r (by simp)
  have hm:r<S.1.length:=by rw[h.len];exact hr.2
  obtain⟨a,b,c⟩:=zzt F L C m ls (P++[r]) (asg F L C S r) (h.step F L C hr.1 hr.2) (fun r h=>hl r (by simp[h]))
  rw[List.foldl_cons]
  refine⟨by simpa using a,fun k hk hp=>b k hk (zXO F L C S r k hr.1 hm hk h.slot.1 hp),fun hh=>c fun k hk=>zXg F L C S r k hr.1 hm hk h.slot.1 (hh k hk)⟩
theorem zz3{u:ZD}(hr:Right u):Hom u.fRegs.toNat (refU u) (homU u)∧(∀k:Int,0≤k→0≤aC (iR u.fParams 0 u.fRegs.toNat) k→0≤aC (homU u).1 k)∧∀k:Int,0≤k→aC (homU u).1 k≤10+(homU u).2:=by
 have hs:=Hom.start (m:=u.fRegs.toNat) hr.pars.1 hr.pars.2.1 (by have:=hr.pars;omega)
 have hmem:∀r∈refU u,0≤r∧r<u.fRegs.toNat:=fun r h=>by
  have:=(Mw hr).perm.subset h
  rw[Dm] at this
  omega
 obtain⟨a,b,c⟩:=zzt (spU u).1 (spU u).2 (crU u) u.fRegs.toNat (refU u) [] _ hs hmem
 refine⟨a,b,c fun k hk=> ?_⟩
 by_cases e:k.toNat<u.fRegs.toNat
 ·show((iR u.fParams 0 u.fRegs.toNat)[k.toNat]?).getD 0≤_
  rw[Hc _ _ _ _ e,Option.getD_some]
  have:=hr.pars
  show _≤10+u.fParams
  split<;>omega
 ·show((iR u.fParams 0 u.fRegs.toNat)[k.toNat]?).getD 0≤10+u.fParams
  rw[List.getElem?_eq_none (by rw[If];omega)]
  have:=hr.pars
  show(0:Int)≤_
  omega
theorem Uc{u:ZD}(hr:Right u):0≤(homU u).2∧(homU u).2≤254:=by
 have h:=(zz3 hr).1
 have h2:=(Mw hr).perm.length_eq
 have h3:(ordU u).length≤u.fRegs.toNat:=Hp (spU u).1 u.fParams u.fRegs.toNat 0
 have:=h.slot
 have:=hr.regs
 omega
theorem zYM{u:ZD}(hr:Right u)(hL:(bH u).Least (live u)){t:ZC}(ht:t∈u.fCode){r:Int}(h:r∈bA t++bB t):okH (homU u).1 r:=by
 have hrs:=wW hr t ht r h
 have hp:=z9h hr hL ht h
 obtain⟨a,b,c⟩:=zz3 hr
 have hsl:=Uc hr
 have hlen:(homU u).1.length=u.fRegs.toNat:=a.len
 refine⟨hrs.1,by rw[hlen];omega,?_,by have:=c r hrs.1;omega⟩
 by_cases e:r<u.fParams
 ·refine b r hrs.1 ?_
  show 0≤((iR u.fParams 0 u.fRegs.toNat)[r.toNat]?).getD 0
  rw[Hc _ _ _ _ (by omega),Option.getD_some]
  split<;>omega
 ·refine(a.pos r ?_).2.2
  rw[Hk]
  have hin:=(zqg hr).1
  have hlt:aC (spU u).1 r<u.fCode.length:=by
   have:=(bN (zs:=(spU u).1) (k:=r) hrs.1 (by rw[(Mv u).1];omega)).2
   have:=hin _ this
   omega
  have:=hr.pars
  omega
set_option maxRecDepth 8000
set_option maxHeartbeats 8000000
abbrev PlT(u:ZD)(H:List Int)(fm:Int)(t:ZC)(Ls:List ZB):Prop:=∃L:List ZB,L.length≤20∧evCW tab aW [.ptr (0,0) [] 0 0,t.x] (eH u H fm Ls) 1=some (.tup [],eH u H fm (Ls++L))∧evCW tab bK [.ptr (0,0) [] 0 0,t.x] (gH u.fName H fm Ls) 1=some (.tup [],gH u.fName H fm (Ls++L))
theorem z4q(u:ZD)(hnm:u.fName.size≤1048576)(H:List Int)(fm:Int)(hf:0≤fm)(hf2:fm≤1000)(fD fA fB fN:Int)(fS:ByteArray)(args:List Int)(Ls:List ZB)(hl:Ls.length≤900000)(hA:eO ⟨1,fD,fA,fB,fN,fS,args⟩=true)(hN:i64 fN)(hr:∀r∈bA ⟨1,fD,fA,fB,fN,fS,args⟩++bB ⟨1,fD,fA,fB,fN,fS,args⟩,okH H r):PlT u H fm ⟨1,fD,fA,fB,fN,fS,args⟩ Ls:=by
 have h_fD:okH H fD:=hr _ (by simp[bA,bB,show hb ⟨1,fD,fA,fB,fN,fS,args⟩ 1=true from by show jC (fZ (1:Int)) 1=true;decide])
 have e1:=z4b u hnm H fm hf hf2 fD fA fB fN fS args Ls hl h_fD
 have e2:=z4I u.fName hnm H fm hf hf2 fD fA fB fN fS args Ls hl h_fD
 have:=nK (aC H fD) 3
 try simp only[zqc] at e1 e2
 refine⟨[aS 1 3 0 0 fN 0 ⟨#[]⟩]++kpL (aC H fD) 3,by simp only[la,zqa,lc,ln];omega,?_,?_⟩
 ·simpa only[zqc] using e1
 ·simpa only[zqc] using e2
theorem z4h(u:ZD)(hnm:u.fName.size≤1048576)(H:List Int)(fm:Int)(hf:0≤fm)(hf2:fm≤1000)(fD fA fB fN:Int)(fS:ByteArray)(args:List Int)(Ls:List ZB)(hl:Ls.length≤900000)(hA:eO ⟨2,fD,fA,fB,fN,fS,args⟩=true)(hN:i64 fN)(hr:∀r∈bA ⟨2,fD,fA,fB,fN,fS,args⟩++bB ⟨2,fD,fA,fB,fN,fS,args⟩,okH H r):PlT u H fm ⟨2,fD,fA,fB,fN,fS,args⟩ Ls:=by
 have h_fD:okH H fD:=hr _ (by simp[bA,bB,show hb ⟨2,fD,fA,fB,fN,fS,args⟩ 1=true from by show jC (fZ (2:Int)) 1=true;decide])
 have h_fA:okH H fA:=hr _ (by simp[bA,bB,show hb ⟨2,fD,fA,fB,fN,fS,args⟩ 2=true from by show jC (fZ (2:Int)) 2=true;decide])
 have e1:=z5Z u hnm H fm hf hf2 fD fA fB fN fS args Ls hl h_fA h_fD
 have e2:=z4x u.fName hnm H fm hf hf2 fD fA fB fN fS args Ls hl h_fA h_fD
 have:=aY (aC H fA) 3
 have:=nK (aC H fD) (rdV (aC H fA) 3)
 try simp only[zqc] at e1 e2
 refine⟨rdL (aC H fA) 3++kpL (aC H fD) (rdV (aC H fA) 3),by simp only[la,zqa,lc,ln];omega,?_,?_⟩
 ·simpa only[zqc] using e1
 ·simpa only[zqc] using e2
theorem z4w(u:ZD)(hnm:u.fName.size≤1048576)(H:List Int)(fm:Int)(hf:0≤fm)(hf2:fm≤1000)(fD fA fB fN:Int)(fS:ByteArray)(args:List Int)(Ls:List ZB)(hl:Ls.length≤900000)(hA:eO ⟨3,fD,fA,fB,fN,fS,args⟩=true)(hN:i64 fN)(hr:∀r∈bA ⟨3,fD,fA,fB,fN,fS,args⟩++bB ⟨3,fD,fA,fB,fN,fS,args⟩,okH H r):PlT u H fm ⟨3,fD,fA,fB,fN,fS,args⟩ Ls:=by
 have h_fD:okH H fD:=hr _ (by simp[bA,bB,show hb ⟨3,fD,fA,fB,fN,fS,args⟩ 1=true from by show jC (fZ (3:Int)) 1=true;decide])
 have h_fA:okH H fA:=hr _ (by simp[bA,bB,show hb ⟨3,fD,fA,fB,fN,fS,args⟩ 2=true from by show jC (fZ (3:Int)) 2=true;decide])
 have h_fB:okH H fB:=hr _ (by simp[bA,bB,show hb ⟨3,fD,fA,fB,fN,fS,args⟩ 4=true from by show jC (fZ (3:Int)) 4=true;decide])
 have e1:=z4v u hnm H fm hf hf2 fD fA fB fN fS args Ls hl h_fA h_fB h_fD
 have e2:=z4B u.fName hnm H fm hf hf2 fD fA fB fN fS args Ls hl h_fA h_fB h_fD
 have:=aY (aC H fA) 3
 have:=aY (aC H fB) 4
 have:=nK (aC H fD) 5
 try simp only[zqc] at e1 e2
 refine⟨rdL (aC H fA) 3++rdL (aC H fB) 4++[aS 3 5 (rdV (aC H fA) 3) (rdV (aC H fB) 4) 0 0 ⟨#[]⟩]++kpL (aC H fD) 5,by simp only[la,zqa,lc,ln];omega,?_,?_⟩
 ·simpa only[zqc] using e1
 ·simpa only[zqc] using e2
theorem z4G(u:ZD)(hnm:u.fName.size≤1048576)(H:List Int)(fm:Int)(hf:0≤fm)(hf2:fm≤1000)(fD fA fB fN:Int)(fS:ByteArray)(args:List Int)(Ls:List ZB)(hl:Ls.length≤900000)(hA:eO ⟨4,fD,fA,fB,fN,fS,args⟩=true)(hN:i64 fN)(hr:∀r∈bA ⟨4,fD,fA,fB,fN,fS,args⟩++bB ⟨4,fD,fA,fB,fN,fS,args⟩,okH H r):PlT u H fm ⟨4,fD,fA,fB,fN,fS,args⟩ Ls:=by
 have h_fD:okH H fD:=hr _ (by simp[bA,bB,show hb ⟨4,fD,fA,fB,fN,fS,args⟩ 1=true from by show jC (fZ (4:Int)) 1=true;decide])
 have h_fA:okH H fA:=hr _ (by simp[bA,bB,show hb ⟨4,fD,fA,fB,fN,fS,args⟩ 2=true from by show jC (fZ (4:Int)) 2=true;decide])
 have h_fB:okH H fB:=hr _ (by simp[bA,bB,show hb ⟨4,fD,fA,fB,fN,fS,args⟩ 4=true from by show jC (fZ (4:Int)) 4=true;decide])
 have e1:=z4c u hnm H fm hf hf2 fD fA fB fN fS args Ls hl h_fA h_fB h_fD
 have e2:=z4k u.fName hnm H fm hf hf2 fD fA fB fN fS args Ls hl h_fA h_fB h_fD
 have:=aY (aC H fA) 3
 have:=aY (aC H fB) 4
 have:=nK (aC H fD) 5
 try simp only[zqc] at e1 e2
 refine⟨rdL (aC H fA) 3++rdL (aC H fB) 4++[aS 4 5 (rdV (aC H fA) 3) (rdV (aC H fB) 4) 0 0 ⟨#[]⟩]++kpL (aC H fD) 5,by simp only[la,zqa,lc,ln];omega,?_,?_⟩
 ·simpa only[zqc] using e1
 ·simpa only[zqc] using e2
theorem z52(u:ZD)(hnm:u.fName.size≤1048576)(H:List Int)(fm:Int)(hf:0≤fm)(hf2:fm≤1000)(fD fA fB fN:Int)(fS:ByteArray)(args:List Int)(Ls:List ZB)(hl:Ls.length≤900000)(hA:eO ⟨5,fD,fA,fB,fN,fS,args⟩=true)(hN:i64 fN)(hr:∀r∈bA ⟨5,fD,fA,fB,fN,fS,args⟩++bB ⟨5,fD,fA,fB,fN,fS,args⟩,okH H r):PlT u H fm ⟨5,fD,fA,fB,fN,fS,args⟩ Ls:=by
 have h_fD:okH H fD:=hr _ (by simp[bA,bB,show hb ⟨5,fD,fA,fB,fN,fS,args⟩ 1=true from by show jC (fZ (5:Int)) 1=true;decide])
 have h_fA:okH H fA:=hr _ (by simp[bA,bB,show hb ⟨5,fD,fA,fB,fN,fS,args⟩ 2=true from by show jC (fZ (5:Int)) 2=true;decide])
 have h_fB:okH H fB:=hr _ (by simp[bA,bB,show hb ⟨5,fD,fA,fB,fN,fS,args⟩ 4=true from by show jC (fZ (5:Int)) 4=true;decide])
 have e1:=z4d u hnm H fm hf hf2 fD fA fB fN fS args Ls hl h_fA h_fB h_fD
 have e2:=z54 u.fName hnm H fm hf hf2 fD fA fB fN fS args Ls hl h_fA h_fB h_fD
 have:=aY (aC H fA) 3
 have:=aY (aC H fB) 4
 have:=nK (aC H fD) 5
 try simp only[zqc] at e1 e2
 refine⟨rdL (aC H fA) 3++rdL (aC H fB) 4++[aS 5 5 (rdV (aC H fA) 3) (rdV (aC H fB) 4) 0 0 ⟨#[]⟩]++kpL (aC H fD) 5,by simp only[la,zqa,lc,ln];omega,?_,?_⟩
 ·simpa only[zqc] using e1
 ·simpa only[zqc] using e2
theorem z4J(u:ZD)(hnm:u.fName.size≤1048576)(H:List Int)(fm:Int)(hf:0≤fm)(hf2:fm≤1000)(fD fA fB fN:Int)(fS:ByteArray)(args:List Int)(Ls:List ZB)(hl:Ls.length≤900000)(hA:eO ⟨6,fD,fA,fB,fN,fS,args⟩=true)(hN:i64 fN)(hr:∀r∈bA ⟨6,fD,fA,fB,fN,fS,args⟩++bB ⟨6,fD,fA,fB,fN,fS,args⟩,okH H r):PlT u H fm ⟨6,fD,fA,fB,fN,fS,args⟩ Ls:=by
 have h_fD:okH H fD:=hr _ (by simp[bA,bB,show hb ⟨6,fD,fA,fB,fN,fS,args⟩ 1=true from by show jC (fZ (6:Int)) 1=true;decide])
 have h_fA:okH H fA:=hr _ (by simp[bA,bB,show hb ⟨6,fD,fA,fB,fN,fS,args⟩ 2=true from by show jC (fZ (6:Int)) 2=true;decide])
 have h_fB:okH H fB:=hr _ (by simp[bA,bB,show hb ⟨6,fD,fA,fB,fN,fS,args⟩ 4=true from by show jC (fZ (6:Int)) 4=true;decide])
 have e1:=z4o u hnm H fm hf hf2 fD fA fB fN fS args Ls hl h_fA h_fB h_fD
 have e2:=z4l u.fName hnm H fm hf hf2 fD fA fB fN fS args Ls hl h_fA h_fB h_fD
 have:=aY (aC H fA) 3
 have:=aY (aC H fB) 4
 have:=nK (aC H fD) 5
 try simp only[zqc] at e1 e2
 refine⟨rdL (aC H fA) 3++rdL (aC H fB) 4++[aS 6 5 (rdV (aC H fA) 3) (rdV (aC H fB) 4) 0 0 ⟨#[]⟩]++kpL (aC H fD) 5,by simp only[la,zqa,lc,ln];omega,?_,?_⟩
 ·simpa only[zqc] using e1
 ·simpa only[zqc] using e2
theorem z4a(u:ZD)(hnm:u.fName.size≤1048576)(H:List Int)(fm:Int)(hf:0≤fm)(hf2:fm≤1000)(fD fA fB fN:Int)(fS:ByteArray)(args:List Int)(Ls:List ZB)(hl:Ls.length≤900000)(hA:eO ⟨7,fD,fA,fB,fN,fS,args⟩=true)(hN:i64 fN)(hr:∀r∈bA ⟨7,fD,fA,fB,fN,fS,args⟩++bB ⟨7,fD,fA,fB,fN,fS,args⟩,okH H r):PlT u H fm ⟨7,fD,fA,fB,fN,fS,args⟩ Ls:=by
 have h_fD:okH H fD:=hr _ (by simp[bA,bB,show hb ⟨7,fD,fA,fB,fN,fS,args⟩ 1=true from by show jC (fZ (7:Int)) 1=true;decide])
 have h_fA:okH H fA:=hr _ (by simp[bA,bB,show hb ⟨7,fD,fA,fB,fN,fS,args⟩ 2=true from by show jC (fZ (7:Int)) 2=true;decide])
 have h_fB:okH H fB:=hr _ (by simp[bA,bB,show hb ⟨7,fD,fA,fB,fN,fS,args⟩ 4=true from by show jC (fZ (7:Int)) 4=true;decide])
 have e1:=z4y u hnm H fm hf hf2 fD fA fB fN fS args Ls hl h_fA h_fB h_fD
 have e2:=z4r u.fName hnm H fm hf hf2 fD fA fB fN fS args Ls hl h_fA h_fB h_fD
 have:=aY (aC H fA) 3
 have:=aY (aC H fB) 4
 have:=nK (aC H fD) 5
 try simp only[zqc] at e1 e2
 refine⟨rdL (aC H fA) 3++rdL (aC H fB) 4++[aS 7 5 (rdV (aC H fA) 3) (rdV (aC H fB) 4) 0 0 ⟨#[]⟩]++kpL (aC H fD) 5,by simp only[la,zqa,lc,ln];omega,?_,?_⟩
 ·simpa only[zqc] using e1
 ·simpa only[zqc] using e2
theorem z4A(u:ZD)(hnm:u.fName.size≤1048576)(H:List Int)(fm:Int)(hf:0≤fm)(hf2:fm≤1000)(fD fA fB fN:Int)(fS:ByteArray)(args:List Int)(Ls:List ZB)(hl:Ls.length≤900000)(hA:eO ⟨8,fD,fA,fB,fN,fS,args⟩=true)(hN:i64 fN)(hr:∀r∈bA ⟨8,fD,fA,fB,fN,fS,args⟩++bB ⟨8,fD,fA,fB,fN,fS,args⟩,okH H r):PlT u H fm ⟨8,fD,fA,fB,fN,fS,args⟩ Ls:=by
 have e1:=z55 u hnm H fm hf hf2 fD fA fB fN fS args Ls hl hN
 have e2:=z50 u.fName hnm H fm hf hf2 fD fA fB fN fS args Ls hl hN
 try simp only[zqc] at e1 e2
 refine⟨[Ge u.fName fN],by simp only[la,zqa,lc,ln];omega,?_,?_⟩
 ·simpa only[zqc] using e1
 ·simpa only[zqc] using e2
theorem z4n(u:ZD)(hnm:u.fName.size≤1048576)(H:List Int)(fm:Int)(hf:0≤fm)(hf2:fm≤1000)(fD fA fB fN:Int)(fS:ByteArray)(args:List Int)(Ls:List ZB)(hl:Ls.length≤900000)(hA:eO ⟨9,fD,fA,fB,fN,fS,args⟩=true)(hN:i64 fN)(hr:∀r∈bA ⟨9,fD,fA,fB,fN,fS,args⟩++bB ⟨9,fD,fA,fB,fN,fS,args⟩,okH H r):PlT u H fm ⟨9,fD,fA,fB,fN,fS,args⟩ Ls:=by
 have e1:=z58 u hnm H fm hf hf2 fD fA fB fN fS args Ls hl hN
 have e2:=z4p u.fName hnm H fm hf hf2 fD fA fB fN fS args Ls hl hN
 try simp only[zqc] at e1 e2
 refine⟨[aS 11 0 0 0 0 0 (q8 u.fName fN)],by simp only[la,zqa,lc,ln];omega,?_,?_⟩
 ·simpa only[zqc] using e1
 ·simpa only[zqc] using e2
theorem z6y(u:ZD)(hnm:u.fName.size≤1048576)(H:List Int)(fm:Int)(hf:0≤fm)(hf2:fm≤1000)(fD fA fB fN:Int)(fS:ByteArray)(args:List Int)(Ls:List ZB)(hl:Ls.length≤900000)(hA:eO ⟨10,fD,fA,fB,fN,fS,args⟩=true)(hN:i64 fN)(hr:∀r∈bA ⟨10,fD,fA,fB,fN,fS,args⟩++bB ⟨10,fD,fA,fB,fN,fS,args⟩,okH H r):PlT u H fm ⟨10,fD,fA,fB,fN,fS,args⟩ Ls:=by
 have h_fA:okH H fA:=hr _ (by simp[bA,bB,show hb ⟨10,fD,fA,fB,fN,fS,args⟩ 2=true from by show jC (fZ (10:Int)) 2=true;decide])
 have e1:=z62 u hnm H fm hf hf2 fD fA fB fN fS args Ls hl h_fA hN
 have e2:=z5O u.fName hnm H fm hf hf2 fD fA fB fN fS args Ls hl h_fA hN
 have:=aY (aC H fA) 3
 try simp only[zqc] at e1 e2
 refine⟨rdL (aC H fA) 3++[aS 12 0 (rdV (aC H fA) 3) 0 0 0 (q8 u.fName fN)],by simp only[la,zqa,lc,ln];omega,?_,?_⟩
 ·simpa only[zqc] using e1
 ·simpa only[zqc] using e2
theorem z5Y(u:ZD)(hnm:u.fName.size≤1048576)(H:List Int)(fm:Int)(hf:0≤fm)(hf2:fm≤1000)(fD fA fB fN:Int)(fS:ByteArray)(args:List Int)(Ls:List ZB)(hl:Ls.length≤900000)(hA:eO ⟨11,fD,fA,fB,fN,fS,args⟩=true)(hN:i64 fN)(hr:∀r∈bA ⟨11,fD,fA,fB,fN,fS,args⟩++bB ⟨11,fD,fA,fB,fN,fS,args⟩,okH H r):PlT u H fm ⟨11,fD,fA,fB,fN,fS,args⟩ Ls:=by
 have h_fD:okH H fD:=hr _ (by simp[bA,bB,show hb ⟨11,fD,fA,fB,fN,fS,args⟩ 1=true from by show jC (fZ (11:Int)) 1=true;decide])
 have hq:∀q∈args,okH H q:=fun q hq=>hr _ (by simp[bA,bB,Eg ⟨11,fD,fA,fB,fN,fS,args⟩ (by show(11:Int)≠19;decide),show hb ⟨11,fD,fA,fB,fN,fS,args⟩ 32=true from by show jC (fZ (11:Int)) 32=true;decide,hq])
 have hx:args.length≤4:=by simp[eO] at hA;omega
 have e1:=z5B u hnm H fm hf hf2 fD fA fB fN fS args Ls hl hx hq h_fD
 have e2:=z5N u.fName hnm H fm hf hf2 fD fA fB fN fS args Ls hl hx hq h_fD
 have:=Hg H fm args 0
 have:=nK (aC H fD) 0
 try simp only[zqc] at e1 e2
 refine⟨nX H fm 0 args++[aS 13 0 0 0 0 fm fS]++kpL (aC H fD) 0,by simp only[la,zqa,lc,ln];omega,?_,?_⟩
 ·simpa only[zqc] using e1
 ·simpa only[zqc] using e2
theorem z5D(u:ZD)(hnm:u.fName.size≤1048576)(H:List Int)(fm:Int)(hf:0≤fm)(hf2:fm≤1000)(fD fA fB fN:Int)(fS:ByteArray)(args:List Int)(Ls:List ZB)(hl:Ls.length≤900000)(hA:eO ⟨12,fD,fA,fB,fN,fS,args⟩=true)(hN:i64 fN)(hr:∀r∈bA ⟨12,fD,fA,fB,fN,fS,args⟩++bB ⟨12,fD,fA,fB,fN,fS,args⟩,okH H r):PlT u H fm ⟨12,fD,fA,fB,fN,fS,args⟩ Ls:=by
 have h_fA:okH H fA:=hr _ (by simp[bA,bB,show hb ⟨12,fD,fA,fB,fN,fS,args⟩ 2=true from by show jC (fZ (12:Int)) 2=true;decide])
 have e1:=z68 u hnm H fm hf hf2 fD fA fB fN fS args Ls hl h_fA
 have e2:=z67 u.fName hnm H fm hf hf2 fD fA fB fN fS args Ls hl h_fA
 have:=aY (aC H fA) 3
 try simp only[zqc] at e1 e2
 refine⟨rdL (aC H fA) 3++[aS 2 0 (rdV (aC H fA) 3) 0 0 0 ⟨#[]⟩]++[aS 14 0 0 0 0 0 ⟨#[]⟩],by simp only[la,zqa,lc,ln];omega,?_,?_⟩
 ·simpa only[zqc] using e1
 ·simpa only[zqc] using e2
theorem z5V(u:ZD)(hnm:u.fName.size≤1048576)(H:List Int)(fm:Int)(hf:0≤fm)(hf2:fm≤1000)(fD fA fB fN:Int)(fS:ByteArray)(args:List Int)(Ls:List ZB)(hl:Ls.length≤900000)(hA:eO ⟨20,fD,fA,fB,fN,fS,args⟩=true)(hN:i64 fN)(hr:∀r∈bA ⟨20,fD,fA,fB,fN,fS,args⟩++bB ⟨20,fD,fA,fB,fN,fS,args⟩,okH H r):PlT u H fm ⟨20,fD,fA,fB,fN,fS,args⟩ Ls:=by
 have h_fD:okH H fD:=hr _ (by simp[bA,bB,show hb ⟨20,fD,fA,fB,fN,fS,args⟩ 1=true from by show jC (fZ (20:Int)) 1=true;decide])
 have h_fA:okH H fA:=hr _ (by simp[bA,bB,show hb ⟨20,fD,fA,fB,fN,fS,args⟩ 2=true from by show jC (fZ (20:Int)) 2=true;decide])
 have e1:=z6r u hnm H fm hf hf2 fD fA fB fN fS args Ls hl h_fA h_fD
 have e2:=z6C u.fName hnm H fm hf hf2 fD fA fB fN fS args Ls hl h_fA h_fD
 have:=aY (aC H fA) 3
 have:=nK (aC H fD) 5
 try simp only[zqc] at e1 e2
 refine⟨rdL (aC H fA) 3++[aS 8 5 (rdV (aC H fA) 3) 0 0 0 ⟨#[]⟩]++kpL (aC H fD) 5,by simp only[la,zqa,lc,ln];omega,?_,?_⟩
 ·simpa only[zqc] using e1
 ·simpa only[zqc] using e2
theorem z5n(u:ZD)(hnm:u.fName.size≤1048576)(H:List Int)(fm:Int)(hf:0≤fm)(hf2:fm≤1000)(fD fA fB fN:Int)(fS:ByteArray)(args:List Int)(Ls:List ZB)(hl:Ls.length≤900000)(hA:eO ⟨21,fD,fA,fB,fN,fS,args⟩=true)(hN:i64 fN)(hr:∀r∈bA ⟨21,fD,fA,fB,fN,fS,args⟩++bB ⟨21,fD,fA,fB,fN,fS,args⟩,okH H r):PlT u H fm ⟨21,fD,fA,fB,fN,fS,args⟩ Ls:=by
 have h_fA:okH H fA:=hr _ (by simp[bA,bB,show hb ⟨21,fD,fA,fB,fN,fS,args⟩ 2=true from by show jC (fZ (21:Int)) 2=true;decide])
 have h_fB:okH H fB:=hr _ (by simp[bA,bB,show hb ⟨21,fD,fA,fB,fN,fS,args⟩ 4=true from by show jC (fZ (21:Int)) 4=true;decide])
 have e1:=z6M u hnm H fm hf hf2 fD fA fB fN fS args Ls hl h_fA h_fB
 have e2:=z6P u.fName hnm H fm hf hf2 fD fA fB fN fS args Ls hl h_fA h_fB
 have:=aY (aC H fA) 3
 have:=aY (aC H fB) 4
 try simp only[zqc] at e1 e2
 refine⟨rdL (aC H fA) 3++rdL (aC H fB) 4++[aS 9 0 (rdV (aC H fA) 3) (rdV (aC H fB) 4) 0 0 ⟨#[]⟩],by simp only[la,zqa,lc,ln];omega,?_,?_⟩
 ·simpa only[zqc] using e1
 ·simpa only[zqc] using e2
theorem z5y(u:ZD)(hnm:u.fName.size≤1048576)(H:List Int)(fm:Int)(hf:0≤fm)(hf2:fm≤1000)(fD fA fB fN:Int)(fS:ByteArray)(args:List Int)(Ls:List ZB)(hl:Ls.length≤900000)(hA:eO ⟨22,fD,fA,fB,fN,fS,args⟩=true)(hN:i64 fN)(hr:∀r∈bA ⟨22,fD,fA,fB,fN,fS,args⟩++bB ⟨22,fD,fA,fB,fN,fS,args⟩,okH H r):PlT u H fm ⟨22,fD,fA,fB,fN,fS,args⟩ Ls:=by
 have h_fD:okH H fD:=hr _ (by simp[bA,bB,show hb ⟨22,fD,fA,fB,fN,fS,args⟩ 1=true from by show jC (fZ (22:Int)) 1=true;decide])
 have h_fA:okH H fA:=hr _ (by simp[bA,bB,show hb ⟨22,fD,fA,fB,fN,fS,args⟩ 2=true from by show jC (fZ (22:Int)) 2=true;decide])
 have h_fB:okH H fB:=hr _ (by simp[bA,bB,show hb ⟨22,fD,fA,fB,fN,fS,args⟩ 4=true from by show jC (fZ (22:Int)) 4=true;decide])
 have hq:∀q∈args,okH H q:=fun q hq=>hr _ (by simp[bA,bB,Eg ⟨22,fD,fA,fB,fN,fS,args⟩ (by show(22:Int)≠19;decide),show hb ⟨22,fD,fA,fB,fN,fS,args⟩ 32=true from by show jC (fZ (22:Int)) 32=true;decide,hq])
 have hx:args.length=1:=by simp[eO] at hA;omega
 obtain⟨q,rfl⟩:=List.length_eq_one_iff.1 hx
 have h_q:okH H q:=hq q (by simp)
 have e1:=z5w u hnm H fm hf hf2 fD fA fB fN fS q Ls hl h_fA h_fB h_q h_fD
 have e2:=z6J u.fName hnm H fm hf hf2 fD fA fB fN fS q Ls hl h_fA h_fB h_q h_fD
 have:=aY (aC H fA) 3
 have:=aY (aC H fB) 4
 have:=aY (aC H q) 4
 have:=nK (aC H fD) 5
 try simp only[zqc] at e1 e2
 refine⟨rdL (aC H fA) 3++rdL (aC H fB) 4++[aS 2 5 (rdV (aC H fB) 4) 0 0 0 ⟨#[]⟩]++rdL (aC H q) 4++[aS 10 5 (rdV (aC H fA) 3) (rdV (aC H q) 4) 0 0 ⟨#[]⟩]++kpL (aC H fD) 5,by simp only[la,zqa,lc,ln];omega,?_,?_⟩
 ·simpa only[zqc] using e1
 ·simpa only[zqc] using e2
theorem z6F(u:ZD)(hnm:u.fName.size≤1048576)(H:List Int)(fm:Int)(hf:0≤fm)(hf2:fm≤1000)(fD fA fB fN:Int)(fS:ByteArray)(args:List Int)(Ls:List ZB)(hl:Ls.length≤900000)(hA:eO ⟨23,fD,fA,fB,fN,fS,args⟩=true)(hN:i64 fN)(hr:∀r∈bA ⟨23,fD,fA,fB,fN,fS,args⟩++bB ⟨23,fD,fA,fB,fN,fS,args⟩,okH H r):PlT u H fm ⟨23,fD,fA,fB,fN,fS,args⟩ Ls:=by
 have h_fD:okH H fD:=hr _ (by simp[bA,bB,show hb ⟨23,fD,fA,fB,fN,fS,args⟩ 1=true from by show jC (fZ (23:Int)) 1=true;decide])
 have e1:=z5I u hnm H fm hf hf2 fD fA fB fN fS args Ls hl h_fD
 have e2:=z6S u.fName hnm H fm hf hf2 fD fA fB fN fS args Ls hl h_fD
 have:=nK (aC H fD) 5
 try simp only[zqc] at e1 e2
 refine⟨[aS 18 5 0 0 0 0 ⟨#[]⟩]++kpL (aC H fD) 5,by simp only[la,zqa,lc,ln];omega,?_,?_⟩
 ·simpa only[zqc] using e1
 ·simpa only[zqc] using e2
theorem z5z(u:ZD)(hnm:u.fName.size≤1048576)(H:List Int)(fm:Int)(hf:0≤fm)(hf2:fm≤1000)(fD fA fB fN:Int)(fS:ByteArray)(args:List Int)(Ls:List ZB)(hl:Ls.length≤900000)(hA:eO ⟨24,fD,fA,fB,fN,fS,args⟩=true)(hN:i64 fN)(hr:∀r∈bA ⟨24,fD,fA,fB,fN,fS,args⟩++bB ⟨24,fD,fA,fB,fN,fS,args⟩,okH H r):PlT u H fm ⟨24,fD,fA,fB,fN,fS,args⟩ Ls:=by
 have h_fD:okH H fD:=hr _ (by simp[bA,bB,show hb ⟨24,fD,fA,fB,fN,fS,args⟩ 1=true from by show jC (fZ (24:Int)) 1=true;decide])
 have e1:=z5t u hnm H fm hf hf2 fD fA fB fN fS args Ls hl h_fD
 have e2:=z5H u.fName hnm H fm hf hf2 fD fA fB fN fS args Ls hl h_fD
 have:=nK (aC H fD) 5
 try simp only[zqc] at e1 e2
 refine⟨[aS 1 5 0 0 0 0 fS]++kpL (aC H fD) 5,by simp only[la,zqa,lc,ln];omega,?_,?_⟩
 ·simpa only[zqc] using e1
 ·simpa only[zqc] using e2
theorem z6B(u:ZD)(hnm:u.fName.size≤1048576)(H:List Int)(fm:Int)(hf:0≤fm)(hf2:fm≤1000)(fD fA fB fN:Int)(fS:ByteArray)(args:List Int)(Ls:List ZB)(hl:Ls.length≤900000)(hA:eO ⟨25,fD,fA,fB,fN,fS,args⟩=true)(hN:i64 fN)(hr:∀r∈bA ⟨25,fD,fA,fB,fN,fS,args⟩++bB ⟨25,fD,fA,fB,fN,fS,args⟩,okH H r):PlT u H fm ⟨25,fD,fA,fB,fN,fS,args⟩ Ls:=by
 have h_fA:okH H fA:=hr _ (by simp[bA,bB,show hb ⟨25,fD,fA,fB,fN,fS,args⟩ 2=true from by show jC (fZ (25:Int)) 2=true;decide])
 have e1:=z6X u hnm H fm hf hf2 fD fA fB fN fS args Ls hl h_fA
 have e2:=z5q u.fName hnm H fm hf hf2 fD fA fB fN fS args Ls hl h_fA
 have:=aY (aC H fA) 3
 try simp only[zqc] at e1 e2
 refine⟨rdL (aC H fA) 3++[aS 15 0 (rdV (aC H fA) 3) 0 0 0 ⟨#[]⟩],by simp only[la,zqa,lc,ln];omega,?_,?_⟩
 ·simpa only[zqc] using e1
 ·simpa only[zqc] using e2
theorem z6v(u:ZD)(hnm:u.fName.size≤1048576)(H:List Int)(fm:Int)(hf:0≤fm)(hf2:fm≤1000)(fD fA fB fN:Int)(fS:ByteArray)(args:List Int)(Ls:List ZB)(hl:Ls.length≤900000)(hA:eO ⟨26,fD,fA,fB,fN,fS,args⟩=true)(hN:i64 fN)(hr:∀r∈bA ⟨26,fD,fA,fB,fN,fS,args⟩++bB ⟨26,fD,fA,fB,fN,fS,args⟩,okH H r):PlT u H fm ⟨26,fD,fA,fB,fN,fS,args⟩ Ls:=by
 have h_fA:okH H fA:=hr _ (by simp[bA,bB,show hb ⟨26,fD,fA,fB,fN,fS,args⟩ 2=true from by show jC (fZ (26:Int)) 2=true;decide])
 have h_fB:okH H fB:=hr _ (by simp[bA,bB,show hb ⟨26,fD,fA,fB,fN,fS,args⟩ 4=true from by show jC (fZ (26:Int)) 4=true;decide])
 have e1:=z64 u hnm H fm hf hf2 fD fA fB fN fS args Ls hl h_fA h_fB
 have e2:=z6E u.fName hnm H fm hf hf2 fD fA fB fN fS args Ls hl h_fA h_fB
 have:=aY (aC H fA) 3
 have:=aY (aC H fB) 4
 try simp only[zqc] at e1 e2
 refine⟨rdL (aC H fA) 3++rdL (aC H fB) 4++[aS 16 0 (rdV (aC H fA) 3) (rdV (aC H fB) 4) 0 0 ⟨#[]⟩],by simp only[la,zqa,lc,ln];omega,?_,?_⟩
 ·simpa only[zqc] using e1
 ·simpa only[zqc] using e2
theorem z5d(u:ZD)(hnm:u.fName.size≤1048576)(H:List Int)(fm:Int)(hf:0≤fm)(hf2:fm≤1000)(fD fA fB fN:Int)(fS:ByteArray)(args:List Int)(Ls:List ZB)(hl:Ls.length≤900000)(hA:eO ⟨27,fD,fA,fB,fN,fS,args⟩=true)(hN:i64 fN)(hr:∀r∈bA ⟨27,fD,fA,fB,fN,fS,args⟩++bB ⟨27,fD,fA,fB,fN,fS,args⟩,okH H r):PlT u H fm ⟨27,fD,fA,fB,fN,fS,args⟩ Ls:=by
 have h_fA:okH H fA:=hr _ (by simp[bA,bB,show hb ⟨27,fD,fA,fB,fN,fS,args⟩ 2=true from by show jC (fZ (27:Int)) 2=true;decide])
 have h_fB:okH H fB:=hr _ (by simp[bA,bB,show hb ⟨27,fD,fA,fB,fN,fS,args⟩ 4=true from by show jC (fZ (27:Int)) 4=true;decide])
 have e1:=z5L u hnm H fm hf hf2 fD fA fB fN fS args Ls hl h_fA h_fB
 have e2:=z63 u.fName hnm H fm hf hf2 fD fA fB fN fS args Ls hl h_fA h_fB
 have:=aY (aC H fA) 3
 have:=aY (aC H fB) 4
 try simp only[zqc] at e1 e2
 refine⟨rdL (aC H fA) 3++rdL (aC H fB) 4++[aS 17 0 (rdV (aC H fA) 3) (rdV (aC H fB) 4) 0 0 ⟨#[]⟩],by simp only[la,zqa,lc,ln];omega,?_,?_⟩
 ·simpa only[zqc] using e1
 ·simpa only[zqc] using e2
theorem z5Q(u:ZD)(hnm:u.fName.size≤1048576)(H:List Int)(fm:Int)(hf:0≤fm)(hf2:fm≤1000)(fD fA fB fN:Int)(fS:ByteArray)(args:List Int)(Ls:List ZB)(hl:Ls.length≤900000)(hA:eO ⟨28,fD,fA,fB,fN,fS,args⟩=true)(hN:i64 fN)(hr:∀r∈bA ⟨28,fD,fA,fB,fN,fS,args⟩++bB ⟨28,fD,fA,fB,fN,fS,args⟩,okH H r):PlT u H fm ⟨28,fD,fA,fB,fN,fS,args⟩ Ls:=by
 have h_fA:okH H fA:=hr _ (by simp[bA,bB,show hb ⟨28,fD,fA,fB,fN,fS,args⟩ 2=true from by show jC (fZ (28:Int)) 2=true;decide])
 have e1:=z5e u hnm H fm hf hf2 fD fA fB fN fS args Ls hl h_fA
 have e2:=z5j u.fName hnm H fm hf hf2 fD fA fB fN fS args Ls hl h_fA
 have:=aY (aC H fA) 3
 try simp only[zqc] at e1 e2
 refine⟨rdL (aC H fA) 3++[aS 19 0 (rdV (aC H fA) 3) 0 0 0 ⟨#[]⟩],by simp only[la,zqa,lc,ln];omega,?_,?_⟩
 ·simpa only[zqc] using e1
 ·simpa only[zqc] using e2
theorem zJJ(u:ZD)(hnm:u.fName.size≤1048576)(H:List Int)(fm:Int)(hf:0≤fm)(hf2:fm≤1000)(t:ZC)(Ls:List ZB)(hl:Ls.length≤900000)(h1:1≤t.fOp)(h2:t.fOp≤28)(h3:¬(13≤t.fOp∧t.fOp≤19))(hA:eO t=true)(hN:i64 t.fN)(hr:∀r∈bA t++bB t,okH H r):PlT u H fm t Ls:=by
 obtain⟨op,fD,fA,fB,fN,fS,args⟩:=t
 have h1:1≤op:=h1
 have h2:op≤28:=h2
 have h3:¬(13≤op∧op≤19):=h3
 rcases On h1 h2 with rfl|rfl|rfl|rfl|rfl|rfl|rfl|rfl|rfl|rfl|rfl|rfl|rfl|rfl|rfl|rfl|rfl|rfl|rfl|rfl|rfl|rfl|rfl|rfl|rfl|rfl|rfl|rfl
 ·exact z4q u hnm H fm hf hf2 fD fA fB fN fS args Ls hl hA hN hr
 ·exact z4h u hnm H fm hf hf2 fD fA fB fN fS args Ls hl hA hN hr
 ·exact z4w u hnm H fm hf hf2 fD fA fB fN fS args Ls hl hA hN hr
 ·exact z4G u hnm H fm hf hf2 fD fA fB fN fS args Ls hl hA hN hr
 ·exact z52 u hnm H fm hf hf2 fD fA fB fN fS args Ls hl hA hN hr
 ·exact z4J u hnm H fm hf hf2 fD fA fB fN fS args Ls hl hA hN hr
 ·exact z4a u hnm H fm hf hf2 fD fA fB fN fS args Ls hl hA hN hr
 ·exact z4A u hnm H fm hf hf2 fD fA fB fN fS args Ls hl hA hN hr
 ·exact z4n u hnm H fm hf hf2 fD fA fB fN fS args Ls hl hA hN hr
 ·exact z6y u hnm H fm hf hf2 fD fA fB fN fS args Ls hl hA hN hr
 ·exact z5Y u hnm H fm hf hf2 fD fA fB fN fS args Ls hl hA hN hr
 ·exact z5D u hnm H fm hf hf2 fD fA fB fN fS args Ls hl hA hN hr
 ·omega
 ·omega
 ·omega
 ·omega
 ·omega
 ·omega
 ·omega
 ·exact z5V u hnm H fm hf hf2 fD fA fB fN fS args Ls hl hA hN hr
 ·exact z5n u hnm H fm hf hf2 fD fA fB fN fS args Ls hl hA hN hr
 ·exact z5y u hnm H fm hf hf2 fD fA fB fN fS args Ls hl hA hN hr
 ·exact z6F u hnm H fm hf hf2 fD fA fB fN fS args Ls hl hA hN hr
 ·exact z5z u hnm H fm hf hf2 fD fA fB fN fS args Ls hl hA hN hr
 ·exact z6B u hnm H fm hf hf2 fD fA fB fN fS args Ls hl hA hN hr
 ·exact z6v u hnm H fm hf hf2 fD fA fB fN fS args Ls hl hA hN hr
 ·exact z5d u hnm H fm hf hf2 fD fA fB fN fS args Ls hl hA hN hr
 ·exact z5Q u hnm H fm hf hf2 fD fA fB fN fS args Ls hl hA hN hr
set_option maxRecDepth 8000
set_option maxHeartbeats 8000000
def Fa(t:ZC):Bool:=inB t.fOp 13 19
theorem N8(op:Int):call tab Db [I op]=some (B (inB op 13 19)):=by
 have h:=dP op 13 19
 rw[aT Ry _ rfl,Fk]
 simp -implicitDefEqProofs (disch:=first|assumption|omega) only[go_sem,simprocAttr,h]
theorem Lt(op:Int):call tab y7 [I op]=some (B (inB op 13 19)):=by
 have h:=d3 op 13 19
 rw[aT Po _ rfl,C3]
 simp -implicitDefEqProofs (disch:=first|assumption|omega) only[go_sem,simprocAttr,h]
theorem Qc(t:ZC)(h:Heap)(fr:Nat)(hh:cC fr h=h):evCW tab uR [t.x] h fr=some (B (Fa t),h):=by
 have g:=N8 t.fOp
 rw[aR Rn _ _ _ rfl,E4,Fa]
 generalize inB t.fOp 13 19=b at *
 simp -implicitDefEqProofs (disch:=first|assumption|omega) only[go_sem,simprocAttr,g,hh]
theorem zvq(u:ZD)(hl:u.fCode.length≤1048576)(F L H S:X)(hF:True):∀(Bl:List ZC) (j:Int),u.fCode.drop j.toNat=Bl→0≤j→∀x5:List D,
  loopW tab [1,4,5,6] m3 {env:=upd (upd (upd (upd emp 6 (some (I j))) 5 (some (.rop x5))) 4 (some (.ref (0,0) []))) 1 (some (vpU u)),heap:=upd emp (0,0) (some (.s 8 [])),fr:=0,next:=1} =
  if Bl.any Fa=true then some (.ret,{env:=upd (upd emp 3 (some (B false))) 2 (some (.ref (0,0) [])),heap:=upd emp (0,0) (some (.s 8 [])),fr:=0,next:=1}) else some (.ext 0,{env:=upd (upd (upd emp 5 (some (.rop x5))) 4 (some (.ref (0,0) []))) 1 (some (vpU u)),heap:=upd emp (0,0) (some (.s 8 [])),fr:=0,next:=1})
 |[],j,hd,hj,x5=>by
  have hh:=cJ hd hj
  rw[List.any_nil,if_neg (by simp)]
  unfold loopW
  conv=>lhs;arg 1;unfold m3
  simp -implicitDefEqProofs (disch:=first|assumption|omega) only[go_sem,simprocAttr,hh]
 |t::Bl,j,hd,hj,x5=>by
  have hc:=bT hd hj
  have h2:=d6 ZC.r hc.1
  have h4:=hc.2.1
  simp only[ZC.r] at h2
  have g:=Lt t.fOp
  rw[show inB t.fOp 13 19=Fa t from rfl] at g
  have ih:=zvq u hl F L H S hF Bl (j+1) hc.2.2.1 (by omega) x5
  rw[List.any_cons]
  cases hs:Fa t
  ·rw[hs] at g
   rw[Bool.false_or,←ih]
   conv=>lhs;unfold loopW;arg 1;unfold m3
   simp -implicitDefEqProofs (disch:=first|assumption|omega) only[go_sem,simprocAttr,h2,h4,g]
  ·rw[hs] at g
   rw[Bool.true_or,if_pos rfl]
   conv=>lhs;unfold loopW;arg 1;unfold m3
   simp -implicitDefEqProofs (disch:=first|assumption|omega) only[go_sem,simprocAttr,h2,h4,g]
structure PlOk (H:List Int) (t:ZC):Prop where
 lo:1≤t.fOp
 hi:t.fOp≤28
 un:¬(13≤t.fOp∧t.fOp≤19)
 ar:eO t=true
 nn:i64 t.fN
 rs:∀r∈bA t++bB t,okH H r
theorem zzd(u:ZD)(hnm:u.fName.size≤1048576)(hl:u.fCode.length≤900)(H:List Int)(fm:Int)(hf:0≤fm)(hf2:fm≤1000):∀(Bl:List ZC) (j:Int) (Ls:List ZB),u.fCode.drop j.toNat=Bl→0≤j→Ls.length+20*Bl.length≤100000→(∀t∈Bl,PlOk H t) →
  ∃L:List ZB,L.length≤20*Bl.length ∧
  loopW tab [6,36,37,38] pT {env:=upd (upd (upd (upd emp 38 (some (I j))) 37 (some (I (u.fCode.length:Int)))) 36 (some (.d (.r (u.fCode.map ZC.r))))) 6 (some (.ptr (0,0) [] 0 0)),heap:=eH u H fm Ls,fr:=0,next:=1} =
   some (.ext 0,{env:=upd emp 6 (some (.ptr (0,0) [] 0 0)),heap:=eH u H fm (Ls++L),fr:=0,next:=1}) ∧
  loopW tab [1,7,8] pS {env:=upd (upd (upd emp 8 (some (I j))) 7 (some (.ptr (0,0) [] 0 0))) 1 (some (vpU u)),heap:=gH u.fName H fm Ls,fr:=0,next:=1} =
   some (.ext 2,{env:=upd emp 7 (some (.ptr (0,0) [] 0 0)),heap:=gH u.fName H fm (Ls++L),fr:=0,next:=1})
 |[],j,Ls,hd,hj,hb,hp=>by
  have hh:=cJ hd hj
  refine⟨[],by simp,?_,?_⟩
  ·rw[zqe]
   unfold loopW
   conv=>lhs;arg 1;unfold pT
   simp -implicitDefEqProofs (disch:=first|assumption|omega) only[go_sem,simprocAttr,hh]
  ·rw[zqe]
   unfold loopW
   conv=>lhs;arg 1;unfold pS
   simp -implicitDefEqProofs (disch:=first|assumption|omega) only[go_sem,simprocAttr,hh]
 |t::Bl,j,Ls,hd,hj,hb,hp=>by
  have hc:=bT hd hj
  have h2:=d6 ZC.r hc.1
  have h4:=hc.2.1
  simp only[ZC.r] at h2
  have ht:=hp t (by simp)
  rw[lc] at hb
  obtain⟨L1,l1,p1,p2⟩:=zJJ u hnm H fm hf hf2 t Ls (by omega) ht.lo ht.hi ht.un ht.ar ht.nn ht.rs
  obtain⟨L2,l2,q1,q2⟩:=zzd u hnm hl H fm hf hf2 Bl (j+1) (Ls++L1) hc.2.2.1 (by omega) (by rw[la];omega) (fun t h=>hp t (by simp[h]))
  refine⟨L1++L2,by rw[la,lc];omega,?_,?_⟩
  ·rw[←List.append_assoc,←q1]
   generalize Ls++L1=W at *
   clear q1 q2 p2
   simp only[eH,ZC.x] at p1 ⊢
   conv=>lhs;unfold loopW;arg 1;unfold pT
   simp -implicitDefEqProofs (disch:=first|assumption|omega|(simp only[aE,aL,aF,i64,sa,aB,lm,la,lc,ln];omega)) only[go_sem,simprocAttr,h2,h4,p1]
  ·rw[←List.append_assoc,←q2]
   generalize Ls++L1=W at *
   clear q1 q2 p1
   simp only[gH,ZC.x] at p2 ⊢
   conv=>lhs;unfold loopW;arg 1;unfold pS
   simp -implicitDefEqProofs (disch:=first|assumption|omega|(simp only[aE,aL,aF,i64,sa,aB,lm,la,lc,ln];omega)) only[go_sem,simprocAttr,h2,h4,p2]
set_option maxRecDepth 8000
set_option maxHeartbeats 16000000
theorem zW8{u:ZD}(h:qI u=true){t:ZC}(ht:t∈u.fCode):Sg t u.fRegs=true:=by
 simp only[qI,bE,inB,zqd] at h
 obtain⟨⟨⟨⟨h1,h2⟩,h3⟩,h4⟩,h5⟩:=h
 obtain⟨k,hk⟩:=List.mem_iff_getElem?.1 ht
 have:=Gd u u.fCode 0 h4 k t hk
 simp only[Ck,bE] at this
 exact this.1
theorem z9v{u:ZD}(hu:qI u=true)(hL:(bH u).Least (live u))(hn:u.fCode.any Fa=false){t:ZC}(ht:t∈u.fCode):PlOk (homU u).1 t:=by
 have hb:=zW8 hu ht
 simp only[Sg,bE] at hb
 obtain⟨⟨⟨⟨⟨⟨⟨⟨⟨b1,b2⟩,b3⟩,b4⟩,b5⟩,_⟩,_⟩,_⟩,_⟩,_⟩:=hb
 simp only[inB,bE,zqd] at b1
 have hs:Fa t=false:=by
  rw[List.any_eq_false] at hn
  simpa using hn t ht
 refine⟨b1.1,b1.2,fun h=> ?_,b2,?_,fun r hr=>zYM (lM hu) hL ht hr⟩
 ·simp[Fa,inB,h.1,h.2] at hs
 ·simp only[zQi,inB,bE,zqd] at b5
  exact⟨by omega,by omega⟩
def T6(u:ZD):ZB:=⟨u.fName,⟨0,0,0,0,0,0⟩,⟨#[]⟩⟩
theorem Fy(u:ZD)(hs:u.sm):∃(R:List ZB) (ok:Bool),R.length≤18001∧call tab D8 [u.x]=some (.tup [.d (.s 8 (R.map ZB.o)),B ok])∧call tab Ec [u.x]=some (.tup [.d (.s 8 (R.map ZB.o)),B ok]):=by
 have u0:=lY u hs
 have u1:=C1 u hs
 by_cases hu:qI u=true
 ·have hr:=lM hu
  rw[hu] at u0 u1
  obtain⟨I1,hI,hL,_⟩:=lS u hr hs
  have i1:=Fe u hs hu
  obtain⟨F,L,g1⟩:=x4 u hs hr
  have hlen:=hr.len
  have hany:=t7 uR Fa emp 1 (i7 _) (i7 _) u.fCode (by omega) (fun t _=>Qc t emp 3 (i7 _))
  have hgs:=zvq u (by omega) (I 0) (I 0) (I 0) (I 0) trivial u.fCode 0 rfl (by omega) [.r (aG F),.r (aG L),.r (aG (homU u).1),DI (homU u).2]
  have hsl:=Uc hr
  by_cases hn:u.fCode.any Fa=true
  ·refine⟨[],false,by simp,?_,?_⟩
   ·rw[hn] at hany
    rw[aT uX _ rfl,qR]
    simp -implicitDefEqProofs (disch:=first|assumption|omega|(simp only[aE,aL,aF,i64,sa,aB,lm,la,lc,ln];omega)) only[go_sem,simprocAttr,u0,hany,mn]
   ·rw[if_pos hn] at hgs
    rw[aT u6 _ rfl,qB]
    generalize homU u=S at *
    obtain⟨S1,S2⟩:=S
    simp -implicitDefEqProofs (disch:=first|assumption|omega|(simp only[aE,aL,aF,i64,sa,aB,lm,la,lc,ln];omega)) only[go_sem,simprocAttr,u1,g1,hgs,mn]
  ·rw[Bool.not_eq_true] at hn
   have hpl:=fun t ht=>z9v hu hL hn (t:=t) ht
   rw[hn] at hany
   rw[if_neg (by rw[hn];simp)] at hgs
   by_cases hf:(homU u).2+2≤60
   ·obtain⟨L1,l1,p1,p2⟩:=zzd u hs.1 hlen.2 (homU u).1 ((homU u).2+2) (by omega) (by omega) u.fCode 0 [T6 u] rfl (by omega) (by simp;omega) hpl
    refine⟨[T6 u]++L1,true,by simp;omega,?_,?_⟩
    ·clear p2 hpl g1 hgs
     simp only[eH] at p1
     generalize homU u=S at *
     obtain⟨S1,S2⟩:=S
     simp only at p1 hf hsl
     generalize [T6 u]++L1=W at *
     rw[aT uX _ rfl,qR]
     simp only[T6,mc,mn,ZB.o] at p1
     simp -implicitDefEqProofs (disch:=first|assumption|omega|(simp only[aE,aL,aF,i64,sa,aB,lm,la,lc,ln];omega)) only[go_sem,simprocAttr,u0,hany,i1,p1,cM]
    ·clear p1 hpl i1
     simp only[gH] at p2
     generalize homU u=S at *
     obtain⟨S1,S2⟩:=S
     simp only at p2 hf hsl
     generalize [T6 u]++L1=W at *
     rw[aT u6 _ rfl,qB]
     simp only[T6,mc,mn,ZB.o] at p2
     simp -implicitDefEqProofs (disch:=first|assumption|omega|(simp only[aE,aL,aF,i64,sa,aB,lm,la,lc,ln];omega)) only[go_sem,simprocAttr,u1,g1,hgs,p2,mn,zqf]
   ·refine⟨[],false,by simp,?_,?_⟩
    ·clear hpl g1 hgs
     generalize homU u=S at *
     obtain⟨S1,S2⟩:=S
     simp only at hf hsl
     rw[aT uX _ rfl,qR]
     simp -implicitDefEqProofs (disch:=first|assumption|omega|(simp only[aE,aL,aF,i64,sa,aB,lm,la,lc,ln];omega)) only[go_sem,simprocAttr,u0,hany,i1,mn]
    ·clear hpl i1
     generalize homU u=S at *
     obtain⟨S1,S2⟩:=S
     simp only at hf hsl
     rw[aT u6 _ rfl,qB]
     simp -implicitDefEqProofs (disch:=first|assumption|omega|(simp only[aE,aL,aF,i64,sa,aB,lm,la,lc,ln];omega)) only[go_sem,simprocAttr,u1,g1,hgs,mn]
 ·rw[Bool.not_eq_true] at hu
  rw[hu] at u0 u1
  refine⟨[],false,by simp,?_,?_⟩
  ·rw[aT uX _ rfl,qR]
   simp -implicitDefEqProofs (disch:=first|assumption|omega|(simp only[aE,aL,aF,i64,sa,aB,lm,la,lc,ln];omega)) only[go_sem,simprocAttr,u0,mn]
  ·rw[aT u6 _ rfl,qB]
   simp -implicitDefEqProofs (disch:=first|assumption|omega|(simp only[aE,aL,aF,i64,sa,aB,lm,la,lc,ln];omega)) only[go_sem,simprocAttr,u1,mn]
theorem zzu:∀xs:List ZB,ZB.cts xs=8*xs.length
 |[]=>rfl
 |x::xs=>by rw[ZB.cts,zzu xs];simp[ZB.ct];omega
end Go.Ev.G
