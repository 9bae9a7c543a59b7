import Derived.Test.YtcaonmepamlclaaGreatEvQUnit2
import Derived.Test.YtcaonmepamlclaaGreatEvPMach
set_option linter.all false
namespace Go.Ev.G
mutual
def ZB.fold{β:Type}(f:Int→ByteArray→Int→List (ZB×β)→β):ZB→β
 |.mk op tx v ks=>f op tx v (zkg f ks)
def zkg{β:Type}(f:Int→ByteArray→Int→List (ZB×β)→β):List ZB→List (ZB×β)
 |[]=>[]
 |x::xs=>(x,x.fold f)::zkg f xs
end
theorem zzc{β:Type}(f:Int→ByteArray→Int→List (ZB×β)→β):∀ks:List ZB,zkg f ks=ks.map fun k=>(k,k.fold f)
 |[]=>by rw[zkg];rfl
 |x::xs=>by rw[zkg,zzc f xs];rfl
theorem ZB.fold_eq{β:Type}(f:Int→ByteArray→Int→List (ZB×β)→β)(op:Int)(tx:ByteArray)(v:Int)(ks:List ZB):(ZB.mk op tx v ks).fold f=f op tx v (ks.map fun k=>(k,k.fold f)):=by rw[ZB.fold,zzc]
abbrev emS:ByteArray:=⟨#[]⟩
def eL(kw:ByteArray→Bool)(s:ByteArray):Bool:=decide (1≤(s.size:Int)∧(s.size:Int)≤10)&&s.data.toList.all (fun b=>decide (97≤(b.toNat:Int)∧(b.toNat:Int)≤122)||decide (65≤(b.toNat:Int)∧(b.toNat:Int)≤90))&& !kw s
structure TD where
 e:Bool
 b:Bool
 s:Bool
 c:Bool
section
variable(kw:ByteArray→Bool)
def lP(op:Int)(tx:ByteArray)(v:Int)(k:Nat):Bool :=
 if op=19 then decide (tx=emS)&&decide (-2147483647≤v∧v≤2147483647)&&decide (k=0)
 else if op=20∨op=31 then eL kw tx&&decide (v=0)&&decide (k=0)
 else if op=21∨op=22∨op=23∨op=24∨op=25 then decide (tx=emS)&&decide (v=0)&&decide (k=2)
 else if op=26 then eL kw tx&&decide (v=0)
 else if op=27∨op=28 then decide (tx=emS)&&decide (v=0)&&decide (k=1)
 else if op=29 then decide (tx=emS)&&decide (v=0)&&decide (k=3)
 else if op=30 then decide (tx=emS)&&decide (v=0)&&decide (k=0)
 else false
def Gz(op:Int)(tx:ByteArray):Option (Bool×Nat) :=
 if op=32 then some (eL kw tx,1) else if op=33 then some (decide (tx=emS),2) else if op=34 then some (decide (tx=emS),0) else none
def zzp(op:Int)(tx:ByteArray)(k:Nat):Option (Bool×Nat×Nat) :=
 if op=2∨op=3∨op=10 then some (eL kw tx,1,0)
 else if op=6∨op=7∨op=11∨op=16∨op=17∨op=18 then some (decide (tx=emS),1,0)
 else if op=9∨op=13∨op=14∨op=15 then some (decide (tx=emS),2,0)
 else if op=8 then some (eL kw tx,k,0)
 else if op=4 then some (decide (tx=emS),1,if k=3 then 2 else 1)
 else if op=5 then some (decide (tx=emS),1,1)
 else none
def tdF(op:Int)(tx:ByteArray)(v:Int)(ks:List (ZB×TD)):TD where
 e:=lP kw op tx v ks.length&&ks.all fun k=>k.2.e
 b:=decide (op=1)&&decide (tx=emS)&&decide (v=0)&&ks.all fun k=>k.2.s
 s:=if op=12 then decide (tx=emS)&&decide (v=0)&&ks.all fun k=>k.2.c
  else match zzp kw op tx ks.length with
   |some (nm,es,bs)=>nm&&decide (v=0)&&decide (ks.length=es+bs)&&((ks.take es).all fun k=>k.2.e)&&((ks.drop es).all fun k=>k.2.b)
   |none=>false
 c:=match Gz kw op tx with
  |some (nm,es)=>nm&&decide (v=0)&&decide (ks.length=es+1)&&((ks.take es).all fun k=>k.2.e)&&((ks.drop es).all fun k=>k.2.b)
  |none=>false
def ZB.td(x:ZB):TD:=x.fold (tdF kw)
def aT(ks:List (ZB×Bool))(many:Nat):Bool:=decide (many≤ks.length)&&(ks.take many).all fun k=>decide (19≤k.1.op∧k.1.op≤31)&&k.2
def cP(ks:List (ZB×Bool))(from_:Nat):Bool:=(ks.drop from_).all fun k=>decide (k.1.op=1)&&k.2
def pM:List (ZB×Bool)→Bool
 |[]=>true
 |k::ks=>decide (32≤k.1.op∧k.1.op≤34)&& !(decide (k.1.op=34)&& !ks.isEmpty)&&k.2&&pM ks
def aU(op:Int)(ks:List (ZB×Bool)):Bool :=
 if op=1 then ks.all fun k=>decide (2≤k.1.op∧k.1.op≤18)&&k.2
 else if op=2∨op=3∨op=6∨op=7∨op=10∨op=11∨op=16∨op=17∨op=18∨op=27∨op=28 then decide (ks.length=1)&&aT ks 1
 else if op=9∨op=13∨op=14∨op=15∨op=21∨op=22∨op=23∨op=24∨op=25 then decide (ks.length=2)&&aT ks 2
 else if op=4 then decide (2≤ks.length∧ks.length≤3)&&aT ks 1&&cP ks 1
 else if op=5∨op=32 then decide (ks.length=2)&&aT ks 1&&cP ks 1
 else if op=33 then decide (ks.length=3)&&aT ks 2&&cP ks 2
 else if op=34 then decide (ks.length=1)&&cP ks 0
 else if op=8∨op=26 then aT ks ks.length
 else if op=29 then decide (ks.length=3)&&aT ks 3
 else if op=12 then pM ks
 else decide (ks.length=0)
def sF(op:Int)(tx:ByteArray)(v:Int)(ks:List (ZB×Bool)):Bool :=
 aU op ks&& !(!decide (v=0)&& !decide (op=19)) &&
  (if op=2∨op=3∨op=8∨op=10∨op=20∨op=26∨op=31∨op=32 then eL kw tx
   else if op=19 then decide (tx=emS)&&decide (-2147483647≤v∧v≤2147483647)
   else decide (tx=emS)&&decide (1≤op∧op≤34))
def ZB.sTd(x:ZB):Bool:=x.fold (sF kw)
def nI(op:Int)(ks:List ZB):Bool:=decide (op=12)&&((ks.dropLast.any fun k=>decide (k.op=34)) || !decide (1≤(ks.filter fun k=> !decide (k.op=34)).length∧(ks.filter fun k=> !decide (k.op=34)).length≤3))
def ZB.crowd(x:ZB):Bool:=x.fold fun op _ _ ks=>nI op (ks.map (·.1))||ks.any (·.2)
def Pz(op:Int)(ks:List ZB):Bool:= !decide (op=12)||(match ks.getLast? with
 |some k=>decide (1≤ks.length-(if k.op=34 then 1 else 0)∧ks.length-(if k.op=34 then 1 else 0)≤3)
 |none=>false)
def ZB.sel(x:ZB):Bool:=x.fold fun op _ _ ks=>Pz op (ks.map (·.1))&&ks.all (·.2)
def ZB.kindOk(x:ZB):Bool :=
 if x.op=1 then(x.td kw).b else if 2≤x.op∧x.op≤18 then(x.td kw).s else if 19≤x.op∧x.op≤31 then(x.td kw).e else if 32≤x.op∧x.op≤34 then(x.td kw).c else false
end
end Go.Ev.G
set_option maxHeartbeats 4000000
namespace Go.Ev.G
variable(kw:ByteArray→Bool)
theorem wB(op:Int)(tx:ByteArray)(v:Int)(ks:List ZB):(ZB.mk op tx v ks).td kw=tdF kw op tx v (ks.map fun k=>(k,k.td kw)):=ZB.fold_eq ..
theorem Jk(op:Int)(tx:ByteArray)(v:Int)(ks:List ZB):(ZB.mk op tx v ks).sTd kw=sF kw op tx v (ks.map fun k=>(k,k.sTd kw)):=ZB.fold_eq ..
theorem F0(op:Int)(tx:ByteArray)(v:Int)(ks:List ZB):(ZB.mk op tx v ks).crowd=(nI op ks||ks.any ZB.crowd):=by
 rw[ZB.crowd,ZB.fold_eq]
 simp only[List.map_map,List.any_map]
 have e1:(ks.map ((fun x=>x.1) ∘ fun k=>(k,k.crowd)))=ks:=by
  rw[show((fun x:ZB×Bool=>x.1) ∘ fun k=>(k,k.crowd))=id from rfl,List.map_id]
 exact congrArg (fun l=>nI op l||_) e1
theorem sN(op:Int)(tx:ByteArray)(v:Int)(ks:List ZB):(ZB.mk op tx v ks).sel=(Pz op ks&&ks.all ZB.sel):=by
 rw[ZB.sel,ZB.fold_eq]
 simp only[List.map_map,List.all_map]
 have e1:(ks.map ((fun x=>x.1) ∘ fun k=>(k,k.sel)))=ks:=by
  rw[show((fun x:ZB×Bool=>x.1) ∘ fun k=>(k,k.sel))=id from rfl,List.map_id]
 exact congrArg (fun l=>Pz op l&&_) e1
theorem z1G{x:ZB}(h:(x.td kw).e=true):19≤x.op∧x.op≤31:=by
 obtain⟨op,tx,v,ks⟩:=x
 rw[wB] at h
 simp only[tdF,bE] at h
 have h:=h.1
 unfold lP at h
 simp only[ZB.op]
 repeat'(first|omega|(split at h;rotate_left))
 simp at h
theorem z2q{x:ZB}(h:(x.td kw).b=true):x.op=1:=by
 obtain⟨op,tx,v,ks⟩:=x
 rw[wB] at h
 simp only[tdF,bE,decide_eq_true_eq] at h
 exact h.1.1.1
theorem zVx{op:Int}{tx:ByteArray}{k:Nat}{r:Bool×Nat×Nat}(h:zzp kw op tx k=some r):2≤op∧op≤18:=by
 unfold zzp at h
 repeat'(first|omega|(split at h;rotate_left))
 simp at h
theorem zWy{op:Int}{tx:ByteArray}{r:Bool×Nat}(h:Gz kw op tx=some r):32≤op∧op≤34:=by
 unfold Gz at h
 repeat'(first|omega|(split at h;rotate_left))
 simp at h
theorem z2K{x:ZB}(h:(x.td kw).s=true):2≤x.op∧x.op≤18:=by
 obtain⟨op,tx,v,ks⟩:=x
 rw[wB] at h
 simp only[tdF] at h
 simp only[ZB.op]
 split at h
 ·omega
 ·split at h
  ·exact zVx kw ‹_›
  ·simp at h
theorem z1C{x:ZB}(h:(x.td kw).c=true):32≤x.op∧x.op≤34:=by
 obtain⟨op,tx,v,ks⟩:=x
 rw[wB] at h
 simp only[tdF] at h
 simp only[ZB.op]
 split at h
 ·exact zWy kw ‹_›
 ·simp at h
def nX(x:ZB):Prop:=(x.sTd kw=true∧x.sel=true)↔(x.kindOk kw=true∧x.crowd=false)
theorem z1x{x:ZB}(h:nX kw x):((19≤x.op∧x.op≤31)∧x.sTd kw=true)∧x.sel=true↔(x.td kw).e=true∧x.crowd=false:=by
 constructor
 ·rintro ⟨⟨h1,h2⟩,h3⟩
  obtain⟨h4,h5⟩:=h.1 ⟨h2,h3⟩
  unfold ZB.kindOk at h4
  rw[if_neg (by omega),if_neg (by omega),if_pos h1] at h4
  exact⟨h4,h5⟩
 ·rintro ⟨h1,h2⟩
  have h3:=z1G kw h1
  have h4:x.kindOk kw=true:=by
   unfold ZB.kindOk
   rw[if_neg (by omega),if_neg (by omega),if_pos h3];exact h1
  obtain⟨h5,h6⟩:=h.2 ⟨h4,h2⟩
  exact⟨⟨h3,h5⟩,h6⟩
theorem z1v{x:ZB}(h:nX kw x):(x.op=1∧x.sTd kw=true)∧x.sel=true↔(x.td kw).b=true∧x.crowd=false:=by
 constructor
 ·rintro ⟨⟨h1,h2⟩,h3⟩
  obtain⟨h4,h5⟩:=h.1 ⟨h2,h3⟩
  unfold ZB.kindOk at h4
  rw[if_pos h1] at h4
  exact⟨h4,h5⟩
 ·rintro ⟨h1,h2⟩
  have h3:=z2q kw h1
  have h4:x.kindOk kw=true:=by
   unfold ZB.kindOk
   rw[if_pos h3];exact h1
  obtain⟨h5,h6⟩:=h.2 ⟨h4,h2⟩
  exact⟨⟨h3,h5⟩,h6⟩
theorem z1J{x:ZB}(h:nX kw x):((2≤x.op∧x.op≤18)∧x.sTd kw=true)∧x.sel=true↔(x.td kw).s=true∧x.crowd=false:=by
 constructor
 ·rintro ⟨⟨h1,h2⟩,h3⟩
  obtain⟨h4,h5⟩:=h.1 ⟨h2,h3⟩
  unfold ZB.kindOk at h4
  rw[if_neg (by omega),if_pos h1] at h4
  exact⟨h4,h5⟩
 ·rintro ⟨h1,h2⟩
  have h3:=z2K kw h1
  have h4:x.kindOk kw=true:=by
   unfold ZB.kindOk
   rw[if_neg (by omega),if_pos h3];exact h1
  obtain⟨h5,h6⟩:=h.2 ⟨h4,h2⟩
  exact⟨⟨h3,h5⟩,h6⟩
theorem z1H{x:ZB}(h:nX kw x):((32≤x.op∧x.op≤34)∧x.sTd kw=true)∧x.sel=true↔(x.td kw).c=true∧x.crowd=false:=by
 constructor
 ·rintro ⟨⟨h1,h2⟩,h3⟩
  obtain⟨h4,h5⟩:=h.1 ⟨h2,h3⟩
  unfold ZB.kindOk at h4
  rw[if_neg (by omega),if_neg (by omega),if_neg (by omega),if_pos h1] at h4
  exact⟨h4,h5⟩
 ·rintro ⟨h1,h2⟩
  have h3:=z1C kw h1
  have h4:x.kindOk kw=true:=by
   unfold ZB.kindOk
   rw[if_neg (by omega),if_neg (by omega),if_neg (by omega),if_pos h3];exact h1
  obtain⟨h5,h6⟩:=h.2 ⟨h4,h2⟩
  exact⟨⟨h3,h5⟩,h6⟩
theorem zjT{P Q:ZB→Prop}{f g:ZB→Bool}{l:List ZB}(h:∀x∈l,(P x∧f x=true↔Q x∧g x=false)):((∀x∈l,P x)∧l.all f=true)↔((∀x∈l,Q x)∧l.any g=false):=by
 simp only[List.all_eq_true,List.any_eq_false,Bool.not_eq_true]
 constructor
 ·rintro ⟨h1,h2⟩
  exact⟨fun x hx=>((h x hx).1 ⟨h1 x hx,h2 x hx⟩).1,fun x hx=>((h x hx).1 ⟨h1 x hx,h2 x hx⟩).2⟩
 ·rintro ⟨h1,h2⟩
  exact⟨fun x hx=>((h x hx).2 ⟨h1 x hx,h2 x hx⟩).1,fun x hx=>((h x hx).2 ⟨h1 x hx,h2 x hx⟩).2⟩
def Eb(kw:ByteArray→Bool)(ks:List ZB)(es:Nat):Prop:=(∀x∈ks.take es,(x.td kw).e=true)∧∀x∈ks.drop es,(x.td kw).b=true
def Sb(kw:ByteArray→Bool)(ks:List ZB)(es:Nat):Prop:=(∀x∈ks.take es,(19≤x.op∧x.op≤31)∧x.sTd kw=true)∧∀x∈ks.drop es,x.op=1∧x.sTd kw=true
theorem z2I{ks:List ZB}(H:∀x∈ks,nX kw x)(es:Nat):(Sb kw ks es∧ks.all ZB.sel=true)↔(Eb kw ks es∧ks.any ZB.crowd=false):=by
 have h1:=zjT (l:=ks.take es) (f:=ZB.sel) (g:=ZB.crowd) (fun x hx=>z1x kw (H x (List.mem_of_mem_take hx)))
 have h2:=zjT (l:=ks.drop es) (f:=ZB.sel) (g:=ZB.crowd) (fun x hx=>z1v kw (H x (List.mem_of_mem_drop hx)))
 have e1:ks.all ZB.sel=((ks.take es).all ZB.sel&&(ks.drop es).all ZB.sel):=by rw[←List.all_append,List.take_append_drop]
 have e2:ks.any ZB.crowd=((ks.take es).any ZB.crowd||(ks.drop es).any ZB.crowd):=by rw[←List.any_append,List.take_append_drop]
 rw[e1,e2,bE,Bool.or_eq_false_iff,Sb,Eb]
 constructor
 ·rintro ⟨⟨a,b⟩,c,d⟩
  obtain⟨a',c'⟩:=h1.1 ⟨a,c⟩
  obtain⟨b',d'⟩:=h2.1 ⟨b,d⟩
  exact⟨⟨a',b'⟩,c',d'⟩
 ·rintro ⟨⟨a,b⟩,c,d⟩
  obtain⟨a',c'⟩:=h1.2 ⟨a,c⟩
  obtain⟨b',d'⟩:=h2.2 ⟨b,d⟩
  exact⟨⟨a',b'⟩,c',d'⟩
end Go.Ev.G
set_option maxHeartbeats 4000000
namespace Go.Ev.G
variable(kw:ByteArray→Bool)
theorem Bj(ks:List ZB)(m:Nat):aT (ks.map fun k=>(k,k.sTd kw)) m=true↔m≤ks.length∧∀x∈ks.take m,(19≤x.op∧x.op≤31)∧x.sTd kw=true:=by
 unfold aT
 rw[←List.map_take,lm,bE,decide_eq_true_eq,List.all_map,List.all_eq_true]
 simp only[Function.comp_apply,bE,decide_eq_true_eq]
theorem O8(ks:List ZB)(m:Nat):cP (ks.map fun k=>(k,k.sTd kw)) m=true↔∀x∈ks.drop m,x.op=1∧x.sTd kw=true:=by
 unfold cP
 rw[←List.map_drop,List.all_map,List.all_eq_true]
 simp only[Function.comp_apply,bE,decide_eq_true_eq]
theorem Zz(ks:List ZB)(m:Nat):(((ks.map fun k=>(k,k.td kw)).take m).all fun k=>k.2.e)=true↔∀x∈ks.take m,(x.td kw).e=true:=by
 rw[←List.map_take,List.all_map,List.all_eq_true]
 simp only[Function.comp_apply]
theorem zzk(ks:List ZB)(m:Nat):(((ks.map fun k=>(k,k.td kw)).drop m).all fun k=>k.2.b)=true↔∀x∈ks.drop m,(x.td kw).b=true:=by
 rw[←List.map_drop,List.all_map,List.all_eq_true]
 simp only[Function.comp_apply]
theorem zX2(ks:List ZB):((ks.map fun k=>(k,k.td kw)).all fun k=>k.2.e)=true↔Eb kw ks ks.length:=by
 rw[List.all_map,List.all_eq_true,Eb]
 simp only[Function.comp_apply,List.take_length,List.drop_length,List.not_mem_nil,false_implies,implies_true,and_true]
theorem zQV{ks:List ZB}{m:Nat}(h:ks.length=m)(P:ZB→Prop):∀x∈ks.drop m,P x:=by
 intro x hx
 rw[←h,List.drop_length] at hx
 simp at hx
theorem zw4{x:ZB}(h:x.op=1):x.kindOk kw=(x.td kw).b:=by unfold ZB.kindOk;rw[if_pos h]
theorem zYE{x:ZB}(h:2≤x.op∧x.op≤18):x.kindOk kw=(x.td kw).s:=by unfold ZB.kindOk;rw[if_neg (by omega),if_pos h]
theorem zXR{x:ZB}(h:19≤x.op∧x.op≤31):x.kindOk kw=(x.td kw).e:=by unfold ZB.kindOk;rw[if_neg (by omega),if_neg (by omega),if_pos h]
theorem z2g{x:ZB}(h:32≤x.op∧x.op≤34):x.kindOk kw=(x.td kw).c:=by unfold ZB.kindOk;rw[if_neg (by omega),if_neg (by omega),if_neg (by omega),if_pos h]
theorem z38{x:ZB}(h:x.op<1∨34<x.op):x.kindOk kw=false:=by unfold ZB.kindOk;rw[if_neg (by omega),if_neg (by omega),if_neg (by omega),if_neg (by omega)]
theorem zzK{op:Int}{tx:ByteArray}{v:Int}{ks:List ZB}{es bs:Nat}{nm:Prop}(H:∀x∈ks,nX kw x)(hne:op≠12)
  (hs:sF kw op tx v (ks.map fun k=>(k,k.sTd kw))=true↔nm∧v=0∧ks.length=es+bs∧Sb kw ks es)
  (hk:(ZB.mk op tx v ks).kindOk kw=true↔nm∧v=0∧ks.length=es+bs∧Eb kw ks es):nX kw (.mk op tx v ks):=by
 have h1:=z2I kw H es
 have h2:Pz op ks=true:=by simp[Pz,hne]
 have h3:nI op ks=false:=by simp[nI,hne]
 unfold nX
 rw[Jk,sN,F0,hs,hk,h2,h3,bta,Bool.false_or]
 constructor
 ·rintro ⟨⟨a,b,c,d⟩,e⟩
  obtain⟨f,g⟩:=h1.1 ⟨d,e⟩
  exact⟨⟨a,b,c,f⟩,g⟩
 ·rintro ⟨⟨a,b,c,d⟩,e⟩
  obtain⟨f,g⟩:=h1.2 ⟨d,e⟩
  exact⟨⟨a,b,c,f⟩,g⟩
theorem zjf{op:Int}{tx:ByteArray}{v:Int}{ks:List ZB}{es bs:Nat}{nm:Bool}(H:∀x∈ks,nX kw x)(h1:2≤op∧op≤18)(hne:op≠12)(hm:zzp kw op tx ks.length=some (nm,es,bs))
  (hs:sF kw op tx v (ks.map fun k=>(k,k.sTd kw))=true↔nm=true∧v=0∧ks.length=es+bs∧Sb kw ks es):nX kw (.mk op tx v ks):=by
 refine zzK kw H hne hs ?_
 rw[zYE kw (x:= .mk op tx v ks) h1,wB]
 simp only[tdF,lm]
 rw[if_neg hne,hm]
 simp only[bE,decide_eq_true_eq,Zz,zzk,Eb]
 constructor
 ·rintro ⟨⟨⟨⟨a,b⟩,c⟩,d⟩,e⟩
  exact⟨a,b,c,d,e⟩
 ·rintro ⟨a,b,c,d,e⟩
  exact⟨⟨⟨⟨a,b⟩,c⟩,d⟩,e⟩
theorem zjB{op:Int}{tx:ByteArray}{v:Int}{ks:List ZB}{es:Nat}{nm:Bool}(H:∀x∈ks,nX kw x)(h1:32≤op∧op≤34)(hm:Gz kw op tx=some (nm,es))
  (hs:sF kw op tx v (ks.map fun k=>(k,k.sTd kw))=true↔nm=true∧v=0∧ks.length=es+1∧Sb kw ks es):nX kw (.mk op tx v ks):=by
 refine zzK kw H (by omega) hs ?_
 rw[z2g kw (x:= .mk op tx v ks) h1,wB]
 simp only[tdF,lm]
 rw[hm]
 simp only[bE,decide_eq_true_eq,Zz,zzk,Eb]
 constructor
 ·rintro ⟨⟨⟨⟨a,b⟩,c⟩,d⟩,e⟩
  exact⟨a,b,c,d,e⟩
 ·rintro ⟨a,b,c,d,e⟩
  exact⟨⟨⟨⟨a,b⟩,c⟩,d⟩,e⟩
theorem zzS{ks:List ZB}{n:Nat}(hn:ks.length=n):aT (ks.map fun k=>(k,k.sTd kw)) n=true↔Sb kw ks n:=by
 rw[Bj,Sb]
 exact⟨fun h=>⟨h.2,zQV hn _⟩,fun h=>⟨by omega,h.1⟩⟩
theorem zJ{ks:List ZB}{n:Nat}(hn:n≤ks.length):(aT (ks.map fun k=>(k,k.sTd kw)) n=true∧cP (ks.map fun k=>(k,k.sTd kw)) n=true)↔Sb kw ks n:=by
 rw[Bj,O8,Sb]
 exact⟨fun h=>⟨h.1.2,h.2⟩,fun h=>⟨⟨hn,h.1⟩,h.2⟩⟩
theorem dJ{op:Int}{tx:ByteArray}{v:Int}{ks:List (ZB×Bool)}(h19:op≠19):sF kw op tx v ks=true↔aU op ks=true∧v=0∧(if op=2∨op=3∨op=8∨op=10∨op=20∨op=26∨op=31∨op=32 then eL kw tx else decide (tx=emS)&&decide (1≤op∧op≤34))=true:=by
 unfold sF
 rw[if_neg h19]
 simp only[bE,Bool.not_eq_true',Bool.and_eq_false_iff,Bool.not_eq_false',decide_eq_true_eq,decide_eq_false_iff_not]
 constructor
 ·rintro ⟨⟨a,b⟩,c⟩
  exact⟨a,b.elim (fun h=>h) (fun h=>absurd h (by simp[h19])),c⟩
 ·rintro ⟨a,b,c⟩
  exact⟨⟨a,.inl b⟩,c⟩
theorem Jt:∀ks:List ZB,pM (ks.map fun k=>(k,k.sTd kw))=true↔(∀x∈ks,(32≤x.op∧x.op≤34)∧x.sTd kw=true)∧(ks.dropLast.any fun k=>decide (k.op=34))=false
 |[]=>by simp[pM]
 |[x]=>by
  simp only[mc,mn,pM,List.isEmpty_nil,Bool.not_true,bA,Bool.not_false,bat,bE,decide_eq_true_eq,List.dropLast_singleton,List.any_nil,and_true,List.mem_singleton,forall_eq]
 |x::y::ks=>by
  have ih:=Jt (y::ks)
  rw[mc,pM,List.dropLast_cons_cons,List.any_cons,bE,ih,Bool.or_eq_false_iff]
  simp only[mc,List.isEmpty_cons,Bool.not_false,bat,bE,decide_eq_true_eq,Bool.not_eq_true',decide_eq_false_iff_not,List.forall_mem_cons (a:=x)]
  constructor
  ·rintro ⟨⟨⟨a,b⟩,c⟩,d,e⟩
   exact⟨⟨⟨a,c⟩,d⟩,b,e⟩
  ·rintro ⟨⟨⟨a,c⟩,d⟩,b,e⟩
   exact⟨⟨⟨a,b⟩,c⟩,d,e⟩
theorem zzj(ks:List ZB)(h:(ks.dropLast.any fun k=>decide (k.op=34))=false):Pz 12 ks=true↔nI 12 ks=false:=by
 unfold Pz nI
 rw[h]
 rcases List.eq_nil_or_concat ks with rfl|⟨A,u,hA⟩
 ·simp
 ·rw[List.concat_eq_append] at hA
  subst hA
  rw[List.dropLast_concat] at h
  have hf:A.filter (fun k=> !decide (k.op=34))=A:=by
   rw[List.filter_eq_self]
   intro y hy
   have:=List.any_eq_false.1 h y hy
   simpa using this
  rw[List.filter_append,hf,List.getLast?_concat]
  by_cases hu:u.op=34
  ·simp[hu]
  ·simp[hu]
theorem zKO:∀x,nX kw x:=by
 refine ZB.ind (P:=nX kw) (fun op tx v ks H=> ?_)
 by_cases h1:op=1
 ·
  subst h1
  have hr:=zjT (l:=ks) (P:=fun x=>(2≤x.op∧x.op≤18)∧x.sTd kw=true) (Q:=fun x=>(x.td kw).s=true) (f:=ZB.sel) (g:=ZB.crowd) (fun x hx=>z1J kw (H x hx))
  unfold nX
  rw[Jk,sN,F0,zw4 kw (x:= .mk 1 tx v ks) rfl,wB,dJ kw (by decide)]
  have e1:aU 1 (ks.map fun k=>(k,k.sTd kw))=true↔∀x∈ks,(2≤x.op∧x.op≤18)∧x.sTd kw=true:=by
   unfold aU
   rw[if_pos rfl,List.all_map,List.all_eq_true]
   simp only[Function.comp_apply,bE,decide_eq_true_eq]
  have e2:(tdF kw 1 tx v (ks.map fun k=>(k,k.td kw))).b=true↔tx=emS∧v=0∧∀x∈ks,(x.td kw).s=true:=by
   simp only[tdF,decide_true,bta,bE,decide_eq_true_eq,List.all_map,List.all_eq_true,Function.comp_apply]
   exact⟨fun h=>⟨h.1.1,h.1.2,h.2⟩,fun h=>⟨⟨h.1,h.2.1⟩,h.2.2⟩⟩
  rw[e1,e2,if_neg (by decide),show Pz 1 ks=true from rfl,show nI 1 ks=false from rfl,bta,Bool.false_or]
  simp only[bE,decide_eq_true_eq]
  constructor
  ·rintro ⟨⟨a,b,c,_⟩,d⟩
   obtain⟨e,f⟩:=hr.1 ⟨a,d⟩
   exact⟨⟨c,b,e⟩,f⟩
  ·rintro ⟨⟨a,b,c⟩,d⟩
   obtain⟨e,f⟩:=hr.2 ⟨c,d⟩
   exact⟨⟨e,b,a,by decide⟩,f⟩
 by_cases h12:op=12
 ·
  subst h12
  have hr:=zjT (l:=ks) (P:=fun x=>(32≤x.op∧x.op≤34)∧x.sTd kw=true) (Q:=fun x=>(x.td kw).c=true) (f:=ZB.sel) (g:=ZB.crowd) (fun x hx=>z1H kw (H x hx))
  unfold nX
  rw[Jk,sN,F0,zYE kw (x:= .mk 12 tx v ks) (by show(2:Int)≤12∧(12:Int)≤18;decide),wB,dJ kw (by decide),show aU 12 (ks.map fun k=>(k,k.sTd kw))=pM (ks.map fun k=>(k,k.sTd kw)) from rfl,Jt]
  have e2:(tdF kw 12 tx v (ks.map fun k=>(k,k.td kw))).s=true↔tx=emS∧v=0∧∀x∈ks,(x.td kw).c=true:=by
   simp only[tdF,if_true,bE,decide_eq_true_eq,List.all_map,List.all_eq_true,Function.comp_apply]
   exact⟨fun h=>⟨h.1.1,h.1.2,h.2⟩,fun h=>⟨⟨h.1,h.2.1⟩,h.2.2⟩⟩
  rw[e2,if_neg (by decide),bE,Bool.or_eq_false_iff]
  simp only[bE,decide_eq_true_eq]
  constructor
  ·rintro ⟨⟨⟨a,b⟩,c,d,_⟩,e,f⟩
   obtain⟨g,h⟩:=hr.1 ⟨a,f⟩
   exact⟨⟨d,c,g⟩,(zzj ks b).1 e,h⟩
  ·rintro ⟨⟨d,c,g⟩,e,h⟩
   have hb:(ks.dropLast.any fun k=>decide (k.op=34))=false:=by
    simp only[nI,decide_true,bta,Bool.or_eq_false_iff] at e
    exact e.1
   obtain⟨a,f⟩:=hr.2 ⟨g,h⟩
   exact⟨⟨⟨a,hb⟩,c,d,by decide⟩,(zzj ks hb).2 e,f⟩
 by_cases h19:op=19
 ·
  subst h19
  unfold nX
  rw[Jk,sN,F0,zXR kw (x:= .mk 19 tx v ks) (by show(19:Int)≤19∧(19:Int)≤31;decide),wB]
  cases ks with
  |nil=>simp[sF,aU,tdF,lP,Pz,nI]
  |cons x ks =>
   constructor
   ·rintro ⟨h,_⟩
    simp[sF,aU] at h
   ·rintro ⟨h,_⟩
    simp[tdF,lP] at h
 by_cases hlo:op<1∨34<op
 ·unfold nX
  rw[z38 kw (x:= .mk op tx v ks) hlo,Jk,dJ kw h19,if_neg (by omega)]
  constructor
  ·rintro ⟨⟨_,_,h⟩,_⟩
   simp only[bE,decide_eq_true_eq] at h
   omega
  ·rintro ⟨h,_⟩
   simp at h
 have hop:op=2∨op=3∨op=4∨op=5∨op=6∨op=7∨op=8∨op=9∨op=10∨op=11∨op=13∨op=14∨op=15∨op=16∨op=17∨op=18∨op=20∨op=21∨op=22∨op=23∨op=24∨op=25∨op=26∨op=27∨op=28∨op=29∨op=30∨op=31∨op=32∨op=33∨op=34:=by omega
 have key1:∀(n:Nat) (op':Int) (nm:Bool),2≤op'∧op'≤18→op'≠12→zzp kw op' tx ks.length=some (nm,n,0)→(sF kw op' tx v (ks.map fun k=>(k,k.sTd kw))=true↔(ks.length=n∧aT (ks.map fun k=>(k,k.sTd kw)) n=true)∧v=0∧nm=true)→nX kw (.mk op' tx v ks):=by
  intro n op' nm g1 g2 g3 g4
  refine zjf kw H g1 g2 g3 (g4.trans ⟨?_,?_⟩)
  ·rintro ⟨⟨a,b⟩,c,d⟩
   exact⟨d,c,a,(zzS kw a).1 b⟩
  ·rintro ⟨a,b,c,d⟩
   exact⟨⟨c,(zzS kw c).2 d⟩,b,a⟩
 have key2:∀(n:Nat) (op':Int) (nm:Prop),19≤op'∧op'≤31→op'≠19→(lP kw op' tx v ks.length=true↔(nm∧v=0)∧ks.length=n)→(sF kw op' tx v (ks.map fun k=>(k,k.sTd kw))=true↔(ks.length=n∧aT (ks.map fun k=>(k,k.sTd kw)) n=true)∧v=0∧nm)→nX kw (.mk op' tx v ks):=by
  intro n op' nm g1 g2 g3 g4
  refine zzK kw (es:=n) (bs:=0) (nm:=nm) H (by omega) (g4.trans ⟨?_,?_⟩) ?_
  ·rintro ⟨⟨a,b⟩,c,d⟩
   exact⟨d,c,a,(zzS kw a).1 b⟩
  ·rintro ⟨a,b,c,d⟩
   exact⟨⟨c,(zzS kw c).2 d⟩,b,a⟩
  ·rw[zXR kw (x:= .mk op' tx v ks) g1,wB]
   simp only[tdF,lm,bE]
   rw[g3,zX2]
   constructor
   ·rintro ⟨⟨⟨a,b⟩,c⟩,d⟩
    exact⟨a,b,by omega,c ▸ d⟩
   ·rintro ⟨a,b,c,d⟩
    have c':ks.length=n:=by omega
    exact⟨⟨⟨a,b⟩,c'⟩,c'.symm ▸ d⟩
 have hl:∀{n:Nat},decide ((ks.map fun k=>(k,k.sTd kw)).length=n)=decide (ks.length=n):=fun {n}=>by rw[lm]
 have he0:aT (ks.map fun k=>(k,k.sTd kw)) 0=true:=by
  rw[Bj]
  exact⟨Nat.zero_le _,by simp⟩
 rcases hop with rfl|rfl|rfl|rfl|rfl|rfl|rfl|rfl|rfl|rfl|rfl|rfl|rfl|rfl|rfl|rfl|rfl|rfl|rfl|rfl|rfl|rfl|rfl|rfl|rfl|rfl|rfl|rfl|rfl|rfl|rfl
 ·exact key1 1 2 (eL kw tx) (by decide) (by decide) rfl (by rw[dJ kw (by decide),show aU 2 (ks.map fun k=>(k,k.sTd kw))=(decide ((ks.map fun k=>(k,k.sTd kw)).length=1)&&aT (ks.map fun k=>(k,k.sTd kw)) 1) from rfl,hl,bE,decide_eq_true_eq,if_pos (by decide)])
 ·exact key1 1 3 (eL kw tx) (by decide) (by decide) rfl (by rw[dJ kw (by decide),show aU 3 (ks.map fun k=>(k,k.sTd kw))=(decide ((ks.map fun k=>(k,k.sTd kw)).length=1)&&aT (ks.map fun k=>(k,k.sTd kw)) 1) from rfl,hl,bE,decide_eq_true_eq,if_pos (by decide)])
 ·refine zjf kw H (by decide) (by decide) (nm:=decide (tx=emS)) (es:=1) (bs:=if ks.length=3 then 2 else 1) rfl ?_
  rw[dJ kw (by decide),show aU 4 (ks.map fun k=>(k,k.sTd kw))=(decide (2≤(ks.map fun k=>(k,k.sTd kw)).length∧(ks.map fun k=>(k,k.sTd kw)).length≤3)&&aT (ks.map fun k=>(k,k.sTd kw)) 1&&cP (ks.map fun k=>(k,k.sTd kw)) 1) from rfl,lm,if_neg (by decide),show decide ((1:Int)≤4∧(4:Int)≤34)=true from rfl,bat]
  simp only[bE,decide_eq_true_eq]
  constructor
  ·rintro ⟨⟨⟨a,b⟩,c⟩,d,e⟩
   exact⟨e,d,by split<;>omega,(zJ kw (by omega)).1 ⟨b,c⟩⟩
  ·rintro ⟨e,d,a,b⟩
   have ha:2≤ks.length∧ks.length≤3:=by split at a<;>omega
   obtain⟨b,c⟩:=(zJ kw (by omega)).2 b
   exact⟨⟨⟨ha,b⟩,c⟩,d,e⟩
 ·refine zjf kw H (by decide) (by decide) (nm:=decide (tx=emS)) (es:=1) (bs:=1) rfl ?_
  rw[dJ kw (by decide),show aU 5 (ks.map fun k=>(k,k.sTd kw))=(decide ((ks.map fun k=>(k,k.sTd kw)).length=2)&&aT (ks.map fun k=>(k,k.sTd kw)) 1&&cP (ks.map fun k=>(k,k.sTd kw)) 1) from rfl,lm,if_neg (by decide),show decide ((1:Int)≤5∧(5:Int)≤34)=true from rfl,bat]
  simp only[bE,decide_eq_true_eq]
  constructor
  ·rintro ⟨⟨⟨a,b⟩,c⟩,d,e⟩
   exact⟨e,d,by omega,(zJ kw (by omega)).1 ⟨b,c⟩⟩
  ·rintro ⟨e,d,a,b⟩
   obtain⟨b,c⟩:=(zJ kw (by omega)).2 b
   exact⟨⟨⟨by omega,b⟩,c⟩,d,e⟩
 ·exact key1 1 6 (decide (tx=emS)) (by decide) (by decide) rfl (by rw[dJ kw (by decide),show aU 6 (ks.map fun k=>(k,k.sTd kw))=(decide ((ks.map fun k=>(k,k.sTd kw)).length=1)&&aT (ks.map fun k=>(k,k.sTd kw)) 1) from rfl,hl,bE,decide_eq_true_eq,if_neg (by decide),show decide ((1:Int)≤6∧(6:Int)≤34)=true from rfl,bat])
 ·exact key1 1 7 (decide (tx=emS)) (by decide) (by decide) rfl (by rw[dJ kw (by decide),show aU 7 (ks.map fun k=>(k,k.sTd kw))=(decide ((ks.map fun k=>(k,k.sTd kw)).length=1)&&aT (ks.map fun k=>(k,k.sTd kw)) 1) from rfl,hl,bE,decide_eq_true_eq,if_neg (by decide),show decide ((1:Int)≤7∧(7:Int)≤34)=true from rfl,bat])
 ·exact key1 ks.length 8 (eL kw tx) (by decide) (by decide) rfl (by rw[dJ kw (by decide),show aU 8 (ks.map fun k=>(k,k.sTd kw))=aT (ks.map fun k=>(k,k.sTd kw)) (ks.map fun k=>(k,k.sTd kw)).length from rfl,lm,if_pos (by decide)];simp only[true_and])
 ·exact key1 2 9 (decide (tx=emS)) (by decide) (by decide) rfl (by rw[dJ kw (by decide),show aU 9 (ks.map fun k=>(k,k.sTd kw))=(decide ((ks.map fun k=>(k,k.sTd kw)).length=2)&&aT (ks.map fun k=>(k,k.sTd kw)) 2) from rfl,hl,bE,decide_eq_true_eq,if_neg (by decide),show decide ((1:Int)≤9∧(9:Int)≤34)=true from rfl,bat])
 ·exact key1 1 10 (eL kw tx) (by decide) (by decide) rfl (by rw[dJ kw (by decide),show aU 10 (ks.map fun k=>(k,k.sTd kw))=(decide ((ks.map fun k=>(k,k.sTd kw)).length=1)&&aT (ks.map fun k=>(k,k.sTd kw)) 1) from rfl,hl,bE,decide_eq_true_eq,if_pos (by decide)])
 ·exact key1 1 11 (decide (tx=emS)) (by decide) (by decide) rfl (by rw[dJ kw (by decide),show aU 11 (ks.map fun k=>(k,k.sTd kw))=(decide ((ks.map fun k=>(k,k.sTd kw)).length=1)&&aT (ks.map fun k=>(k,k.sTd kw)) 1) from rfl,hl,bE,decide_eq_true_eq,if_neg (by decide),show decide ((1:Int)≤11∧(11:Int)≤34)=true from rfl,bat])
 ·exact key1 2 13 (decide (tx=emS)) (by decide) (by decide) rfl (by rw[dJ kw (by decide),show aU 13 (ks.map fun k=>(k,k.sTd kw))=(decide ((ks.map fun k=>(k,k.sTd kw)).length=2)&&aT (ks.map fun k=>(k,k.sTd kw)) 2) from rfl,hl,bE,decide_eq_true_eq,if_neg (by decide),show decide ((1:Int)≤13∧(13:Int)≤34)=true from rfl,bat])
 ·exact key1 2 14 (decide (tx=emS)) (by decide) (by decide) rfl (by rw[dJ kw (by decide),show aU 14 (ks.map fun k=>(k,k.sTd kw))=(decide ((ks.map fun k=>(k,k.sTd kw)).length=2)&&aT (ks.map fun k=>(k,k.sTd kw)) 2) from rfl,hl,bE,decide_eq_true_eq,if_neg (by decide),show decide ((1:Int)≤14∧(14:Int)≤34)=true from rfl,bat])
 ·exact key1 2 15 (decide (tx=emS)) (by decide) (by decide) rfl (by rw[dJ kw (by decide),show aU 15 (ks.map fun k=>(k,k.sTd kw))=(decide ((ks.map fun k=>(k,k.sTd kw)).length=2)&&aT (ks.map fun k=>(k,k.sTd kw)) 2) from rfl,hl,bE,decide_eq_true_eq,if_neg (by decide),show decide ((1:Int)≤15∧(15:Int)≤34)=true from rfl,bat])
 ·exact key1 1 16 (decide (tx=emS)) (by decide) (by decide) rfl (by rw[dJ kw (by decide),show aU 16 (ks.map fun k=>(k,k.sTd kw))=(decide ((ks.map fun k=>(k,k.sTd kw)).length=1)&&aT (ks.map fun k=>(k,k.sTd kw)) 1) from rfl,hl,bE,decide_eq_true_eq,if_neg (by decide),show decide ((1:Int)≤16∧(16:Int)≤34)=true from rfl,bat])
 ·exact key1 1 17 (decide (tx=emS)) (by decide) (by decide) rfl (by rw[dJ kw (by decide),show aU 17 (ks.map fun k=>(k,k.sTd kw))=(decide ((ks.map fun k=>(k,k.sTd kw)).length=1)&&aT (ks.map fun k=>(k,k.sTd kw)) 1) from rfl,hl,bE,decide_eq_true_eq,if_neg (by decide),show decide ((1:Int)≤17∧(17:Int)≤34)=true from rfl,bat])
 ·exact key1 1 18 (decide (tx=emS)) (by decide) (by decide) rfl (by rw[dJ kw (by decide),show aU 18 (ks.map fun k=>(k,k.sTd kw))=(decide ((ks.map fun k=>(k,k.sTd kw)).length=1)&&aT (ks.map fun k=>(k,k.sTd kw)) 1) from rfl,hl,bE,decide_eq_true_eq,if_neg (by decide),show decide ((1:Int)≤18∧(18:Int)≤34)=true from rfl,bat])
 ·exact key2 0 20 (eL kw tx=true) (by decide) (by decide) (by rw[show lP kw 20 tx v ks.length=(eL kw tx&&decide (v=0)&&decide (ks.length=0)) from rfl];simp only[bE,decide_eq_true_eq]) (by rw[dJ kw (by decide),show aU 20 (ks.map fun k=>(k,k.sTd kw))=decide ((ks.map fun k=>(k,k.sTd kw)).length=0) from rfl,hl,decide_eq_true_eq,if_pos (by decide),he0];simp only[and_true])
 ·exact key2 2 21 (decide (tx=emS)=true) (by decide) (by decide) (by rw[show lP kw 21 tx v ks.length=(decide (tx=emS)&&decide (v=0)&&decide (ks.length=2)) from rfl];simp only[bE,decide_eq_true_eq]) (by rw[dJ kw (by decide),show aU 21 (ks.map fun k=>(k,k.sTd kw))=(decide ((ks.map fun k=>(k,k.sTd kw)).length=2)&&aT (ks.map fun k=>(k,k.sTd kw)) 2) from rfl,hl,bE,decide_eq_true_eq,if_neg (by decide),show decide ((1:Int)≤21∧(21:Int)≤34)=true from rfl,bat])
 ·exact key2 2 22 (decide (tx=emS)=true) (by decide) (by decide) (by rw[show lP kw 22 tx v ks.length=(decide (tx=emS)&&decide (v=0)&&decide (ks.length=2)) from rfl];simp only[bE,decide_eq_true_eq]) (by rw[dJ kw (by decide),show aU 22 (ks.map fun k=>(k,k.sTd kw))=(decide ((ks.map fun k=>(k,k.sTd kw)).length=2)&&aT (ks.map fun k=>(k,k.sTd kw)) 2) from rfl,hl,bE,decide_eq_true_eq,if_neg (by decide),show decide ((1:Int)≤22∧(22:Int)≤34)=true from rfl,bat])
 ·exact key2 2 23 (decide (tx=emS)=true) (by decide) (by decide) (by rw[show lP kw 23 tx v ks.length=(decide (tx=emS)&&decide (v=0)&&decide (ks.length=2)) from rfl];simp only[bE,decide_eq_true_eq]) (by rw[dJ kw (by decide),show aU 23 (ks.map fun k=>(k,k.sTd kw))=(decide ((ks.map fun k=>(k,k.sTd kw)).length=2)&&aT (ks.map fun k=>(k,k.sTd kw)) 2) from rfl,hl,bE,decide_eq_true_eq,if_neg (by decide),show decide ((1:Int)≤23∧(23:Int)≤34)=true from rfl,bat])
 ·exact key2 2 24 (decide (tx=emS)=true) (by decide) (by decide) (by rw[show lP kw 24 tx v ks.length=(decide (tx=emS)&&decide (v=0)&&decide (ks.length=2)) from rfl];simp only[bE,decide_eq_true_eq]) (by rw[dJ kw (by decide),show aU 24 (ks.map fun k=>(k,k.sTd kw))=(decide ((ks.map fun k=>(k,k.sTd kw)).length=2)&&aT (ks.map fun k=>(k,k.sTd kw)) 2) from rfl,hl,bE,decide_eq_true_eq,if_neg (by decide),show decide ((1:Int)≤24∧(24:Int)≤34)=true from rfl,bat])
 ·exact key2 2 25 (decide (tx=emS)=true) (by decide) (by decide) (by rw[show lP kw 25 tx v ks.length=(decide (tx=emS)&&decide (v=0)&&decide (ks.length=2)) from rfl];simp only[bE,decide_eq_true_eq]) (by rw[dJ kw (by decide),show aU 25 (ks.map fun k=>(k,k.sTd kw))=(decide ((ks.map fun k=>(k,k.sTd kw)).length=2)&&aT (ks.map fun k=>(k,k.sTd kw)) 2) from rfl,hl,bE,decide_eq_true_eq,if_neg (by decide),show decide ((1:Int)≤25∧(25:Int)≤34)=true from rfl,bat])
 ·exact key2 ks.length 26 (eL kw tx=true) (by decide) (by decide) (by rw[show lP kw 26 tx v ks.length=(eL kw tx&&decide (v=0)) from rfl];simp only[bE,decide_eq_true_eq,and_true]) (by rw[dJ kw (by decide),show aU 26 (ks.map fun k=>(k,k.sTd kw))=aT (ks.map fun k=>(k,k.sTd kw)) (ks.map fun k=>(k,k.sTd kw)).length from rfl,lm,if_pos (by decide)];simp only[true_and])
 ·exact key2 1 27 (decide (tx=emS)=true) (by decide) (by decide) (by rw[show lP kw 27 tx v ks.length=(decide (tx=emS)&&decide (v=0)&&decide (ks.length=1)) from rfl];simp only[bE,decide_eq_true_eq]) (by rw[dJ kw (by decide),show aU 27 (ks.map fun k=>(k,k.sTd kw))=(decide ((ks.map fun k=>(k,k.sTd kw)).length=1)&&aT (ks.map fun k=>(k,k.sTd kw)) 1) from rfl,hl,bE,decide_eq_true_eq,if_neg (by decide),show decide ((1:Int)≤27∧(27:Int)≤34)=true from rfl,bat])
 ·exact key2 1 28 (decide (tx=emS)=true) (by decide) (by decide) (by rw[show lP kw 28 tx v ks.length=(decide (tx=emS)&&decide (v=0)&&decide (ks.length=1)) from rfl];simp only[bE,decide_eq_true_eq]) (by rw[dJ kw (by decide),show aU 28 (ks.map fun k=>(k,k.sTd kw))=(decide ((ks.map fun k=>(k,k.sTd kw)).length=1)&&aT (ks.map fun k=>(k,k.sTd kw)) 1) from rfl,hl,bE,decide_eq_true_eq,if_neg (by decide),show decide ((1:Int)≤28∧(28:Int)≤34)=true from rfl,bat])
 ·exact key2 3 29 (decide (tx=emS)=true) (by decide) (by decide) (by rw[show lP kw 29 tx v ks.length=(decide (tx=emS)&&decide (v=0)&&decide (ks.length=3)) from rfl];simp only[bE,decide_eq_true_eq]) (by rw[dJ kw (by decide),show aU 29 (ks.map fun k=>(k,k.sTd kw))=(decide ((ks.map fun k=>(k,k.sTd kw)).length=3)&&aT (ks.map fun k=>(k,k.sTd kw)) 3) from rfl,hl,bE,decide_eq_true_eq,if_neg (by decide),show decide ((1:Int)≤29∧(29:Int)≤34)=true from rfl,bat])
 ·exact key2 0 30 (decide (tx=emS)=true) (by decide) (by decide) (by rw[show lP kw 30 tx v ks.length=(decide (tx=emS)&&decide (v=0)&&decide (ks.length=0)) from rfl];simp only[bE,decide_eq_true_eq]) (by rw[dJ kw (by decide),show aU 30 (ks.map fun k=>(k,k.sTd kw))=decide ((ks.map fun k=>(k,k.sTd kw)).length=0) from rfl,hl,decide_eq_true_eq,if_neg (by decide),show decide ((1:Int)≤30∧(30:Int)≤34)=true from rfl,bat,he0];simp only[and_true])
 ·exact key2 0 31 (eL kw tx=true) (by decide) (by decide) (by rw[show lP kw 31 tx v ks.length=(eL kw tx&&decide (v=0)&&decide (ks.length=0)) from rfl];simp only[bE,decide_eq_true_eq]) (by rw[dJ kw (by decide),show aU 31 (ks.map fun k=>(k,k.sTd kw))=decide ((ks.map fun k=>(k,k.sTd kw)).length=0) from rfl,hl,decide_eq_true_eq,if_pos (by decide),he0];simp only[and_true])
 ·refine zjB kw H (by decide) (nm:=eL kw tx) (es:=1) rfl ?_
  rw[dJ kw (by decide),show aU 32 (ks.map fun k=>(k,k.sTd kw))=(decide ((ks.map fun k=>(k,k.sTd kw)).length=2)&&aT (ks.map fun k=>(k,k.sTd kw)) 1&&cP (ks.map fun k=>(k,k.sTd kw)) 1) from rfl,lm,if_pos (by decide)]
  simp only[bE,decide_eq_true_eq]
  constructor
  ·rintro ⟨⟨⟨a,b⟩,c⟩,d,e⟩
   exact⟨e,d,by omega,(zJ kw (by omega)).1 ⟨b,c⟩⟩
  ·rintro ⟨e,d,a,b⟩
   obtain⟨b,c⟩:=(zJ kw (by omega)).2 b
   exact⟨⟨⟨by omega,b⟩,c⟩,d,e⟩
 ·refine zjB kw H (by decide) (nm:=decide (tx=emS)) (es:=2) rfl ?_
  rw[dJ kw (by decide),show aU 33 (ks.map fun k=>(k,k.sTd kw))=(decide ((ks.map fun k=>(k,k.sTd kw)).length=3)&&aT (ks.map fun k=>(k,k.sTd kw)) 2&&cP (ks.map fun k=>(k,k.sTd kw)) 2) from rfl,lm,if_neg (by decide),show decide ((1:Int)≤33∧(33:Int)≤34)=true from rfl,bat]
  simp only[bE,decide_eq_true_eq]
  constructor
  ·rintro ⟨⟨⟨a,b⟩,c⟩,d,e⟩
   exact⟨e,d,by omega,(zJ kw (by omega)).1 ⟨b,c⟩⟩
  ·rintro ⟨e,d,a,b⟩
   obtain⟨b,c⟩:=(zJ kw (by omega)).2 b
   exact⟨⟨⟨by omega,b⟩,c⟩,d,e⟩
 ·refine zjB kw H (by decide) (nm:=decide (tx=emS)) (es:=0) rfl ?_
  rw[dJ kw (by decide),show aU 34 (ks.map fun k=>(k,k.sTd kw))=(decide ((ks.map fun k=>(k,k.sTd kw)).length=1)&&cP (ks.map fun k=>(k,k.sTd kw)) 0) from rfl,lm,if_neg (by decide),show decide ((1:Int)≤34∧(34:Int)≤34)=true from rfl,bat]
  simp only[bE,decide_eq_true_eq]
  constructor
  ·rintro ⟨⟨a,c⟩,d,e⟩
   exact⟨e,d,by omega,(zJ kw (by omega)).1 ⟨he0,c⟩⟩
  ·rintro ⟨e,d,a,b⟩
   obtain⟨_,c⟩:=(zJ kw (by omega)).2 b
   exact⟨⟨by omega,c⟩,d,e⟩
end Go.Ev.G
set_option maxHeartbeats 4000000
namespace Go.Ev.G
def fx(W:List ZC)(s:ByteArray):Int:=aS (fun p=>decide (p.fName=s)) 0 W
theorem oW{α:Type}(p:α→Bool):∀(xs:List α) (j:Int),0≤j→(aS p j xs= -1∧xs.any p=false)∨(j≤aS p j xs∧aS p j xs<j+xs.length∧xs.any p=true∧∀ys,aS p j (xs++ys)=aS p j xs)
 |[],j,h=> .inl ⟨rfl,rfl⟩
 |x::xs,j,h=>by
  rw[aS]
  by_cases hp:p x=true
  ·refine .inr ⟨by rw[if_pos hp];omega,by rw[if_pos hp];simp;omega,by simp[hp],fun ys=> ?_⟩
   rw[List.cons_append,aS,if_pos hp,if_pos hp]
  ·rw[if_neg hp]
   rcases oW p xs (j+1) (by omega) with⟨h1,h2⟩|⟨h1,h2,h3,h4⟩
   ·exact .inl ⟨h1,by simp[hp,h2]⟩
   ·refine .inr ⟨by omega,by simp only[lc];omega,by simp[h3],fun ys=> ?_⟩
    rw[List.cons_append,aS,if_neg hp]
    exact h4 ys
theorem zVf{V:List ZC}{s:ByteArray}(h:0≤fx V s)(R:List ZC):fx (V++R) s=fx V s:=by
 rcases oW (fun p=>decide (p.fName=s)) V 0 (by omega) with⟨h1,_⟩|⟨_,_,_,h4⟩
 ·unfold fx at h;omega
 ·exact h4 R
theorem zqc{V:List ZC}{s:ByteArray}(h:0≤fx V s):(fx V s).toNat<V.length:=by
 rcases oW (fun p=>decide (p.fName=s)) V 0 (by omega) with⟨h1,_⟩|⟨_,h2,_,_⟩
 ·unfold fx at h;omega
 ·unfold fx;omega
def gQ(V:List ZC):List ByteArray:=V.map ZC.fName
theorem Zr(V:List ZC)(s:ByteArray):((gQ V).any fun w=>decide (s=w))=decide (0≤fx V s):=by
 unfold fx gQ
 rw[←pB _ 0 (by omega),List.any_map]
 congr 1
 funext p
 simp only[Function.comp_apply]
 exact decide_eq_decide.2 eq_comm
def zVG(W:List ZC)(k:Int):Bool:=match W[k.toNat]? with
 |some p=>p.fChan
 |none=>false
theorem zY1{V:List ZC}{k:Int}(h:k.toNat<V.length)(R:List ZC):zVG (V++R) k=zVG V k:=by
 unfold zVG
 rw[List.getElem?_append_left h]
def iH(W:List ZC)(s:ByteArray):Bool:=decide (0≤fx W s)&&zVG W (fx W s)
theorem Hr{V:List ZC}{s:ByteArray}(h:0≤fx V s)(R:List ZC):iH (V++R) s=iH V s:=by
 unfold iH
 rw[zVf h,zY1 (zqc h)]
def jM(W:List ZC)(x:ZB):Bool:=if x.op=20 then iH W x.tx else decide (x.op=27)
def leK:List (ZB×(List ZC→List ZC))→List ZC→List ZC
 |[],V=>V
 |k::ks,V=>leK ks (k.2 V)
def leF(op:Int)(tx:ByteArray)(_:Int)(ks:List (ZB×(List ZC→List ZC)))(V:List ZC):List ZC :=
 if op=2 then(match ks with
  |k::_=>leK ks V++[⟨tx,jM (leK ks V) k.1⟩]
  |[]=>V)
 else leK ks V
def ZB.le(x:ZB):List ZC→List ZC:=x.fold leF
def les:List ZB→List ZC→List ZC
 |[],V=>V
 |k::ks,V=>les ks (k.le V)
theorem z6X(ks:List ZB):∀V,leK (ks.map fun k=>(k,k.fold leF)) V=les ks V:=by
 induction ks with
 |nil=>intro V;rfl
 |cons k ks ih=>intro V;rw[mc,leK,les];exact ih _
theorem uG(op:Int)(tx:ByteArray)(v:Int)(ks:List ZB)(V:List ZC):(ZB.mk op tx v ks).le V=if op=2 then(match ks with
  |k::_=>les ks V++[⟨tx,jM (les ks V) k⟩]
  |[]=>V) else les ks V:=by
 unfold ZB.le
 rw[ZB.fold_eq,leF.eq_def,z6X]
 cases ks with
 |nil=>rfl
 |cons k ks=>rfl
theorem zjF(x:ZB):∀V,∃R,x.le V=V++R:=by
 refine ZB.ind (P:=fun x=>∀V,∃R,x.le V=V++R) (fun op tx v ks ih=> ?_) x
 have hl:∀(l:List ZB),(∀y∈l,∀V,∃R,y.le V=V++R)→∀V,∃R,les l V=V++R:=by
  intro l
  induction l with
  |nil=>intro _ V;exact⟨[],by rw[List.append_nil];rfl⟩
  |cons k l ihl =>
   intro h V
   obtain⟨R,hR⟩:=h k (by simp) V
   obtain⟨R2,hR2⟩:=ihl (fun y hy=>h y (by simp[hy])) (V++R)
   exact⟨R++R2,by rw[les,hR,hR2,List.append_assoc]⟩
 intro V
 obtain⟨R,hR⟩:=hl ks ih V
 rw[uG]
 split
 ·cases ks with
  |nil=>exact⟨[],by simp⟩
  |cons k ks=>exact⟨R++[_],by simp only;rw[hR,List.append_assoc]⟩
 ·exact⟨R,hR⟩
theorem zx3(l:List ZB):∀V,∃R,les l V=V++R:=by
 induction l with
 |nil=>intro V;exact⟨[],by rw[List.append_nil];rfl⟩
 |cons k l ih =>
  intro V
  obtain⟨R,hR⟩:=zjF k V
  obtain⟨R2,hR2⟩:=ih (V++R)
  exact⟨R++R2,by rw[les,hR,hR2,List.append_assoc]⟩
section
variable(cok:Int→ByteArray→Nat→Bool)
def nmK:List (ZB×(List ByteArray→Option (List ByteArray)))→List ByteArray→Option (List ByteArray)
 |[],N=>some N
 |k::ks,N=>(k.2 N).bind (nmK ks)
def pE(op:Int):Bool:=decide (op=20)||decide (op=3)||decide (op=10)||decide (op=32)
def Am(op:Int):Bool:=decide (op=26)||decide (op=8)||decide (op=31)
def nmF(op:Int)(tx:ByteArray)(_:Int)(ks:List (ZB×(List ByteArray→Option (List ByteArray))))(N:List ByteArray):Option (List ByteArray) :=
 if pE op&& !(N.any fun w=>decide (tx=w)) then none
 else if Am op&& !cok op tx ks.length then none
 else(nmK ks N).map fun N'=>if op=2 then N'++[tx] else N'
def ZB.nm(x:ZB):List ByteArray→Option (List ByteArray):=x.fold (nmF cok)
def nms:List ZB→List ByteArray→Option (List ByteArray)
 |[],N=>some N
 |k::ks,N=>(k.nm cok N).bind (nms ks)
theorem z6R(ks:List ZB):∀N,nmK (ks.map fun k=>(k,k.fold (nmF cok))) N=nms cok ks N:=by
 induction ks with
 |nil=>intro V;rfl
 |cons k ks ih=>intro V;rw[mc,nmK,nms];exact congrArg _ (funext ih)
theorem zxO(op:Int)(tx:ByteArray)(v:Int)(ks:List ZB)(N:List ByteArray):(ZB.mk op tx v ks).nm cok N=if pE op&& !(N.any fun w=>decide (tx=w)) then none
 else if Am op&& !cok op tx ks.length then none
 else(nms cok ks N).map fun N'=>if op=2 then N'++[tx] else N':=by
 unfold ZB.nm
 rw[ZB.fold_eq,nmF,z6R,lm]
def snK(op:Int)(tx:ByteArray):Nat→List (ZB×(List ZC→Bool))→List ZC→Bool
 |_,[],_=>false
 |i,k::ks,V=>(decide (op=32)&&decide (i=1)&&decide (fx V tx<0))||k.2 V||snK op tx (i+1) ks (k.1.le V)
def snF(op:Int)(tx:ByteArray)(_:Int)(ks:List (ZB×(List ZC→Bool)))(V:List ZC):Bool :=
 snK op tx 0 ks V||(pE op&&decide (fx (les (ks.map (·.1)) V) tx<0))||(Am op&& !cok op tx ks.length)
def ZB.sn(x:ZB):List ZC→Bool:=x.fold (snF cok)
def sns(op:Int)(tx:ByteArray):Nat→List ZB→List ZC→Bool
 |_,[],_=>false
 |i,k::ks,V=>(decide (op=32)&&decide (i=1)&&decide (fx V tx<0))||k.sn cok V||sns op tx (i+1) ks (k.le V)
theorem z68(op:Int)(tx:ByteArray)(ks:List ZB):∀i V,snK op tx i (ks.map fun k=>(k,k.fold (snF cok))) V=sns cok op tx i ks V:=by
 induction ks with
 |nil=>intro i V;rfl
 |cons k ks ih=>intro i V;rw[mc,snK,sns];exact congrArg _ (ih _ _)
theorem zzW{β:Type}(g:ZB→β)(ks:List ZB):((ks.map fun k=>(k,g k)).map fun k=>k.1)=ks:=by
 rw[List.map_map]
 exact List.map_id ks
theorem H8(op:Int)(tx:ByteArray)(v:Int)(ks:List ZB)(V:List ZC):(ZB.mk op tx v ks).sn cok V=(sns cok op tx 0 ks V||(pE op&&decide (fx (les ks V) tx<0))||(Am op&& !cok op tx ks.length)):=by
 unfold ZB.sn
 rw[ZB.fold_eq,snF,z68,lm,zzW]
end
end Go.Ev.G
set_option maxHeartbeats 4000000
namespace Go.Ev.G
inductive Sh:Nat→ZB→Prop where
 |ex0 {op tx v}:op=19∨op=20∨op=30∨op=31→Sh 0 (.mk op tx v [])
 |ex1 {op tx v a}:op=27∨op=28→Sh 0 a→Sh 0 (.mk op tx v [a])
 |ex2 {op tx v a b}:21≤op∧op≤25→Sh 0 a→Sh 0 b→Sh 0 (.mk op tx v [a,b])
 |ex3 {tx v a b c}:Sh 0 a→Sh 0 b→Sh 0 c→Sh 0 (.mk 29 tx v [a,b,c])
 |cll {tx v ks}:(∀y∈ks,Sh 0 y)→Sh 0 (.mk 26 tx v ks)
 |st1 {op tx v a}:op=2∨op=3∨op=6∨op=7∨op=10∨op=11∨op=16∨op=17∨op=18→Sh 0 a→Sh 1 (.mk op tx v [a])
 |st2 {op tx v a b}:op=9∨op=13∨op=14∨op=15→Sh 0 a→Sh 0 b→Sh 1 (.mk op tx v [a,b])
 |go_ {tx v ks}:(∀y∈ks,Sh 0 y)→Sh 1 (.mk 8 tx v ks)
 |if1 {tx v a b}:Sh 0 a→Sh 2 b→Sh 1 (.mk 4 tx v [a,b])
 |if2 {tx v a b c}:Sh 0 a→Sh 2 b→Sh 2 c→Sh 1 (.mk 4 tx v [a,b,c])
 |whl {tx v a b}:Sh 0 a→Sh 2 b→Sh 1 (.mk 5 tx v [a,b])
 |sel {tx v ks}:(∀y∈ks,Sh 3 y)→Sh 1 (.mk 12 tx v ks)
 |blk {tx v ks}:(∀y∈ks,Sh 1 y)→Sh 2 (.mk 1 tx v ks)
 |tak {tx v a b}:Sh 0 a→Sh 2 b→Sh 3 (.mk 32 tx v [a,b])
 |giv {tx v a b c}:Sh 0 a→Sh 0 b→Sh 2 c→Sh 3 (.mk 33 tx v [a,b,c])
 |els {tx v b}:Sh 2 b→Sh 3 (.mk 34 tx v [b])
theorem Sh.op{k:Nat}{x:ZB}(h:Sh k x):(k=0→19≤x.op∧x.op≤31)∧(k=1→2≤x.op∧x.op≤18)∧(k=2→x.op=1)∧(k=3→32≤x.op∧x.op≤34):=by
 cases h<;>simp only[ZB.op_mk]<;>refine⟨?_,?_,?_,?_⟩<;>intro hk<;>omega
section
variable(kw:ByteArray→Bool)
def ShQ(x:ZB):Prop:=x.sTd kw=true→(19≤x.op∧x.op≤31→Sh 0 x)∧(2≤x.op∧x.op≤18→Sh 1 x)∧(x.op=1→Sh 2 x)∧(32≤x.op∧x.op≤34→Sh 3 x)
theorem zQT{α:Type}{l:List α}(h:l.length=1):∃a,l=[a]:=by
 match l,h with
 |[a],_=>exact⟨a,rfl⟩
theorem zjm{α:Type}{l:List α}(h:l.length=2):∃a b,l=[a,b]:=by
 match l,h with
 |[a,b],_=>exact⟨a,b,rfl⟩
theorem zWG{α:Type}{l:List α}(h:l.length=3):∃a b c,l=[a,b,c]:=by
 match l,h with
 |[a,b,c],_=>exact⟨a,b,c,rfl⟩
theorem zJr:∀x,ShQ kw x:=by
 refine ZB.ind (fun op tx v ks ih=> ?_)
 intro h
 have he:∀y∈ks,(19≤y.op∧y.op≤31)∧y.sTd kw=true→Sh 0 y:=fun y hy hh=>(ih y hy hh.2).1 hh.1
 have hs:∀y∈ks,(2≤y.op∧y.op≤18)∧y.sTd kw=true→Sh 1 y:=fun y hy hh=>(ih y hy hh.2).2.1 hh.1
 have hb:∀y∈ks,y.op=1∧y.sTd kw=true→Sh 2 y:=fun y hy hh=>(ih y hy hh.2).2.2.1 hh.1
 have hc:∀y∈ks,(32≤y.op∧y.op≤34)∧y.sTd kw=true→Sh 3 y:=fun y hy hh=>(ih y hy hh.2).2.2.2 hh.1
 rw[Jk] at h
 have hk:aU op (ks.map fun k=>(k,k.sTd kw))=true:=by
  unfold sF at h
  simp only[bE] at h
  exact h.1.1
 clear h ih
 simp only[ZB.op_mk]
 have E:∀n m,n=ks.length→m≤n→aT (ks.map fun k=>(k,k.sTd kw)) m=true→∀y∈ks.take m,Sh 0 y:=fun n m _ _ h1 y hy=>he y (List.mem_of_mem_take hy) (((Bj kw ks m).1 h1).2 y hy)
 have Bk:∀m,cP (ks.map fun k=>(k,k.sTd kw)) m=true→∀y∈ks.drop m,Sh 2 y:=fun m h1 y hy=>hb y (List.mem_of_mem_drop hy) ((O8 kw ks m).1 h1 y hy)
 refine⟨fun hr=> ?_,fun hr=> ?_,fun hr=> ?_,fun hr=> ?_⟩
 ·by_cases h0:op=19∨op=20∨op=30∨op=31
  ·have:ks=[]:=by
    rcases h0 with rfl|rfl|rfl|rfl<;>simpa[aU] using hk
   subst this
   exact .ex0 h0
  by_cases h1:op=27∨op=28
  ·have:ks.length=1∧aT (ks.map fun k=>(k,k.sTd kw)) 1=true:=by
    rcases h1 with rfl|rfl<;>simpa[aU] using hk
   obtain⟨a,rfl⟩:=zQT this.1
   exact .ex1 h1 (E 1 1 rfl (by omega) this.2 a (by simp))
  by_cases h2:21≤op∧op≤25
  ·have:ks.length=2∧aT (ks.map fun k=>(k,k.sTd kw)) 2=true:=by
    have:op=21∨op=22∨op=23∨op=24∨op=25:=by omega
    rcases this with rfl|rfl|rfl|rfl|rfl<;>simpa[aU] using hk
   obtain⟨a,b,rfl⟩:=zjm this.1
   have:=E 2 2 rfl (by omega) this.2
   exact .ex2 h2 (this a (by simp)) (this b (by simp))
  by_cases h3:op=29
  ·subst h3
   have:ks.length=3∧aT (ks.map fun k=>(k,k.sTd kw)) 3=true:=by simpa[aU] using hk
   obtain⟨a,b,c,rfl⟩:=zWG this.1
   have:=E 3 3 rfl (by omega) this.2
   exact .ex3 (this a (by simp)) (this b (by simp)) (this c (by simp))
  have h4:op=26:=by omega
  subst h4
  have:aT (ks.map fun k=>(k,k.sTd kw)) ks.length=true:=by simpa[aU] using hk
  have:=E _ ks.length rfl (by omega) this
  rw[List.take_length] at this
  exact .cll this
 ·by_cases h1:op=2∨op=3∨op=6∨op=7∨op=10∨op=11∨op=16∨op=17∨op=18
  ·have:ks.length=1∧aT (ks.map fun k=>(k,k.sTd kw)) 1=true:=by
    rcases h1 with rfl|rfl|rfl|rfl|rfl|rfl|rfl|rfl|rfl<;>simpa[aU] using hk
   obtain⟨a,rfl⟩:=zQT this.1
   exact .st1 h1 (E 1 1 rfl (by omega) this.2 a (by simp))
  by_cases h2:op=9∨op=13∨op=14∨op=15
  ·have:ks.length=2∧aT (ks.map fun k=>(k,k.sTd kw)) 2=true:=by
    rcases h2 with rfl|rfl|rfl|rfl<;>simpa[aU] using hk
   obtain⟨a,b,rfl⟩:=zjm this.1
   have:=E 2 2 rfl (by omega) this.2
   exact .st2 h2 (this a (by simp)) (this b (by simp))
  by_cases h3:op=8
  ·subst h3
   have:aT (ks.map fun k=>(k,k.sTd kw)) ks.length=true:=by simpa[aU] using hk
   have:=E _ ks.length rfl (by omega) this
   rw[List.take_length] at this
   exact .go_ this
  by_cases h4:op=4
  ·subst h4
   have:((2≤ks.length∧ks.length≤3)∧aT (ks.map fun k=>(k,k.sTd kw)) 1=true)∧cP (ks.map fun k=>(k,k.sTd kw)) 1=true:=by simpa[aU] using hk
   obtain⟨⟨h5,h6⟩,h7⟩:=this
   by_cases h8:ks.length=2
   ·obtain⟨a,b,rfl⟩:=zjm h8
    exact .if1 (E 2 1 rfl (by omega) h6 a (by simp)) (Bk 1 h7 b (by simp))
   ·obtain⟨a,b,c,rfl⟩:=zWG (show ks.length=3 by omega)
    exact .if2 (E 3 1 rfl (by omega) h6 a (by simp)) (Bk 1 h7 b (by simp)) (Bk 1 h7 c (by simp))
  by_cases h5:op=5
  ·subst h5
   have:(ks.length=2∧aT (ks.map fun k=>(k,k.sTd kw)) 1=true)∧cP (ks.map fun k=>(k,k.sTd kw)) 1=true:=by simpa[aU] using hk
   obtain⟨⟨h5,h6⟩,h7⟩:=this
   obtain⟨a,b,rfl⟩:=zjm h5
   exact .whl (E 2 1 rfl (by omega) h6 a (by simp)) (Bk 1 h7 b (by simp))
  have h6:op=12:=by omega
  subst h6
  have:pM (ks.map fun k=>(k,k.sTd kw))=true:=by simpa[aU] using hk
  exact .sel fun y hy=>hc y hy (((Jt kw ks).1 this).1 y hy)
 ·subst hr
  refine .blk fun y hy=>hs y hy ?_
  have:∀x∈ks,(2≤x.op∧x.op≤18)∧x.sTd kw=true:=by simpa[aU] using hk
  exact this y hy
 ·by_cases h1:op=32
  ·subst h1
   have:(ks.length=2∧aT (ks.map fun k=>(k,k.sTd kw)) 1=true)∧cP (ks.map fun k=>(k,k.sTd kw)) 1=true:=by simpa[aU] using hk
   obtain⟨⟨h5,h6⟩,h7⟩:=this
   obtain⟨a,b,rfl⟩:=zjm h5
   exact .tak (E 2 1 rfl (by omega) h6 a (by simp)) (Bk 1 h7 b (by simp))
  by_cases h2:op=33
  ·subst h2
   have:(ks.length=3∧aT (ks.map fun k=>(k,k.sTd kw)) 2=true)∧cP (ks.map fun k=>(k,k.sTd kw)) 2=true:=by simpa[aU] using hk
   obtain⟨⟨h5,h6⟩,h7⟩:=this
   obtain⟨a,b,c,rfl⟩:=zWG h5
   exact .giv (E 3 2 rfl (by omega) h6 a (by simp)) (E 3 2 rfl (by omega) h6 b (by simp)) (Bk 2 h7 c (by simp))
  have h3:op=34:=by omega
  subst h3
  have:ks.length=1∧cP (ks.map fun k=>(k,k.sTd kw)) 0=true:=by simpa[aU] using hk
  obtain⟨h5,h7⟩:=this
  obtain⟨b,rfl⟩:=zQT h5
  exact .els (Bk 0 h7 b (by simp))
end
theorem z2s{k:Nat}{x:ZB}(h:Sh k x):k=0→∀V,x.le V=V:=by
 induction h with
 |ex0 h=>intro _ V;rw[uG,if_neg (by omega)];rfl
 |ex1 h _ ia=>intro _ V;rw[uG,if_neg (by omega),les,les,ia rfl]
 |ex2 h _ _ ia ib=>intro _ V;rw[uG,if_neg (by omega),les,les,les,ia rfl,ib rfl]
 |ex3 _ _ _ ia ib ic=>intro _ V;rw[uG,if_neg (by omega),les,les,les,les,ia rfl,ib rfl,ic rfl]
 | @cll tx v ks _ ih =>
  intro _ V
  rw[uG,if_neg (by omega)]
  have:∀(l:List ZB),(∀y∈l,∀V:List ZC,y.le V=V)→les l V=V:=by
   intro l
   induction l with
   |nil=>intro _;rfl
   |cons y l ihl=>intro hy;rw[les,hy y (by simp)];exact ihl (fun z hz=>hy z (by simp[hz]))
  exact this ks (fun y hy=>ih y hy rfl)
 |_=>intro hk;omega
theorem z2i{x:ZB}(h:Sh 0 x)(V:List ZC):x.le V=V:=z2s h rfl V
theorem Sx{l:List ZB}(h:∀y∈l,Sh 0 y)(V:List ZC):les l V=V:=by
 induction l with
 |nil=>rfl
 |cons y l ih=>rw[les,z2i (h y (by simp))];exact ih (fun z hz=>h z (by simp[hz]))
section
variable(cok:Int→ByteArray→Nat→Bool)
theorem zKu(V W:List ZC):gQ (V++W)=gQ V++gQ W:=by simp[gQ]
theorem nG{op:Int}{tx:ByteArray}(h32:op≠32):∀{l:List ZB},(∀y∈l,∀V,y.nm cok (gQ V)=if y.sn cok V=true then none else some (gQ (y.le V)))→∀(i:Nat) (V:List ZC),nms cok l (gQ V)=if sns cok op tx i l V=true then none else some (gQ (les l V))
 |[],_,i,V=>by simp[nms,sns,les]
 |y::r,h,i,V=>by
  have ih:=nG (tx:=tx) h32 (l:=r) (fun z hz=>h z (by simp[hz])) (i+1) (y.le V)
  rw[nms,sns,les,h y (by simp)]
  simp only[h32,decide_false,bfa,Bool.false_or]
  by_cases c:y.sn cok V=true
  ·simp[c]
  ·simp only[c,if_false,obs,ih,Bool.false_or,Bool.false_eq_true]
theorem j7{op:Int}{tx:ByteArray}{v:Int}{ks:List ZB}{V:List ZC}(hl:pE op=true→les ks V=V)(h2:op=2→ks≠[])(hk:nms cok ks (gQ V)=if sns cok op tx 0 ks V=true then none else some (gQ (les ks V))) :
  (ZB.mk op tx v ks).nm cok (gQ V)=if (ZB.mk op tx v ks).sn cok V=true then none else some (gQ ((ZB.mk op tx v ks).le V)):=by
 rw[zxO,H8,hk,Zr]
 by_cases hn:pE op=true
 ·rw[hl hn,hn]
  by_cases c:0≤fx V tx
  ·have c2:¬fx V tx<0:=by omega
   have hcl:Am op=false:=by
    unfold pE Am at *
    simp only[Bool.or_eq_true,decide_eq_true_eq] at hn
    simp only[Bool.or_eq_false_iff,decide_eq_false_iff_not]
    omega
   have h2':op≠2:=by
    unfold pE at hn
    simp only[Bool.or_eq_true,decide_eq_true_eq] at hn
    omega
   simp only[c,c2,hcl,decide_true,decide_false,Bool.not_true,bA,Bool.false_eq_true,if_false,bfa,Bool.or_false,bta]
   rw[uG,if_neg h2',hl hn]
   by_cases c3:sns cok op tx 0 ks V=true
   ·simp[c3]
   ·simp[c3,h2']
  ·have c2:fx V tx<0:=by omega
   simp[c,c2]
 ·have hn':pE op=false:=by simpa using hn
  simp only[hn',bfa,Bool.false_eq_true,if_false,Bool.or_false]
  by_cases c:(Am op&& !cok op tx ks.length)=true
  ·simp[c]
  ·have c':(Am op&& !cok op tx ks.length)=false:=by simpa using c
   simp only[c',Bool.false_eq_true,if_false,Bool.or_false]
   by_cases c3:sns cok op tx 0 ks V=true
   ·simp[c3]
   ·simp only[c3,if_false,oms,Bool.false_eq_true]
    congr 1
    rw[uG]
    by_cases h:op=2
    ·simp only[if_pos h]
     cases ks with
     |nil=>exact absurd rfl (h2 h)
     |cons k ks=>simp only[zKu];rfl
    ·simp only[if_neg h]
theorem z29{k:Nat}{x:ZB}(h:Sh k x):∀V,x.nm cok (gQ V)=if x.sn cok V=true then none else some (gQ (x.le V)):=by
 induction h with
 |ex0 h=>intro V;exact j7 cok (fun _=>rfl) (by omega) (nG cok (by omega) (by simp) 0 V)
 |ex1 h ha ia=>intro V;exact j7 cok (fun _=>Sx (by simpa using ha) V) (by simp) (nG cok (by omega) (by simpa using ia) 0 V)
 |ex2 h ha hb ia ib=>intro V;exact j7 cok (fun _=>Sx (by simpa using ⟨ha,hb⟩) V) (by simp) (nG cok (by omega) (by simpa using ⟨ia,ib⟩) 0 V)
 |ex3 ha hb hc ia ib ic=>intro V;exact j7 cok (fun _=>Sx (by simpa using ⟨ha,hb,hc⟩) V) (by simp) (nG cok (by omega) (by simpa using ⟨ia,ib,ic⟩) 0 V)
 |cll h ih=>intro V;exact j7 cok (fun _=>Sx h V) (by omega) (nG cok (by omega) ih 0 V)
 |st1 h ha ia=>intro V;exact j7 cok (fun _=>Sx (by simpa using ha) V) (by simp) (nG cok (by omega) (by simpa using ia) 0 V)
 |st2 h ha hb ia ib=>intro V;exact j7 cok (fun _=>Sx (by simpa using ⟨ha,hb⟩) V) (by simp) (nG cok (by omega) (by simpa using ⟨ia,ib⟩) 0 V)
 |go_ h ih=>intro V;exact j7 cok (fun _=>Sx h V) (by omega) (nG cok (by omega) ih 0 V)
 |if1 ha hb ia ib=>intro V;exact j7 cok (fun h=>by simp[pE] at h) (by simp) (nG cok (by omega) (by simpa using ⟨ia,ib⟩) 0 V)
 |if2 ha hb hc ia ib ic=>intro V;exact j7 cok (fun h=>by simp[pE] at h) (by simp) (nG cok (by omega) (by simpa using ⟨ia,ib,ic⟩) 0 V)
 |whl ha hb ia ib=>intro V;exact j7 cok (fun h=>by simp[pE] at h) (by simp) (nG cok (by omega) (by simpa using ⟨ia,ib⟩) 0 V)
 |sel h ih=>intro V;exact j7 cok (fun h=>by simp[pE] at h) (by omega) (nG cok (by omega) ih 0 V)
 |blk h ih=>intro V;exact j7 cok (fun h=>by simp[pE] at h) (by omega) (nG cok (by omega) ih 0 V)
 | @tak tx v a b ha hb ia ib =>
  intro V
  have ea:=z2i ha V
  have hext:=zjF b V
  have hle:(ZB.mk 32 tx v [a,b]).le V=les [a,b] V:=by rw[uG,if_neg (by omega)]
  rw[zxO,H8,hle,Zr]
  simp only[nms,sns,les,ea,ia V,show pE 32=true from rfl,show Am 32=false from rfl,decide_true,bta,bfa,Bool.or_false,decide_false,Bool.false_or,show((0:Nat)=1)=False from by simp,Nat.zero_add]
  by_cases c:0≤fx V tx
  ·obtain⟨R,hR⟩:=hext
   have c1:¬fx V tx<0:=by omega
   have c2:¬fx (b.le V) tx<0:=by rw[hR,zVf c];omega
   simp only[c,c1,c2,decide_true,decide_false,Bool.not_true,Bool.false_eq_true,if_false,Bool.or_false,Bool.false_or]
   by_cases d:a.sn cok V=true
   ·simp[d]
   ·have d':a.sn cok V=false:=by simpa using d
    simp only[d',Bool.false_eq_true,if_false,obs,ib V,Bool.false_or]
    by_cases e:b.sn cok V=true
    ·simp[e]
    ·have e':b.sn cok V=false:=by simpa using e
     simp[e']
  ·have c1:fx V tx<0:=by omega
   simp[c,c1]
 |giv ha hb hc ia ib ic=>intro V;exact j7 cok (fun h=>by simp[pE] at h) (by simp) (nG cok (by omega) (by simpa using ⟨ia,ib,ic⟩) 0 V)
 |els hb ib=>intro V;exact j7 cok (fun h=>by simp[pE] at h) (by simp) (nG cok (by omega) (by simpa using ib) 0 V)
end
end Go.Ev.G
set_option maxHeartbeats 4000000
namespace Go.Ev.G
def fK(F:List ZA)(tx:ByteArray):Int:=aS (fun f=>decide (f.fName=tx)) 0 F
def Te(F:List ZA)(k:Int):Nat:=match F[k.toNat]? with
 |some f=>f.fParams.length
 |none=>0
def cok(F:List ZA)(i:Int)(op:Int)(tx:ByteArray)(n:Nat):Bool:=decide (0≤fK F tx)&&(!decide (op=26)||decide (fK F tx<i))&&(decide (op=31)||decide (Te F (fK F tx)=n))
def x5(F:List ZA)(k:Int):List ZC:=match F[k.toNat]? with
 |some f=>f.fParams
 |none=>[]
def cch(F:List ZA)(i:Int)(op:Int)(tx:ByteArray)(n j:Nat):Bool:=cok F i op tx n&&(match (x5 F (fK F tx))[j]? with
 |some p=>p.fChan
 |none=>false)
section
variable(F:List ZA)(at_:Int)(W:List ZC)
def nO(op:Int)(tx:ByteArray)(n j:Nat):Bool :=
 if op=2 then false else if op=9∨op=10∨op=11∨op=32∨op=33 then decide (j=0) else if op=3 then iH W tx else if op=26∨op=8 then cch F at_ op tx n j else false
def mtK(op:Int)(tx:ByteArray)(n:Nat):Nat→List (ZB×Bool)→Bool
 |_,[]=>false
 |j,k::ks=>(!decide (op=2)&&(jM W k.1 != nO F at_ W op tx n j))||k.2||mtK op tx n (j+1) ks
def mtF(op:Int)(tx:ByteArray)(_:Int)(ks:List (ZB×Bool)):Bool:=((decide (op=10)||decide (op=32))&&iH W tx)||mtK F at_ W op tx ks.length 0 ks
def ZB.mt(x:ZB):Bool:=x.fold (mtF F at_ W)
def mts(op:Int)(tx:ByteArray)(n:Nat):Nat→List ZB→Bool
 |_,[]=>false
 |j,k::ks=>(!decide (op=2)&&(jM W k != nO F at_ W op tx n j))||k.mt F at_ W||mts op tx n (j+1) ks
theorem z5N(op:Int)(tx:ByteArray)(v:Int)(ks:List ZB):(ZB.mk op tx v ks).mt F at_ W=(((decide (op=10)||decide (op=32))&&iH W tx)||mts F at_ W op tx ks.length 0 ks):=by
 have:∀(l:List ZB) (n j:Nat),mtK F at_ W op tx n j (l.map fun k=>(k,k.fold (mtF F at_ W)))=mts F at_ W op tx n j l:=by
  intro l n
  induction l with
  |nil=>intro j;rfl
  |cons k l ih=>intro j;rw[mc,mtK,mts,ih];rfl
 unfold ZB.mt
 rw[ZB.fold_eq,mtF,lm,this]
def wks(op:Int)(tx:ByteArray)(n:Nat):Nat→List ZB→Bool
 |_,[]=>false
 |j,k::ks=>(!decide (op=2)&&(jM W k != nO F at_ W op tx n j))||wks op tx n (j+1) ks
theorem zzq(op:Int)(tx:ByteArray)(n:Nat):∀(l:List ZB) (j:Nat),mts F at_ W op tx n j l=(wks F at_ W op tx n j l||l.any fun y=>y.mt F at_ W)
 |[],j=>rfl
 |y::r,j=>by
  rw[mts,wks,zzq op tx n r (j+1),List.any_cons]
  cases (!decide (op=2)&&(jM W y != nO F at_ W op tx n j))<;>cases y.mt F at_ W<;>cases wks F at_ W op tx n (j+1) r<;>simp
def zKT(x:ZB):Bool:=decide (19≤x.op∧x.op≤31)
def Ct(V:List ZC):List ZB→List ZC→Bool
 |k::ks,p::ps=>(jM V k != p.fChan)||Ct V ks ps
 |_,_=>false
def Al(op:Int)(tx:ByteArray)(ks:List ZB)(V:List ZC):Bool :=
 if op=2 then false
 else if op=3 then(match ks with|k::_=>jM V k != iH V tx|_=>false)
 else if op=8∨op=26 then Ct V ks (x5 F (fK F tx))
 else if op=9∨op=33 then(match ks with|k::q::_=>(jM V k != true)||(jM V q != false)|_=>false)
 else if op=10∨op=32 then(match ks with|k::_=>(jM V k != true)||iH V tx|_=>false)
 else if op=11 then(match ks with|k::_=>jM V k != true|_=>false)
 else ks.any fun k=>zKT k&&(jM V k != false)
def tyK:List (ZB×(List ZC→Bool))→List ZC→Bool
 |[],_=>false
 |k::ks,V=>k.2 V||tyK ks (k.1.le V)
def tyF(op:Int)(tx:ByteArray)(_:Int)(ks:List (ZB×(List ZC→Bool)))(V:List ZC):Bool:=tyK ks V||Al F op tx (ks.map (·.1)) (les (ks.map (·.1)) V)
def ZB.ty(x:ZB):List ZC→Bool:=x.fold (tyF F)
def tys:List ZB→List ZC→Bool
 |[],_=>false
 |k::ks,V=>k.ty F V||tys ks (k.le V)
theorem z4f(op:Int)(tx:ByteArray)(v:Int)(ks:List ZB)(V:List ZC):(ZB.mk op tx v ks).ty F V=(tys F ks V||Al F op tx ks (les ks V)):=by
 have:∀(l:List ZB) (V:List ZC),tyK (l.map fun k=>(k,k.fold (tyF F))) V=tys F l V:=by
  intro l
  induction l with
  |nil=>intro V;rfl
  |cons k l ih=>intro V;rw[mc,tyK,tys,ih];rfl
 unfold ZB.ty
 rw[ZB.fold_eq,tyF,this,zzW]
end
theorem Ru{x:ZB}{k:Nat}(h:Sh k x)(hk:k≠0)(V:List ZC):jM V x=false:=by
 have h0:=h.op
 have:k=1∨k=2∨k=3:=by cases h<;>omega
 unfold jM
 rw[if_neg (by omega),decide_eq_false (by omega)]
theorem zqi{cok:Int→ByteArray→Nat→Bool}{x:ZB}(h:Sh 0 x){V:List ZC}(hs:x.sn cok V=false)(R:List ZC):jM (V++R) x=jM V x:=by
 obtain⟨op,tx,v,ks⟩:=x
 show(if op=20 then iH (V++R) tx else decide (op=27))=(if op=20 then iH V tx else decide (op=27))
 by_cases c:op=20
 ·subst c
  rw[if_pos rfl,if_pos rfl]
  rw[H8] at hs
  have hks:ks=[]:=by cases h<;>first|rfl|omega
  subst hks
  rw[Bool.or_eq_false_iff,Bool.or_eq_false_iff] at hs
  have h3:decide (fx V tx<0)=false:=hs.1.2
  rw[decide_eq_false_iff_not] at h3
  exact Hr (by omega) R
 ·rw[if_neg c,if_neg c]
section
variable{F:List ZA}{at_:Int}{W:List ZC}{op:Int}{tx:ByteArray}
theorem Uv{cok:Int→ByteArray→Nat→Bool}{i:Nat}{y:ZB}{r:List ZB}{V:List ZC}(h:sns cok op tx i (y::r) V=false):y.sn cok V=false∧sns cok op tx (i+1) r (y.le V)=false:=by
 rw[sns,Bool.or_eq_false_iff,Bool.or_eq_false_iff] at h
 exact⟨h.1.2,h.2⟩
theorem v7{cok:Int→ByteArray→Nat→Bool}:∀(r:List ZB) (i:Nat) (V:List ZC),sns cok op tx i r V=false→(∃R,W=les r V++R)→∀y∈r,Sh 0 y→jM (les r V) y=jM W y
 |[],_,_,_,_,y,hy,_=>by simp at hy
 |z::r,i,V,hs,⟨R,hR⟩,y,hy,hsh=>by
  obtain⟨h1,h2⟩:=Uv hs
  rw[les] at hR ⊢
  rcases List.mem_cons.1 hy with rfl|hy
  ·obtain⟨R1,hR1⟩:=zx3 r (y.le V)
   rw[hR,hR1,z2i hsh,List.append_assoc,zqi hsh h1,zqi hsh h1]
  ·exact v7 r (i+1) (z.le V) h2 ⟨R,hR⟩ y hy hsh
abbrev Rd(F:List ZA)(at_:Int)(W:List ZC)(y:ZB):Prop:=∀V,y.sn (cok F at_) V=false→(∃R,W=y.le V++R)→y.ty F V=y.mt F at_ W
theorem zWV:∀(r:List ZB) (i:Nat) (V:List ZC),(∀y∈r,Rd F at_ W y)→sns (cok F at_) op tx i r V=false→(∃R,W=les r V++R)→tys F r V=r.any fun y=>y.mt F at_ W
 |[],_,_,_,_,_=>rfl
 |z::r,i,V,H,hs,⟨R,hR⟩=>by
  obtain⟨h1,h2⟩:=Uv hs
  rw[les] at hR
  obtain⟨R1,hR1⟩:=zx3 r (z.le V)
  rw[tys,List.any_cons,zWV r (i+1) (z.le V) (fun y hy=>H y (by simp[hy])) h2 ⟨R,hR⟩,H z (by simp) V h1 ⟨R1++R,by rw[hR,hR1,List.append_assoc]⟩]
theorem tW{v:Int}{ks:List ZB}(H:∀y∈ks,Rd F at_ W y)(own:∀V,sns (cok F at_) op tx 0 ks V=false→(ZB.mk op tx v ks).sn (cok F at_) V=false→(∃R,W=les ks V++R)→Al F op tx ks (les ks V)=(((decide (op=10)||decide (op=32))&&iH W tx)||wks F at_ W op tx ks.length 0 ks)):Rd F at_ W (.mk op tx v ks):=by
 intro V hs hW
 have hs':=hs
 rw[H8,Bool.or_eq_false_iff,Bool.or_eq_false_iff] at hs'
 have hle:∃R,W=les ks V++R:=by
  obtain⟨R,hR⟩:=hW
  rw[uG] at hR
  split at hR
  ·cases ks with
   |nil=>exact⟨R,hR⟩
   |cons k ks=>exact⟨_,by rw[hR,List.append_assoc]⟩
  ·exact⟨R,hR⟩
 rw[z4f,z5N,zzq,zWV ks 0 V H hs'.1.1 hle,own V hs'.1.1 hs hle]
 cases (ks.any fun y=>y.mt F at_ W)<;>cases ((decide (op=10)||decide (op=32))&&iH W tx)<;>cases wks F at_ W op tx ks.length 0 ks<;>rfl
theorem zxP(hop:op≠2∧op≠9∧op≠10∧op≠11∧op≠32∧op≠33∧op≠3∧op≠26∧op≠8)(n:Nat):∀(r:List ZB) (j:Nat),wks F at_ W op tx n j r=r.any fun k=>jM W k
 |[],_=>rfl
 |y::r,j=>by
  rw[wks,List.any_cons,zxP hop n r (j+1)]
  unfold nO
  rw[if_neg (by omega),if_neg (by omega),if_neg (by omega),if_neg (by omega),decide_eq_false hop.1]
  cases jM W y<;>rfl
theorem zxf{α:Type}{p q:α→Bool}:∀{l:List α},(∀x∈l,p x=q x)→l.any p=l.any q
 |[],_=>rfl
 |x::r,h=>by rw[List.any_cons,List.any_cons,h x (by simp),zxf (fun y hy=>h y (by simp[hy]))]
theorem oE{v:Int}{ks:List ZB}(hop:op≠2∧op≠9∧op≠10∧op≠11∧op≠32∧op≠33∧op≠3∧op≠26∧op≠8)(hsh:∀y∈ks,∃k,Sh k y)(H:∀y∈ks,Rd F at_ W y):Rd F at_ W (.mk op tx v ks):=by
 refine tW H fun V hs _ hW=> ?_
 rw[zxP hop,decide_eq_false (by omega),decide_eq_false (by omega)]
 unfold Al
 rw[if_neg (by omega),if_neg (by omega),if_neg (by omega),if_neg (by omega),if_neg (by omega),if_neg (by omega),Bool.or_false,bfa,Bool.false_or]
 refine zxf fun y hy=> ?_
 obtain⟨k,hk⟩:=hsh y hy
 by_cases c:k=0
 ·subst c
  rw[v7 ks 0 V hs hW y hy hk,show zKT y=true from by have:=hk.op.1 rfl;simp[zKT,this]]
  cases jM W y<;>rfl
 ·rw[Ru hk c,Ru hk c]
  simp
theorem zku{n:Nat}(hop:op=26∨op=8){V:List ZC}{P:List ZC}(hP:P=x5 F (fK F tx))(hc:cok F at_ op tx n=true):∀(r:List ZB) (ps:List ZC) (j:Nat),P.drop j=ps→r.length=ps.length→(∀y∈r,jM V y=jM W y)→Ct V r ps=wks F at_ W op tx n j r
 |[],[],j,_,_,_=>rfl
 |y::r,p::ps,j,hd,hl,hy=>by
  have hp:P[j]? = some p:=by
   have:=congrArg (fun l:List ZC=>l[0]?) hd
   simpa using this
  have hd2:P.drop (j+1)=ps:=by
   have:=congrArg (fun l:List ZC=>l.drop 1) hd
   simpa[List.drop_drop,Nat.add_comm] using this
  rw[Ct,wks,zku hop hP hc r ps (j+1) hd2 (by simpa using hl) (fun z hz=>hy z (by simp[hz])),hy y (by simp)]
  have hw:nO F at_ W op tx n j=p.fChan:=by
   unfold nO
   rw[if_neg (by omega),if_neg (by omega),if_neg (by omega),if_pos hop]
   unfold cch
   rw[hc,←hP,hp,bta]
  rw[hw,decide_eq_false (by omega)]
  simp
 |[],_::_,_,_,hl,_=>by simp at hl
 |_::_,[],_,_,hl,_=>by simp at hl
theorem zzs(k:Int):Te F k=(x5 F k).length:=by
 unfold Te x5
 split<;>rfl
theorem zqO{v:Int}{ks:List ZB}(hop:op=26∨op=8)(hsh:∀y∈ks,Sh 0 y)(H:∀y∈ks,Rd F at_ W y):Rd F at_ W (.mk op tx v ks):=by
 refine tW H fun V hs hsn hW=> ?_
 have hc:cok F at_ op tx ks.length=true:=by
  rw[H8,Bool.or_eq_false_iff] at hsn
  have:=hsn.2
  rw[show Am op=true from by rcases hop with rfl|rfl<;>rfl,bta] at this
  simpa using this
 have hl:ks.length=(x5 F (fK F tx)).length:=by
  unfold cok at hc
  simp only[bE,Bool.or_eq_true,decide_eq_true_eq] at hc
  rw[←zzs]
  have:=hc.2
  omega
 rw[decide_eq_false (by omega),decide_eq_false (by omega),Bool.or_false,bfa,Bool.false_or]
 unfold Al
 rw[if_neg (by omega),if_neg (by omega),if_pos (by omega)]
 exact zku hop rfl hc ks _ 0 rfl hl (fun y hy=>v7 ks 0 V hs hW y hy (hsh y hy))
theorem z1b{k:Nat}{x:ZB}(h:Sh k x):Rd F at_ W x:=by
 induction h with
 |ex0 h=>exact oE (by omega) (by simp) (by simp)
 |ex1 h ha ia=>exact oE (by omega) (by simpa using ⟨_,ha⟩) (by simpa using ia)
 |ex2 h ha hb ia ib=>exact oE (by omega) (by simpa using ⟨⟨_,ha⟩,⟨_,hb⟩⟩) (by simpa using ⟨ia,ib⟩)
 |ex3 ha hb hc ia ib ic=>exact oE (by omega) (by simpa using ⟨⟨_,ha⟩,⟨_,hb⟩,⟨_,hc⟩⟩) (by simpa using ⟨ia,ib,ic⟩)
 |cll h ih=>exact zqO (.inl rfl) h ih
 | @st1 op tx v a h ha ia =>
  have H:∀y∈[a],Rd F at_ W y:=by simpa using ia
  by_cases c2:op=2
  ·subst c2
   refine tW H fun V hs hsn hW=> ?_
   simp[Al,wks]
  by_cases c3:op=3
  ·subst c3
   refine tW H fun V hs hsn hW=> ?_
   have h1:=v7 [a] 0 V hs hW a (by simp) ha
   have h2:iH (les [a] V) tx=iH W tx:=by
    rw[H8,Bool.or_eq_false_iff,Bool.or_eq_false_iff] at hsn
    have h3:=hsn.1.2
    simp only[show pE 3=true from rfl,bta,decide_eq_false_iff_not] at h3
    obtain⟨R,hR⟩:=hW
    rw[hR,Hr (by omega)]
   simp[Al,wks,nO,h1,h2]
  by_cases c10:op=10
  ·subst c10
   refine tW H fun V hs hsn hW=> ?_
   have h1:=v7 [a] 0 V hs hW a (by simp) ha
   have h2:iH (les [a] V) tx=iH W tx:=by
    rw[H8,Bool.or_eq_false_iff,Bool.or_eq_false_iff] at hsn
    have h3:=hsn.1.2
    simp only[show pE 10=true from rfl,bta,decide_eq_false_iff_not] at h3
    obtain⟨R,hR⟩:=hW
    rw[hR,Hr (by omega)]
   simp[Al,wks,nO,h1,h2]
   cases jM W a<;>cases iH W tx<;>rfl
  by_cases c11:op=11
  ·subst c11
   refine tW H fun V hs hsn hW=> ?_
   have h1:=v7 [a] 0 V hs hW a (by simp) ha
   simp[Al,wks,nO,h1]
  exact oE (by omega) (by simpa using ⟨_,ha⟩) H
 | @st2 op tx v a b h ha hb ia ib =>
  have H:∀y∈[a,b],Rd F at_ W y:=by simpa using ⟨ia,ib⟩
  by_cases c9:op=9
  ·subst c9
   refine tW H fun V hs hsn hW=> ?_
   have h1:=v7 [a,b] 0 V hs hW a (by simp) ha
   have h2:=v7 [a,b] 0 V hs hW b (by simp) hb
   simp[Al,wks,nO,h1,h2]
  exact oE (by omega) (by simpa using ⟨⟨_,ha⟩,⟨_,hb⟩⟩) H
 |go_ h ih=>exact zqO (.inr rfl) h ih
 |if1 ha hb ia ib=>exact oE (by omega) (by simpa using ⟨⟨_,ha⟩,⟨_,hb⟩⟩) (by simpa using ⟨ia,ib⟩)
 |if2 ha hb hc ia ib ic=>exact oE (by omega) (by simpa using ⟨⟨_,ha⟩,⟨_,hb⟩,⟨_,hc⟩⟩) (by simpa using ⟨ia,ib,ic⟩)
 |whl ha hb ia ib=>exact oE (by omega) (by simpa using ⟨⟨_,ha⟩,⟨_,hb⟩⟩) (by simpa using ⟨ia,ib⟩)
 |sel h ih=>exact oE (by omega) (fun y hy=>⟨_,h y hy⟩) ih
 |blk h ih=>exact oE (by omega) (fun y hy=>⟨_,h y hy⟩) ih
 | @tak tx v a b ha hb ia ib =>
  have H:∀y∈[a,b],Rd F at_ W y:=by simpa using ⟨ia,ib⟩
  refine tW H fun V hs hsn hW=> ?_
  have h1:=v7 [a,b] 0 V hs hW a (by simp) ha
  have h2:iH (les [a,b] V) tx=iH W tx:=by
   rw[H8,Bool.or_eq_false_iff,Bool.or_eq_false_iff] at hsn
   have h3:=hsn.1.2
   simp only[show pE 32=true from rfl,bta,decide_eq_false_iff_not] at h3
   obtain⟨R,hR⟩:=hW
   rw[hR,Hr (by omega)]
  simp[Al,wks,nO,h1,h2,Ru hb (by omega)]
  cases jM W a<;>cases iH W tx<;>rfl
 | @giv tx v a b c ha hb hc ia ib ic =>
  have H:∀y∈[a,b,c],Rd F at_ W y:=by simpa using ⟨ia,ib,ic⟩
  refine tW H fun V hs hsn hW=> ?_
  have h1:=v7 [a,b,c] 0 V hs hW a (by simp) ha
  have h2:=v7 [a,b,c] 0 V hs hW b (by simp) hb
  simp[Al,wks,nO,h1,h2,Ru hc (by omega)]
 |els hb ib=>exact oE (by omega) (by simpa using ⟨_,hb⟩) (by simpa using ib)
end
end Go.Ev.G
