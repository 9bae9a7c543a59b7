import Derived.Test.YtenclibcnjkamaaGreatEvTab
import Derived.Test.YtenclibcnjkamaaGreatProg
import Derived.KernelRfl
set_option linter.all false
namespace Go.Ev.G
open Go.Proofs
theorem D8:bA Tryz.prog 6 mZ=true:=by kernel_rfl
theorem O3:bA Tryz.prog 13 uM=true:=by kernel_rfl
theorem Nl:bA Tryz.prog 15 tT=true:=by kernel_rfl
theorem Ny:bA Tryz.prog 17 tU=true:=by kernel_rfl
theorem Ix:bA Tryz.prog 18 pU=true:=by kernel_rfl
theorem Vr:bA Tryz.prog 24 Af=true:=by kernel_rfl
theorem Xz:bA Tryz.prog 25 zD=true:=by kernel_rfl
theorem J0:bA Tryz.prog 26 r6=true:=by kernel_rfl
theorem Hc:bA Tryz.prog 27 oO=true:=by kernel_rfl
theorem Gc:bA Tryz.prog 28 oR=true:=by kernel_rfl
theorem N6:bA Tryz.prog 36 uJ=true:=by kernel_rfl
theorem N4:bA Tryz.prog 42 t8=true:=by kernel_rfl
theorem Pi:bA Tryz.prog 48 uB=true:=by kernel_rfl
theorem I6:bA Tryz.prog 49 qD=true:=by kernel_rfl
theorem It:bA Tryz.prog 55 qB=true:=by kernel_rfl
theorem N7:bA Tryz.prog 56 tZ=true:=by kernel_rfl
theorem Io:bA Tryz.prog 57 qA=true:=by kernel_rfl
theorem L9:bA Tryz.prog 58 r7=true:=by kernel_rfl
theorem H5:bA Tryz.prog 59 qF=true:=by kernel_rfl
theorem Np:bA Tryz.prog 60 t6=true:=by kernel_rfl
theorem kN:bA Tryz.prog 61 cS=true:=by kernel_rfl
theorem Oh:bA Tryz.prog 62 tR=true:=by kernel_rfl
theorem Pj:bA Tryz.prog 63 uC=true:=by kernel_rfl
theorem Sk:bA Tryz.prog 64 wT=true:=by kernel_rfl
theorem Az:bA Tryz.prog 65 kU=true:=by kernel_rfl
theorem Nk:bA Tryz.prog 66 uZ=true:=by kernel_rfl
theorem Rk:bA Tryz.prog 71 w8=true:=by kernel_rfl
theorem Oe:bA Tryz.prog 75 tO=true:=by kernel_rfl
theorem Mh:bA Tryz.prog 77 sC=true:=by kernel_rfl
theorem Vu:bA Tryz.prog 79 zY=true:=by kernel_rfl
theorem S7:bA Tryz.prog 82 wO=true:=by kernel_rfl
theorem Xu:bA Tryz.prog 87 Ad=true:=by kernel_rfl
theorem Pn:bA Tryz.prog 88 uI=true:=by kernel_rfl
theorem Wi:bA Tryz.prog 93 Bb=true:=by kernel_rfl
theorem S4:bA Tryz.prog 96 wX=true:=by kernel_rfl
theorem H4:bA Tryz.prog 97 qH=true:=by kernel_rfl
theorem Rb:bA Tryz.prog 99 xI=true:=by kernel_rfl
theorem W5:bA Tryz.prog 100 Bh=true:=by kernel_rfl
theorem Tf:bA Tryz.prog 101 xQ=true:=by kernel_rfl
theorem I5:bA Tryz.prog 102 pR=true:=by kernel_rfl
theorem Ik:bA Tryz.prog 103 p8=true:=by kernel_rfl
theorem En:bA Tryz.prog 104 n5=true:=by kernel_rfl
theorem Iv:bA Tryz.prog 105 qE=true:=by kernel_rfl
theorem Lr:bA Tryz.prog 106 rO=true:=by kernel_rfl
theorem Nj:bA Tryz.prog 107 uD=true:=by kernel_rfl
theorem I4:bA Tryz.prog 108 pT=true:=by kernel_rfl
theorem Ie:bA Tryz.prog 109 qG=true:=by kernel_rfl
theorem Rd:bA Tryz.prog 110 wY=true:=by kernel_rfl
theorem M5:bA Tryz.prog 111 rQ=true:=by kernel_rfl
theorem Nq:bA Tryz.prog 112 uE=true:=by kernel_rfl
theorem No:bA Tryz.prog 113 uA=true:=by kernel_rfl
theorem Pg:bA Tryz.prog 114 t7=true:=by kernel_rfl
theorem Oi:bA Tryz.prog 115 tV=true:=by kernel_rfl
theorem Si:bA Tryz.prog 116 wW=true:=by kernel_rfl
theorem Nb:bA Tryz.prog 117 rT=true:=by kernel_rfl
theorem lW:bA Tryz.prog 118 dF=true:=by kernel_rfl
theorem Tz:bA Tryz.prog 119 xC=true:=by kernel_rfl
theorem K7:bA Tryz.prog 120 r9=true:=by kernel_rfl
theorem oB:bA Tryz.prog 121 d4=true:=by kernel_rfl
theorem Jy:bA Tryz.prog 122 sF=true:=by kernel_rfl
theorem uQ:bA Tryz.prog 123 gV=true:=by kernel_rfl
theorem sL:bA Tryz.prog 124 gG=true:=by kernel_rfl
theorem Dj:bA Tryz.prog 125 m3=true:=by kernel_rfl
theorem B4:bA Tryz.prog 126 lV=true:=by kernel_rfl
theorem B6:bA Tryz.prog 127 l4=true:=by kernel_rfl
theorem yY:bA Tryz.prog 128 lB=true:=by kernel_rfl
theorem Ca:bA Tryz.prog 129 l5=true:=by kernel_rfl
theorem yN:bA Tryz.prog 130 j8=true:=by kernel_rfl
theorem zF:bA Tryz.prog 131 kZ=true:=by kernel_rfl
theorem Tl:bA Tryz.prog 132 wN=true:=by kernel_rfl
theorem Ou:bA Tryz.prog 133 uN=true:=by kernel_rfl
theorem Kd:bA Tryz.prog 135 rV=true:=by kernel_rfl
theorem R7:bA Tryz.prog 136 xN=true:=by kernel_rfl
theorem Ov:bA Tryz.prog 137 u6=true:=by kernel_rfl
theorem Oy:bA Tryz.prog 142 uH=true:=by kernel_rfl
theorem Ai:bA Tryz.prog 145 kS=true:=by kernel_rfl
theorem Ox:bA Tryz.prog 148 uL=true:=by kernel_rfl
theorem qR:bA Tryz.prog 149 fE=true:=by kernel_rfl
theorem Ur:bA Tryz.prog 150 A5=true:=by kernel_rfl
theorem Ky:bA Tryz.prog 151 sJ=true:=by kernel_rfl
theorem Lg:bA Tryz.prog 152 rJ=true:=by kernel_rfl
theorem Nm:bA Tryz.prog 153 tN=true:=by kernel_rfl
theorem Xn:bA Tryz.prog 154 zR=true:=by kernel_rfl
theorem Pk:bA Tryz.prog 155 tQ=true:=by kernel_rfl
theorem Kj:bA Tryz.prog 156 rL=true:=by kernel_rfl
theorem Og:bA Tryz.prog 157 uT=true:=by kernel_rfl
theorem Pl:bA Tryz.prog 158 tL=true:=by kernel_rfl
theorem pE:bA Tryz.prog 159 eE=true:=by kernel_rfl
theorem Vk:bA Tryz.prog 160 yX=true:=by kernel_rfl
theorem Jp:bA Tryz.prog 161 sG=true:=by kernel_rfl
theorem G6:bA Tryz.prog 162 oU=true:=by kernel_rfl
theorem Me:bA Tryz.prog 163 rB=true:=by kernel_rfl
theorem wJ:bA Tryz.prog 164 iH=true:=by kernel_rfl
theorem rC:bA Tryz.prog 167 fO=true:=by kernel_rfl
theorem w9:bA Tryz.prog 168 jN=true:=by kernel_rfl
theorem Nv:bA Tryz.prog 169 tM=true:=by kernel_rfl
theorem Vh:bA Tryz.prog 172 y6=true:=by kernel_rfl
theorem tP:bA Tryz.prog 173 gZ=true:=by kernel_rfl
theorem uX:bA Tryz.prog 174 gY=true:=by kernel_rfl
theorem uG:bA Tryz.prog 176 hX=true:=by kernel_rfl
theorem rR:bA Tryz.prog 177 fP=true:=by kernel_rfl
theorem Lb:bA Tryz.prog 178 sA=true:=by kernel_rfl
theorem nI:bA Tryz.prog 182 dS=true:=by kernel_rfl
theorem pV:bA Tryz.prog 183 eR=true:=by kernel_rfl
theorem rN:bA Tryz.prog 195 fT=true:=by kernel_rfl
theorem pQ:bA Tryz.prog 202 eA=true:=by kernel_rfl
theorem zQv:∀p∈zJF,bA Tryz.prog p.1 p.2=true:=by
 intro p hp
 simp only[zJF,List.mem_cons,List.not_mem_nil,or_false] at hp
 rcases hp with rfl|rfl|rfl|rfl|rfl|rfl|rfl|rfl|rfl|rfl|rfl|rfl|rfl|rfl|rfl|rfl|rfl|rfl|rfl|rfl|rfl|rfl|rfl|rfl|rfl|rfl|rfl|rfl|rfl|rfl|rfl|rfl|rfl|rfl|rfl|rfl|rfl|rfl|rfl|rfl
 ·exact D8
 ·exact O3
 ·exact Nl
 ·exact Ny
 ·exact Ix
 ·exact Vr
 ·exact Xz
 ·exact J0
 ·exact Hc
 ·exact Gc
 ·exact N6
 ·exact N4
 ·exact Pi
 ·exact I6
 ·exact It
 ·exact N7
 ·exact Io
 ·exact L9
 ·exact H5
 ·exact Np
 ·exact kN
 ·exact Oh
 ·exact Pj
 ·exact Sk
 ·exact Az
 ·exact Nk
 ·exact Rk
 ·exact Oe
 ·exact Mh
 ·exact Vu
 ·exact S7
 ·exact Xu
 ·exact Pn
 ·exact Wi
 ·exact S4
 ·exact H4
 ·exact Rb
 ·exact W5
 ·exact Tf
 ·exact I5
theorem zyW:∀p∈zyi,bA Tryz.prog p.1 p.2=true:=by
 intro p hp
 simp only[zyi,List.mem_cons,List.not_mem_nil,or_false] at hp
 rcases hp with rfl|rfl|rfl|rfl|rfl|rfl|rfl|rfl|rfl|rfl|rfl|rfl|rfl|rfl|rfl|rfl|rfl|rfl|rfl|rfl|rfl|rfl|rfl|rfl|rfl|rfl|rfl|rfl|rfl|rfl|rfl|rfl|rfl|rfl|rfl|rfl|rfl|rfl|rfl|rfl
 ·exact Ik
 ·exact En
 ·exact Iv
 ·exact Lr
 ·exact Nj
 ·exact I4
 ·exact Ie
 ·exact Rd
 ·exact M5
 ·exact Nq
 ·exact No
 ·exact Pg
 ·exact Oi
 ·exact Si
 ·exact Nb
 ·exact lW
 ·exact Tz
 ·exact K7
 ·exact oB
 ·exact Jy
 ·exact uQ
 ·exact sL
 ·exact Dj
 ·exact B4
 ·exact B6
 ·exact yY
 ·exact Ca
 ·exact yN
 ·exact zF
 ·exact Tl
 ·exact Ou
 ·exact Kd
 ·exact R7
 ·exact Ov
 ·exact Oy
 ·exact Ai
 ·exact Ox
 ·exact qR
 ·exact Ur
 ·exact Ky
theorem zZq:∀p∈zJ0,bA Tryz.prog p.1 p.2=true:=by
 intro p hp
 simp only[zJ0,List.mem_cons,List.not_mem_nil,or_false] at hp
 rcases hp with rfl|rfl|rfl|rfl|rfl|rfl|rfl|rfl|rfl|rfl|rfl|rfl|rfl|rfl|rfl|rfl|rfl|rfl|rfl|rfl|rfl|rfl|rfl|rfl|rfl|rfl
 ·exact Lg
 ·exact Nm
 ·exact Xn
 ·exact Pk
 ·exact Kj
 ·exact Og
 ·exact Pl
 ·exact pE
 ·exact Vk
 ·exact Jp
 ·exact G6
 ·exact Me
 ·exact wJ
 ·exact rC
 ·exact w9
 ·exact Nv
 ·exact Vh
 ·exact tP
 ·exact uX
 ·exact uG
 ·exact rR
 ·exact Lb
 ·exact nI
 ·exact pV
 ·exact rN
 ·exact pQ
theorem zVu(h165:LibOk Tryz.prog 165 1)(h166:LibOk Tryz.prog 166 2)(h179:LibGrow Tryz.prog 179):∀p∈tabL,bA Tryz.prog p.1 p.2=true∨zxS Tryz.prog p.1 p.2:=fun p hp=>(List.mem_append.1 hp).elim (fun hp=> .inl ((fun p hp=>(List.mem_append.1 hp).elim ((fun p hp=>(List.mem_append.1 hp).elim ((fun p hp=>zQv p hp) p) (zyW p)) p) (zZq p)) p hp)) (fun hp=>by
 simp only[zyY,List.mem_cons,List.not_mem_nil,or_false] at hp
 rcases hp with rfl|rfl|rfl
 ·exact .inr (.inl ⟨1,rfl,rfl,rfl,by decide,h165⟩)
 ·exact .inr (.inl ⟨2,rfl,rfl,rfl,by decide,h166⟩)
 ·exact .inr (.inr ⟨rfl,rfl,rfl,h179⟩))
theorem tab_ok(h165:LibOk Tryz.prog 165 1)(h166:LibOk Tryz.prog 166 2)(h179:LibGrow Tryz.prog 179):Tab Tryz.prog tab:=fun f s h=>by
 unfold tab at h
 rw[aC] at h
 obtain⟨p,h1,rfl⟩:=h
 have h2:=List.find?_some h1
 simp only[beq_iff_eq] at h2
 subst h2
 exact zVu h165 h166 h179 p (List.mem_of_find?_eq_some h1)
end Go.Ev.G
