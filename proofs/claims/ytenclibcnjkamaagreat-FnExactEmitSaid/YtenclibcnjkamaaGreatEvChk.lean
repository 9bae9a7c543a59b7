import Derived.Test.YtenclibcnjkamaaGreatEvTab
import Derived.Test.YtenclibcnjkamaaGreatProg
import Derived.KernelRfl
set_option linter.all false
namespace Go.Ev.G
open Go.Proofs
theorem D1:bA Tryz.prog 6 m3=true:=by kernel_rfl
theorem N1:bA Tryz.prog 13 uU=true:=by kernel_rfl
theorem On:bA Tryz.prog 15 t7=true:=by kernel_rfl
theorem Oe:bA Tryz.prog 17 tO=true:=by kernel_rfl
theorem Ie:bA Tryz.prog 18 p7=true:=by kernel_rfl
theorem Ww:bA Tryz.prog 24 Ap=true:=by kernel_rfl
theorem Vh:bA Tryz.prog 25 A3=true:=by kernel_rfl
theorem Md:bA Tryz.prog 26 rF=true:=by kernel_rfl
theorem G5:bA Tryz.prog 27 oP=true:=by kernel_rfl
theorem Gq:bA Tryz.prog 28 oT=true:=by kernel_rfl
theorem Ol:bA Tryz.prog 36 uO=true:=by kernel_rfl
theorem O6:bA Tryz.prog 42 tR=true:=by kernel_rfl
theorem Nx:bA Tryz.prog 48 uC=true:=by kernel_rfl
theorem Io:bA Tryz.prog 49 qG=true:=by kernel_rfl
theorem Il:bA Tryz.prog 55 p6=true:=by kernel_rfl
theorem Pj:bA Tryz.prog 56 u5=true:=by kernel_rfl
theorem Is:bA Tryz.prog 57 pR=true:=by kernel_rfl
theorem Mi:bA Tryz.prog 58 r7=true:=by kernel_rfl
theorem Ih:bA Tryz.prog 59 pY=true:=by kernel_rfl
theorem Nr:bA Tryz.prog 60 uJ=true:=by kernel_rfl
theorem kN:bA Tryz.prog 61 cS=true:=by kernel_rfl
theorem Ny:bA Tryz.prog 62 uK=true:=by kernel_rfl
theorem Oz:bA Tryz.prog 63 uP=true:=by kernel_rfl
theorem R7:bA Tryz.prog 64 xH=true:=by kernel_rfl
theorem z7:bA Tryz.prog 65 kY=true:=by kernel_rfl
theorem Ow:bA Tryz.prog 66 uA=true:=by kernel_rfl
theorem S9:bA Tryz.prog 71 xE=true:=by kernel_rfl
theorem N2:bA Tryz.prog 75 uI=true:=by kernel_rfl
theorem Mz:bA Tryz.prog 77 sB=true:=by kernel_rfl
theorem Xx:bA Tryz.prog 79 Bb=true:=by kernel_rfl
theorem Rr:bA Tryz.prog 82 xG=true:=by kernel_rfl
theorem Wl:bA Tryz.prog 87 yQ=true:=by kernel_rfl
theorem O2:bA Tryz.prog 88 t6=true:=by kernel_rfl
theorem Xw:bA Tryz.prog 93 Bc=true:=by kernel_rfl
theorem Q3:bA Tryz.prog 96 xK=true:=by kernel_rfl
theorem Iz:bA Tryz.prog 97 qA=true:=by kernel_rfl
theorem Tg:bA Tryz.prog 99 xP=true:=by kernel_rfl
theorem Xs:bA Tryz.prog 100 Ad=true:=by kernel_rfl
theorem Ru:bA Tryz.prog 101 xO=true:=by kernel_rfl
theorem Iv:bA Tryz.prog 102 pX=true:=by kernel_rfl
theorem Ib:bA Tryz.prog 103 pQ=true:=by kernel_rfl
theorem E5:bA Tryz.prog 104 nP=true:=by kernel_rfl
theorem H1:bA Tryz.prog 105 p9=true:=by kernel_rfl
theorem J8:bA Tryz.prog 106 rB=true:=by kernel_rfl
theorem Nm:bA Tryz.prog 107 uH=true:=by kernel_rfl
theorem I3:bA Tryz.prog 108 qC=true:=by kernel_rfl
theorem Iw:bA Tryz.prog 109 p8=true:=by kernel_rfl
theorem Tj:bA Tryz.prog 110 w5=true:=by kernel_rfl
theorem Ku:bA Tryz.prog 111 rN=true:=by kernel_rfl
theorem Nt:bA Tryz.prog 112 uD=true:=by kernel_rfl
theorem Nw:bA Tryz.prog 113 uT=true:=by kernel_rfl
theorem Ph:bA Tryz.prog 114 t8=true:=by kernel_rfl
theorem Nj:bA Tryz.prog 115 u7=true:=by kernel_rfl
theorem Q9:bA Tryz.prog 116 wL=true:=by kernel_rfl
theorem K2:bA Tryz.prog 117 sG=true:=by kernel_rfl
theorem lU:bA Tryz.prog 118 dD=true:=by kernel_rfl
theorem Th:bA Tryz.prog 119 wT=true:=by kernel_rfl
theorem Jy:bA Tryz.prog 120 r9=true:=by kernel_rfl
theorem oA:bA Tryz.prog 121 d4=true:=by kernel_rfl
theorem Li:bA Tryz.prog 122 rT=true:=by kernel_rfl
theorem tZ:bA Tryz.prog 123 hY=true:=by kernel_rfl
theorem sK:bA Tryz.prog 124 gI=true:=by kernel_rfl
theorem D7:bA Tryz.prog 125 mY=true:=by kernel_rfl
theorem B7:bA Tryz.prog 126 lX=true:=by kernel_rfl
theorem B3:bA Tryz.prog 127 l4=true:=by kernel_rfl
theorem zA:bA Tryz.prog 128 kX=true:=by kernel_rfl
theorem B9:bA Tryz.prog 129 lY=true:=by kernel_rfl
theorem yL:bA Tryz.prog 130 j5=true:=by kernel_rfl
theorem Af:bA Tryz.prog 131 kU=true:=by kernel_rfl
theorem Tk:bA Tryz.prog 132 xL=true:=by kernel_rfl
theorem Oc:bA Tryz.prog 133 uN=true:=by kernel_rfl
theorem Kf:bA Tryz.prog 135 sC=true:=by kernel_rfl
theorem Ri:bA Tryz.prog 136 wU=true:=by kernel_rfl
theorem Pk:bA Tryz.prog 137 tL=true:=by kernel_rfl
theorem Np:bA Tryz.prog 142 uF=true:=by kernel_rfl
theorem Au:bA Tryz.prog 145 lA=true:=by kernel_rfl
theorem N6:bA Tryz.prog 148 u4=true:=by kernel_rfl
theorem qY:bA Tryz.prog 149 fH=true:=by kernel_rfl
theorem Vf:bA Tryz.prog 150 A0=true:=by kernel_rfl
theorem J6:bA Tryz.prog 151 rA=true:=by kernel_rfl
theorem Jw:bA Tryz.prog 152 rM=true:=by kernel_rfl
theorem Pd:bA Tryz.prog 153 tQ=true:=by kernel_rfl
theorem T5:bA Tryz.prog 154 y6=true:=by kernel_rfl
theorem Nu:bA Tryz.prog 155 uY=true:=by kernel_rfl
theorem J2:bA Tryz.prog 156 rI=true:=by kernel_rfl
theorem N0:bA Tryz.prog 157 uM=true:=by kernel_rfl
theorem Oi:bA Tryz.prog 158 uQ=true:=by kernel_rfl
theorem pH:bA Tryz.prog 159 eI=true:=by kernel_rfl
theorem Xy:bA Tryz.prog 160 A8=true:=by kernel_rfl
theorem Lf:bA Tryz.prog 161 rH=true:=by kernel_rfl
theorem Gl:bA Tryz.prog 162 oK=true:=by kernel_rfl
theorem My:bA Tryz.prog 163 rQ=true:=by kernel_rfl
theorem vO:bA Tryz.prog 164 iH=true:=by kernel_rfl
theorem rY:bA Tryz.prog 167 fQ=true:=by kernel_rfl
theorem xJ:bA Tryz.prog 168 jM=true:=by kernel_rfl
theorem Ng:bA Tryz.prog 169 tM=true:=by kernel_rfl
theorem Xg:bA Tryz.prog 172 Aq=true:=by kernel_rfl
theorem uX:bA Tryz.prog 173 gU=true:=by kernel_rfl
theorem tW:bA Tryz.prog 174 gR=true:=by kernel_rfl
theorem tV:bA Tryz.prog 176 hX=true:=by kernel_rfl
theorem rE:bA Tryz.prog 177 fW=true:=by kernel_rfl
theorem J0:bA Tryz.prog 178 rL=true:=by kernel_rfl
theorem nH:bA Tryz.prog 182 dR=true:=by kernel_rfl
theorem pZ:bA Tryz.prog 183 eR=true:=by kernel_rfl
theorem sF:bA Tryz.prog 195 fY=true:=by kernel_rfl
theorem pA:bA Tryz.prog 202 eG=true:=by kernel_rfl
theorem zw8:∀p∈zxD,bA Tryz.prog p.1 p.2=true:=by
 intro p hp
 simp only[zxD,List.mem_cons,List.not_mem_nil,or_false] at hp
 rcases hp with rfl|rfl|rfl|rfl|rfl|rfl|rfl|rfl|rfl|rfl|rfl|rfl|rfl|rfl|rfl|rfl|rfl|rfl|rfl|rfl|rfl|rfl|rfl|rfl|rfl|rfl|rfl|rfl|rfl|rfl|rfl|rfl|rfl|rfl|rfl|rfl|rfl|rfl|rfl|rfl
 ·exact D1
 ·exact N1
 ·exact On
 ·exact Oe
 ·exact Ie
 ·exact Ww
 ·exact Vh
 ·exact Md
 ·exact G5
 ·exact Gq
 ·exact Ol
 ·exact O6
 ·exact Nx
 ·exact Io
 ·exact Il
 ·exact Pj
 ·exact Is
 ·exact Mi
 ·exact Ih
 ·exact Nr
 ·exact kN
 ·exact Ny
 ·exact Oz
 ·exact R7
 ·exact z7
 ·exact Ow
 ·exact S9
 ·exact N2
 ·exact Mz
 ·exact Xx
 ·exact Rr
 ·exact Wl
 ·exact O2
 ·exact Xw
 ·exact Q3
 ·exact Iz
 ·exact Tg
 ·exact Xs
 ·exact Ru
 ·exact Iv
theorem zJp:∀p∈zJL,bA Tryz.prog p.1 p.2=true:=by
 intro p hp
 simp only[zJL,List.mem_cons,List.not_mem_nil,or_false] at hp
 rcases hp with rfl|rfl|rfl|rfl|rfl|rfl|rfl|rfl|rfl|rfl|rfl|rfl|rfl|rfl|rfl|rfl|rfl|rfl|rfl|rfl|rfl|rfl|rfl|rfl|rfl|rfl|rfl|rfl|rfl|rfl|rfl|rfl|rfl|rfl|rfl|rfl|rfl|rfl|rfl|rfl
 ·exact Ib
 ·exact E5
 ·exact H1
 ·exact J8
 ·exact Nm
 ·exact I3
 ·exact Iw
 ·exact Tj
 ·exact Ku
 ·exact Nt
 ·exact Nw
 ·exact Ph
 ·exact Nj
 ·exact Q9
 ·exact K2
 ·exact lU
 ·exact Th
 ·exact Jy
 ·exact oA
 ·exact Li
 ·exact tZ
 ·exact sK
 ·exact D7
 ·exact B7
 ·exact B3
 ·exact zA
 ·exact B9
 ·exact yL
 ·exact Af
 ·exact Tk
 ·exact Oc
 ·exact Kf
 ·exact Ri
 ·exact Pk
 ·exact Np
 ·exact Au
 ·exact N6
 ·exact qY
 ·exact Vf
 ·exact J6
theorem zQi:∀p∈zKe,bA Tryz.prog p.1 p.2=true:=by
 intro p hp
 simp only[zKe,List.mem_cons,List.not_mem_nil,or_false] at hp
 rcases hp with rfl|rfl|rfl|rfl|rfl|rfl|rfl|rfl|rfl|rfl|rfl|rfl|rfl|rfl|rfl|rfl|rfl|rfl|rfl|rfl|rfl|rfl|rfl|rfl|rfl|rfl
 ·exact Jw
 ·exact Pd
 ·exact T5
 ·exact Nu
 ·exact J2
 ·exact N0
 ·exact Oi
 ·exact pH
 ·exact Xy
 ·exact Lf
 ·exact Gl
 ·exact My
 ·exact vO
 ·exact rY
 ·exact xJ
 ·exact Ng
 ·exact Xg
 ·exact uX
 ·exact tW
 ·exact tV
 ·exact rE
 ·exact J0
 ·exact nH
 ·exact pZ
 ·exact sF
 ·exact pA
theorem zVD(h165:LibOk Tryz.prog 165 1)(h166:LibOk Tryz.prog 166 2)(h179:LibGrow Tryz.prog 179):∀p∈tabL,bA Tryz.prog p.1 p.2=true∨zyL Tryz.prog p.1 p.2:=fun p hp=>(List.mem_append.1 hp).elim (fun hp=> .inl ((fun p hp=>(List.mem_append.1 hp).elim ((fun p hp=>(List.mem_append.1 hp).elim ((fun p hp=>zw8 p hp) p) (zJp p)) p) (zQi p)) p hp)) (fun hp=>by
 simp only[zyY,List.mem_cons,List.not_mem_nil,or_false] at hp
 rcases hp with rfl|rfl|rfl
 ·exact .inr (.inl ⟨1,rfl,rfl,rfl,by decide,h165⟩)
 ·exact .inr (.inl ⟨2,rfl,rfl,rfl,by decide,h166⟩)
 ·exact .inr (.inr ⟨rfl,rfl,rfl,h179⟩))
theorem tab_ok(h165:LibOk Tryz.prog 165 1)(h166:LibOk Tryz.prog 166 2)(h179:LibGrow Tryz.prog 179):Tab Tryz.prog tab:=fun f s h=>by
 unfold tab at h
 rw[aC] at h
 obtain⟨p,h1,rfl⟩:=h
 have h2:=List.find?_some h1
 simp only[beq_iff_eq] at h2
 subst h2
 exact zVD h165 h166 h179 p (List.mem_of_find?_eq_some h1)
end Go.Ev.G
