import Derived.Test.YtenclibcnjkamaaGreatEvTab
import Derived.Test.YtenclibcnjkamaaGreatProg
import Derived.KernelRfl
set_option linter.all false
namespace Go.Ev.G
open Go.Proofs
theorem vM:aU Tryz.prog 5 gE=true:=by kernel_rfl
theorem Lz:aU Tryz.prog 8 p4=true:=by kernel_rfl
theorem K6:aU Tryz.prog 10 p7=true:=by kernel_rfl
theorem K8:aU Tryz.prog 12 qZ=true:=by kernel_rfl
theorem Qk:aU Tryz.prog 13 s7=true:=by kernel_rfl
theorem Qj:aU Tryz.prog 14 tE=true:=by kernel_rfl
theorem Oe:aU Tryz.prog 15 uB=true:=by kernel_rfl
theorem Oq:aU Tryz.prog 16 tR=true:=by kernel_rfl
theorem O9:aU Tryz.prog 17 s4=true:=by kernel_rfl
theorem Hl:aU Tryz.prog 20 nO=true:=by kernel_rfl
theorem Gq:aU Tryz.prog 21 nS=true:=by kernel_rfl
theorem Ho:aU Tryz.prog 22 nH=true:=by kernel_rfl
theorem Gr:aU Tryz.prog 23 nJ=true:=by kernel_rfl
theorem L4:aU Tryz.prog 31 q8=true:=by kernel_rfl
theorem Pd:aU Tryz.prog 34 s6=true:=by kernel_rfl
theorem Pw:aU Tryz.prog 36 tW=true:=by kernel_rfl
theorem Lf:aU Tryz.prog 37 qW=true:=by kernel_rfl
theorem Ug:aU Tryz.prog 38 wQ=true:=by kernel_rfl
theorem Wf:aU Tryz.prog 39 Ay=true:=by kernel_rfl
theorem Kx:aU Tryz.prog 40 rI=true:=by kernel_rfl
theorem Xc:aU Tryz.prog 41 Ae=true:=by kernel_rfl
theorem O5:aU Tryz.prog 42 tM=true:=by kernel_rfl
theorem Jg:aU Tryz.prog 43 pF=true:=by kernel_rfl
theorem Tj:aU Tryz.prog 44 xH=true:=by kernel_rfl
theorem Vh:aU Tryz.prog 45 zZ=true:=by kernel_rfl
theorem K0:aU Tryz.prog 46 rE=true:=by kernel_rfl
theorem Zb:aU Tryz.prog 47 zA=true:=by kernel_rfl
theorem Pv:aU Tryz.prog 48 tO=true:=by kernel_rfl
theorem Js:aU Tryz.prog 49 o8=true:=by kernel_rfl
theorem Ip:aU Tryz.prog 50 o9=true:=by kernel_rfl
theorem Is:aU Tryz.prog 51 oP=true:=by kernel_rfl
theorem Lm:aU Tryz.prog 52 qI=true:=by kernel_rfl
theorem Ni:aU Tryz.prog 53 qU=true:=by kernel_rfl
theorem Gg:aU Tryz.prog 54 nR=true:=by kernel_rfl
theorem I4:aU Tryz.prog 55 pA=true:=by kernel_rfl
theorem Qe:aU Tryz.prog 56 tK=true:=by kernel_rfl
theorem Ql:aU Tryz.prog 60 tJ=true:=by kernel_rfl
theorem jE:aU Tryz.prog 61 cC=true:=by kernel_rfl
theorem jH:aU Tryz.prog 68 cI=true:=by kernel_rfl
theorem Iw:aU Tryz.prog 69 oV=true:=by kernel_rfl
theorem Tu:aU Tryz.prog 71 wY=true:=by kernel_rfl
theorem Li:aU Tryz.prog 72 qL=true:=by kernel_rfl
theorem Mg:aU Tryz.prog 73 rQ=true:=by kernel_rfl
theorem Kh:aU Tryz.prog 74 p6=true:=by kernel_rfl
theorem P0:aU Tryz.prog 75 tG=true:=by kernel_rfl
theorem Ly:aU Tryz.prog 76 rM=true:=by kernel_rfl
theorem N3:aU Tryz.prog 77 rA=true:=by kernel_rfl
theorem I2:aU Tryz.prog 78 oR=true:=by kernel_rfl
theorem U7:aU Tryz.prog 79 A9=true:=by kernel_rfl
theorem Jo:aU Tryz.prog 80 oX=true:=by kernel_rfl
theorem Pb:aU Tryz.prog 81 tB=true:=by kernel_rfl
theorem T6:aU Tryz.prog 82 wO=true:=by kernel_rfl
theorem Lp:aU Tryz.prog 83 qP=true:=by kernel_rfl
theorem Su:aU Tryz.prog 84 wR=true:=by kernel_rfl
theorem P8:aU Tryz.prog 85 uC=true:=by kernel_rfl
theorem zz6:aU Tryz.prog 86 Dz=true:=by kernel_rfl
theorem Wr:aU Tryz.prog 87 zD=true:=by kernel_rfl
theorem P4:aU Tryz.prog 88 tI=true:=by kernel_rfl
theorem Pk:aU Tryz.prog 89 sW=true:=by kernel_rfl
theorem mK:aU Tryz.prog 90 dD=true:=by kernel_rfl
theorem Uw:aU Tryz.prog 91 xU=true:=by kernel_rfl
theorem Jr:aU Tryz.prog 92 pE=true:=by kernel_rfl
theorem Y8:aU Tryz.prog 93 A8=true:=by kernel_rfl
theorem Of:aU Tryz.prog 94 tY=true:=by kernel_rfl
theorem Cr:aU Tryz.prog 95 kU=true:=by kernel_rfl
theorem Ry:aU Tryz.prog 96 xE=true:=by kernel_rfl
theorem I6:aU Tryz.prog 97 oZ=true:=by kernel_rfl
theorem Ja:aU Tryz.prog 98 oS=true:=by kernel_rfl
theorem Sl:aU Tryz.prog 99 vZ=true:=by kernel_rfl
theorem Zc:aU Tryz.prog 100 z6=true:=by kernel_rfl
theorem Ut:aU Tryz.prog 101 wK=true:=by kernel_rfl
theorem Il:aU Tryz.prog 102 o7=true:=by kernel_rfl
theorem I9:aU Tryz.prog 103 oW=true:=by kernel_rfl
theorem P6:aU Tryz.prog 115 tH=true:=by kernel_rfl
theorem Uq:aU Tryz.prog 116 w7=true:=by kernel_rfl
theorem Km:aU Tryz.prog 117 qE=true:=by kernel_rfl
theorem kO:aU Tryz.prog 118 cQ=true:=by kernel_rfl
theorem Pt:aU Tryz.prog 133 tC=true:=by kernel_rfl
theorem Nm:aU Tryz.prog 134 rN=true:=by kernel_rfl
theorem N5:aU Tryz.prog 135 p8=true:=by kernel_rfl
theorem Te:aU Tryz.prog 136 wU=true:=by kernel_rfl
theorem Oo:aU Tryz.prog 137 tT=true:=by kernel_rfl
theorem Uv:aU Tryz.prog 138 xP=true:=by kernel_rfl
theorem Jh:aU Tryz.prog 139 oU=true:=by kernel_rfl
theorem Qf:aU Tryz.prog 140 t8=true:=by kernel_rfl
theorem Gj:aU Tryz.prog 141 nK=true:=by kernel_rfl
theorem Ou:aU Tryz.prog 142 t6=true:=by kernel_rfl
theorem w8:aU Tryz.prog 143 gP=true:=by kernel_rfl
theorem Mh:aU Tryz.prog 144 rF=true:=by kernel_rfl
theorem As:aU Tryz.prog 145 jU=true:=by kernel_rfl
theorem Cq:aU Tryz.prog 146 kS=true:=by kernel_rfl
theorem Lx:aU Tryz.prog 147 qG=true:=by kernel_rfl
theorem Ob:aU Tryz.prog 148 tU=true:=by kernel_rfl
theorem pU:aU Tryz.prog 149 eC=true:=by kernel_rfl
theorem Yg:aU Tryz.prog 150 Bc=true:=by kernel_rfl
theorem Kc:aU Tryz.prog 151 qN=true:=by kernel_rfl
theorem M2:aU Tryz.prog 152 qR=true:=by kernel_rfl
theorem Pr:aU Tryz.prog 153 s9=true:=by kernel_rfl
theorem W1:aU Tryz.prog 154 A6=true:=by kernel_rfl
theorem O7:aU Tryz.prog 157 sU=true:=by kernel_rfl
theorem P9:aU Tryz.prog 158 tA=true:=by kernel_rfl
theorem oG:aU Tryz.prog 159 dS=true:=by kernel_rfl
theorem X1:aU Tryz.prog 160 A3=true:=by kernel_rfl
theorem Mn:aU Tryz.prog 161 qD=true:=by kernel_rfl
theorem Hk:aU Tryz.prog 162 nF=true:=by kernel_rfl
theorem R4:aU Tryz.prog 170 wZ=true:=by kernel_rfl
theorem Uj:aU Tryz.prog 171 v8=true:=by kernel_rfl
theorem Xj:aU Tryz.prog 172 zG=true:=by kernel_rfl
theorem t7:aU Tryz.prog 173 fK=true:=by kernel_rfl
theorem sR:aU Tryz.prog 174 fL=true:=by kernel_rfl
theorem Tv:aU Tryz.prog 175 v6=true:=by kernel_rfl
theorem tD:aU Tryz.prog 176 fI=true:=by kernel_rfl
theorem rP:aU Tryz.prog 177 eM=true:=by kernel_rfl
theorem zKF:∀p∈zZI,aU Tryz.prog p.1 p.2=true:=by
 intro p hp
 simp only[zZI,List.mem_cons,List.not_mem_nil,or_false] at hp
 rcases hp with rfl|rfl|rfl|rfl|rfl|rfl|rfl|rfl|rfl|rfl|rfl|rfl|rfl|rfl|rfl|rfl|rfl|rfl|rfl|rfl|rfl|rfl|rfl|rfl|rfl|rfl|rfl|rfl|rfl|rfl|rfl|rfl|rfl|rfl|rfl|rfl|rfl|rfl|rfl|rfl
 ·exact vM
 ·exact Lz
 ·exact K6
 ·exact K8
 ·exact Qk
 ·exact Qj
 ·exact Oe
 ·exact Oq
 ·exact O9
 ·exact Hl
 ·exact Gq
 ·exact Ho
 ·exact Gr
 ·exact L4
 ·exact Pd
 ·exact Pw
 ·exact Lf
 ·exact Ug
 ·exact Wf
 ·exact Kx
 ·exact Xc
 ·exact O5
 ·exact Jg
 ·exact Tj
 ·exact Vh
 ·exact K0
 ·exact Zb
 ·exact Pv
 ·exact Js
 ·exact Ip
 ·exact Is
 ·exact Lm
 ·exact Ni
 ·exact Gg
 ·exact I4
 ·exact Qe
 ·exact Ql
 ·exact jE
 ·exact jH
 ·exact Iw
theorem zKy:∀p∈zKl,aU Tryz.prog p.1 p.2=true:=by
 intro p hp
 simp only[zKl,List.mem_cons,List.not_mem_nil,or_false] at hp
 rcases hp with rfl|rfl|rfl|rfl|rfl|rfl|rfl|rfl|rfl|rfl|rfl|rfl|rfl|rfl|rfl|rfl|rfl|rfl|rfl|rfl|rfl|rfl|rfl|rfl|rfl|rfl|rfl|rfl|rfl|rfl|rfl|rfl|rfl|rfl|rfl|rfl|rfl|rfl|rfl|rfl
 ·exact Tu
 ·exact Li
 ·exact Mg
 ·exact Kh
 ·exact P0
 ·exact Ly
 ·exact N3
 ·exact I2
 ·exact U7
 ·exact Jo
 ·exact Pb
 ·exact T6
 ·exact Lp
 ·exact Su
 ·exact P8
 ·exact zz6
 ·exact Wr
 ·exact P4
 ·exact Pk
 ·exact mK
 ·exact Uw
 ·exact Jr
 ·exact Y8
 ·exact Of
 ·exact Cr
 ·exact Ry
 ·exact I6
 ·exact Ja
 ·exact Sl
 ·exact Zc
 ·exact Ut
 ·exact Il
 ·exact I9
 ·exact P6
 ·exact Uq
 ·exact Km
 ·exact kO
 ·exact Pt
 ·exact Nm
 ·exact N5
theorem zJ1:∀p∈zy6,aU Tryz.prog p.1 p.2=true:=by
 intro p hp
 simp only[zy6,List.mem_cons,List.not_mem_nil,or_false] at hp
 rcases hp with rfl|rfl|rfl|rfl|rfl|rfl|rfl|rfl|rfl|rfl|rfl|rfl|rfl|rfl|rfl|rfl|rfl|rfl|rfl|rfl|rfl|rfl|rfl|rfl|rfl|rfl|rfl|rfl|rfl|rfl|rfl|rfl|rfl
 ·exact Te
 ·exact Oo
 ·exact Uv
 ·exact Jh
 ·exact Qf
 ·exact Gj
 ·exact Ou
 ·exact w8
 ·exact Mh
 ·exact As
 ·exact Cq
 ·exact Lx
 ·exact Ob
 ·exact pU
 ·exact Yg
 ·exact Kc
 ·exact M2
 ·exact Pr
 ·exact W1
 ·exact O7
 ·exact P9
 ·exact oG
 ·exact X1
 ·exact Mn
 ·exact Hk
 ·exact R4
 ·exact Uj
 ·exact Xj
 ·exact t7
 ·exact sR
 ·exact Tv
 ·exact tD
 ·exact rP
theorem zWt(h165:LibOk Tryz.prog 165 1)(h166:LibOk Tryz.prog 166 2):∀p∈tabL,aU Tryz.prog p.1 p.2=true∨zxc Tryz.prog p.1 p.2:=fun p hp=>(List.mem_append.1 hp).elim (fun hp=> .inl ((fun p hp=>(List.mem_append.1 hp).elim ((fun p hp=>(List.mem_append.1 hp).elim ((fun p hp=>zKF p hp) p) (zKy p)) p) (zJ1 p)) p hp)) (fun hp=>by
 simp only[zQI,List.mem_cons,List.not_mem_nil,or_false] at hp
 rcases hp with rfl|rfl
 ·exact .inr (.inl ⟨1,rfl,rfl,rfl,by decide,h165⟩)
 ·exact .inr (.inl ⟨2,rfl,rfl,rfl,by decide,h166⟩))
theorem tab_ok(h165:LibOk Tryz.prog 165 1)(h166:LibOk Tryz.prog 166 2):Tab Tryz.prog tab:=fun f s h=>by
 unfold tab at h
 rw[aC] at h
 obtain⟨p,h1,rfl⟩:=h
 have h2:=List.find?_some h1
 simp only[beq_iff_eq] at h2
 subst h2
 exact zWt h165 h166 p (List.mem_of_find?_eq_some h1)
end Go.Ev.G
