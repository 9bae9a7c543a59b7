import Derived.Test.YtcaonmepamlclaaGreatEvTab
import Derived.Test.YtcaonmepamlclaaGreatProg
import Derived.KernelRfl
set_option linter.all false
namespace Go.Ev.G
open Go.Proofs
theorem Hz:aR Tryz.prog 4 nM=true:=by kernel_rfl
theorem Wl:aR Tryz.prog 7 uY=true:=by kernel_rfl
theorem Si:aR Tryz.prog 9 vE=true:=by kernel_rfl
theorem Sv:aR Tryz.prog 13 wF=true:=by kernel_rfl
theorem X0:aR Tryz.prog 14 xX=true:=by kernel_rfl
theorem Mp:aR Tryz.prog 15 qU=true:=by kernel_rfl
theorem Pu:aR Tryz.prog 16 sK=true:=by kernel_rfl
theorem zjI:aR Tryz.prog 19 Bm=true:=by kernel_rfl
theorem zjt:aR Tryz.prog 20 Bo=true:=by kernel_rfl
theorem Uf:aR Tryz.prog 21 uT=true:=by kernel_rfl
theorem Oa:aR Tryz.prog 22 qK=true:=by kernel_rfl
theorem M2:aR Tryz.prog 23 qO=true:=by kernel_rfl
theorem Xa:aR Tryz.prog 30 yB=true:=by kernel_rfl
theorem W5:aR Tryz.prog 31 zH=true:=by kernel_rfl
theorem zzI:aR Tryz.prog 32 Bw=true:=by kernel_rfl
theorem zzG:aR Tryz.prog 34 Br=true:=by kernel_rfl
theorem X4:aR Tryz.prog 36 y8=true:=by kernel_rfl
theorem mM:aR Tryz.prog 37 dE=true:=by kernel_rfl
theorem zje:aR Tryz.prog 39 By=true:=by kernel_rfl
theorem jY:aR Tryz.prog 41 cL=true:=by kernel_rfl
theorem Yx:aR Tryz.prog 44 yU=true:=by kernel_rfl
theorem Pv:aR Tryz.prog 45 sL=true:=by kernel_rfl
theorem Kp:aR Tryz.prog 46 p7=true:=by kernel_rfl
theorem N3:aR Tryz.prog 47 qT=true:=by kernel_rfl
theorem Qm:aR Tryz.prog 48 tG=true:=by kernel_rfl
theorem Qf:aR Tryz.prog 49 tB=true:=by kernel_rfl
theorem zzT:aR Tryz.prog 50 Bz=true:=by kernel_rfl
theorem Wy:aR Tryz.prog 51 yA=true:=by kernel_rfl
theorem Yd:aR Tryz.prog 52 zD=true:=by kernel_rfl
theorem Rn:aR Tryz.prog 53 tC=true:=by kernel_rfl
theorem Pt:aR Tryz.prog 54 sC=true:=by kernel_rfl
theorem Rg:aR Tryz.prog 69 sD=true:=by kernel_rfl
theorem Y3:aR Tryz.prog 70 yK=true:=by kernel_rfl
theorem zvA:aR Tryz.prog 71 Fq=true:=by kernel_rfl
theorem zj4:aR Tryz.prog 72 Cu=true:=by kernel_rfl
theorem W0:aR Tryz.prog 73 xY=true:=by kernel_rfl
theorem zk7:aR Tryz.prog 74 Gp=true:=by kernel_rfl
theorem Qy:aR Tryz.prog 76 sR=true:=by kernel_rfl
theorem Y5:aR Tryz.prog 77 xW=true:=by kernel_rfl
theorem zqJ:aR Tryz.prog 78 E7=true:=by kernel_rfl
theorem zvL:aR Tryz.prog 79 Eh=true:=by kernel_rfl
theorem A8:aR Tryz.prog 80 jK=true:=by kernel_rfl
theorem r7:aR Tryz.prog 81 fH=true:=by kernel_rfl
theorem Xf:aR Tryz.prog 83 x4=true:=by kernel_rfl
theorem kZ:aR Tryz.prog 84 cV=true:=by kernel_rfl
theorem Qe:aR Tryz.prog 86 sE=true:=by kernel_rfl
theorem X3:aR Tryz.prog 87 y6=true:=by kernel_rfl
theorem U6:aR Tryz.prog 88 uZ=true:=by kernel_rfl
theorem Yu:aR Tryz.prog 89 xT=true:=by kernel_rfl
theorem Ke:aR Tryz.prog 90 oL=true:=by kernel_rfl
theorem Gj:aR Tryz.prog 91 mE=true:=by kernel_rfl
theorem Jh:aR Tryz.prog 92 oM=true:=by kernel_rfl
theorem Yv:aR Tryz.prog 93 yI=true:=by kernel_rfl
theorem zj2:aR Tryz.prog 94 Bf=true:=by kernel_rfl
theorem Uw:aR Tryz.prog 95 vL=true:=by kernel_rfl
theorem zvR:aR Tryz.prog 96 Fh=true:=by kernel_rfl
theorem Y4:aR Tryz.prog 97 y5=true:=by kernel_rfl
theorem zvo:aR Tryz.prog 105 Ej=true:=by kernel_rfl
theorem zkm:aR Tryz.prog 109 Fo=true:=by kernel_rfl
theorem nU:aR Tryz.prog 115 dQ=true:=by kernel_rfl
theorem zjq:aR Tryz.prog 117 B7=true:=by kernel_rfl
theorem Vy:aR Tryz.prog 118 uV=true:=by kernel_rfl
theorem U7:aR Tryz.prog 119 wA=true:=by kernel_rfl
theorem Za:aR Tryz.prog 120 xP=true:=by kernel_rfl
theorem zk3:aR Tryz.prog 121 G3=true:=by kernel_rfl
theorem X5:aR Tryz.prog 122 yC=true:=by kernel_rfl
theorem Sw:aR Tryz.prog 123 uJ=true:=by kernel_rfl
theorem N9:aR Tryz.prog 124 qQ=true:=by kernel_rfl
theorem Vg:aR Tryz.prog 125 v6=true:=by kernel_rfl
theorem Vt:aR Tryz.prog 126 uN=true:=by kernel_rfl
theorem zjl:aR Tryz.prog 127 Cx=true:=by kernel_rfl
theorem X2:aR Tryz.prog 128 xO=true:=by kernel_rfl
theorem Wu:aR Tryz.prog 130 vM=true:=by kernel_rfl
theorem Sz:aR Tryz.prog 131 wD=true:=by kernel_rfl
theorem Xw:aR Tryz.prog 132 yF=true:=by kernel_rfl
theorem Zc:aR Tryz.prog 133 yR=true:=by kernel_rfl
theorem Nm:aR Tryz.prog 134 qR=true:=by kernel_rfl
theorem zk1:aR Tryz.prog 135 Gh=true:=by kernel_rfl
theorem nR:aR Tryz.prog 136 dR=true:=by kernel_rfl
theorem D8:aR Tryz.prog 137 lB=true:=by kernel_rfl
theorem U5:aR Tryz.prog 138 vG=true:=by kernel_rfl
theorem zvC:aR Tryz.prog 139 G1=true:=by kernel_rfl
theorem zzN:aR Tryz.prog 140 Bh=true:=by kernel_rfl
theorem Yy:aR Tryz.prog 141 yT=true:=by kernel_rfl
theorem wN:aR Tryz.prog 142 iC=true:=by kernel_rfl
theorem Um:aR Tryz.prog 143 vW=true:=by kernel_rfl
theorem Au:aR Tryz.prog 144 jE=true:=by kernel_rfl
theorem zL:aR Tryz.prog 145 jI=true:=by kernel_rfl
theorem wI:aR Tryz.prog 146 hI=true:=by kernel_rfl
theorem Vb:aR Tryz.prog 148 uM=true:=by kernel_rfl
theorem Vj:aR Tryz.prog 149 u9=true:=by kernel_rfl
theorem Wx:aR Tryz.prog 150 yJ=true:=by kernel_rfl
theorem Rh:aR Tryz.prog 151 sP=true:=by kernel_rfl
theorem W9:aR Tryz.prog 152 zG=true:=by kernel_rfl
theorem Pp:aR Tryz.prog 153 tE=true:=by kernel_rfl
theorem Rm:aR Tryz.prog 154 sW=true:=by kernel_rfl
theorem Ht:aR Tryz.prog 155 nQ=true:=by kernel_rfl
theorem J0:aR Tryz.prog 156 oO=true:=by kernel_rfl
theorem zvx:aR Tryz.prog 157 E3=true:=by kernel_rfl
theorem Yf:aR Tryz.prog 158 x8=true:=by kernel_rfl
theorem zkV:aR Tryz.prog 159 F9=true:=by kernel_rfl
theorem zkX:aR Tryz.prog 160 Fd=true:=by kernel_rfl
theorem Vl:aR Tryz.prog 161 vN=true:=by kernel_rfl
theorem Nx:aR Tryz.prog 162 qP=true:=by kernel_rfl
theorem zz0:aR Tryz.prog 163 B9=true:=by kernel_rfl
theorem zjx:aR Tryz.prog 167 Ck=true:=by kernel_rfl
theorem t5:aR Tryz.prog 189 gG=true:=by kernel_rfl
theorem Qt:aR Tryz.prog 190 sG=true:=by kernel_rfl
theorem Wv:aR Tryz.prog 191 uH=true:=by kernel_rfl
theorem Xe:aR Tryz.prog 192 yS=true:=by kernel_rfl
theorem Ze:aR Tryz.prog 193 zC=true:=by kernel_rfl
theorem Ym:aR Tryz.prog 194 y4=true:=by kernel_rfl
theorem Yb:aR Tryz.prog 195 y7=true:=by kernel_rfl
theorem Ya:aR Tryz.prog 196 yM=true:=by kernel_rfl
theorem P1:aR Tryz.prog 197 sY=true:=by kernel_rfl
theorem zxB:aR Tryz.prog 201 Kc=true:=by kernel_rfl
theorem Rp:aR Tryz.prog 202 sQ=true:=by kernel_rfl
theorem Wj:aR Tryz.prog 203 u4=true:=by kernel_rfl
theorem Rl:aR Tryz.prog 204 sX=true:=by kernel_rfl
theorem Rk:aR Tryz.prog 205 tF=true:=by kernel_rfl
theorem Y1:aR Tryz.prog 206 yE=true:=by kernel_rfl
theorem zT:aR Tryz.prog 207 jN=true:=by kernel_rfl
theorem N4:aR Tryz.prog 208 qJ=true:=by kernel_rfl
theorem kM:aR Tryz.prog 209 cQ=true:=by kernel_rfl
theorem Yh:aR Tryz.prog 210 yL=true:=by kernel_rfl
theorem qA:aR Tryz.prog 211 eP=true:=by kernel_rfl
theorem D6:aR Tryz.prog 212 lE=true:=by kernel_rfl
theorem Gx:aR Tryz.prog 213 mJ=true:=by kernel_rfl
theorem Vw:aR Tryz.prog 217 v8=true:=by kernel_rfl
theorem Xn:aR Tryz.prog 218 yP=true:=by kernel_rfl
theorem X1:aR Tryz.prog 219 xV=true:=by kernel_rfl
theorem T7:aR Tryz.prog 220 vO=true:=by kernel_rfl
theorem Wi:aR Tryz.prog 221 uU=true:=by kernel_rfl
theorem D7:aR Tryz.prog 222 lF=true:=by kernel_rfl
theorem Hu:aR Tryz.prog 223 nV=true:=by kernel_rfl
theorem Ee:aR Tryz.prog 224 lA=true:=by kernel_rfl
theorem Fl:aR Tryz.prog 225 l6=true:=by kernel_rfl
theorem D5:aR Tryz.prog 226 lC=true:=by kernel_rfl
theorem Sj:aR Tryz.prog 227 vI=true:=by kernel_rfl
theorem zE:aR Tryz.prog 249 iZ=true:=by kernel_rfl
theorem T9:aR Tryz.prog 250 wG=true:=by kernel_rfl
theorem Ul:aR Tryz.prog 251 uS=true:=by kernel_rfl
theorem Rj:aR Tryz.prog 252 tA=true:=by kernel_rfl
theorem Su:aR Tryz.prog 253 u6=true:=by kernel_rfl
theorem La:aR Tryz.prog 256 pU=true:=by kernel_rfl
theorem P7:aR Tryz.prog 257 sB=true:=by kernel_rfl
theorem P4:aR Tryz.prog 258 tD=true:=by kernel_rfl
theorem mI:aR Tryz.prog 259 dD=true:=by kernel_rfl
theorem r9:aR Tryz.prog 260 fP=true:=by kernel_rfl
theorem zzX:aR Tryz.prog 264 B3=true:=by kernel_rfl
theorem Q5:aR Tryz.prog 265 sA=true:=by kernel_rfl
theorem Nn:aR Tryz.prog 266 qN=true:=by kernel_rfl
theorem V0:aR Tryz.prog 267 vU=true:=by kernel_rfl
theorem V9:aR Tryz.prog 268 vT=true:=by kernel_rfl
theorem P6:aR Tryz.prog 269 sV=true:=by kernel_rfl
theorem Wz:aR Tryz.prog 270 zB=true:=by kernel_rfl
theorem Xu:aR Tryz.prog 271 yY=true:=by kernel_rfl
theorem zqx:aR Tryz.prog 272 Fb=true:=by kernel_rfl
theorem zkT:aR Tryz.prog 273 Gi=true:=by kernel_rfl
theorem H0:aR Tryz.prog 274 nP=true:=by kernel_rfl
theorem E8:aR Tryz.prog 275 mH=true:=by kernel_rfl
theorem P8:aR Tryz.prog 290 sS=true:=by kernel_rfl
theorem Vu:aR Tryz.prog 291 v9=true:=by kernel_rfl
theorem z9D:∀p∈zXN,aR Tryz.prog p.1 p.2=true:=by
 intro p hp
 simp only[zXN,List.mem_cons,List.not_mem_nil,or_false] at hp
 rcases hp with rfl|rfl|rfl|rfl|rfl|rfl|rfl|rfl|rfl|rfl|rfl|rfl|rfl|rfl|rfl|rfl|rfl|rfl|rfl|rfl|rfl|rfl|rfl|rfl|rfl|rfl|rfl|rfl|rfl|rfl|rfl|rfl|rfl|rfl|rfl|rfl|rfl|rfl|rfl|rfl
 ·exact Hz
 ·exact Wl
 ·exact Si
 ·exact Sv
 ·exact X0
 ·exact Mp
 ·exact Pu
 ·exact zjI
 ·exact zjt
 ·exact Uf
 ·exact Oa
 ·exact M2
 ·exact Xa
 ·exact W5
 ·exact zzI
 ·exact zzG
 ·exact X4
 ·exact mM
 ·exact zje
 ·exact jY
 ·exact Yx
 ·exact Pv
 ·exact Kp
 ·exact N3
 ·exact Qm
 ·exact Qf
 ·exact zzT
 ·exact Wy
 ·exact Yd
 ·exact Rn
 ·exact Pt
 ·exact Rg
 ·exact Y3
 ·exact zvA
 ·exact zj4
 ·exact W0
 ·exact zk7
 ·exact Qy
 ·exact Y5
 ·exact zqJ
theorem zV0:∀p∈zYW,aR Tryz.prog p.1 p.2=true:=by
 intro p hp
 simp only[zYW,List.mem_cons,List.not_mem_nil,or_false] at hp
 rcases hp with rfl|rfl|rfl|rfl|rfl|rfl|rfl|rfl|rfl|rfl|rfl|rfl|rfl|rfl|rfl|rfl|rfl|rfl|rfl|rfl|rfl|rfl|rfl|rfl|rfl|rfl|rfl|rfl|rfl|rfl|rfl|rfl|rfl|rfl|rfl|rfl|rfl|rfl|rfl|rfl
 ·exact zvL
 ·exact A8
 ·exact r7
 ·exact Xf
 ·exact kZ
 ·exact Qe
 ·exact X3
 ·exact U6
 ·exact Yu
 ·exact Ke
 ·exact Gj
 ·exact Jh
 ·exact Yv
 ·exact zj2
 ·exact Uw
 ·exact zvR
 ·exact Y4
 ·exact zvo
 ·exact zkm
 ·exact nU
 ·exact zjq
 ·exact Vy
 ·exact U7
 ·exact Za
 ·exact zk3
 ·exact X5
 ·exact Sw
 ·exact N9
 ·exact Vg
 ·exact Vt
 ·exact zjl
 ·exact X2
 ·exact Wu
 ·exact Sz
 ·exact Xw
 ·exact Zc
 ·exact Nm
 ·exact zk1
 ·exact nR
 ·exact D8
theorem zYV:∀p∈zWm,aR Tryz.prog p.1 p.2=true:=by
 intro p hp
 simp only[zWm,List.mem_cons,List.not_mem_nil,or_false] at hp
 rcases hp with rfl|rfl|rfl|rfl|rfl|rfl|rfl|rfl|rfl|rfl|rfl|rfl|rfl|rfl|rfl|rfl|rfl|rfl|rfl|rfl|rfl|rfl|rfl|rfl|rfl|rfl|rfl|rfl|rfl|rfl|rfl|rfl|rfl|rfl|rfl|rfl|rfl|rfl|rfl|rfl
 ·exact U5
 ·exact zvC
 ·exact zzN
 ·exact Yy
 ·exact wN
 ·exact Um
 ·exact Au
 ·exact zL
 ·exact wI
 ·exact Vb
 ·exact Vj
 ·exact Wx
 ·exact Rh
 ·exact W9
 ·exact Pp
 ·exact Rm
 ·exact Ht
 ·exact J0
 ·exact zvx
 ·exact Yf
 ·exact zkV
 ·exact zkX
 ·exact Vl
 ·exact Nx
 ·exact zz0
 ·exact zjx
 ·exact t5
 ·exact Qt
 ·exact Wv
 ·exact Xe
 ·exact Ze
 ·exact Ym
 ·exact Yb
 ·exact Ya
 ·exact P1
 ·exact zxB
 ·exact Rp
 ·exact Wj
 ·exact Rl
 ·exact Rk
theorem zYX:∀p∈z9x,aR Tryz.prog p.1 p.2=true:=by
 intro p hp
 simp only[z9x,List.mem_cons,List.not_mem_nil,or_false] at hp
 rcases hp with rfl|rfl|rfl|rfl|rfl|rfl|rfl|rfl|rfl|rfl|rfl|rfl|rfl|rfl|rfl|rfl|rfl|rfl|rfl|rfl|rfl|rfl|rfl|rfl|rfl|rfl|rfl|rfl|rfl|rfl|rfl|rfl|rfl|rfl|rfl|rfl|rfl|rfl|rfl|rfl
 ·exact Y1
 ·exact zT
 ·exact N4
 ·exact kM
 ·exact Yh
 ·exact qA
 ·exact D6
 ·exact Gx
 ·exact Vw
 ·exact Xn
 ·exact X1
 ·exact T7
 ·exact Wi
 ·exact D7
 ·exact Hu
 ·exact Ee
 ·exact Fl
 ·exact D5
 ·exact Sj
 ·exact zE
 ·exact T9
 ·exact Ul
 ·exact Rj
 ·exact Su
 ·exact La
 ·exact P7
 ·exact P4
 ·exact mI
 ·exact r9
 ·exact zzX
 ·exact Q5
 ·exact Nn
 ·exact V0
 ·exact V9
 ·exact P6
 ·exact Wz
 ·exact Xu
 ·exact zqx
 ·exact zkT
 ·exact H0
theorem zVs:∀p∈zWz,aR Tryz.prog p.1 p.2=true:=by
 intro p hp
 simp only[zWz,List.mem_cons,List.not_mem_nil,or_false] at hp
 rcases hp with rfl|rfl|rfl
 ·exact E8
 ·exact P8
 ·exact Vu
theorem z5f:∀p∈tabL,aR Tryz.prog p.1 p.2=true:=fun p hp=>(List.mem_append.1 hp).elim ((fun p hp=>(List.mem_append.1 hp).elim ((fun p hp=>(List.mem_append.1 hp).elim ((fun p hp=>(List.mem_append.1 hp).elim ((fun p hp=>z9D p hp) p) (zV0 p)) p) (zYV p)) p) (zYX p)) p) (zVs p)
theorem tab_ok:Tab Tryz.prog tab:=fun f s h=>by
 unfold tab at h
 rw[aB] at h
 obtain⟨p,h1,rfl⟩:=h
 have h2:=List.find?_some h1
 simp only[beq_iff_eq] at h2
 subst h2
 exact z5f p (List.mem_of_find?_eq_some h1)
end Go.Ev.G
