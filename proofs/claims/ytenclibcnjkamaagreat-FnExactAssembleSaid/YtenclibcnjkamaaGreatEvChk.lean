import Derived.Test.YtenclibcnjkamaaGreatEvTab
import Derived.Test.YtenclibcnjkamaaGreatProg
import Derived.KernelRfl
set_option linter.all false
namespace Go.Ev.G
open Go.Proofs
theorem zQ:a8 Tryz.prog 7 jN=true:=by kernel_rfl
theorem Om:a8 Tryz.prog 8 s6=true:=by kernel_rfl
theorem Zx:a8 Tryz.prog 9 Cc=true:=by kernel_rfl
theorem Pb:a8 Tryz.prog 10 sI=true:=by kernel_rfl
theorem zzn:a8 Tryz.prog 11 Dc=true:=by kernel_rfl
theorem O4:a8 Tryz.prog 12 tR=true:=by kernel_rfl
theorem R8:a8 Tryz.prog 13 vF=true:=by kernel_rfl
theorem Rw:a8 Tryz.prog 15 wO=true:=by kernel_rfl
theorem Tb:a8 Tryz.prog 17 vY=true:=by kernel_rfl
theorem Je:a8 Tryz.prog 22 pO=true:=by kernel_rfl
theorem zji:a8 Tryz.prog 24 Dg=true:=by kernel_rfl
theorem zzV:a8 Tryz.prog 25 Cm=true:=by kernel_rfl
theorem Nl:a8 Tryz.prog 26 tL=true:=by kernel_rfl
theorem Jx:a8 Tryz.prog 27 pQ=true:=by kernel_rfl
theorem I9:a8 Tryz.prog 28 pL=true:=by kernel_rfl
theorem Ld:a8 Tryz.prog 29 rM=true:=by kernel_rfl
theorem Lw:a8 Tryz.prog 30 rL=true:=by kernel_rfl
theorem Pa:a8 Tryz.prog 31 tB=true:=by kernel_rfl
theorem We:a8 Tryz.prog 32 yW=true:=by kernel_rfl
theorem Wb:a8 Tryz.prog 33 zY=true:=by kernel_rfl
theorem Sv:a8 Tryz.prog 34 vV=true:=by kernel_rfl
theorem Zd:a8 Tryz.prog 35 Dk=true:=by kernel_rfl
theorem Rf:a8 Tryz.prog 36 vM=true:=by kernel_rfl
theorem S8:a8 Tryz.prog 42 wU=true:=by kernel_rfl
theorem Rj:a8 Tryz.prog 48 wE=true:=by kernel_rfl
theorem Lx:a8 Tryz.prog 49 qZ=true:=by kernel_rfl
theorem Mi:a8 Tryz.prog 55 rH=true:=by kernel_rfl
theorem Tt:a8 Tryz.prog 56 wA=true:=by kernel_rfl
theorem Ly:a8 Tryz.prog 57 rC=true:=by kernel_rfl
theorem Qh:a8 Tryz.prog 58 sP=true:=by kernel_rfl
theorem Mk:a8 Tryz.prog 59 rJ=true:=by kernel_rfl
theorem Tq:a8 Tryz.prog 60 vL=true:=by kernel_rfl
theorem lC:a8 Tryz.prog 61 cW=true:=by kernel_rfl
theorem Rs:a8 Tryz.prog 62 u9=true:=by kernel_rfl
theorem Rz:a8 Tryz.prog 63 vR=true:=by kernel_rfl
theorem Wy:a8 Tryz.prog 64 zA=true:=by kernel_rfl
theorem Bb:a8 Tryz.prog 65 lH=true:=by kernel_rfl
theorem Rl:a8 Tryz.prog 66 vW=true:=by kernel_rfl
theorem Ps:a8 Tryz.prog 67 tN=true:=by kernel_rfl
theorem lJ:a8 Tryz.prog 68 c7=true:=by kernel_rfl
theorem Lk:a8 Tryz.prog 69 rB=true:=by kernel_rfl
theorem Xt:a8 Tryz.prog 70 yN=true:=by kernel_rfl
theorem Vp:a8 Tryz.prog 71 yY=true:=by kernel_rfl
theorem Sq:a8 Tryz.prog 75 wI=true:=by kernel_rfl
theorem Qp:a8 Tryz.prog 77 sT=true:=by kernel_rfl
theorem zzw:a8 Tryz.prog 79 Ci=true:=by kernel_rfl
theorem Ws:a8 Tryz.prog 82 yJ=true:=by kernel_rfl
theorem zzl:a8 Tryz.prog 87 C7=true:=by kernel_rfl
theorem R7:a8 Tryz.prog 88 wT=true:=by kernel_rfl
theorem zz7:a8 Tryz.prog 93 Dn=true:=by kernel_rfl
theorem Xn:a8 Tryz.prog 96 yS=true:=by kernel_rfl
theorem Lm:a8 Tryz.prog 97 qY=true:=by kernel_rfl
theorem Xw:a8 Tryz.prog 99 yX=true:=by kernel_rfl
theorem zzH:a8 Tryz.prog 100 Be=true:=by kernel_rfl
theorem V5:a8 Tryz.prog 101 zJ=true:=by kernel_rfl
theorem Lp:a8 Tryz.prog 102 rK=true:=by kernel_rfl
theorem Ll:a8 Tryz.prog 103 qW=true:=by kernel_rfl
theorem Hz:a8 Tryz.prog 104 oG=true:=by kernel_rfl
theorem L7:a8 Tryz.prog 105 rN=true:=by kernel_rfl
theorem Nk:a8 Tryz.prog 106 sV=true:=by kernel_rfl
theorem Rv:a8 Tryz.prog 107 vE=true:=by kernel_rfl
theorem Lo:a8 Tryz.prog 108 rD=true:=by kernel_rfl
theorem Lg:a8 Tryz.prog 109 q6=true:=by kernel_rfl
theorem Wc:a8 Tryz.prog 110 yC=true:=by kernel_rfl
theorem Na:a8 Tryz.prog 111 sK=true:=by kernel_rfl
theorem Sr:a8 Tryz.prog 112 vD=true:=by kernel_rfl
theorem Sl:a8 Tryz.prog 113 vU=true:=by kernel_rfl
theorem Tm:a8 Tryz.prog 114 wH=true:=by kernel_rfl
theorem Rc:a8 Tryz.prog 115 v7=true:=by kernel_rfl
theorem Vm:a8 Tryz.prog 116 y5=true:=by kernel_rfl
theorem Q7:a8 Tryz.prog 117 tA=true:=by kernel_rfl
theorem mS:a8 Tryz.prog 118 dI=true:=by kernel_rfl
theorem Wo:a8 Tryz.prog 119 zX=true:=by kernel_rfl
theorem Qy:a8 Tryz.prog 120 tQ=true:=by kernel_rfl
theorem pA:a8 Tryz.prog 121 d9=true:=by kernel_rfl
theorem Ox:a8 Tryz.prog 122 tM=true:=by kernel_rfl
theorem vZ:a8 Tryz.prog 123 iI=true:=by kernel_rfl
theorem tZ:a8 Tryz.prog 124 gP=true:=by kernel_rfl
theorem F8:a8 Tryz.prog 125 nV=true:=by kernel_rfl
theorem Ek:a8 Tryz.prog 126 mZ=true:=by kernel_rfl
theorem Ep:a8 Tryz.prog 127 mV=true:=by kernel_rfl
theorem Dz:a8 Tryz.prog 128 lG=true:=by kernel_rfl
theorem Eq:a8 Tryz.prog 129 mY=true:=by kernel_rfl
theorem A3:a8 Tryz.prog 130 kJ=true:=by kernel_rfl
theorem C6:a8 Tryz.prog 131 lX=true:=by kernel_rfl
theorem Wj:a8 Tryz.prog 132 yP=true:=by kernel_rfl
theorem Te:a8 Tryz.prog 133 vO=true:=by kernel_rfl
theorem N2:a8 Tryz.prog 135 sJ=true:=by kernel_rfl
theorem Xo:a8 Tryz.prog 136 zC=true:=by kernel_rfl
theorem S9:a8 Tryz.prog 137 vG=true:=by kernel_rfl
theorem Ss:a8 Tryz.prog 142 wF=true:=by kernel_rfl
theorem Bt:a8 Tryz.prog 145 lL=true:=by kernel_rfl
theorem Rb:a8 Tryz.prog 148 wJ=true:=by kernel_rfl
theorem rX:a8 Tryz.prog 149 fT=true:=by kernel_rfl
theorem Z6:a8 Tryz.prog 150 Dj=true:=by kernel_rfl
theorem Nu:a8 Tryz.prog 151 sN=true:=by kernel_rfl
theorem Qs:a8 Tryz.prog 152 tH=true:=by kernel_rfl
theorem Si:a8 Tryz.prog 153 vX=true:=by kernel_rfl
theorem Y9:a8 Tryz.prog 154 Bj=true:=by kernel_rfl
theorem Ra:a8 Tryz.prog 155 vT=true:=by kernel_rfl
theorem Ou:a8 Tryz.prog 156 tF=true:=by kernel_rfl
theorem R4:a8 Tryz.prog 157 v6=true:=by kernel_rfl
theorem Th:a8 Tryz.prog 158 wS=true:=by kernel_rfl
theorem qP:a8 Tryz.prog 159 eK=true:=by kernel_rfl
theorem zzE:a8 Tryz.prog 160 Bh=true:=by kernel_rfl
theorem Pu:a8 Tryz.prog 161 sQ=true:=by kernel_rfl
theorem Ja:a8 Tryz.prog 162 pR=true:=by kernel_rfl
theorem Qt:a8 Tryz.prog 163 sY=true:=by kernel_rfl
theorem xT:a8 Tryz.prog 164 jA=true:=by kernel_rfl
theorem tJ:a8 Tryz.prog 167 gC=true:=by kernel_rfl
theorem yK:a8 Tryz.prog 168 jW=true:=by kernel_rfl
theorem Rd:a8 Tryz.prog 169 wV=true:=by kernel_rfl
theorem zzI:a8 Tryz.prog 172 Dl=true:=by kernel_rfl
theorem v8:a8 Tryz.prog 173 iJ=true:=by kernel_rfl
theorem wL:a8 Tryz.prog 174 iB=true:=by kernel_rfl
theorem vH:a8 Tryz.prog 176 iC=true:=by kernel_rfl
theorem s8:a8 Tryz.prog 177 gG=true:=by kernel_rfl
theorem Qo:a8 Tryz.prog 178 tO=true:=by kernel_rfl
theorem oD:a8 Tryz.prog 182 dW=true:=by kernel_rfl
theorem qU:a8 Tryz.prog 183 eZ=true:=by kernel_rfl
theorem tC:a8 Tryz.prog 195 gE=true:=by kernel_rfl
theorem qJ:a8 Tryz.prog 202 eJ=true:=by kernel_rfl
theorem zKs:∀p∈zKL,a8 Tryz.prog p.1 p.2=true:=by
 intro p hp
 simp only[zKL,List.mem_cons,List.not_mem_nil,or_false] at hp
 rcases hp with rfl|rfl|rfl|rfl|rfl|rfl|rfl|rfl|rfl|rfl|rfl|rfl|rfl|rfl|rfl|rfl|rfl|rfl|rfl|rfl|rfl|rfl|rfl|rfl|rfl|rfl|rfl|rfl|rfl|rfl|rfl|rfl|rfl|rfl|rfl|rfl|rfl|rfl|rfl|rfl
 ·exact zQ
 ·exact Om
 ·exact Zx
 ·exact Pb
 ·exact zzn
 ·exact O4
 ·exact R8
 ·exact Rw
 ·exact Tb
 ·exact Je
 ·exact zji
 ·exact zzV
 ·exact Nl
 ·exact Jx
 ·exact I9
 ·exact Ld
 ·exact Lw
 ·exact Pa
 ·exact We
 ·exact Wb
 ·exact Sv
 ·exact Zd
 ·exact Rf
 ·exact S8
 ·exact Rj
 ·exact Lx
 ·exact Mi
 ·exact Tt
 ·exact Ly
 ·exact Qh
 ·exact Mk
 ·exact Tq
 ·exact lC
 ·exact Rs
 ·exact Rz
 ·exact Wy
 ·exact Bb
 ·exact Rl
 ·exact Ps
 ·exact lJ
theorem zZ7:∀p∈zWo,a8 Tryz.prog p.1 p.2=true:=by
 intro p hp
 simp only[zWo,List.mem_cons,List.not_mem_nil,or_false] at hp
 rcases hp with rfl|rfl|rfl|rfl|rfl|rfl|rfl|rfl|rfl|rfl|rfl|rfl|rfl|rfl|rfl|rfl|rfl|rfl|rfl|rfl|rfl|rfl|rfl|rfl|rfl|rfl|rfl|rfl|rfl|rfl|rfl|rfl|rfl|rfl|rfl|rfl|rfl|rfl|rfl|rfl
 ·exact Lk
 ·exact Xt
 ·exact Vp
 ·exact Sq
 ·exact Qp
 ·exact zzw
 ·exact Ws
 ·exact zzl
 ·exact R7
 ·exact zz7
 ·exact Xn
 ·exact Lm
 ·exact Xw
 ·exact zzH
 ·exact V5
 ·exact Lp
 ·exact Ll
 ·exact Hz
 ·exact L7
 ·exact Nk
 ·exact Rv
 ·exact Lo
 ·exact Lg
 ·exact Wc
 ·exact Na
 ·exact Sr
 ·exact Sl
 ·exact Tm
 ·exact Rc
 ·exact Vm
 ·exact Q7
 ·exact mS
 ·exact Wo
 ·exact Qy
 ·exact pA
 ·exact Ox
 ·exact vZ
 ·exact tZ
 ·exact F8
 ·exact Ek
theorem zWN:∀p∈zV7,a8 Tryz.prog p.1 p.2=true:=by
 intro p hp
 simp only[zV7,List.mem_cons,List.not_mem_nil,or_false] at hp
 rcases hp with rfl|rfl|rfl|rfl|rfl|rfl|rfl|rfl|rfl|rfl|rfl|rfl|rfl|rfl|rfl|rfl|rfl|rfl|rfl|rfl|rfl|rfl|rfl|rfl|rfl|rfl|rfl|rfl|rfl|rfl|rfl|rfl|rfl|rfl|rfl|rfl|rfl|rfl|rfl|rfl
 ·exact Ep
 ·exact Dz
 ·exact Eq
 ·exact A3
 ·exact C6
 ·exact Wj
 ·exact Te
 ·exact N2
 ·exact Xo
 ·exact S9
 ·exact Ss
 ·exact Bt
 ·exact Rb
 ·exact rX
 ·exact Z6
 ·exact Nu
 ·exact Qs
 ·exact Si
 ·exact Y9
 ·exact Ra
 ·exact Ou
 ·exact R4
 ·exact Th
 ·exact qP
 ·exact zzE
 ·exact Pu
 ·exact Ja
 ·exact Qt
 ·exact xT
 ·exact tJ
 ·exact yK
 ·exact Rd
 ·exact zzI
 ·exact v8
 ·exact wL
 ·exact vH
 ·exact s8
 ·exact Qo
 ·exact oD
 ·exact qU
theorem zJ8:∀p∈zQ8,a8 Tryz.prog p.1 p.2=true:=by
 intro p hp
 simp only[zQ8,List.mem_cons,List.not_mem_nil,or_false] at hp
 rcases hp with rfl|rfl
 ·exact tC
 ·exact qJ
theorem zY7(h165:LibOk Tryz.prog 165 1)(h166:LibOk Tryz.prog 166 2)(h179:LibGrow Tryz.prog 179):∀p∈tabL,a8 Tryz.prog p.1 p.2=true∨zKR Tryz.prog p.1 p.2:=fun p hp=>(List.mem_append.1 hp).elim (fun hp=> .inl ((fun p hp=>(List.mem_append.1 hp).elim ((fun p hp=>(List.mem_append.1 hp).elim ((fun p hp=>(List.mem_append.1 hp).elim ((fun p hp=>zKs p hp) p) (zZ7 p)) p) (zWN p)) p) (zJ8 p)) p hp)) (fun hp=>by
 simp only[zKH,List.mem_cons,List.not_mem_nil,or_false] at hp
 rcases hp with rfl|rfl|rfl
 ·exact .inr (.inl ⟨1,rfl,rfl,rfl,by decide,h165⟩)
 ·exact .inr (.inl ⟨2,rfl,rfl,rfl,by decide,h166⟩)
 ·exact .inr (.inr ⟨rfl,rfl,rfl,h179⟩))
theorem tab_ok(h165:LibOk Tryz.prog 165 1)(h166:LibOk Tryz.prog 166 2)(h179:LibGrow Tryz.prog 179):Tab Tryz.prog tab:=fun f s h=>by
 unfold tab at h
 rw[aD] at h
 obtain⟨p,h1,rfl⟩:=h
 have h2:=List.find?_some h1
 simp only[beq_iff_eq] at h2
 subst h2
 exact zY7 h165 h166 h179 p (List.mem_of_find?_eq_some h1)
end Go.Ev.G
