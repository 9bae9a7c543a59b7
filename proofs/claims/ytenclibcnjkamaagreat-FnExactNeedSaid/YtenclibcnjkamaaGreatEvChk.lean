import Derived.Test.YtenclibcnjkamaaGreatEvTab
import Derived.Test.YtenclibcnjkamaaGreatProg
import Derived.KernelRfl
set_option linter.all false
namespace Go.Ev.G
open Go.Proofs
theorem zU:aW Tryz.prog 3 kW=true:=by kernel_rfl
theorem Hp:aW Tryz.prog 8 pF=true:=by kernel_rfl
theorem Pn:aW Tryz.prog 9 w8=true:=by kernel_rfl
theorem Fd:aW Tryz.prog 10 oZ=true:=by kernel_rfl
theorem Rq:aW Tryz.prog 11 xA=true:=by kernel_rfl
theorem Fk:aW Tryz.prog 12 pS=true:=by kernel_rfl
theorem Io:aW Tryz.prog 13 rB=true:=by kernel_rfl
theorem Jn:aW Tryz.prog 15 qQ=true:=by kernel_rfl
theorem Jd:aW Tryz.prog 17 qP=true:=by kernel_rfl
theorem E9:aW Tryz.prog 31 pT=true:=by kernel_rfl
theorem Lo:aW Tryz.prog 32 tU=true:=by kernel_rfl
theorem M9:aW Tryz.prog 33 s6=true:=by kernel_rfl
theorem I7:aW Tryz.prog 34 rG=true:=by kernel_rfl
theorem Rr:aW Tryz.prog 35 w5=true:=by kernel_rfl
theorem Jl:aW Tryz.prog 36 rL=true:=by kernel_rfl
theorem Jb:aW Tryz.prog 42 rT=true:=by kernel_rfl
theorem J5:aW Tryz.prog 48 rC=true:=by kernel_rfl
theorem Iv:aW Tryz.prog 56 q6=true:=by kernel_rfl
theorem Du:aW Tryz.prog 57 nK=true:=by kernel_rfl
theorem Jk:aW Tryz.prog 60 rP=true:=by kernel_rfl
theorem N2:aW Tryz.prog 64 uD=true:=by kernel_rfl
theorem jA:aW Tryz.prog 68 cH=true:=by kernel_rfl
theorem D8:aW Tryz.prog 69 nT=true:=by kernel_rfl
theorem M0:aW Tryz.prog 70 tI=true:=by kernel_rfl
theorem Nu:aW Tryz.prog 71 tM=true:=by kernel_rfl
theorem Jo:aW Tryz.prog 75 rU=true:=by kernel_rfl
theorem F4:aW Tryz.prog 77 pQ=true:=by kernel_rfl
theorem Qv:aW Tryz.prog 79 wA=true:=by kernel_rfl
theorem Nh:aW Tryz.prog 82 tW=true:=by kernel_rfl
theorem Oz:aW Tryz.prog 87 vN=true:=by kernel_rfl
theorem I8:aW Tryz.prog 88 qT=true:=by kernel_rfl
theorem Rp:aW Tryz.prog 93 wD=true:=by kernel_rfl
theorem No:aW Tryz.prog 96 s8=true:=by kernel_rfl
theorem Ma:aW Tryz.prog 99 s5=true:=by kernel_rfl
theorem Qz:aW Tryz.prog 100 vS=true:=by kernel_rfl
theorem M3:aW Tryz.prog 101 tG=true:=by kernel_rfl
theorem Dx:aW Tryz.prog 102 nR=true:=by kernel_rfl
theorem Eb:aW Tryz.prog 103 nP=true:=by kernel_rfl
theorem Bt:aW Tryz.prog 104 lM=true:=by kernel_rfl
theorem D2:aW Tryz.prog 105 nJ=true:=by kernel_rfl
theorem G5:aW Tryz.prog 106 pR=true:=by kernel_rfl
theorem Iz:aW Tryz.prog 115 rH=true:=by kernel_rfl
theorem Lx:aW Tryz.prog 116 tN=true:=by kernel_rfl
theorem Gf:aW Tryz.prog 117 o8=true:=by kernel_rfl
theorem j6:aW Tryz.prog 118 cP=true:=by kernel_rfl
theorem Nb:aW Tryz.prog 119 tX=true:=by kernel_rfl
theorem G9:aW Tryz.prog 120 oU=true:=by kernel_rfl
theorem mA:aW Tryz.prog 121 dL=true:=by kernel_rfl
theorem F7:aW Tryz.prog 122 pH=true:=by kernel_rfl
theorem rA:aW Tryz.prog 123 fO=true:=by kernel_rfl
theorem pZ:aW Tryz.prog 124 eX=true:=by kernel_rfl
theorem Jt:aW Tryz.prog 133 qZ=true:=by kernel_rfl
theorem F2:aW Tryz.prog 135 o7=true:=by kernel_rfl
theorem M6:aW Tryz.prog 136 uE=true:=by kernel_rfl
theorem Jg:aW Tryz.prog 137 rJ=true:=by kernel_rfl
theorem Jc:aW Tryz.prog 142 q9=true:=by kernel_rfl
theorem vI:aW Tryz.prog 145 jD=true:=by kernel_rfl
theorem Jw:aW Tryz.prog 148 qY=true:=by kernel_rfl
theorem oD:aW Tryz.prog 149 eE=true:=by kernel_rfl
theorem P4:aW Tryz.prog 150 vD=true:=by kernel_rfl
theorem Fj:aW Tryz.prog 151 pG=true:=by kernel_rfl
theorem Ff:aW Tryz.prog 152 pP=true:=by kernel_rfl
theorem Ii:aW Tryz.prog 153 rS=true:=by kernel_rfl
theorem Oy:aW Tryz.prog 154 vV=true:=by kernel_rfl
theorem Iu:aW Tryz.prog 157 rM=true:=by kernel_rfl
theorem J0:aW Tryz.prog 158 qV=true:=by kernel_rfl
theorem m7:aW Tryz.prog 159 dV=true:=by kernel_rfl
theorem P7:aW Tryz.prog 160 wK=true:=by kernel_rfl
theorem Gk:aW Tryz.prog 161 oV=true:=by kernel_rfl
theorem Cw:aW Tryz.prog 162 mK=true:=by kernel_rfl
theorem Ez:aW Tryz.prog 163 oP=true:=by kernel_rfl
theorem sR:aW Tryz.prog 164 gB=true:=by kernel_rfl
theorem oO:aW Tryz.prog 167 eP=true:=by kernel_rfl
theorem tK:aW Tryz.prog 168 gR=true:=by kernel_rfl
theorem Sb:aW Tryz.prog 172 xM=true:=by kernel_rfl
theorem rQ:aW Tryz.prog 173 fP=true:=by kernel_rfl
theorem qR:aW Tryz.prog 174 fM=true:=by kernel_rfl
theorem rO:aW Tryz.prog 176 fG=true:=by kernel_rfl
theorem oW:aW Tryz.prog 177 eO=true:=by kernel_rfl
theorem Hh:aW Tryz.prog 178 pL=true:=by kernel_rfl
theorem lH:aW Tryz.prog 182 dB=true:=by kernel_rfl
theorem nQ:aW Tryz.prog 183 dZ=true:=by kernel_rfl
theorem pA:aW Tryz.prog 195 eT=true:=by kernel_rfl
theorem m6:aW Tryz.prog 202 dT=true:=by kernel_rfl
theorem zyC:∀p∈zxn,aW Tryz.prog p.1 p.2=true:=by
 intro p hp
 simp only[zxn,List.mem_cons,List.not_mem_nil,or_false] at hp
 rcases hp with rfl|rfl|rfl|rfl|rfl|rfl|rfl|rfl|rfl|rfl|rfl|rfl|rfl|rfl|rfl|rfl|rfl|rfl|rfl|rfl|rfl|rfl|rfl|rfl|rfl|rfl|rfl|rfl|rfl|rfl|rfl|rfl|rfl|rfl|rfl|rfl|rfl|rfl|rfl|rfl
 ·exact zU
 ·exact Hp
 ·exact Pn
 ·exact Fd
 ·exact Rq
 ·exact Fk
 ·exact Io
 ·exact Jn
 ·exact Jd
 ·exact E9
 ·exact Lo
 ·exact M9
 ·exact I7
 ·exact Rr
 ·exact Jl
 ·exact Jb
 ·exact J5
 ·exact Iv
 ·exact Du
 ·exact Jk
 ·exact N2
 ·exact jA
 ·exact D8
 ·exact M0
 ·exact Nu
 ·exact Jo
 ·exact F4
 ·exact Qv
 ·exact Nh
 ·exact Oz
 ·exact I8
 ·exact Rp
 ·exact No
 ·exact Ma
 ·exact Qz
 ·exact M3
 ·exact Dx
 ·exact Eb
 ·exact Bt
 ·exact D2
theorem zkT:∀p∈zwN,aW Tryz.prog p.1 p.2=true:=by
 intro p hp
 simp only[zwN,List.mem_cons,List.not_mem_nil,or_false] at hp
 rcases hp with rfl|rfl|rfl|rfl|rfl|rfl|rfl|rfl|rfl|rfl|rfl|rfl|rfl|rfl|rfl|rfl|rfl|rfl|rfl|rfl|rfl|rfl|rfl|rfl|rfl|rfl|rfl|rfl|rfl|rfl|rfl|rfl|rfl|rfl|rfl|rfl|rfl|rfl|rfl|rfl
 ·exact G5
 ·exact Iz
 ·exact Lx
 ·exact Gf
 ·exact j6
 ·exact Nb
 ·exact G9
 ·exact mA
 ·exact F7
 ·exact rA
 ·exact pZ
 ·exact Jt
 ·exact F2
 ·exact M6
 ·exact Jg
 ·exact Jc
 ·exact vI
 ·exact Jw
 ·exact oD
 ·exact P4
 ·exact Fj
 ·exact Ff
 ·exact Ii
 ·exact Oy
 ·exact Iu
 ·exact J0
 ·exact m7
 ·exact P7
 ·exact Gk
 ·exact Cw
 ·exact Ez
 ·exact sR
 ·exact oO
 ·exact tK
 ·exact Sb
 ·exact rQ
 ·exact qR
 ·exact rO
 ·exact oW
 ·exact Hh
theorem zya:∀p∈zxP,aW Tryz.prog p.1 p.2=true:=by
 intro p hp
 simp only[zxP,List.mem_cons,List.not_mem_nil,or_false] at hp
 rcases hp with rfl|rfl|rfl|rfl
 ·exact lH
 ·exact nQ
 ·exact pA
 ·exact m6
theorem zZ6(h165:LibOk Tryz.prog 165 1)(h166:LibOk Tryz.prog 166 2)(h179:LibGrow Tryz.prog 179):∀p∈tabL,aW Tryz.prog p.1 p.2=true∨zyR Tryz.prog p.1 p.2:=fun p hp=>(List.mem_append.1 hp).elim (fun hp=> .inl ((fun p hp=>(List.mem_append.1 hp).elim ((fun p hp=>(List.mem_append.1 hp).elim ((fun p hp=>zyC p hp) p) (zkT p)) p) (zya p)) p hp)) (fun hp=>by
 simp only[zk8,List.mem_cons,List.not_mem_nil,or_false] at hp
 rcases hp with rfl|rfl|rfl
 ·exact .inr (.inl ⟨1,rfl,rfl,rfl,by decide,h165⟩)
 ·exact .inr (.inl ⟨2,rfl,rfl,rfl,by decide,h166⟩)
 ·exact .inr (.inr ⟨rfl,rfl,rfl,h179⟩))
theorem tab_ok(h165:LibOk Tryz.prog 165 1)(h166:LibOk Tryz.prog 166 2)(h179:LibGrow Tryz.prog 179):Tab Tryz.prog tab:=fun f s h=>by
 unfold tab at h
 rw[aB] at h
 obtain⟨p,h1,rfl⟩:=h
 have h2:=List.find?_some h1
 simp only[beq_iff_eq] at h2
 subst h2
 exact zZ6 h165 h166 h179 p (List.mem_of_find?_eq_some h1)
end Go.Ev.G
