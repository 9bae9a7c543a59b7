import Derived.Test.YtenclibcnjkamaaGreatEvTab
import Derived.Test.YtenclibcnjkamaaGreatProg
import Derived.KernelRfl
set_option linter.all false
namespace Go.Ev.G
open Go.Proofs
theorem yH:aT Tryz.prog 4 iQ=true:=by kernel_rfl
theorem Nc:aT Tryz.prog 13 rD=true:=by kernel_rfl
theorem Lu:aT Tryz.prog 14 sD=true:=by kernel_rfl
theorem Mp:aT Tryz.prog 15 rZ=true:=by kernel_rfl
theorem Lm:aT Tryz.prog 16 sM=true:=by kernel_rfl
theorem Mu:aT Tryz.prog 17 rK=true:=by kernel_rfl
theorem F4:aT Tryz.prog 18 nX=true:=by kernel_rfl
theorem F5:aT Tryz.prog 19 oE=true:=by kernel_rfl
theorem M5:aT Tryz.prog 36 rI=true:=by kernel_rfl
theorem Kl:aT Tryz.prog 37 oY=true:=by kernel_rfl
theorem P1:aT Tryz.prog 38 t8=true:=by kernel_rfl
theorem Tr:aT Tryz.prog 39 xK=true:=by kernel_rfl
theorem Jj:aT Tryz.prog 40 pZ=true:=by kernel_rfl
theorem Rp:aT Tryz.prog 41 xD=true:=by kernel_rfl
theorem Ll:aT Tryz.prog 42 rL=true:=by kernel_rfl
theorem Gq:aT Tryz.prog 43 n9=true:=by kernel_rfl
theorem Pa:aT Tryz.prog 44 vD=true:=by kernel_rfl
theorem T7:aT Tryz.prog 45 y7=true:=by kernel_rfl
theorem H4:aT Tryz.prog 46 qD=true:=by kernel_rfl
theorem Te:aT Tryz.prog 47 xC=true:=by kernel_rfl
theorem Lg:aT Tryz.prog 48 sE=true:=by kernel_rfl
theorem Ga:aT Tryz.prog 49 nT=true:=by kernel_rfl
theorem G8:aT Tryz.prog 50 n8=true:=by kernel_rfl
theorem F6:aT Tryz.prog 55 nU=true:=by kernel_rfl
theorem L9:aT Tryz.prog 56 sG=true:=by kernel_rfl
theorem M7:aT Tryz.prog 60 rA=true:=by kernel_rfl
theorem iI:aT Tryz.prog 61 b7=true:=by kernel_rfl
theorem Qz:aT Tryz.prog 71 uA=true:=by kernel_rfl
theorem Iv:aT Tryz.prog 72 pV=true:=by kernel_rfl
theorem Js:aT Tryz.prog 73 pY=true:=by kernel_rfl
theorem Iq:aT Tryz.prog 74 oZ=true:=by kernel_rfl
theorem Me:aT Tryz.prog 75 r9=true:=by kernel_rfl
theorem Jy:aT Tryz.prog 76 p8=true:=by kernel_rfl
theorem Ko:aT Tryz.prog 77 pQ=true:=by kernel_rfl
theorem Gk:aT Tryz.prog 78 nO=true:=by kernel_rfl
theorem Rl:aT Tryz.prog 79 w9=true:=by kernel_rfl
theorem F1:aT Tryz.prog 80 nS=true:=by kernel_rfl
theorem Mi:aT Tryz.prog 81 r6=true:=by kernel_rfl
theorem O7:aT Tryz.prog 82 uU=true:=by kernel_rfl
theorem Jf:aT Tryz.prog 83 pN=true:=by kernel_rfl
theorem P9:aT Tryz.prog 84 uP=true:=by kernel_rfl
theorem Mh:aT Tryz.prog 85 rT=true:=by kernel_rfl
theorem Yi:aT Tryz.prog 86 Bp=true:=by kernel_rfl
theorem Su:aT Tryz.prog 87 yI=true:=by kernel_rfl
theorem Li:aT Tryz.prog 88 rB=true:=by kernel_rfl
theorem Mo:aT Tryz.prog 89 rF=true:=by kernel_rfl
theorem lR:aT Tryz.prog 90 cY=true:=by kernel_rfl
theorem Qa:aT Tryz.prog 91 uV=true:=by kernel_rfl
theorem Gv:aT Tryz.prog 92 nW=true:=by kernel_rfl
theorem Vp:aT Tryz.prog 93 xZ=true:=by kernel_rfl
theorem Lo:aT Tryz.prog 94 rV=true:=by kernel_rfl
theorem Aj:aT Tryz.prog 95 jO=true:=by kernel_rfl
theorem O3:aT Tryz.prog 96 vM=true:=by kernel_rfl
theorem Gg:aT Tryz.prog 97 nY=true:=by kernel_rfl
theorem G3:aT Tryz.prog 98 oA=true:=by kernel_rfl
theorem Rb:aT Tryz.prog 99 u7=true:=by kernel_rfl
theorem T8:aT Tryz.prog 100 x9=true:=by kernel_rfl
theorem Pb:aT Tryz.prog 101 uH=true:=by kernel_rfl
theorem Gi:aT Tryz.prog 102 nR=true:=by kernel_rfl
theorem Gw:aT Tryz.prog 103 oB=true:=by kernel_rfl
theorem Mt:aT Tryz.prog 115 sS=true:=by kernel_rfl
theorem Qu:aT Tryz.prog 116 uG=true:=by kernel_rfl
theorem Hn:aT Tryz.prog 117 p7=true:=by kernel_rfl
theorem jM:aT Tryz.prog 118 cI=true:=by kernel_rfl
theorem M1:aT Tryz.prog 133 rH=true:=by kernel_rfl
theorem Iz:aT Tryz.prog 134 p9=true:=by kernel_rfl
theorem I5:aT Tryz.prog 135 pE=true:=by kernel_rfl
theorem Pk:aT Tryz.prog 136 vA=true:=by kernel_rfl
theorem Mr:aT Tryz.prog 137 sQ=true:=by kernel_rfl
theorem Qx:aT Tryz.prog 138 uT=true:=by kernel_rfl
theorem Gd:aT Tryz.prog 139 oF=true:=by kernel_rfl
theorem Lt:aT Tryz.prog 140 rY=true:=by kernel_rfl
theorem E2:aT Tryz.prog 141 mP=true:=by kernel_rfl
theorem Lq:aT Tryz.prog 142 sJ=true:=by kernel_rfl
theorem u9:aT Tryz.prog 143 gG=true:=by kernel_rfl
theorem J8:aT Tryz.prog 144 pW=true:=by kernel_rfl
theorem yM:aT Tryz.prog 145 iZ=true:=by kernel_rfl
theorem Ai:aT Tryz.prog 146 jL=true:=by kernel_rfl
theorem J2:aT Tryz.prog 147 qG=true:=by kernel_rfl
theorem M3:aT Tryz.prog 148 sL=true:=by kernel_rfl
theorem oL:aT Tryz.prog 149 dV=true:=by kernel_rfl
theorem Rg:aT Tryz.prog 150 yC=true:=by kernel_rfl
theorem J3:aT Tryz.prog 151 oX=true:=by kernel_rfl
theorem J6:aT Tryz.prog 152 qC=true:=by kernel_rfl
theorem Ly:aT Tryz.prog 153 sR=true:=by kernel_rfl
theorem S9:aT Tryz.prog 154 zF=true:=by kernel_rfl
theorem Lf:aT Tryz.prog 157 rQ=true:=by kernel_rfl
theorem Lk:aT Tryz.prog 158 rR=true:=by kernel_rfl
theorem nI:aT Tryz.prog 159 dJ=true:=by kernel_rfl
theorem Uf:aT Tryz.prog 160 xU=true:=by kernel_rfl
theorem Ia:aT Tryz.prog 161 pO=true:=by kernel_rfl
theorem Eb:aT Tryz.prog 162 mK=true:=by kernel_rfl
theorem Pz:aT Tryz.prog 170 uF=true:=by kernel_rfl
theorem Q0:aT Tryz.prog 171 uQ=true:=by kernel_rfl
theorem Sh:aT Tryz.prog 172 xI=true:=by kernel_rfl
theorem sI:aT Tryz.prog 173 eW=true:=by kernel_rfl
theorem rX:aT Tryz.prog 174 e9=true:=by kernel_rfl
theorem O6:aT Tryz.prog 175 uI=true:=by kernel_rfl
theorem sB:aT Tryz.prog 176 eY=true:=by kernel_rfl
theorem pK:aT Tryz.prog 177 eD=true:=by kernel_rfl
theorem zZD:∀p∈zJr,aT Tryz.prog p.1 p.2=true:=by
 intro p hp
 simp only[zJr,List.mem_cons,List.not_mem_nil,or_false] at hp
 rcases hp with rfl|rfl|rfl|rfl|rfl|rfl|rfl|rfl|rfl|rfl|rfl|rfl|rfl|rfl|rfl|rfl|rfl|rfl|rfl|rfl|rfl|rfl|rfl|rfl|rfl|rfl|rfl|rfl|rfl|rfl|rfl|rfl|rfl|rfl|rfl|rfl|rfl|rfl|rfl|rfl
 ·exact yH
 ·exact Nc
 ·exact Lu
 ·exact Mp
 ·exact Lm
 ·exact Mu
 ·exact F4
 ·exact F5
 ·exact M5
 ·exact Kl
 ·exact P1
 ·exact Tr
 ·exact Jj
 ·exact Rp
 ·exact Ll
 ·exact Gq
 ·exact Pa
 ·exact T7
 ·exact H4
 ·exact Te
 ·exact Lg
 ·exact Ga
 ·exact G8
 ·exact F6
 ·exact L9
 ·exact M7
 ·exact iI
 ·exact Qz
 ·exact Iv
 ·exact Js
 ·exact Iq
 ·exact Me
 ·exact Jy
 ·exact Ko
 ·exact Gk
 ·exact Rl
 ·exact F1
 ·exact Mi
 ·exact O7
 ·exact Jf
theorem zxW:∀p∈zJC,aT Tryz.prog p.1 p.2=true:=by
 intro p hp
 simp only[zJC,List.mem_cons,List.not_mem_nil,or_false] at hp
 rcases hp with rfl|rfl|rfl|rfl|rfl|rfl|rfl|rfl|rfl|rfl|rfl|rfl|rfl|rfl|rfl|rfl|rfl|rfl|rfl|rfl|rfl|rfl|rfl|rfl|rfl|rfl|rfl|rfl|rfl|rfl|rfl|rfl|rfl|rfl|rfl|rfl|rfl|rfl|rfl|rfl
 ·exact P9
 ·exact Mh
 ·exact Yi
 ·exact Su
 ·exact Li
 ·exact Mo
 ·exact lR
 ·exact Qa
 ·exact Gv
 ·exact Vp
 ·exact Lo
 ·exact Aj
 ·exact O3
 ·exact Gg
 ·exact G3
 ·exact Rb
 ·exact T8
 ·exact Pb
 ·exact Gi
 ·exact Gw
 ·exact Mt
 ·exact Qu
 ·exact Hn
 ·exact jM
 ·exact M1
 ·exact Iz
 ·exact I5
 ·exact Pk
 ·exact Mr
 ·exact Qx
 ·exact Gd
 ·exact Lt
 ·exact E2
 ·exact Lq
 ·exact u9
 ·exact J8
 ·exact yM
 ·exact Ai
 ·exact J2
 ·exact M3
theorem zJ1:∀p∈zx6,aT Tryz.prog p.1 p.2=true:=by
 intro p hp
 simp only[zx6,List.mem_cons,List.not_mem_nil,or_false] at hp
 rcases hp with rfl|rfl|rfl|rfl|rfl|rfl|rfl|rfl|rfl|rfl|rfl|rfl|rfl|rfl|rfl|rfl|rfl|rfl|rfl|rfl
 ·exact oL
 ·exact Rg
 ·exact J3
 ·exact J6
 ·exact Ly
 ·exact S9
 ·exact Lf
 ·exact Lk
 ·exact nI
 ·exact Uf
 ·exact Ia
 ·exact Eb
 ·exact Pz
 ·exact Q0
 ·exact Sh
 ·exact sI
 ·exact rX
 ·exact O6
 ·exact sB
 ·exact pK
theorem zV5(h165:LibOk Tryz.prog 165 1)(h166:LibOk Tryz.prog 166 2):∀p∈tabL,aT Tryz.prog p.1 p.2=true∨zyh Tryz.prog p.1 p.2:=fun p hp=>(List.mem_append.1 hp).elim (fun hp=> .inl ((fun p hp=>(List.mem_append.1 hp).elim ((fun p hp=>(List.mem_append.1 hp).elim ((fun p hp=>zZD p hp) p) (zxW p)) p) (zJ1 p)) p hp)) (fun hp=>by
 simp only[zZV,List.mem_cons,List.not_mem_nil,or_false] at hp
 rcases hp with rfl|rfl
 ·exact .inr (.inl ⟨1,rfl,rfl,rfl,by decide,h165⟩)
 ·exact .inr (.inl ⟨2,rfl,rfl,rfl,by decide,h166⟩))
theorem tab_ok(h165:LibOk Tryz.prog 165 1)(h166:LibOk Tryz.prog 166 2):Tab Tryz.prog tab:=fun f s h=>by
 unfold tab at h
 rw[aC] at h
 obtain⟨p,h1,rfl⟩:=h
 have h2:=List.find?_some h1
 simp only[beq_iff_eq] at h2
 subst h2
 exact zV5 h165 h166 p (List.mem_of_find?_eq_some h1)
end Go.Ev.G
