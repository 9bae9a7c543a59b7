import Derived.Test.YtenclibcnjkamaaGreatEvRow
set_option linter.all false
namespace Go.Ev.G
abbrev lF:Nat:=7
abbrev zD:Nat:=8
abbrev sD:Nat:=9
abbrev mN:Nat:=10
abbrev Ee:Nat:=11
abbrev yQ:Nat:=12
abbrev Bx:Nat:=13
abbrev By:Nat:=15
abbrev Df:Nat:=17
abbrev tG:Nat:=22
abbrev Ec:Nat:=24
abbrev D8:Nat:=25
abbrev oO:Nat:=26
abbrev tT:Nat:=27
abbrev oP:Nat:=28
abbrev vK:Nat:=29
abbrev p9:Nat:=30
abbrev rU:Nat:=31
abbrev F7:Nat:=32
abbrev Gv:Nat:=33
abbrev uD:Nat:=34
abbrev xN:Nat:=35
abbrev Bz:Nat:=36
abbrev B8:Nat:=42
abbrev C2:Nat:=48
abbrev wG:Nat:=49
abbrev fV:Nat:=55
abbrev uU:Nat:=56
abbrev pY:Nat:=57
abbrev y7:Nat:=58
abbrev bK:Nat:=59
abbrev lI:Nat:=60
abbrev dB:Nat:=61
abbrev uR:Nat:=62
abbrev Db:Nat:=63
abbrev zR:Nat:=64
abbrev aW:Nat:=65
abbrev Cq:Nat:=66
abbrev l9:Nat:=67
abbrev dG:Nat:=68
abbrev qA:Nat:=69
abbrev Gc:Nat:=70
abbrev Gk:Nat:=71
abbrev Ds:Nat:=75
abbrev oT:Nat:=77
abbrev sB:Nat:=79
abbrev Fw:Nat:=82
abbrev Kh:Nat:=87
abbrev C8:Nat:=88
abbrev sC:Nat:=93
abbrev Gr:Nat:=96
abbrev wP:Nat:=97
abbrev eA:Nat:=99
abbrev eU:Nat:=100
abbrev Gu:Nat:=101
abbrev wB:Nat:=102
abbrev kH:Nat:=103
abbrev q7:Nat:=104
abbrev wD:Nat:=105
abbrev y6:Nat:=106
abbrev cG:Nat:=107
abbrev dZ:Nat:=108
abbrev m5:Nat:=109
abbrev pJ:Nat:=110
abbrev yH:Nat:=111
abbrev Cw:Nat:=112
abbrev fU:Nat:=113
abbrev jL:Nat:=114
abbrev dT:Nat:=115
abbrev Gf:Nat:=116
abbrev mG:Nat:=117
abbrev cB:Nat:=118
abbrev Fv:Nat:=119
abbrev zE:Nat:=120
abbrev eP:Nat:=121
abbrev yG:Nat:=122
abbrev jR:Nat:=123
abbrev eR:Nat:=124
abbrev bG:Nat:=125
abbrev cN:Nat:=126
abbrev bW:Nat:=127
abbrev gA:Nat:=128
abbrev o7:Nat:=129
abbrev e9:Nat:=130
abbrev eB:Nat:=131
abbrev yU:Nat:=132
abbrev Dh:Nat:=133
abbrev yB:Nat:=135
abbrev Gp:Nat:=136
abbrev qH:Nat:=137
abbrev D3:Nat:=142
abbrev j5:Nat:=145
abbrev Dp:Nat:=148
abbrev gO:Nat:=149
abbrev D5:Nat:=150
abbrev y9:Nat:=151
abbrev yV:Nat:=152
abbrev uS:Nat:=153
abbrev xL:Nat:=154
abbrev Cu:Nat:=155
abbrev fH:Nat:=156
abbrev uW:Nat:=157
abbrev Bd:Nat:=158
abbrev fJ:Nat:=159
abbrev wY:Nat:=160
abbrev jT:Nat:=161
abbrev oV:Nat:=162
abbrev r6:Nat:=163
abbrev kM:Nat:=164
abbrev iX:Nat:=165
abbrev fI:Nat:=166
abbrev hX:Nat:=167
abbrev lN:Nat:=168
abbrev jK:Nat:=169
abbrev Jw:Nat:=172
abbrev jZ:Nat:=173
abbrev jX:Nat:=174
abbrev j4:Nat:=176
abbrev iA:Nat:=177
abbrev zT:Nat:=178
abbrev mW:Nat:=179
abbrev cY:Nat:=182
abbrev bC:Nat:=183
abbrev dN:Nat:=195
abbrev cV:Nat:=202
def oX:SCode :=
 sO [iO 2 (.mov (kB false))]
 (sO [iO 3 (.mov (kI 1048576))]
 (sO [iM 14 0,iM 15 3,iO 16 (.callr zD [.t 14,.t 15]),iM 3 16]
 (.seq (sO [iM 17 3,iE 18 .lss 17 0]
 (.cond (.t 18) (sO [iO 2 (.mov (kB true))]
 (.ret))
 (.skip)))
 (sO [iM 20 0,iO 21 (.callr mN [.t 20]),iO 22 (.callr vK [.t 21]),iM 19 22,iO 23 (.ext (.t 19) 0),iO 24 (.ext (.t 19) 1),iM 4 23,iM 5 24]
 (sO [iM 25 0,iO 26 (.call mN [.t 25]),iM 6 26]
 (sO [iM 28 6,iO 29 (.call p9 [.t 28]),iM 27 29,iO 30 (.ext (.t 27) 0),iO 31 (.ext (.t 27) 1),iM 7 30,iM 8 31]
 (.seq (sO [iM 32 7,iM 33 4,iO 34 (.callr oO [.t 32,.t 33]),iO 35 (.not (.t 34)),iM 36 35,iU 37 36 (.mov (.t 8)),iU 38 36 (.mov (.t 5)),iU 39 36 (.cmp .neq (.t 37) (.t 38)),iO 40 (.pick (.t 36) (kB true) (.t 39))]
 (.cond (.t 40) (sO [iO 2 (.mov (kB false))]
 (.ret))
 (.skip)))
 (.seq (sO [iM 41 6,iM 42 0,iO 43 (.callr mN [.t 42]),iO 44 (.callr yQ [.t 41,.t 43]),iO 45 (.not (.t 44))]
 (.cond (.t 45) (sO [iO 2 (.mov (kB false))]
 (.ret))
 (.skip)))
 (sO [iO 9 (.mov (kI 1))]
 (sO [iM 46 6,iM 47 9,iO 48 (.callb tG [.t 46,.t 47] [true,false]),iM 9 48]
 (.seq (sO [iM 49 9,iE 50 .lss 49 0,iM 51 50,iU 52 51 (.mov (.t 7)),iU 53 51 (.mov (.t 4)),iU 54 51 (.callr oO [.t 52,.t 53]),iU 55 51 (.not (.t 54)),iO 56 (.pick (.t 51) (kB true) (.t 55)),iM 57 56,iU 58 57 (.mov (.t 8)),iU 59 57 (.mov (.t 5)),iU 60 57 (.cmp .neq (.t 58) (.t 59)),iO 61 (.pick (.t 57) (kB true) (.t 60))]
 (.cond (.t 61) (sO [iO 2 (.mov (kB false))]
 (.ret))
 (.skip)))
 (sO [iO 10 (.mov (kI 1))]
 (sO [iM 62 7,iM 63 10,iO 64 (.callb tT [.t 62,.t 63] [true,false]),iM 10 64]
 (sO [iO 11 (.mov (kI 1))]
 (sO [iM 65 7,iM 66 11,iO 67 (.callr oP [.t 65,.t 66]),iM 11 67]
 (.seq (sO [iM 68 11,iE 69 .lss 68 0]
 (.cond (.t 69) (sO [iO 2 (.mov (kB false))]
 (.ret))
 (.skip)))
 (.seq (sO [iM 70 11,iM 71 10,iV 72 .neq 70 71]
 (.cond (.t 72) (sO [iO 2 (.mov (kB false))]
 (.ret))
 (.skip)))
 (sO [iM 74 0,iO 75 (.callr mN [.t 74]),iO 76 (.callr p9 [.t 75]),iM 73 76,iO 77 (.ext (.t 73) 0),iO 78 (.ext (.t 73) 1),iM 12 77,iM 13 78]
 (.seq (sO [iM 79 12,iM 80 4,iO 81 (.callr oO [.t 79,.t 80]),iO 82 (.not (.t 81)),iM 83 82,iU 84 83 (.mov (.t 13)),iU 85 83 (.mov (.t 5)),iU 86 83 (.cmp .neq (.t 84) (.t 85)),iO 87 (.pick (.t 83) (kB true) (.t 86))]
 (.cond (.t 87) (sO [iO 2 (.mov (kB false))]
 (.ret))
 (.skip)))
 (sO [iO 11 (.mov (kI 1))]
 (sO [iM 88 7,iM 89 11,iO 90 (.callr oP [.t 88,.t 89]),iM 11 90]
 (.seq (sO [iM 91 11,iE 92 .lss 91 0]
 (.cond (.t 92) (sO [iO 2 (.mov (kB false))]
 (.ret))
 (.skip)))
 (.seq (sO [iM 93 11,iM 94 10,iV 95 .neq 93 94]
 (.cond (.t 95) (sO [iO 2 (.mov (kB false))]
 (.ret))
 (.skip)))
 (sO [iO 2 (.mov (kB true))]
 (.ret)))))))))))))))))))))))))
def jN:SFn:=⟨1,96,oX,[.t 2]⟩
def mL:SCode :=
 .seq (sO [iM 12 5,iM 13 0,iO 14 (.len (.t 13)),iV 15 .lss 12 14]
 (.cond (.t 15) (.skip)
 (.seq (.keep [1]) (.exit 0))))
 (.seq (.block 1 (sO [iM 18 0,iM 19 5,iO 20 (.ixa 4 (.t 18) (.t 19)),iK 21 4 20,iM 22 1,iO 23 (.callr Bx [.t 21,.t 22]),iM 1 23]
 (sO [iM 24 1,iE 25 .lss 24 0]
 (.cond (.t 25) (sO [iO 4 (.mov (kI (-1)))]
 (.seq (.keep [4]) .ret))
 (.skip)))))
 (.ops [iM 16 5,iO 17 (.ari .add (.t 16) (kI 1)),iM 5 17]))
def B5:SCode :=
 sO [iO 4 (.mov (kI 0))]
 (sO [iM 6 1,iM 7 0,iO 8 (.len (.t 7)),iO 9 (.ari .sub (.t 6) (.t 8)),iM 1 9]
 (.seq (sO [iM 10 1,iE 11 .lss 10 0]
 (.cond (.t 11) (sO [iO 4 (.mov (kI (-1)))]
 (.ret))
 (.skip)))
 (.seq (sO [iO 5 (.mov (kI 0))]
 (.block 0 (.loop [0,1,5] mL)))
 (sO [iM 26 1,iM 4 26]
 (.ret)))))
def s6:SFn:=⟨2,27,B5,[.t 4]⟩
def pX:SCode :=
 .seq (sO [iM 19 8,iM 20 7,iO 21 (.len (.t 20)),iV 22 .lss 19 21]
 (.cond (.t 22) (.skip)
 (.seq (.keep [0,5,6]) (.exit 0))))
 (.seq (.block 1 (sO [iM 25 7,iM 26 8,iO 27 (.ixa 7 (.t 25) (.t 26)),iF 28 0 27,iL 29 28,iE 30 .eql 29 11,iM 31 30,iT 32 31 (.mov (.t 0)),iT 33 31 (.mov (.t 5)),iT 34 31 (.cutr 4 (.t 32) none (some (.t 33))),iT 35 31 (.mov (.t 7)),iT 36 31 (.mov (.t 8)),iT 37 31 (.ixa 7 (.t 35) (.t 36)),iT 38 31 (.faddr 5 (.t 37)),iT 39 31 (.load none (.t 38)),iT 40 31 (.callr rU [.t 34,.t 39]),iT 41 31 (.cmp .geq (.t 40) (kI 0)),iO 42 (.pick (.t 31) (.t 41) (kB false))]
 (.cond (.t 42) (.ops [iM 43 6,iM 44 0,iM 45 5,iO 46 (.cutr 4 (.t 44) none (some (.t 45))),iM 47 7,iM 48 8,iO 49 (.ixa 7 (.t 47) (.t 48)),iF 50 5 49,iL 51 50,iO 52 (.callr sD [.t 46,.t 51]),iO 53 (.callr F7 [.t 43,.t 52]),iM 6 53])
 (.skip))))
 (.ops [iM 23 8,iO 24 (.ari .add (.t 23) (kI 1)),iM 8 24]))
def Bs:SCode :=
 sO [iO 4 (.mov (kI 0))]
 (sO [iM 9 0,iM 10 1,iO 11 (.callr rU [.t 9,.t 10]),iM 5 11]
 (.seq (sO [iM 12 5,iE 13 .lss 12 0]
 (.cond (.t 13) (sO [iO 4 (.mov (kI 0))]
 (.ret))
 (.skip)))
 (sO [iO 6 (.mov (kI 0))]
 (sO [iM 14 0,iM 15 5,iO 16 (.ixa 4 (.t 14) (.t 15)),iF 17 3 16,iL 18 17,iM 7 18]
 (.seq (sO [iO 8 (.mov (kI 0))]
 (.block 0 (.loop [0,5,6,7,8] pX)))
 (sO [iM 54 0,iM 55 5,iO 56 (.ixa 4 (.t 54) (.t 55)),iK 57 4 56,iO 58 (.callr Gv [.t 57]),iO 59 (.ari .add (.t 58) (kI 2)),iM 60 6,iO 61 (.ari .add (.t 59) (.t 60)),iM 4 61]
 (.ret)))))))
def Cc:SFn:=⟨2,62,Bs,[.t 4]⟩
def mC:SCode :=
 .seq (sO [iM 8 4,iM 9 0,iO 10 (.len (.t 9)),iV 11 .lss 8 10]
 (.cond (.t 11) (.skip)
 (.seq (.keep [3]) (.exit 0))))
 (.seq (.block 1 (.ops [iM 14 3,iM 15 4,iM 16 0,iM 17 4,iO 18 (.ixa 4 (.t 16) (.t 17)),iK 19 4 18,iO 20 (.call By [.t 19]),iO 21 (.ixa 4 (.t 14) (.t 15)),iN (.store 4 (.t 21) (.t 20))]))
 (.ops [iM 12 4,iO 13 (.ari .add (.t 12) (kI 1)),iM 4 13]))
def Cr:SCode :=
 sO [iO 2 (.mov (.n 4))]
 (sO [iM 5 0,iO 6 (.len (.t 5)),iO 7 (.mk 4 56 [zS,zI,zI,.s 7 []] (.t 6)),iM 3 7]
 (.seq (sO [iO 4 (.mov (kI 0))]
 (.block 0 (.loop [0,3,4] mC)))
 (sO [iM 22 3,iM 2 22]
 (.ret))))
def sI:SFn:=⟨1,23,Cr,[.t 2]⟩
def Kx:SCode :=
 sO [iO 4 (.mov (kI 0))]
 (sO [iM 6 0,iM 7 1,iO 8 (.callr uD [.t 6,.t 7]),iM 5 8]
 (.seq (sO [iM 9 5,iE 10 .lss 9 0]
 (.cond (.t 10) (sO [iO 4 (.mov (kI 0))]
 (.ret))
 (.skip)))
 (sO [iM 11 0,iM 12 5,iO 13 (.callr xN [.t 11,.t 12]),iM 4 13]
 (.ret))))
def Dc:SFn:=⟨2,14,Kx,[.t 4]⟩
def mK:SCode :=
 .seq (sO [iM 11 5,iM 12 0,iO 13 (.len (.t 12)),iV 14 .lss 11 13]
 (.cond (.t 14) (.skip)
 (.seq (.keep []) (.exit 0))))
 (.seq (.block 1 (sO [iM 17 0,iM 18 5,iO 19 (.ixa 4 (.t 17) (.t 18)),iK 20 4 19,iM 21 1,iM 22 5,iO 23 (.ixa 4 (.t 21) (.t 22)),iK 24 4 23,iO 25 (.callr Df [.t 20,.t 24]),iO 26 (.not (.t 25))]
 (.cond (.t 26) (sO [iO 4 (.mov (kB false))]
 (.seq (.keep [4]) .ret))
 (.skip))))
 (.ops [iM 15 5,iO 16 (.ari .add (.t 15) (kI 1)),iM 5 16]))
def Du:SCode :=
 sO [iO 4 (.mov (kB false))]
 (.seq (sO [iM 6 0,iO 7 (.len (.t 6)),iM 8 1,iO 9 (.len (.t 8)),iV 10 .neq 7 9]
 (.cond (.t 10) (sO [iO 4 (.mov (kB false))]
 (.ret))
 (.skip)))
 (.seq (sO [iO 5 (.mov (kI 0))]
 (.block 0 (.loop [0,1,5] mK)))
 (sO [iO 4 (.mov (kB true))]
 (.ret))))
def tR:SFn:=⟨2,27,Du,[.t 4]⟩
def Fh:SCode :=
 sO [iO 2 (.vbox 4 (.t 0)),iO 4 (.mov (kI 0))]
 (sO [iM 5 1,iF 6 0 2,iL 7 6,iO 8 (.slen (.t 7)),iO 9 (.ari .sub (.t 5) (.t 8)),iM 1 9]
 (.seq (sO [iM 10 1,iE 11 .lss 10 0]
 (.cond (.t 11) (sO [iO 4 (.mov (kI (-1)))]
 (.ret))
 (.skip)))
 (sO [iF 12 3 2,iL 13 12,iM 14 1,iO 15 (.callr Bz [.t 13,.t 14]),iM 1 15]
 (.seq (sO [iM 16 1,iE 17 .lss 16 0]
 (.cond (.t 17) (sO [iO 4 (.mov (kI (-1)))]
 (.ret))
 (.skip)))
 (sO [iM 18 1,iM 4 18]
 (.ret))))))
def vF:SFn:=⟨2,19,Fh,[.t 4]⟩
def Fm:SCode :=
 sO [iO 1 (.vbox 4 (.t 0)),iO 2 (.alloc [zS,zI,zI,.s 7 []])]
 (sO [iO 3 (.alloc [zS,zI,zI,.s 7 []])]
 (sO [iF 4 0 1,iL 5 4,iF 6 0 3,iN (.store 1 (.t 6) (.t 5))]
 (sO [iF 7 1 1,iL 8 7,iF 9 1 3,iN (.store 1 (.t 9) (.t 8))]
 (sO [iF 10 2 1,iL 11 10,iF 12 2 3,iN (.store 1 (.t 12) (.t 11))]
 (sO [iF 13 3 1,iL 14 13,iO 15 (.call B8 [.t 14]),iF 16 3 3,iN (.store 1 (.t 16) (.t 15))]
 (sO [iK 17 4 3,iN (.store 4 (.t 2) (.t 17))]
 (.ret)))))))
def wO:SFn:=⟨1,18,Fm,[.c 2 (some 4)]⟩
def Fd:SCode :=
 sO [iO 2 (.vbox 4 (.t 0)),iO 3 (.vbox 4 (.t 1)),iO 4 (.mov (kB false))]
 (.seq (sO [iF 5 0 2,iL 6 5,iF 7 0 3,iL 8 7,iV 9 .neq 6 8]
 (.cond (.t 9) (sO [iO 4 (.mov (kB false))]
 (.ret))
 (.skip)))
 (.seq (sO [iF 10 1 2,iL 11 10,iF 12 1 3,iL 13 12,iV 14 .neq 11 13]
 (.cond (.t 14) (sO [iO 4 (.mov (kB false))]
 (.ret))
 (.skip)))
 (.seq (sO [iF 15 2 2,iL 16 15,iF 17 2 3,iL 18 17,iV 19 .neq 16 18]
 (.cond (.t 19) (sO [iO 4 (.mov (kB false))]
 (.ret))
 (.skip)))
 (.seq (sO [iF 20 3 2,iL 21 20,iF 22 3 3,iL 23 22,iO 24 (.callr C2 [.t 21,.t 23]),iO 25 (.not (.t 24))]
 (.cond (.t 25) (sO [iO 4 (.mov (kB false))]
 (.ret))
 (.skip)))
 (sO [iO 4 (.mov (kB true))]
 (.ret))))))
def vY:SFn:=⟨2,26,Fd,[.t 4]⟩
def jS:SCode :=
 .seq (sO [iM 6 5,iM 7 0,iO 8 (.len (.t 7)),iV 9 .lss 6 8]
 (.cond (.t 9) (.skip)
 (.seq (.keep [1]) (.exit 0))))
 (.seq (.block 1 (sO [iM 12 0,iM 13 5,iM 14 1,iO 15 (.callr fV [.t 14]),iO 16 (.ixa 4 (.t 12) (.t 13)),iF 17 0 16,iN (.store 1 (.t 17) (.t 15))]
 (sO [iM 18 1,iO 19 (.ari .add (.t 18) (kI 1)),iM 1 19]
 (sO [iM 20 0,iM 21 5,iM 22 1,iO 23 (.ixa 4 (.t 20) (.t 21)),iF 24 1 23,iN (.store 1 (.t 24) (.t 22))]
 (sO [iM 25 1,iO 26 (.ari .add (.t 25) (kI 1)),iM 1 26]
 (sO [iM 27 0,iM 28 5,iM 29 1,iO 30 (.ixa 4 (.t 27) (.t 28)),iF 31 2 30,iN (.store 1 (.t 31) (.t 29))]
 (sO [iM 32 1,iO 33 (.ari .add (.t 32) (kI 1)),iM 1 33]
 (.ops [iM 34 0,iM 35 5,iO 36 (.ixa 4 (.t 34) (.t 35)),iF 37 3 36,iL 38 37,iM 39 1,iO 40 (.callb wG [.t 38,.t 39] [true,false]),iM 1 40]))))))))
 (.ops [iM 10 5,iO 11 (.ari .add (.t 10) (kI 1)),iM 5 11]))
def xC:SCode :=
 sO [iO 4 (.mov (kI 0))]
 (.seq (sO [iO 5 (.mov (kI 0))]
 (.block 0 (.loop [0,1,5] jS)))
 (sO [iM 41 1,iM 4 41]
 (.ret)))
def pO:SFn:=⟨2,42,xC,[.t 4]⟩
def m3:SCode :=
 .seq (sO [iM 16 6,iF 17 3 1,iL 18 17,iO 19 (.len (.t 18)),iV 20 .lss 16 19]
 (.cond (.t 20) (.skip)
 (.seq (.keep [1,4,5]) (.exit 0))))
 (.seq (.block 1 (sO [iF 23 3 1,iL 24 23,iM 25 6,iO 26 (.ixa 7 (.t 24) (.t 25)),iF 27 0 26,iL 28 27,iO 29 (.callr y7 [.t 28])]
 (.cond (.t 29) (sO [iM 30 4,iM 2 30,iO 3 (.mov (kB false))]
 (.seq (.keep [2,3]) .ret))
 (.skip))))
 (.ops [iM 21 6,iO 22 (.ari .add (.t 21) (kI 1)),iM 6 22]))
def pS:SCode :=
 .seq (sO [iM 62 8,iF 63 3 1,iL 64 63,iO 65 (.len (.t 64)),iV 66 .lss 62 65]
 (.cond (.t 66) (.skip)
 (.seq (.keep [7]) (.exit 2))))
 (.seq (.block 3 (.ops [iM 69 7,iF 70 3 1,iL 71 70,iM 72 8,iO 73 (.ixa 7 (.t 71) (.t 72)),iK 74 7 73,iO 75 (.callb bK [.t 69,.t 74] [true,false])]))
 (.ops [iM 67 8,iO 68 (.ari .add (.t 67) (kI 1)),iM 8 68]))
def qB:SCode :=
 sO [iO 1 (.vbox 4 (.t 0)),iO 2 (.mov (.n 8)),iO 3 (.mov (kB false))]
 (sO [iO 9 (.lit 8 []),iM 4 9]
 (.seq (sO [iK 10 4 1,iO 11 (.callr uU [.t 10]),iO 12 (.not (.t 11))]
 (.cond (.t 12) (sO [iM 13 4,iM 2 13,iO 3 (.mov (kB false))]
 (.ret))
 (.skip)))
 (sO [iK 14 4 1,iO 15 (.callr pY [.t 14]),iM 5 15]
 (.seq (sO [iO 6 (.mov (kI 0))]
 (.block 0 (.loop [1,4,5,6] m3)))
 (sO [iF 31 0 1,iL 32 31,iM 33 5,iO 34 (.nck (.t 33)),iF 35 2 34,iL 36 35,iM 37 5,iO 38 (.nck (.t 37)),iF 39 3 38,iL 40 39,iO 41 (.ari .add (.t 40) (kI 2)),iO 42 (.build [zS,.s 1 [],zI,.s 8 []] [(0,1,.t 32),(1,1,.t 36),(2,1,.t 41)]),iO 43 (.box 4 (.t 42)),iM 7 43]
 (.seq (sO [iM 44 7,iO 45 (.nck (.t 44)),iF 46 2 45,iL 47 46,iE 48 .gtr 47 60]
 (.cond (.t 48) (sO [iM 49 4,iM 2 49,iO 3 (.mov (kB false))]
 (.ret))
 (.skip)))
 (.seq (.opsd [⟨iM 50 7,0,[]⟩,⟨iM 51 7,1,[]⟩,⟨iO 52 (.nck (.t 51)),2,[]⟩,⟨iF 53 3 52,3,[]⟩,⟨iL 54 53,4,[]⟩,⟨iF 55 0 1,5,[]⟩,⟨iL 56 55,6,[]⟩,⟨iO 57 (.build [zS,zI,zI,zI,zI,zI,zI,zS] [(0,1,.t 56)]),7,[]⟩,⟨iO 58 (.lit 8 [.t 57]),8,[iM 50 7,iM 51 7,iO 52 (.nck (.t 51)),iF 53 3 52,iL 54 53]⟩,⟨iO 59 (.app 8 80 (.t 54) (.t 58)),9,[iM 50 7]⟩,⟨iO 60 (.nck (.t 50)),10,[]⟩,⟨iF 61 3 60,11,[]⟩,⟨iN (.store 1 (.t 61) (.t 59)),12,[]⟩])
 (.seq (sO [iO 8 (.mov (kI 0))]
 (.block 2 (.loop [1,7,8] pS)))
 (sO [iM 76 7,iO 77 (.nck (.t 76)),iF 78 3 77,iL 79 78,iM 2 79,iO 3 (.mov (kB true))]
 (.ret))))))))))
def Dg:SFn:=⟨1,80,qB,[.t 2,.t 3]⟩
def pT:SCode :=
 sO [iV 39 .lss 38 37]
 (.seq (.cond (.t 39) (.skip)
 (.seq (.keep [6]) (.exit 0)))
 (.seq (.block 1 (sO [iO 40 (.ixa 7 (.t 36) (.t 38)),iK 41 7 40,iO 8 (.alloc [zI,zI,zI,zI,zI,zS,.s 1 []]),iN (.store 7 (.t 8) (.t 41))]
 (.ops [iM 42 6,iK 43 7 8,iO 44 (.callb aW [.t 42,.t 43] [true,false])])))
 (.ops [iO 45 (.ari .add (.t 38) (kI 1)),iM 38 45])))
def qR:SCode :=
 sO [iO 1 (.vbox 4 (.t 0)),iO 2 (.mov (.n 8)),iO 3 (.mov (kB false))]
 (.seq (sO [iK 9 4 1,iO 10 (.callr lI [.t 9]),iO 11 (.not (.t 10)),iM 12 11,iU 13 12 (.faddr 3 (.t 1)),iU 14 12 (.load none (.t 13)),iU 15 12 (.calli (.f dB) [.t 14,.f uR]),iO 16 (.pick (.t 12) (kB true) (.t 15))]
 (.cond (.t 16) (sO [iO 2 (.mov (.n 8)),iO 3 (.mov (kB false))]
 (.ret))
 (.skip)))
 (sO [iK 18 4 1,iO 19 (.call zR [.t 18]),iM 17 19,iO 20 (.ext (.t 17) 0),iO 21 (.ext (.t 17) 1),iM 4 20,iM 5 21]
 (.seq (sO [iM 22 5,iO 23 (.ari .add (.t 22) (kI 2)),iE 24 .gtr 23 60]
 (.cond (.t 24) (sO [iO 2 (.mov (.n 8)),iO 3 (.mov (kB false))]
 (.ret))
 (.skip)))
 (sO [iK 25 4 1,iM 26 4,iM 27 5,iO 28 (.ari .add (.t 27) (kI 2)),iF 29 0 1,iL 30 29,iO 31 (.build [zS,zI,zI,zI,zI,zI,zI,zS] [(0,1,.t 30)]),iO 32 (.lit 8 [.t 31]),iO 33 (.build [zS,zI,zI,.s 7 [],.s 1 [],zI,.s 8 []] [(0,4,.t 25),(4,1,.t 26),(5,1,.t 28),(6,1,.t 32)]),iO 34 (.box 7 (.t 33)),iM 6 34]
 (.seq (sO [iF 35 3 1,iL 36 35,iO 37 (.len (.t 36)),iO 38 (.mov (kI 0))]
 (.block 0 (.loop [6,36,37,38] pT)))
 (sO [iM 46 6,iO 47 (.nck (.t 46)),iF 48 6 47,iL 49 48,iM 2 49,iO 3 (.mov (kB true))]
 (.ret)))))))
def Cm:SFn:=⟨1,50,qR,[.t 2,.t 3]⟩
def mI:SCode :=
 .seq (sO [iM 11 5,iM 12 0,iO 13 (.len (.t 12)),iV 14 .lss 11 13]
 (.cond (.t 14) (.skip)
 (.seq (.keep []) (.exit 0))))
 (.seq (.block 1 (sO [iM 17 0,iM 18 5,iO 19 (.ixa 8 (.t 17) (.t 18)),iK 20 8 19,iM 21 1,iM 22 5,iO 23 (.ixa 8 (.t 21) (.t 22)),iK 24 8 23,iO 25 (.callr Cq [.t 20,.t 24]),iO 26 (.not (.t 25))]
 (.cond (.t 26) (sO [iO 4 (.mov (kB false))]
 (.seq (.keep [4]) .ret))
 (.skip))))
 (.ops [iM 15 5,iO 16 (.ari .add (.t 15) (kI 1)),iM 5 16]))
def Cd:SCode :=
 sO [iO 4 (.mov (kB false))]
 (.seq (sO [iM 6 0,iO 7 (.len (.t 6)),iM 8 1,iO 9 (.len (.t 8)),iV 10 .neq 7 9]
 (.cond (.t 10) (sO [iO 4 (.mov (kB false))]
 (.ret))
 (.skip)))
 (.seq (sO [iO 5 (.mov (kI 0))]
 (.block 0 (.loop [0,1,5] mI)))
 (sO [iO 4 (.mov (kB true))]
 (.ret))))
def tL:SFn:=⟨2,27,Cd,[.t 4]⟩
def jQ:SCode :=
 .seq (sO [iM 6 5,iM 7 0,iO 8 (.len (.t 7)),iV 9 .lss 6 8]
 (.cond (.t 9) (.skip)
 (.seq (.keep [1]) (.exit 0))))
 (.seq (.block 1 (sO [iM 12 0,iM 13 5,iM 14 1,iO 15 (.callr fV [.t 14]),iO 16 (.ixa 8 (.t 12) (.t 13)),iF 17 0 16,iN (.store 1 (.t 17) (.t 15))]
 (sO [iM 18 1,iO 19 (.ari .add (.t 18) (kI 1)),iM 1 19]
 (sO [iM 20 0,iM 21 5,iM 22 1,iO 23 (.ixa 8 (.t 20) (.t 21)),iF 24 1 23,iF 25 0 24,iN (.store 1 (.t 25) (.t 22))]
 (sO [iM 26 1,iO 27 (.ari .add (.t 26) (kI 1)),iM 1 27]
 (sO [iM 28 0,iM 29 5,iM 30 1,iO 31 (.ixa 8 (.t 28) (.t 29)),iF 32 1 31,iF 33 1 32,iN (.store 1 (.t 33) (.t 30))]
 (sO [iM 34 1,iO 35 (.ari .add (.t 34) (kI 1)),iM 1 35]
 (sO [iM 36 0,iM 37 5,iM 38 1,iO 39 (.ixa 8 (.t 36) (.t 37)),iF 40 1 39,iF 41 2 40,iN (.store 1 (.t 41) (.t 38))]
 (sO [iM 42 1,iO 43 (.ari .add (.t 42) (kI 1)),iM 1 43]
 (sO [iM 44 0,iM 45 5,iM 46 1,iO 47 (.ixa 8 (.t 44) (.t 45)),iF 48 1 47,iF 49 3 48,iN (.store 1 (.t 49) (.t 46))]
 (sO [iM 50 1,iO 51 (.ari .add (.t 50) (kI 1)),iM 1 51]
 (sO [iM 52 0,iM 53 5,iM 54 1,iO 55 (.ixa 8 (.t 52) (.t 53)),iF 56 1 55,iF 57 4 56,iN (.store 1 (.t 57) (.t 54))]
 (sO [iM 58 1,iO 59 (.ari .add (.t 58) (kI 1)),iM 1 59]
 (sO [iM 60 0,iM 61 5,iM 62 1,iO 63 (.ixa 8 (.t 60) (.t 61)),iF 64 1 63,iF 65 5 64,iN (.store 1 (.t 65) (.t 62))]
 (sO [iM 66 1,iO 67 (.ari .add (.t 66) (kI 1)),iM 1 67]
 (sO [iM 68 0,iM 69 5,iM 70 1,iO 71 (.callr fV [.t 70]),iO 72 (.ixa 8 (.t 68) (.t 69)),iF 73 7 72,iN (.store 1 (.t 73) (.t 71))]
 (.ops [iM 74 1,iO 75 (.ari .add (.t 74) (kI 1)),iM 1 75])))))))))))))))))
 (.ops [iM 10 5,iO 11 (.ari .add (.t 10) (kI 1)),iM 5 11]))
def xP:SCode :=
 sO [iO 4 (.mov (kI 0))]
 (.seq (sO [iO 5 (.mov (kI 0))]
 (.block 0 (.loop [0,1,5] jQ)))
 (sO [iM 76 1,iM 4 76]
 (.ret)))
def pQ:SFn:=⟨2,77,xP,[.t 4]⟩
def jO:SCode :=
 .seq (sO [iM 6 5,iM 7 0,iO 8 (.len (.t 7)),iV 9 .lss 6 8]
 (.cond (.t 9) (.skip)
 (.seq (.keep [1]) (.exit 0))))
 (.seq (.block 1 (.seq (sO [iM 12 0,iM 13 5,iO 14 (.ixa 8 (.t 12) (.t 13)),iF 15 0 14,iL 16 15,iM 17 1,iO 18 (.callr fV [.t 17]),iV 19 .neq 16 18]
 (.cond (.t 19) (sO [iO 4 (.mov (kI (-1)))]
 (.seq (.keep [4]) .ret))
 (.skip)))
 (sO [iM 20 1,iO 21 (.ari .add (.t 20) (kI 1)),iM 1 21]
 (.seq (sO [iM 22 0,iM 23 5,iO 24 (.ixa 8 (.t 22) (.t 23)),iF 25 1 24,iF 26 0 25,iL 27 26,iM 28 1,iV 29 .neq 27 28]
 (.cond (.t 29) (sO [iO 4 (.mov (kI (-1)))]
 (.seq (.keep [4]) .ret))
 (.skip)))
 (sO [iM 30 1,iO 31 (.ari .add (.t 30) (kI 1)),iM 1 31]
 (.seq (sO [iM 32 0,iM 33 5,iO 34 (.ixa 8 (.t 32) (.t 33)),iF 35 1 34,iF 36 1 35,iL 37 36,iM 38 1,iV 39 .neq 37 38]
 (.cond (.t 39) (sO [iO 4 (.mov (kI (-1)))]
 (.seq (.keep [4]) .ret))
 (.skip)))
 (sO [iM 40 1,iO 41 (.ari .add (.t 40) (kI 1)),iM 1 41]
 (.seq (sO [iM 42 0,iM 43 5,iO 44 (.ixa 8 (.t 42) (.t 43)),iF 45 1 44,iF 46 2 45,iL 47 46,iM 48 1,iV 49 .neq 47 48]
 (.cond (.t 49) (sO [iO 4 (.mov (kI (-1)))]
 (.seq (.keep [4]) .ret))
 (.skip)))
 (sO [iM 50 1,iO 51 (.ari .add (.t 50) (kI 1)),iM 1 51]
 (.seq (sO [iM 52 0,iM 53 5,iO 54 (.ixa 8 (.t 52) (.t 53)),iF 55 1 54,iF 56 3 55,iL 57 56,iM 58 1,iV 59 .neq 57 58]
 (.cond (.t 59) (sO [iO 4 (.mov (kI (-1)))]
 (.seq (.keep [4]) .ret))
 (.skip)))
 (sO [iM 60 1,iO 61 (.ari .add (.t 60) (kI 1)),iM 1 61]
 (.seq (sO [iM 62 0,iM 63 5,iO 64 (.ixa 8 (.t 62) (.t 63)),iF 65 1 64,iF 66 4 65,iL 67 66,iM 68 1,iV 69 .neq 67 68]
 (.cond (.t 69) (sO [iO 4 (.mov (kI (-1)))]
 (.seq (.keep [4]) .ret))
 (.skip)))
 (sO [iM 70 1,iO 71 (.ari .add (.t 70) (kI 1)),iM 1 71]
 (.seq (sO [iM 72 0,iM 73 5,iO 74 (.ixa 8 (.t 72) (.t 73)),iF 75 1 74,iF 76 5 75,iL 77 76,iM 78 1,iV 79 .neq 77 78]
 (.cond (.t 79) (sO [iO 4 (.mov (kI (-1)))]
 (.seq (.keep [4]) .ret))
 (.skip)))
 (sO [iM 80 1,iO 81 (.ari .add (.t 80) (kI 1)),iM 1 81]
 (.seq (sO [iM 82 0,iM 83 5,iO 84 (.ixa 8 (.t 82) (.t 83)),iF 85 7 84,iL 86 85,iM 87 1,iO 88 (.callr fV [.t 87]),iV 89 .neq 86 88]
 (.cond (.t 89) (sO [iO 4 (.mov (kI (-1)))]
 (.seq (.keep [4]) .ret))
 (.skip)))
 (.ops [iM 90 1,iO 91 (.ari .add (.t 90) (kI 1)),iM 1 91])))))))))))))))))
 (.ops [iM 10 5,iO 11 (.ari .add (.t 10) (kI 1)),iM 5 11]))
def yA:SCode :=
 sO [iO 4 (.mov (kI 0))]
 (.seq (sO [iO 5 (.mov (kI 0))]
 (.block 0 (.loop [0,1,5] jO)))
 (sO [iM 92 1,iM 4 92]
 (.ret)))
def pL:SFn:=⟨2,93,yA,[.t 4]⟩
def gR:SCode :=
 .seq (sO [iM 14 6,iM 15 0,iO 16 (.len (.t 15)),iV 17 .lss 14 16]
 (.cond (.t 17) (.skip)
 (.seq (.keep [0,4,5]) (.exit 0))))
 (.seq (.block 1 (sO [iM 21 0,iM 22 6,iO 23 (.ixa 4 (.t 21) (.t 22)),iK 24 4 23,iO 25 (.call Ec [.t 24]),iM 20 25,iO 26 (.ext (.t 20) 0),iO 27 (.ext (.t 20) 1),iM 7 26,iM 8 27]
 (.seq (sO [iM 28 8,iO 29 (.not (.t 28))]
 (.cond (.t 29) (sO [iM 30 4,iM 2 30,iO 3 (.mov (kI 5))]
 (.seq (.keep [2,3]) .ret))
 (.skip)))
 (.ops [iM 31 5,iM 32 7,iO 33 (.app 8 80 (.t 31) (.t 32)),iM 5 33]))))
 (.ops [iM 18 6,iO 19 (.ari .add (.t 18) (kI 1)),iM 6 19]))
def eS:SCode :=
 .seq (sO [iM 55 11,iM 56 0,iM 57 10,iO 58 (.ixa 4 (.t 56) (.t 57)),iF 59 3 58,iL 60 59,iO 61 (.len (.t 60)),iV 62 .lss 55 61]
 (.cond (.t 62) (.skip)
 (.seq (.keep [0,4,5,9,10]) (.exit 4))))
 (.seq (.block 5 (sO [iM 65 0,iM 66 10,iO 67 (.ixa 4 (.t 65) (.t 66)),iF 68 3 67,iL 69 68,iM 70 11,iO 71 (.ixa 7 (.t 69) (.t 70)),iF 72 0 71,iL 73 72,iE 74 .eql 73 24,iM 75 74,iT 76 75 (.mov (.t 0)),iT 77 75 (.mov (.t 0)),iT 78 75 (.mov (.t 10)),iT 79 75 (.ixa 4 (.t 77) (.t 78)),iT 80 75 (.faddr 3 (.t 79)),iT 81 75 (.load none (.t 80)),iT 82 75 (.mov (.t 11)),iT 83 75 (.ixa 7 (.t 81) (.t 82)),iT 84 75 (.faddr 5 (.t 83)),iT 85 75 (.load none (.t 84)),iT 86 75 (.callr l9 [.t 76,.t 85]),iT 87 75 (.not (.t 86)),iO 88 (.pick (.t 75) (.t 87) (kB false))]
 (.cond (.t 88) (.ops [iO 9 (.mov (kB false))])
 (.skip))))
 (.ops [iM 63 11,iO 64 (.ari .add (.t 63) (kI 1)),iM 11 64]))
def kR:SCode :=
 .seq (sO [iM 49 10,iM 50 0,iO 51 (.len (.t 50)),iV 52 .lss 49 51]
 (.cond (.t 52) (.skip)
 (.seq (.keep [4,5,9]) (.exit 2))))
 (.seq (.block 3 (sO [iO 11 (.mov (kI 0))]
 (.block 4 (.loop [0,4,5,9,10,11] eS))))
 (.ops [iM 53 10,iO 54 (.ari .add (.t 53) (kI 1)),iM 10 54]))
def Ah:SCode :=
 sO [iO 2 (.mov (.n 8)),iO 3 (.mov (kI 0))]
 (sO [iO 12 (.lit 8 []),iM 4 12]
 (sO [iO 13 (.lit 8 []),iM 5 13]
 (.seq (sO [iO 6 (.mov (kI 0))]
 (.block 0 (.loop [0,4,5,6] gR)))
 (sO [iM 34 0,iO 35 (.callr l9 [.t 34,.c (.string ⟨#[109,97,105,110]⟩)]),iM 36 35,iT 37 36 (.mov (.t 0)),iT 38 36 (.callr l9 [.t 37,.c (.string ⟨#[114,116,101,110,100]⟩)]),iO 39 (.pick (.t 36) (.t 38) (kB false)),iM 40 39,iT 41 40 (.mov (.t 0)),iT 42 40 (.callr l9 [.t 41,.c (.string ⟨#[114,116,101,120,105,116]⟩)]),iO 43 (.pick (.t 40) (.t 42) (kB false)),iM 44 43,iT 45 44 (.mov (.t 0)),iT 46 44 (.callr sD [.t 45,.c (.string ⟨#[114,116,108,111,111,112]⟩)]),iT 47 44 (.cmp .leq (.t 46) (kI 36)),iO 48 (.pick (.t 44) (.t 47) (kB false)),iM 9 48]
 (.seq (sO [iO 10 (.mov (kI 0))]
 (.block 2 (.loop [0,4,5,9,10] kR)))
 (.seq (sO [iM 89 9,iO 90 (.not (.t 89))]
 (.cond (.t 90) (sO [iM 91 4,iM 2 91,iO 3 (.mov (kI 6))]
 (.ret))
 (.skip)))
 (sO [iM 92 5,iM 2 92,iO 3 (.mov (kI 0))]
 (.ret))))))))
def rM:SFn:=⟨1,93,Ah,[.t 2,.t 3]⟩
def kZ:SCode :=
 sO [iV 36 .lss 35 34]
 (.seq (.cond (.t 36) (.skip)
 (.seq (.keep [0,4,5,16,17,18]) (.exit 2)))
 (.seq (.block 3 (sO [iO 37 (.ixa 7 (.t 33) (.t 35)),iK 38 7 37,iO 11 (.alloc [zI,zI,zI,zI,zI,zS,.s 1 []]),iN (.store 7 (.t 11) (.t 38))]
 (sO [iF 39 0 11,iL 40 39,iE 41 .eql 40 24]
 (.cond (.t 41) (.ops [iM 42 5,iF 43 5 11,iL 44 43,iO 45 (.lit 1 [.t 44]),iO 46 (.app 1 16 (.t 42) (.t 45)),iM 5 46])
 (.skip)))))
 (.ops [iO 47 (.ari .add (.t 35) (kI 1)),iM 35 47])))
def gV:SCode :=
 sO [iV 19 .lss 18 17]
 (.seq (.cond (.t 19) (.skip)
 (.seq (.keep [0,4,5]) (.exit 0)))
 (.seq (.block 1 (sO [iO 20 (.ixa 4 (.t 16) (.t 18)),iK 21 4 20,iO 7 (.alloc [zS,zI,zI,.s 7 []]),iN (.store 4 (.t 7) (.t 21))]
 (sO [iK 23 4 7,iO 24 (.call D8 [.t 23]),iM 22 24,iO 25 (.ext (.t 22) 0),iO 26 (.ext (.t 22) 1),iM 8 25,iM 9 26]
 (.seq (sO [iM 27 9,iO 28 (.not (.t 27))]
 (.cond (.t 28) (sO [iO 2 (.mov (.n 8)),iO 3 (.mov (kI 5))]
 (.seq (.keep [2,3]) .ret))
 (.skip)))
 (sO [iM 29 4,iM 30 8,iO 31 (.app 8 80 (.t 29) (.t 30)),iM 4 31]
 (sO [iF 32 3 7,iL 33 32,iO 34 (.len (.t 33)),iO 35 (.mov (kI 0))]
 (.block 2 (.loop [0,4,5,16,17,18,33,34,35] kZ))))))))
 (.ops [iO 48 (.ari .add (.t 18) (kI 1)),iM 18 48])))
def gT:SCode :=
 sO [iV 52 .lss 51 50]
 (.seq (.cond (.t 52) (.skip)
 (.seq (.keep [0,4]) (.exit 4)))
 (.seq (.block 5 (sO [iO 53 (.ixa 1 (.t 49) (.t 51)),iL 54 53,iM 13 54]
 (sO [iM 55 0,iM 56 13,iO 57 (.callr Ee [.t 55,.t 56]),iE 58 .gtr 57 180]
 (.cond (.t 58) (sO [iO 2 (.mov (.n 8)),iO 3 (.mov (kI 6))]
 (.seq (.keep [2,3]) .ret))
 (.skip)))))
 (.ops [iO 59 (.ari .add (.t 51) (kI 1)),iM 51 59])))
def Au:SCode :=
 sO [iO 2 (.mov (.n 8)),iO 3 (.mov (kI 0))]
 (sO [iO 14 (.lit 8 []),iM 4 14]
 (sO [iO 15 (.lit 1 [.c (.string ⟨#[109,97,105,110]⟩),.c (.string ⟨#[114,116,101,110,100]⟩),.c (.string ⟨#[114,116,101,120,105,116]⟩)]),iM 5 15]
 (.seq (sO [iM 16 0,iO 17 (.len (.t 16)),iO 18 (.mov (kI 0))]
 (.block 0 (.loop [0,4,5,16,17,18] gV)))
 (.seq (sO [iM 49 5,iO 50 (.len (.t 49)),iO 51 (.mov (kI 0))]
 (.block 4 (.loop [0,4,49,50,51] gT)))
 (.seq (sO [iM 60 0,iO 61 (.callr Ee [.t 60,.c (.string ⟨#[114,116,108,111,111,112]⟩)]),iE 62 .gtr 61 36]
 (.cond (.t 62) (sO [iO 2 (.mov (.n 8)),iO 3 (.mov (kI 6))]
 (.ret))
 (.skip)))
 (sO [iM 63 4,iM 2 63,iO 3 (.mov (kI 0))]
 (.ret)))))))
def rL:SFn:=⟨1,64,Au,[.t 2,.t 3]⟩
def i6:SCode :=
 .seq (sO [iM 6 5,iM 7 0,iO 8 (.len (.t 7)),iV 9 .lss 6 8]
 (.cond (.t 9) (.skip)
 (.seq (.keep []) (.exit 0))))
 (.seq (.block 1 (sO [iM 12 0,iM 13 5,iO 14 (.ixa 4 (.t 12) (.t 13)),iF 15 0 14,iL 16 15,iM 17 1,iV 18 .eql 16 17]
 (.cond (.t 18) (sO [iM 19 5,iM 4 19]
 (.seq (.keep [4]) .ret))
 (.skip))))
 (.ops [iM 10 5,iO 11 (.ari .add (.t 10) (kI 1)),iM 5 11]))
def C5:SCode :=
 sO [iO 4 (.mov (kI 0))]
 (.seq (sO [iO 5 (.mov (kI 0))]
 (.block 0 (.loop [0,1,5] i6)))
 (sO [iO 4 (.mov (kI (-1)))]
 (.ret)))
def tB:SFn:=⟨2,20,C5,[.t 4]⟩
def It:SCode :=
 sO [iO 4 (.mov (kI 0))]
 (.seq (sO [iM 5 0,iM 6 1,iV 7 .gtr 5 6]
 (.cond (.t 7) (sO [iM 8 0,iM 4 8]
 (.ret))
 (.skip)))
 (sO [iM 9 1,iM 4 9]
 (.ret)))
def yW:SFn:=⟨2,10,It,[.t 4]⟩
def Ir:SCode :=
 sO [iO 1 (.vbox 4 (.t 0)),iO 2 (.mov (kI 0))]
 (.seq (sO [iK 3 4 1,iO 4 (.callr uU [.t 3]),iO 5 (.not (.t 4))]
 (.cond (.t 5) (sO [iO 2 (.mov (kI 0))]
 (.ret))
 (.skip)))
 (sO [iK 6 4 1,iO 7 (.callr pY [.t 6]),iO 8 (.nck (.t 7)),iF 9 3 8,iL 10 9,iM 2 10]
 (.ret)))
def zY:SFn:=⟨1,11,Ir,[.t 2]⟩
def Et:SCode :=
 sO [iO 3 (.box 1 (.t 1)),iO 4 (.mov (kI 0))]
 (sO [iM 5 0,iO 6 (.fn qA [.t 3]),iO 7 (.calli (.f dG) [.t 5,.t 6]),iM 4 7]
 (.ret))
def vV:SFn:=⟨2,8,Et,[.t 4]⟩
def pU:SCode :=
 sO [iV 16 .lss 15 14]
 (.seq (.cond (.t 16) (.skip)
 (.seq (.keep [0,1,5]) (.exit 0)))
 (.seq (.block 1 (sO [iO 17 (.ixa 7 (.t 13) (.t 15)),iK 18 7 17,iO 7 (.alloc [zI,zI,zI,zI,zI,zS,.s 1 []]),iN (.store 7 (.t 7) (.t 18))]
 (.seq (sO [iF 19 0 7,iL 20 19,iE 21 .neq 20 11]
 (.cond (.t 21) (.exit 1)
 (.skip)))
 (sO [iM 22 0,iM 23 1,iO 24 (.cutr 4 (.t 22) none (some (.t 23))),iF 25 5 7,iL 26 25,iO 27 (.callr uD [.t 24,.t 26]),iM 8 27]
 (sO [iM 28 8,iE 29 .geq 28 0]
 (.cond (.t 29) (.ops [iM 30 5,iM 31 0,iM 32 8,iO 33 (.callr xN [.t 31,.t 32]),iO 34 (.mm true (.t 30) (.t 33)),iM 5 34])
 (.skip)))))))
 (.ops [iO 35 (.ari .add (.t 15) (kI 1)),iM 15 35])))
def K6:SCode :=
 sO [iO 4 (.mov (kI 0))]
 (sO [iO 5 (.mov (kI 0))]
 (.seq (sO [iM 9 0,iM 10 1,iO 11 (.ixa 4 (.t 9) (.t 10)),iF 12 3 11,iL 13 12,iO 14 (.len (.t 13)),iO 15 (.mov (kI 0))]
 (.block 0 (.loop [0,1,5,13,14,15] pU)))
 (sO [iM 36 0,iM 37 1,iO 38 (.ixa 4 (.t 36) (.t 37)),iK 39 4 38,iO 40 (.callr Gc [.t 39]),iO 41 (.ari .add (.t 40) (kI 2)),iM 42 5,iO 43 (.ari .add (.t 41) (.t 42)),iM 4 43]
 (.ret))))
def Dk:SFn:=⟨2,44,K6,[.t 4]⟩
def nL:SCode :=
 .seq (sO [iM 12 5,iM 13 0,iO 14 (.len (.t 13)),iV 15 .lss 12 14]
 (.cond (.t 15) (.skip)
 (.seq (.keep [1]) (.exit 0))))
 (.seq (.block 1 (sO [iM 18 0,iM 19 5,iO 20 (.ixa 7 (.t 18) (.t 19)),iK 21 7 20,iM 22 1,iO 23 (.callr Gk [.t 21,.t 22]),iM 1 23]
 (sO [iM 24 1,iE 25 .lss 24 0]
 (.cond (.t 25) (sO [iO 4 (.mov (kI (-1)))]
 (.seq (.keep [4]) .ret))
 (.skip)))))
 (.ops [iM 16 5,iO 17 (.ari .add (.t 16) (kI 1)),iM 5 17]))
def E5:SCode :=
 sO [iO 4 (.mov (kI 0))]
 (sO [iM 6 1,iM 7 0,iO 8 (.len (.t 7)),iO 9 (.ari .sub (.t 6) (.t 8)),iM 1 9]
 (.seq (sO [iM 10 1,iE 11 .lss 10 0]
 (.cond (.t 11) (sO [iO 4 (.mov (kI (-1)))]
 (.ret))
 (.skip)))
 (.seq (sO [iO 5 (.mov (kI 0))]
 (.block 0 (.loop [0,1,5] nL)))
 (sO [iM 26 1,iM 4 26]
 (.ret)))))
def vM:SFn:=⟨2,27,E5,[.t 4]⟩
def nF:SCode :=
 .seq (sO [iM 8 4,iM 9 0,iO 10 (.len (.t 9)),iV 11 .lss 8 10]
 (.cond (.t 11) (.skip)
 (.seq (.keep [3]) (.exit 0))))
 (.seq (.block 1 (.ops [iM 14 3,iM 15 4,iM 16 0,iM 17 4,iO 18 (.ixa 7 (.t 16) (.t 17)),iK 19 7 18,iO 20 (.call Fw [.t 19]),iO 21 (.ixa 7 (.t 14) (.t 15)),iN (.store 7 (.t 21) (.t 20))]))
 (.ops [iM 12 4,iO 13 (.ari .add (.t 12) (kI 1)),iM 4 13]))
def E6:SCode :=
 sO [iO 2 (.mov (.n 7))]
 (sO [iM 5 0,iO 6 (.len (.t 5)),iO 7 (.mk 7 80 [zI,zI,zI,zI,zI,zS,.s 1 []] (.t 6)),iM 3 7]
 (.seq (sO [iO 4 (.mov (kI 0))]
 (.block 0 (.loop [0,3,4] nF)))
 (sO [iM 22 3,iM 2 22]
 (.ret))))
def wU:SFn:=⟨1,23,E6,[.t 2]⟩
def nS:SCode :=
 .seq (sO [iM 11 5,iM 12 0,iO 13 (.len (.t 12)),iV 14 .lss 11 13]
 (.cond (.t 14) (.skip)
 (.seq (.keep []) (.exit 0))))
 (.seq (.block 1 (sO [iM 17 0,iM 18 5,iO 19 (.ixa 7 (.t 17) (.t 18)),iK 20 7 19,iM 21 1,iM 22 5,iO 23 (.ixa 7 (.t 21) (.t 22)),iK 24 7 23,iO 25 (.callr Gr [.t 20,.t 24]),iO 26 (.not (.t 25))]
 (.cond (.t 26) (sO [iO 4 (.mov (kB false))]
 (.seq (.keep [4]) .ret))
 (.skip))))
 (.ops [iM 15 5,iO 16 (.ari .add (.t 15) (kI 1)),iM 5 16]))
def Fj:SCode :=
 sO [iO 4 (.mov (kB false))]
 (.seq (sO [iM 6 0,iO 7 (.len (.t 6)),iM 8 1,iO 9 (.len (.t 8)),iV 10 .neq 7 9]
 (.cond (.t 10) (sO [iO 4 (.mov (kB false))]
 (.ret))
 (.skip)))
 (.seq (sO [iO 5 (.mov (kI 0))]
 (.block 0 (.loop [0,1,5] nS)))
 (sO [iO 4 (.mov (kB true))]
 (.ret))))
def wE:SFn:=⟨2,27,Fj,[.t 4]⟩
def kU:SCode :=
 .seq (sO [iM 6 5,iM 7 0,iO 8 (.len (.t 7)),iV 9 .lss 6 8]
 (.cond (.t 9) (.skip)
 (.seq (.keep [1]) (.exit 0))))
 (.seq (.block 1 (sO [iM 12 0,iM 13 5,iM 14 1,iO 15 (.ixa 7 (.t 12) (.t 13)),iF 16 0 15,iN (.store 1 (.t 16) (.t 14))]
 (sO [iM 17 1,iO 18 (.ari .add (.t 17) (kI 1)),iM 1 18]
 (sO [iM 19 0,iM 20 5,iM 21 1,iO 22 (.ixa 7 (.t 19) (.t 20)),iF 23 1 22,iN (.store 1 (.t 23) (.t 21))]
 (sO [iM 24 1,iO 25 (.ari .add (.t 24) (kI 1)),iM 1 25]
 (sO [iM 26 0,iM 27 5,iM 28 1,iO 29 (.ixa 7 (.t 26) (.t 27)),iF 30 2 29,iN (.store 1 (.t 30) (.t 28))]
 (sO [iM 31 1,iO 32 (.ari .add (.t 31) (kI 1)),iM 1 32]
 (sO [iM 33 0,iM 34 5,iM 35 1,iO 36 (.ixa 7 (.t 33) (.t 34)),iF 37 3 36,iN (.store 1 (.t 37) (.t 35))]
 (sO [iM 38 1,iO 39 (.ari .add (.t 38) (kI 1)),iM 1 39]
 (sO [iM 40 0,iM 41 5,iM 42 1,iO 43 (.ixa 7 (.t 40) (.t 41)),iF 44 4 43,iN (.store 1 (.t 44) (.t 42))]
 (sO [iM 45 1,iO 46 (.ari .add (.t 45) (kI 1)),iM 1 46]
 (sO [iM 47 0,iM 48 5,iM 49 1,iO 50 (.callr fV [.t 49]),iO 51 (.ixa 7 (.t 47) (.t 48)),iF 52 5 51,iN (.store 1 (.t 52) (.t 50))]
 (sO [iM 53 1,iO 54 (.ari .add (.t 53) (kI 1)),iM 1 54]
 (.ops [iM 55 0,iM 56 5,iO 57 (.ixa 7 (.t 55) (.t 56)),iF 58 6 57,iL 59 58,iM 60 1,iO 61 (.callb wP [.t 59,.t 60] [true,false]),iM 1 61]))))))))))))))
 (.ops [iM 10 5,iO 11 (.ari .add (.t 10) (kI 1)),iM 5 11]))
def z6:SCode :=
 sO [iO 4 (.mov (kI 0))]
 (.seq (sO [iO 5 (.mov (kI 0))]
 (.block 0 (.loop [0,1,5] kU)))
 (sO [iM 62 1,iM 4 62]
 (.ret)))
def qZ:SFn:=⟨2,63,z6,[.t 4]⟩
def oR:SCode :=
 .seq (sO [iM 6 0,iE 7 .gtr 6 0]
 (.cond (.t 7) (.skip)
 (.seq (.keep [3]) (.exit 0))))
 (.block 1 (sO [iM 8 0,iO 9 (.ari .rem (.t 8) (kI 10)),iO 10 (.ari .add (kI 48) (.t 9)),iO 11 (.conv .u8 (.t 10)),iO 12 (.lit 1 [.t 11]),iO 13 (.sob (.t 12)),iM 14 3,iO 15 (.cat (.t 13) (.t 14)),iM 3 15]
 (.ops [iM 16 0,iO 17 (.ari .quo (.t 16) (kI 10)),iM 0 17])))
def Ae:SCode :=
 sO [iO 2 (.mov (.c (.string ⟨#[]⟩)))]
 (.seq (sO [iM 4 0,iE 5 .leq 4 0]
 (.cond (.t 5) (sO [iO 2 (.mov (.c (.string ⟨#[109,48]⟩)))]
 (.ret))
 (.skip)))
 (sO [iO 3 (.mov (.c (.string ⟨#[]⟩)))]
 (.seq (.block 0 (.loop [0,3] oR))
 (sO [iM 18 3,iO 19 (.cat (.c (.string ⟨#[109]⟩)) (.t 18)),iM 2 19]
 (.ret)))))
def rH:SFn:=⟨1,20,Ae,[.t 2]⟩
def nH:SCode :=
 .seq (sO [iM 29 4,iM 30 3,iV 31 .lss 29 30]
 (.cond (.t 31) (.skip)
 (.seq (.keep [1,3]) (.exit 0))))
 (.seq (.block 1 (sO [iF 34 3 1,iL 35 34,iM 36 4,iO 37 (.ixa 7 (.t 35) (.t 36)),iK 38 7 37,iO 5 (.alloc [zI,zI,zI,zI,zI,zS,.s 1 []]),iN (.store 7 (.t 5) (.t 38))]
 (.seq (sO [iK 39 7 5,iF 40 2 1,iL 41 40,iO 42 (.callr wB [.t 39,.t 41]),iO 43 (.not (.t 42))]
 (.cond (.t 43) (sO [iO 2 (.mov (kB false))]
 (.seq (.keep [2]) .ret))
 (.skip)))
 (sO [iF 44 3 1,iL 45 44,iF 46 4 5,iL 47 46,iO 48 (.callr kH [.t 45,.t 47]),iM 6 48]
 (sO [iF 49 0 5,iL 50 49,iE 51 .eql 50 8,iM 52 51,iT 53 52 (.mov (.t 6)),iT 54 52 (.mov (.t 4)),iT 55 52 (.cmp .neq (.t 53) (.t 54)),iT 56 52 (.mov (.t 55)),iU 57 56 (.faddr 4 (.t 5)),iU 58 56 (.load none (.t 57)),iU 59 56 (.callr eU [.t 58,.c (.int .i64 0),.c (.int .i64 900)]),iU 60 56 (.not (.t 59)),iT 61 52 (.pick (.t 56) (kB true) (.t 60)),iO 62 (.pick (.t 52) (.t 61) (kB false)),iM 63 62,iU 64 63 (.faddr 0 (.t 5)),iU 65 63 (.load none (.t 64)),iU 66 63 (.cmp .eql (.t 65) (kI 9)),iU 67 63 (.mov (.t 66)),iU 68 67 (.faddr 0 (.t 5)),iU 69 67 (.load none (.t 68)),iU 70 67 (.cmp .eql (.t 69) (kI 10)),iU 71 63 (.pick (.t 67) (kB true) (.t 70)),iU 72 63 (.mov (.t 71)),iT 73 72 (.mov (.t 6)),iT 74 72 (.cmp .lss (.t 73) (kI 0)),iU 75 63 (.pick (.t 72) (.t 74) (kB false)),iO 76 (.pick (.t 63) (kB true) (.t 75))]
 (.cond (.t 76) (sO [iO 2 (.mov (kB false))]
 (.seq (.keep [2]) .ret))
 (.skip)))))))
 (.ops [iM 32 4,iO 33 (.ari .add (.t 32) (kI 1)),iM 4 33]))
def E8:SCode :=
 sO [iO 1 (.vbox 4 (.t 0)),iO 2 (.mov (kB false))]
 (sO [iF 8 3 1,iL 9 8,iO 10 (.len (.t 9)),iM 3 10]
 (.seq (sO [iF 11 2 1,iL 12 11,iO 13 (.callr eU [.t 12,.c (.int .i64 0),.c (.int .i64 250)]),iO 14 (.not (.t 13)),iM 15 14,iU 16 15 (.faddr 1 (.t 1)),iU 17 15 (.load none (.t 16)),iU 18 15 (.faddr 2 (.t 1)),iU 19 15 (.load none (.t 18)),iU 20 15 (.callr Gu [.c (.int .i64 4),.t 19]),iU 21 15 (.callr eU [.t 17,.c (.int .i64 0),.t 20]),iU 22 15 (.not (.t 21)),iO 23 (.pick (.t 15) (kB true) (.t 22)),iM 24 23,iU 25 24 (.mov (.t 3)),iU 26 24 (.callr eU [.t 25,.c (.int .i64 1),.c (.int .i64 900)]),iU 27 24 (.not (.t 26)),iO 28 (.pick (.t 24) (kB true) (.t 27))]
 (.cond (.t 28) (sO [iO 2 (.mov (kB false))]
 (.ret))
 (.skip)))
 (.seq (sO [iO 4 (.mov (kI 0))]
 (.block 0 (.loop [1,3,4] nH)))
 (sO [iF 77 3 1,iL 78 77,iM 79 3,iO 80 (.ari .sub (.t 79) (kI 1)),iO 81 (.ixa 7 (.t 78) (.t 80)),iF 82 0 81,iL 83 82,iM 7 83]
 (sO [iM 84 7,iE 85 .eql 84 12,iM 86 85,iU 87 86 (.mov (.t 7)),iU 88 86 (.cmp .eql (.t 87) (kI 9)),iO 89 (.pick (.t 86) (kB true) (.t 88)),iM 90 89,iU 91 90 (.mov (.t 7)),iU 92 90 (.cmp .eql (.t 91) (kI 28)),iO 93 (.pick (.t 90) (kB true) (.t 92)),iM 2 93]
 (.ret))))))
def wA:SFn:=⟨1,94,E8,[.t 2]⟩
def lB:SCode :=
 .seq (sO [iM 34 6,iF 35 1 1,iL 36 35,iV 37 .lss 34 36]
 (.cond (.t 37) (.skip)
 (.seq (.keep [1,4,5]) (.exit 0))))
 (.seq (.block 1 (.ops [iM 40 5,iO 41 (.nck (.t 40)),iF 42 2 41,iL 43 42,iM 44 6,iM 45 6,iO 46 (.ari .add (kI 10) (.t 45)),iO 47 (.ixa 1 (.t 43) (.t 44)),iN (.store 1 (.t 47) (.t 46))]))
 (.ops [iM 38 6,iO 39 (.ari .add (.t 38) (kI 1)),iM 6 39]))
def gS:SCode :=
 .seq (sO [iM 57 8,iF 58 2 1,iL 59 58,iV 60 .lss 57 59]
 (.cond (.t 60) (.skip)
 (.seq (.keep [1,4,5,7]) (.exit 4))))
 (.seq (.block 5 (.seq (sO [iM 63 5,iO 64 (.nck (.t 63)),iF 65 0 64,iL 66 65,iM 67 8,iO 68 (.ixa 1 (.t 66) (.t 67)),iL 69 68,iM 70 7,iV 71 .neq 69 70]
 (.cond (.t 71) (.exit 5)
 (.skip)))
 (sO [iO 9 (.mov (kI (-1)))]
 (.seq (sO [iM 72 4,iM 73 8,iO 74 (.ixa 1 (.t 72) (.t 73)),iL 75 74,iO 76 (.not (.t 75))]
 (.cond (.t 76) (.ops [iM 77 5,iM 78 8,iO 79 (.callb y6 [.t 77,.t 78] [true,false]),iM 9 79])
 (.skip)))
 (.seq (sO [iM 80 9,iE 81 .lss 80 0]
 (.cond (.t 81) (sO [iM 82 5,iO 83 (.nck (.t 82)),iF 84 3 83,iL 85 84,iO 86 (.ari .add (kI 10) (.t 85)),iM 9 86]
 (.ops [iM 87 5,iO 88 (.nck (.t 87)),iF 89 3 88,iL 90 89,iO 91 (.ari .add (.t 90) (kI 1)),iO 92 (.nck (.t 87)),iF 93 3 92,iN (.store 1 (.t 93) (.t 91))]))
 (.skip)))
 (.ops [iM 94 5,iO 95 (.nck (.t 94)),iF 96 2 95,iL 97 96,iM 98 8,iM 99 9,iO 100 (.ixa 1 (.t 97) (.t 98)),iN (.store 1 (.t 100) (.t 99))]))))))
 (.ops [iM 61 8,iO 62 (.ari .add (.t 61) (kI 1)),iM 8 62]))
def kT:SCode :=
 .seq (sO [iM 48 7,iF 49 3 1,iL 50 49,iO 51 (.len (.t 50)),iV 52 .lss 48 51]
 (.cond (.t 52) (.skip)
 (.seq (.keep [5]) (.exit 2))))
 (.seq (.block 3 (sO [iF 55 1 1,iL 56 55,iM 8 56]
 (.block 4 (.loop [1,4,5,7,8] gS))))
 (.ops [iM 53 7,iO 54 (.ari .add (.t 53) (kI 1)),iM 7 54]))
def Av:SCode :=
 sO [iO 1 (.vbox 4 (.t 0)),iO 2 (.mov (.c (.pointer none)))]
 (sO [iK 10 4 1,iO 11 (.callr Ds [.t 10]),iM 3 11]
 (sO [iK 12 4 1,iM 13 3,iO 14 (.callr q7 [.t 12,.t 13]),iM 4 14]
 (.seq (.opsd [⟨iF 15 2 1,0,[]⟩,⟨iL 16 15,1,[]⟩,⟨iF 18 1 1,3,[]⟩,⟨iL 19 18,4,[]⟩,⟨iO 17 (.call oT [.t 16]),2,[iF 18 1 1,iL 19 18]⟩,⟨iO 20 (.build [.s 1 [],.s 1 [],.s 1 [],zI] [(2,1,.t 17),(3,1,.t 19)]),5,[]⟩,⟨iO 21 (.box 4 (.t 20)),6,[]⟩,⟨iM 5 21,7,[]⟩])
 (sO [iM 23 5,iM 24 5,iK 25 4 1,iM 26 3,iO 27 (.call wD [.t 25,.t 26]),iM 22 27,iO 28 (.ext (.t 22) 0),iO 29 (.ext (.t 22) 1),iO 30 (.nck (.t 23)),iF 31 0 30,iN (.store 1 (.t 31) (.t 28)),iO 32 (.nck (.t 24)),iF 33 1 32,iN (.store 1 (.t 33) (.t 29))]
 (.seq (sO [iO 6 (.mov (kI 0))]
 (.block 0 (.loop [1,4,5,6] lB)))
 (.seq (sO [iO 7 (.mov (kI 0))]
 (.block 2 (.loop [1,4,5,7] kT)))
 (sO [iM 101 5,iM 2 101]
 (.seq (.keep [20002,2]) .ret))))))))
def rC:SFn:=⟨1,102,Av,[.t 2]⟩
def C3:SCode :=
 sO [iO 2 (.mov (kB false))]
 (sO [iM 3 0,iO 4 (.callr eU [.t 3,.c (.int .i64 13),.c (.int .i64 19)]),iM 2 4]
 (.ret))
def sP:SFn:=⟨1,5,C3,[.t 2]⟩
def bF:SCode :=
 sO [iO 3 (.vbox 7 (.t 1))]
 (sO [iF 4 0 3,iL 5 4]
 (.block 0 (sO [iE 10 .eql 5 1,iM 9 10]
 (.cond (.t 9) (sO [iM 11 0,iF 12 4 3,iL 13 12,iO 14 (.build [zI,zI,zI,zI,zI,zI] [(0,1,.c (.int .i64 1)),(1,1,.c (.int .i64 3)),(4,1,.t 13)]),iO 15 (.callb cG [.t 11,.t 14] [true,false])]
 (.ops [iM 16 0,iF 17 1 3,iL 18 17,iO 19 (.callb dZ [.t 16,.t 18,.c (.int .i64 3)] [true,false,false])]))
 (sO [iE 21 .eql 5 8,iM 20 21]
 (.cond (.t 20) (.opsd [⟨iM 22 0,0,[]⟩,⟨iM 23 0,1,[]⟩,⟨iO 24 (.nck (.t 23)),2,[]⟩,⟨iF 25 3 24,3,[]⟩,⟨iL 26 25,4,[]⟩,⟨iM 27 0,5,[]⟩,⟨iF 28 4 3,6,[]⟩,⟨iL 29 28,7,[]⟩,⟨iO 30 (.callr m5 [.t 27,.t 29]),8,[]⟩,⟨iO 31 (.build [zS,zI,zI,zI,zI,zI,zI,zS] [(0,1,.t 30)]),9,[]⟩,⟨iO 32 (.lit 8 [.t 31]),10,[iM 22 0,iM 23 0,iO 24 (.nck (.t 23)),iF 25 3 24,iL 26 25]⟩,⟨iO 33 (.app 8 80 (.t 26) (.t 32)),11,[iM 22 0]⟩,⟨iO 34 (.nck (.t 22)),12,[]⟩,⟨iF 35 3 34,13,[]⟩,⟨iN (.store 1 (.t 35) (.t 33)),14,[]⟩])
 (sO [iE 37 .eql 5 9,iM 36 37]
 (.cond (.t 36) (.ops [iM 38 0,iO 39 (.build [zI,zI,zI,zI,zI,zI] [(0,1,.c (.int .i64 11))]),iM 40 0,iF 41 4 3,iL 42 41,iO 43 (.callr m5 [.t 40,.t 42]),iO 44 (.callb pJ [.t 38,.t 39,.t 43] [true,false,false])])
 (sO [iE 46 .eql 5 11,iM 45 46]
 (.cond (.t 45) (.ops [iM 47 0,iK 48 7 3,iO 49 (.callb yH [.t 47,.t 48] [true,false])])
 (sO [iE 51 .eql 5 22,iM 50 51]
 (.cond (.t 50) (.ops [iM 52 0,iK 53 7 3,iO 54 (.callb Cw [.t 52,.t 53] [true,false])])
 (sO [iE 56 .eql 5 23,iM 55 56]
 (.cond (.t 55) (sO [iM 57 0,iO 58 (.build [zI,zI,zI,zI,zI,zI] [(0,1,.c (.int .i64 18)),(1,1,.c (.int .i64 5))]),iO 59 (.callb cG [.t 57,.t 58] [true,false])]
 (.ops [iM 60 0,iF 61 1 3,iL 62 61,iO 63 (.callb dZ [.t 60,.t 62,.c (.int .i64 5)] [true,false,false])]))
 (sO [iE 65 .eql 5 24,iM 64 65]
 (.cond (.t 64) (sO [iM 66 0,iO 67 (.build [zI,zI,zI,zI,zI,zI] [(0,1,.c (.int .i64 1)),(1,1,.c (.int .i64 5))]),iF 68 5 3,iL 69 68,iO 70 (.callb pJ [.t 66,.t 67,.t 69] [true,false,false])]
 (.ops [iM 71 0,iF 72 1 3,iL 73 72,iO 74 (.callb dZ [.t 71,.t 73,.c (.int .i64 5)] [true,false,false])]))
 (.seq (sO [iE 76 .eql 5 3,iM 75 76]
 (.cond (.t 75) (.skip)
 (sO [iE 77 .eql 5 4,iM 75 77]
 (.cond (.t 75) (.skip)
 (sO [iE 78 .eql 5 5,iM 75 78]
 (.cond (.t 75) (.skip)
 (sO [iE 79 .eql 5 6,iM 75 79]
 (.cond (.t 75) (.skip)
 (sO [iE 80 .eql 5 7,iM 75 80]
 (.cond (.t 75) (.skip)
 (sO [iE 81 .eql 5 21,iM 75 81]
 (.cond (.t 75) (.skip)
 (sO [iE 82 .eql 5 26,iM 75 82]
 (.cond (.t 75) (.skip)
 (.ops [iE 83 .eql 5 27,iM 75 83])))))))))))))))
 (.cond (.t 75) (.ops [iM 84 0,iK 85 7 3,iO 86 (.callb fU [.t 84,.t 85] [true,false])])
 (.ops [iM 6 0,iK 7 7 3,iO 8 (.callb jL [.t 6,.t 7] [true,false])])))))))))))))))))))
def rJ:SFn:=⟨2,87,bF,[]⟩
def nG:SCode :=
 sO [iV 29 .lss 28 27]
 (.seq (.cond (.t 29) (.skip)
 (.seq (.keep [1]) (.exit 0)))
 (.seq (.block 1 (sO [iM 30 28,iO 31 (.ixa 7 (.t 26) (.t 28)),iK 32 7 31,iO 4 (.alloc [zI,zI,zI,zI,zI,zS,.s 1 []]),iM 3 30,iN (.store 7 (.t 4) (.t 32))]
 (.block 2 (sO [iK 34 7 4,iF 35 2 1,iL 36 35,iO 37 (.callr Gf [.t 34,.t 36]),iO 38 (.not (.t 37)),iM 33 38]
 (.cond (.t 33) (sO [iO 2 (.mov (kB false))]
 (.seq (.keep [2]) .ret))
 (sO [iF 40 0 4,iL 41 40,iE 42 .eql 41 8,iM 43 42,iT 44 43 (.faddr 4 (.t 4)),iT 45 43 (.load none (.t 44)),iT 46 43 (.callr dT [.t 45,.c (.int .i64 0),.c (.int .i64 900)]),iT 47 43 (.not (.t 46)),iT 48 43 (.mov (.t 47)),iU 49 48 (.faddr 3 (.t 1)),iU 50 48 (.load none (.t 49)),iU 51 48 (.faddr 4 (.t 4)),iU 52 48 (.load none (.t 51)),iU 53 48 (.callr mG [.t 50,.t 52]),iU 54 48 (.mov (.t 3)),iU 55 48 (.cmp .neq (.t 53) (.t 54)),iT 56 43 (.pick (.t 48) (kB true) (.t 55)),iO 57 (.pick (.t 43) (.t 56) (kB false)),iM 39 57]
 (.cond (.t 39) (sO [iO 2 (.mov (kB false))]
 (.seq (.keep [2]) .ret))
 (sO [iF 59 0 4,iL 60 59,iE 61 .eql 60 9,iM 62 61,iU 63 62 (.faddr 0 (.t 4)),iU 64 62 (.load none (.t 63)),iU 65 62 (.cmp .eql (.t 64) (kI 10)),iO 66 (.pick (.t 62) (kB true) (.t 65)),iM 67 66,iT 68 67 (.faddr 3 (.t 1)),iT 69 67 (.load none (.t 68)),iT 70 67 (.faddr 4 (.t 4)),iT 71 67 (.load none (.t 70)),iT 72 67 (.callr mG [.t 69,.t 71]),iT 73 67 (.cmp .lss (.t 72) (kI 0)),iO 74 (.pick (.t 67) (.t 73) (kB false)),iM 58 74]
 (.cond (.t 58) (sO [iO 2 (.mov (kB false))]
 (.seq (.keep [2]) .ret))
 (.skip))))))))))
 (.ops [iO 75 (.ari .add (.t 28) (kI 1)),iM 28 75])))
def Fq:SCode :=
 sO [iO 1 (.vbox 4 (.t 0)),iO 2 (.mov (kB false))]
 (.seq (sO [iF 5 2 1,iL 6 5,iO 7 (.callr dT [.t 6,.c (.int .i64 0),.c (.int .i64 250)]),iO 8 (.not (.t 7)),iM 9 8,iU 10 9 (.faddr 1 (.t 1)),iU 11 9 (.load none (.t 10)),iU 12 9 (.faddr 2 (.t 1)),iU 13 9 (.load none (.t 12)),iU 14 9 (.mm false (kI 4) (.t 13)),iU 15 9 (.callr dT [.t 11,.c (.int .i64 0),.t 14]),iU 16 9 (.not (.t 15)),iO 17 (.pick (.t 9) (kB true) (.t 16)),iM 18 17,iU 19 18 (.faddr 3 (.t 1)),iU 20 18 (.load none (.t 19)),iU 21 18 (.len (.t 20)),iU 22 18 (.callr dT [.t 21,.c (.int .i64 1),.c (.int .i64 900)]),iU 23 18 (.not (.t 22)),iO 24 (.pick (.t 18) (kB true) (.t 23))]
 (.cond (.t 24) (sO [iO 2 (.mov (kB false))]
 (.ret))
 (.skip)))
 (.seq (sO [iF 25 3 1,iL 26 25,iO 27 (.len (.t 26)),iO 28 (.mov (kI 0))]
 (.block 0 (.loop [1,26,27,28] nG)))
 (sO [iF 76 3 1,iL 77 76,iF 78 3 1,iL 79 78,iO 80 (.len (.t 79)),iO 81 (.ari .sub (.t 80) (kI 1)),iO 82 (.ixa 7 (.t 77) (.t 81)),iF 83 0 82,iL 84 83,iO 85 (.callr Kh [.t 84]),iM 2 85]
 (.ret))))
def vL:SFn:=⟨1,86,Fq,[.t 2]⟩
def eD:SCode :=
 sO [iO 4 (.mov (kB false))]
 (sO [iM 5 0,iM 6 1,iO 7 (.calli (.f cB) [.t 5,.t 6]),iE 8 .geq 7 0,iM 4 8]
 (.ret))
def cW:SFn:=⟨2,9,eD,[.t 4]⟩
def E4:SCode :=
 sO [iO 1 (.vbox 7 (.t 0)),iO 2 (.mov (kB false))]
 (sO [iF 3 0 1,iL 4 3,iO 5 (.callr Db [.t 4]),iM 2 5]
 (.ret))
def u9:SFn:=⟨1,6,E4,[.t 2]⟩
def Fk:SCode :=
 sO [iO 2 (.mov (kB false))]
 (sO [iM 3 0,iO 4 (.callr dT [.t 3,.c (.int .i64 13),.c (.int .i64 19)]),iM 2 4]
 (.ret))
def vR:SFn:=⟨1,5,Fk,[.t 2]⟩
def i8:SCode :=
 sO [iV 31 .lss 30 29]
 (.seq (.cond (.t 31) (.skip)
 (.seq (.keep [1,4,5,6,7,8]) (.exit 0)))
 (.seq (.block 1 (sO [iM 32 30,iM 9 32]
 (sO [iM 33 7,iM 34 9,iO 35 (.ixa 1 (.t 33) (.t 34)),iN (.store 1 (.t 35) (kI (-1)))]
 (sO [iM 36 9,iF 37 1 1,iL 38 37,iV 39 .lss 36 38]
 (.cond (.t 39) (.ops [iM 40 7,iM 41 9,iM 42 9,iO 43 (.ari .add (kI 10) (.t 42)),iO 44 (.ixa 1 (.t 40) (.t 41)),iN (.store 1 (.t 44) (.t 43))])
 (sO [iL 45 4,iM 46 9,iO 47 (.ixa 1 (.t 45) (.t 46)),iL 48 47,iE 49 .geq 48 0]
 (.cond (.t 49) (.ops [iM 50 8,iM 51 9,iO 52 (.lit 1 [.t 51]),iO 53 (.app 1 8 (.t 50) (.t 52)),iM 8 53])
 (.skip))))))))
 (.ops [iO 54 (.ari .add (.t 30) (kI 1)),iM 30 54])))
def oU:SCode :=
 sO [iV 73 .lss 72 71]
 (.seq (.cond (.t 73) (.skip)
 (.seq (.keep [4,5,6,7,8,10,12,13,60,61,62]) (.exit 4)))
 (.seq (.block 5 (sO [iO 74 (.ixa 1 (.t 70) (.t 72)),iL 75 74,iM 15 75]
 (sO [iM 76 7,iM 77 15,iO 78 (.ixa 1 (.t 76) (.t 77)),iL 79 78,iE 80 .lss 79 3,iM 81 80,iT 82 81 (.load none (.t 4)),iT 83 81 (.mov (.t 15)),iT 84 81 (.ixa 1 (.t 82) (.t 83)),iT 85 81 (.load none (.t 84)),iT 86 81 (.mov (.t 5)),iT 87 81 (.mov (.t 12)),iT 88 81 (.ixa 1 (.t 86) (.t 87)),iT 89 81 (.load none (.t 88)),iT 90 81 (.cmp .leq (.t 85) (.t 89)),iO 91 (.pick (.t 81) (.t 90) (kB false)),iM 92 91,iT 93 92 (.load none (.t 4)),iT 94 92 (.mov (.t 12)),iT 95 92 (.ixa 1 (.t 93) (.t 94)),iT 96 92 (.load none (.t 95)),iT 97 92 (.mov (.t 5)),iT 98 92 (.mov (.t 15)),iT 99 92 (.ixa 1 (.t 97) (.t 98)),iT 100 92 (.load none (.t 99)),iT 101 92 (.cmp .leq (.t 96) (.t 100)),iO 102 (.pick (.t 92) (.t 101) (kB false))]
 (.cond (.t 102) (.ops [iM 103 13,iM 104 7,iM 105 15,iO 106 (.ixa 1 (.t 104) (.t 105)),iL 107 106,iO 108 (.ixa 1 (.t 103) (.t 107)),iN (.store 1 (.t 108) (kB true))])
 (.skip)))))
 (.ops [iO 109 (.ari .add (.t 72) (kI 1)),iM 72 109])))
def oM:SCode :=
 sO [iV 63 .lss 62 61]
 (.seq (.cond (.t 63) (.skip)
 (.seq (.keep [7,10]) (.exit 2)))
 (.seq (.block 3 (sO [iM 64 62,iO 65 (.ixa 1 (.t 60) (.t 62)),iL 66 65,iM 11 64,iM 12 66]
 (sO [iO 67 (.mk 1 1 [.v (.bool false)] (kI 3)),iM 13 67]
 (.seq (sO [iM 68 8,iM 69 11,iO 70 (.cutr 1 (.t 68) none (some (.t 69))),iO 71 (.len (.t 70)),iO 72 (.mov (kI 0))]
 (.block 4 (.loop [4,5,6,7,8,10,12,13,60,61,62,70,71,72] oU)))
 (sO [iM 110 13,iO 111 (.callr jR [.t 110,.c (.bool false)]),iM 16 111]
 (.seq (sO [iM 112 16,iE 113 .lss 112 0,iM 114 113,iU 115 114 (.mov (.t 6)),iU 116 114 (.mov (.t 12)),iU 117 114 (.callr eR [.t 115,.t 116]),iO 118 (.pick (.t 114) (kB true) (.t 117))]
 (.cond (.t 118) (sO [iM 119 10,iO 120 (.ari .add (kI 10) (.t 119)),iM 16 120]
 (.ops [iM 121 10,iO 122 (.ari .add (.t 121) (kI 1)),iM 10 122]))
 (.skip)))
 (.ops [iM 123 7,iM 124 12,iM 125 16,iO 126 (.ixa 1 (.t 123) (.t 124)),iN (.store 1 (.t 126) (.t 125))])))))))
 (.ops [iO 127 (.ari .add (.t 62) (kI 1)),iM 62 127])))
def Ip:SCode :=
 sO [iO 1 (.vbox 4 (.t 0)),iO 2 (.mov (.n 1)),iO 3 (.mov (kI 0))]
 (sO [iK 18 4 1,iO 19 (.callr Fv [.t 18]),iM 17 19,iO 20 (.ext (.t 17) 0),iO 21 (.ext (.t 17) 1),iO 4 (.alloc [.s 1 []]),iN (.store 1 (.t 4) (.t 20)),iM 5 21]
 (sO [iK 22 4 1,iO 23 (.callr zE [.t 22]),iM 6 23]
 (sO [iF 24 2 1,iL 25 24,iO 26 (.mk 1 8 [zI] (.t 25)),iM 7 26]
 (sO [iO 27 (.lit 1 []),iM 8 27]
 (.seq (sO [iF 28 2 1,iL 29 28,iO 30 (.mov (kI 0))]
 (.block 0 (.loop [1,4,5,6,7,8,29,30] i8)))
 (sO [iM 55 8,iO 56 (.fn yG [.t 4]),iO 57 (.calli (.f eP) [.t 55,.t 56])]
 (.seq (.keep [20008,1,4,5,6,7,8]) (sO [iF 58 1 1,iL 59 58,iM 10 59]
 (.seq (sO [iM 60 8,iO 61 (.len (.t 60)),iO 62 (.mov (kI 0))]
 (.block 2 (.loop [4,5,6,7,8,10,60,61,62] oM)))
 (sO [iM 128 7,iM 129 10,iM 2 128,iM 3 129]
 (.ret)))))))))))
def zA:SFn:=⟨1,130,Ip,[.t 2,.t 3]⟩
def aV:SCode :=
 sO [iO 3 (.vbox 7 (.t 1))]
 (sO [iF 9 0 3,iL 10 9]
 (.block 0 (sO [iE 15 .eql 10 1,iM 14 15]
 (.cond (.t 14) (sO [iM 16 0,iF 17 4 3,iL 18 17,iO 19 (.build [zI,zI,zI,zI,zI,zI] [(0,1,.c (.int .i64 1)),(1,1,.c (.int .i64 3)),(4,1,.t 18)]),iO 20 (.callb bG [.t 16,.t 19,.c (.string ⟨#[]⟩)] [true,false,false])]
 (.ops [iM 21 0,iF 22 1 3,iL 23 22,iO 24 (.callb cN [.t 21,.t 23,.c (.int .i64 3)] [true,false,false])]))
 (sO [iE 26 .eql 10 2,iM 25 26]
 (.cond (.t 25) (sO [iM 27 0,iF 28 2 3,iL 29 28,iO 30 (.callb bW [.t 27,.t 29,.c (.int .i64 3)] [true,false,false]),iM 4 30]
 (.ops [iM 31 0,iF 32 1 3,iL 33 32,iM 34 4,iO 35 (.callb cN [.t 31,.t 33,.t 34] [true,false,false])]))
 (.seq (sO [iE 37 .eql 10 3,iM 36 37]
 (.cond (.t 36) (.skip)
 (sO [iE 38 .eql 10 4,iM 36 38]
 (.cond (.t 36) (.skip)
 (sO [iE 39 .eql 10 5,iM 36 39]
 (.cond (.t 36) (.skip)
 (sO [iE 40 .eql 10 6,iM 36 40]
 (.cond (.t 36) (.skip)
 (.ops [iE 41 .eql 10 7,iM 36 41])))))))))
 (.cond (.t 36) (sO [iM 42 0,iF 43 2 3,iL 44 43,iO 45 (.callb bW [.t 42,.t 44,.c (.int .i64 3)] [true,false,false]),iM 5 45]
 (sO [iM 46 0,iF 47 3 3,iL 48 47,iO 49 (.callb bW [.t 46,.t 48,.c (.int .i64 4)] [true,false,false]),iM 6 49]
 (sO [iM 50 0,iF 51 0 3,iL 52 51,iO 53 (.ari .sub (.t 52) (kI 3)),iO 54 (.ari .add (.t 53) (kI 3)),iM 55 5,iM 56 6,iO 57 (.build [zI,zI,zI,zI,zI,zI] [(0,1,.t 54),(1,1,.c (.int .i64 5)),(2,1,.t 55),(3,1,.t 56)]),iO 58 (.callb bG [.t 50,.t 57,.c (.string ⟨#[]⟩)] [true,false,false])]
 (.ops [iM 59 0,iF 60 1 3,iL 61 60,iO 62 (.callb cN [.t 59,.t 61,.c (.int .i64 5)] [true,false,false])]))))
 (sO [iE 64 .eql 10 8,iM 63 64]
 (.cond (.t 63) (.opsd [⟨iM 65 0,0,[]⟩,⟨iM 66 0,1,[]⟩,⟨iO 67 (.nck (.t 66)),2,[]⟩,⟨iF 68 6 67,3,[]⟩,⟨iL 69 68,4,[]⟩,⟨iM 70 0,5,[]⟩,⟨iF 71 4 3,6,[]⟩,⟨iL 72 71,7,[]⟩,⟨iO 73 (.callr gA [.t 70,.t 72]),8,[]⟩,⟨iO 74 (.build [zS,zI,zI,zI,zI,zI,zI,zS] [(0,1,.t 73)]),9,[]⟩,⟨iO 75 (.lit 8 [.t 74]),10,[iM 65 0,iM 66 0,iO 67 (.nck (.t 66)),iF 68 6 67,iL 69 68]⟩,⟨iO 76 (.app 8 80 (.t 69) (.t 75)),11,[iM 65 0]⟩,⟨iO 77 (.nck (.t 65)),12,[]⟩,⟨iF 78 6 77,13,[]⟩,⟨iN (.store 1 (.t 78) (.t 76)),14,[]⟩])
 (sO [iE 80 .eql 10 9,iM 79 80]
 (.cond (.t 79) (.ops [iM 81 0,iO 82 (.build [zI,zI,zI,zI,zI,zI] [(0,1,.c (.int .i64 11))]),iM 83 0,iF 84 4 3,iL 85 84,iO 86 (.callr gA [.t 83,.t 85]),iO 87 (.callb bG [.t 81,.t 82,.t 86] [true,false,false])])
 (sO [iE 89 .eql 10 10,iM 88 89]
 (.cond (.t 88) (sO [iM 90 0,iF 91 2 3,iL 92 91,iO 93 (.callb bW [.t 90,.t 92,.c (.int .i64 3)] [true,false,false]),iM 7 93]
 (.ops [iM 94 0,iM 95 7,iO 96 (.build [zI,zI,zI,zI,zI,zI] [(0,1,.c (.int .i64 12)),(2,1,.t 95)]),iM 97 0,iF 98 4 3,iL 99 98,iO 100 (.callr gA [.t 97,.t 99]),iO 101 (.callb bG [.t 94,.t 96,.t 100] [true,false,false])]))
 (sO [iE 103 .eql 10 11,iM 102 103]
 (.cond (.t 102) (.ops [iM 104 0,iK 105 7 3,iO 106 (.callb o7 [.t 104,.t 105] [true,false])])
 (sO [iE 108 .eql 10 12,iM 107 108]
 (.cond (.t 107) (sO [iM 109 0,iF 110 2 3,iL 111 110,iO 112 (.callb bW [.t 109,.t 111,.c (.int .i64 3)] [true,false,false]),iM 8 112]
 (sO [iM 113 0,iM 114 8,iO 115 (.build [zI,zI,zI,zI,zI,zI] [(0,1,.c (.int .i64 2)),(2,1,.t 114)]),iO 116 (.callb bG [.t 113,.t 115,.c (.string ⟨#[]⟩)] [true,false,false])]
 (.ops [iM 117 0,iO 118 (.build [zI,zI,zI,zI,zI,zI] [(0,1,.c (.int .i64 14))]),iO 119 (.callb bG [.t 117,.t 118,.c (.string ⟨#[]⟩)] [true,false,false])])))
 (.seq (sO [iE 121 .eql 10 20,iM 120 121]
 (.cond (.t 120) (.skip)
 (sO [iE 122 .eql 10 21,iM 120 122]
 (.cond (.t 120) (.skip)
 (.ops [iE 123 .eql 10 22,iM 120 123])))))
 (.cond (.t 120) (.ops [iM 124 0,iK 125 7 3,iO 126 (.callb e9 [.t 124,.t 125] [true,false])])
 (sO [iE 128 .eql 10 23,iM 127 128]
 (.cond (.t 127) (sO [iM 129 0,iO 130 (.build [zI,zI,zI,zI,zI,zI] [(0,1,.c (.int .i64 18)),(1,1,.c (.int .i64 5))]),iO 131 (.callb bG [.t 129,.t 130,.c (.string ⟨#[]⟩)] [true,false,false])]
 (.ops [iM 132 0,iF 133 1 3,iL 134 133,iO 135 (.callb cN [.t 132,.t 134,.c (.int .i64 5)] [true,false,false])]))
 (sO [iE 137 .eql 10 24,iM 136 137]
 (.cond (.t 136) (sO [iM 138 0,iO 139 (.build [zI,zI,zI,zI,zI,zI] [(0,1,.c (.int .i64 1)),(1,1,.c (.int .i64 5))]),iF 140 5 3,iL 141 140,iO 142 (.callb bG [.t 138,.t 139,.t 141] [true,false,false])]
 (.ops [iM 143 0,iF 144 1 3,iL 145 144,iO 146 (.callb cN [.t 143,.t 145,.c (.int .i64 5)] [true,false,false])]))
 (.ops [iM 11 0,iK 12 7 3,iO 13 (.callb eB [.t 11,.t 12] [true,false])])))))))))))))))))))))))))
def lH:SFn:=⟨2,147,aV,[]⟩
def Ey:SCode :=
 sO [iO 2 (.vbox 8 (.t 0)),iO 3 (.vbox 8 (.t 1)),iO 4 (.mov (kB false))]
 (.seq (sO [iF 5 0 2,iL 6 5,iF 7 0 3,iL 8 7,iV 9 .neq 6 8]
 (.cond (.t 9) (sO [iO 4 (.mov (kB false))]
 (.ret))
 (.skip)))
 (.seq (sO [iF 10 1 2,iK 11 6 10,iF 12 1 3,iK 13 6 12,iO 14 (.callr yU [.t 11,.t 13]),iO 15 (.not (.t 14))]
 (.cond (.t 15) (sO [iO 4 (.mov (kB false))]
 (.ret))
 (.skip)))
 (.seq (sO [iF 16 7 2,iL 17 16,iF 18 7 3,iL 19 18,iV 20 .neq 17 19]
 (.cond (.t 20) (sO [iO 4 (.mov (kB false))]
 (.ret))
 (.skip)))
 (sO [iO 4 (.mov (kB true))]
 (.ret)))))
def vW:SFn:=⟨2,21,Ey,[.t 4]⟩
def Ba:SCode :=
 sO [iO 4 (.mov (kB false))]
 (sO [iM 5 0,iM 6 1,iO 7 (.callr sD [.t 5,.t 6]),iE 8 .leq 7 180,iM 4 8]
 (.ret))
def tN:SFn:=⟨2,9,Ba,[.t 4]⟩
def cD:SCode :=
 sO [iV 9 .lss 8 7]
 (.seq (.cond (.t 9) (.skip)
 (.seq (.keep []) (.exit 0)))
 (.seq (.block 1 (sO [iM 10 8,iM 5 10]
 (sO [iM 11 1,iM 12 0,iM 13 5,iO 14 (.ixa 4 (.t 12) (.t 13)),iK 15 4 14,iO 16 (.calli (.t 11) [.t 15])]
 (.cond (.t 16) (sO [iM 17 5,iM 4 17]
 (.seq (.keep [4]) .ret))
 (.skip)))))
 (.ops [iO 18 (.ari .add (.t 8) (kI 1)),iM 8 18])))
def eG:SCode :=
 sO [iO 4 (.mov (kI 0))]
 (.seq (sO [iM 6 0,iO 7 (.len (.t 6)),iO 8 (.mov (kI 0))]
 (.block 0 (.loop [0,1,7,8] cD)))
 (sO [iO 4 (.mov (kI (-1)))]
 (.ret)))
def c7:SFn:=⟨2,19,eG,[.t 4]⟩
def Ax:SCode :=
 sO [iO 2 (.vbox 4 (.t 0)),iO 3 (.mov (kB false))]
 (sO [iF 4 0 2,iL 5 4,iL 6 1,iV 7 .eql 5 6,iM 3 7]
 (.ret))
def rB:SFn:=⟨2,8,Ax,[.t 3]⟩
def Im:SCode :=
 sO [iO 1 (.vbox 4 (.t 0)),iO 2 (.mov (kI 0))]
 (.seq (sO [iK 5 4 1,iO 6 (.callr lI [.t 5]),iO 7 (.not (.t 6))]
 (.cond (.t 7) (sO [iO 2 (.mov (kI 0))]
 (.ret))
 (.skip)))
 (sO [iK 9 4 1,iO 10 (.callr zR [.t 9]),iM 8 10,iO 11 (.ext (.t 8) 0),iO 12 (.ext (.t 8) 1),iM 3 11,iM 4 12]
 (sO [iM 13 4,iM 2 13]
 (.ret))))
def yN:SFn:=⟨1,14,Im,[.t 2]⟩
def H1:SCode :=
 sO [iO 2 (.vbox 7 (.t 0)),iO 4 (.mov (kI 0))]
 (sO [iM 5 1,iF 6 5 2,iL 7 6,iO 8 (.slen (.t 7)),iO 9 (.ari .sub (.t 5) (.t 8)),iM 1 9]
 (.seq (sO [iM 10 1,iE 11 .lss 10 0]
 (.cond (.t 11) (sO [iO 4 (.mov (kI (-1)))]
 (.ret))
 (.skip)))
 (sO [iF 12 6 2,iL 13 12,iM 14 1,iO 15 (.callr Dh [.t 13,.t 14]),iM 1 15]
 (.seq (sO [iM 16 1,iE 17 .lss 16 0]
 (.cond (.t 17) (sO [iO 4 (.mov (kI (-1)))]
 (.ret))
 (.skip)))
 (sO [iM 18 1,iM 4 18]
 (.ret))))))
def yY:SFn:=⟨2,19,H1,[.t 4]⟩
def nQ:SCode :=
 .seq (sO [iM 18 6,iM 19 3,iV 20 .lss 18 19]
 (.cond (.t 20) (.skip)
 (.seq (.keep [1,3,4,5]) (.exit 0))))
 (.seq (.block 1 (sO [iM 23 4,iF 24 2 1,iL 25 24,iO 26 (.mk 1 1 [.v (.bool false)] (.t 25)),iO 27 (.lit 1 [.t 26]),iO 28 (.app 1 24 (.t 23) (.t 27)),iM 4 28]
 (.ops [iM 29 5,iK 30 4 1,iM 31 6,iO 32 (.call yB [.t 30,.t 31]),iO 33 (.lit 1 [.t 32]),iO 34 (.app 1 24 (.t 29) (.t 33)),iM 5 34])))
 (.ops [iM 21 6,iO 22 (.ari .add (.t 21) (kI 1)),iM 6 22]))
def nD:SCode :=
 .seq (sO [iM 68 12,iF 69 2 1,iL 70 69,iV 71 .lss 68 70]
 (.cond (.t 71) (.skip)
 (.seq (.keep [1,3,4,5,7,8,9]) (.exit 8))))
 (.seq (.block 9 (sO [iM 74 11,iM 75 12,iO 76 (.ixa 1 (.t 74) (.t 75)),iL 77 76,iM 78 77,iT 79 78 (.mov (.t 4)),iT 80 78 (.mov (.t 8)),iT 81 78 (.ixa 1 (.t 79) (.t 80)),iT 82 78 (.load none (.t 81)),iT 83 78 (.mov (.t 12)),iT 84 78 (.ixa 1 (.t 82) (.t 83)),iT 85 78 (.load none (.t 84)),iT 86 78 (.not (.t 85)),iO 87 (.pick (.t 78) (.t 86) (kB false))]
 (.cond (.t 87) (sO [iM 88 4,iM 89 8,iO 90 (.ixa 1 (.t 88) (.t 89)),iL 91 90,iM 92 12,iO 93 (.ixa 1 (.t 91) (.t 92)),iN (.store 1 (.t 93) (kB true))]
 (.ops [iO 7 (.mov (kB true))]))
 (.skip))))
 (.ops [iM 72 12,iO 73 (.ari .add (.t 72) (kI 1)),iM 12 73]))
def nR:SCode :=
 .seq (sO [iM 42 9,iM 43 5,iM 44 8,iO 45 (.ixa 1 (.t 43) (.t 44)),iL 46 45,iO 47 (.len (.t 46)),iV 48 .lss 42 47]
 (.cond (.t 48) (.skip)
 (.seq (.keep [1,3,4,5,7,8]) (.exit 6))))
 (.seq (.block 7 (sO [iM 51 5,iM 52 8,iO 53 (.ixa 1 (.t 51) (.t 52)),iL 54 53,iM 55 9,iO 56 (.ixa 1 (.t 54) (.t 55)),iL 57 56,iM 10 57]
 (sO [iF 58 3 1,iL 59 58,iM 60 10,iO 61 (.ixa 7 (.t 59) (.t 60)),iK 62 7 61,iM 63 4,iM 64 10,iO 65 (.ixa 1 (.t 63) (.t 64)),iL 66 65,iO 67 (.callr Gp [.t 62,.t 66]),iM 11 67]
 (sO [iO 12 (.mov (kI 0))]
 (.block 8 (.loop [1,3,4,5,7,8,9,11,12] nD))))))
 (.ops [iM 49 9,iO 50 (.ari .add (.t 49) (kI 1)),iM 9 50]))
def nP:SCode :=
 .seq (sO [iM 38 8,iE 39 .geq 38 0]
 (.cond (.t 39) (.skip)
 (.seq (.keep [1,3,4,5,7]) (.exit 4))))
 (.seq (.block 5 (sO [iO 9 (.mov (kI 0))]
 (.block 6 (.loop [1,3,4,5,7,8,9] nR))))
 (.ops [iM 40 8,iO 41 (.ari .sub (.t 40) (kI 1)),iM 8 41]))
def gQ:SCode :=
 .seq (sO [iM 35 7]
 (.cond (.t 35) (.skip)
 (.seq (.keep [4]) (.exit 2))))
 (.block 3 (sO [iO 7 (.mov (kB false))]
 (sO [iM 36 3,iO 37 (.ari .sub (.t 36) (kI 1)),iM 8 37]
 (.block 4 (.loop [1,3,4,5,7,8] nP)))))
def Fp:SCode :=
 sO [iO 1 (.vbox 4 (.t 0)),iO 2 (.mov (.n 1))]
 (sO [iF 13 3 1,iL 14 13,iO 15 (.len (.t 14)),iM 3 15]
 (sO [iO 16 (.lit 1 []),iM 4 16]
 (sO [iO 17 (.lit 1 []),iM 5 17]
 (.seq (sO [iO 6 (.mov (kI 0))]
 (.block 0 (.loop [1,3,4,5,6] nQ)))
 (.seq (sO [iO 7 (.mov (kB true))]
 (.block 2 (.loop [1,3,4,5,7] gQ)))
 (sO [iM 94 4,iM 2 94]
 (.ret)))))))
def wI:SFn:=⟨1,95,Fp,[.t 2]⟩
def mD:SCode :=
 .seq (sO [iM 6 4,iM 7 0,iV 8 .lss 6 7]
 (.cond (.t 8) (.skip)
 (.seq (.keep [3]) (.exit 0))))
 (.seq (.block 1 (.ops [iM 11 3,iO 12 (.lit 1 [.c (.int .i64 (-1))]),iO 13 (.app 1 8 (.t 11) (.t 12)),iM 3 13]))
 (.ops [iM 9 4,iO 10 (.ari .add (.t 9) (kI 1)),iM 4 10]))
def Cf:SCode :=
 sO [iO 2 (.mov (.n 1))]
 (sO [iO 5 (.lit 1 []),iM 3 5]
 (.seq (sO [iO 4 (.mov (kI 0))]
 (.block 0 (.loop [0,3,4] mD)))
 (sO [iM 14 3,iM 2 14]
 (.ret))))
def sT:SFn:=⟨1,15,Cf,[.t 2]⟩
def K4:SCode :=
 sO [iO 1 (.vbox 7 (.t 0)),iO 2 (.mov (.n 1))]
 (sO [iO 4 (.lit 1 []),iM 3 4]
 (.seq (sO [iF 5 0 1,iL 6 5,iO 7 (.callr qH [.t 6]),iO 8 (.ari .and (.t 7) (kI 1)),iE 9 .neq 8 0]
 (.cond (.t 9) (.ops [iM 10 3,iF 11 1 1,iL 12 11,iO 13 (.lit 1 [.t 12]),iO 14 (.app 1 8 (.t 10) (.t 13)),iM 3 14])
 (.skip)))
 (.seq (sO [iF 15 0 1,iL 16 15,iE 17 .eql 16 19]
 (.cond (.t 17) (.ops [iM 18 3,iF 19 3 1,iL 20 19,iO 21 (.lit 1 [.t 20]),iO 22 (.app 1 8 (.t 18) (.t 21)),iM 3 22])
 (.skip)))
 (sO [iM 23 3,iM 2 23]
 (.ret)))))
def Ci:SFn:=⟨1,24,K4,[.t 2]⟩
def Ha:SCode :=
 sO [iO 1 (.vbox 7 (.t 0)),iO 2 (.alloc [zI,zI,zI,zI,zI,zS,.s 1 []])]
 (sO [iO 3 (.alloc [zI,zI,zI,zI,zI,zS,.s 1 []])]
 (sO [iF 4 0 1,iL 5 4,iF 6 0 3,iN (.store 1 (.t 6) (.t 5))]
 (sO [iF 7 1 1,iL 8 7,iF 9 1 3,iN (.store 1 (.t 9) (.t 8))]
 (sO [iF 10 2 1,iL 11 10,iF 12 2 3,iN (.store 1 (.t 12) (.t 11))]
 (sO [iF 13 3 1,iL 14 13,iF 15 3 3,iN (.store 1 (.t 15) (.t 14))]
 (sO [iF 16 4 1,iL 17 16,iF 18 4 3,iN (.store 1 (.t 18) (.t 17))]
 (sO [iF 19 5 1,iL 20 19,iF 21 5 3,iN (.store 1 (.t 21) (.t 20))]
 (sO [iF 22 6 1,iL 23 22,iO 24 (.call D3 [.t 23]),iF 25 6 3,iN (.store 1 (.t 25) (.t 24))]
 (sO [iK 26 7 3,iN (.store 7 (.t 2) (.t 26))]
 (.ret))))))))))
def yJ:SFn:=⟨1,27,Ha,[.c 2 (some 7)]⟩
def K0:SCode :=
 sO [iO 2 (.mov (kB false))]
 (sO [iM 3 0,iE 4 .eql 3 12,iM 5 4,iU 6 5 (.mov (.t 0)),iU 7 5 (.cmp .eql (.t 6) (kI 9)),iO 8 (.pick (.t 5) (kB true) (.t 7)),iM 9 8,iU 10 9 (.mov (.t 0)),iU 11 9 (.cmp .eql (.t 10) (kI 28)),iO 12 (.pick (.t 9) (kB true) (.t 11)),iM 2 12]
 (.ret))
def C7:SFn:=⟨1,13,K0,[.t 2]⟩
def nO:SCode :=
 sO [iV 12 .lss 11 10]
 (.seq (.cond (.t 12) (.skip)
 (.seq (.keep [3]) (.exit 0)))
 (.seq (.block 1 (.seq (.opsd [⟨iM 13 3,0,[]⟩,⟨iM 14 3,1,[]⟩,⟨iO 15 (.nck (.t 14)),2,[]⟩,⟨iF 16 1 15,3,[]⟩,⟨iL 17 16,4,[]⟩,⟨iF 18 2 1,5,[]⟩,⟨iL 19 18,6,[]⟩,⟨iO 20 (.mk 1 1 [.v (.bool false)] (.t 19)),7,[]⟩,⟨iO 21 (.lit 1 [.t 20]),8,[iM 13 3,iM 14 3,iO 15 (.nck (.t 14)),iF 16 1 15,iL 17 16]⟩,⟨iO 22 (.app 1 24 (.t 17) (.t 21)),9,[iM 13 3]⟩,⟨iO 23 (.nck (.t 13)),10,[]⟩,⟨iF 24 1 23,11,[]⟩,⟨iN (.store 1 (.t 24) (.t 22)),12,[]⟩])
 (.opsd [⟨iM 25 3,0,[]⟩,⟨iM 26 3,1,[]⟩,⟨iO 27 (.nck (.t 26)),2,[]⟩,⟨iF 28 2 27,3,[]⟩,⟨iL 29 28,4,[]⟩,⟨iF 30 2 1,5,[]⟩,⟨iL 31 30,6,[]⟩,⟨iO 32 (.mk 1 1 [.v (.bool false)] (.t 31)),7,[]⟩,⟨iO 33 (.lit 1 [.t 32]),8,[iM 25 3,iM 26 3,iO 27 (.nck (.t 26)),iF 28 2 27,iL 29 28]⟩,⟨iO 34 (.app 1 24 (.t 29) (.t 33)),9,[iM 25 3]⟩,⟨iO 35 (.nck (.t 25)),10,[]⟩,⟨iF 36 2 35,11,[]⟩,⟨iN (.store 1 (.t 36) (.t 34)),12,[]⟩])))
 (.ops [iO 37 (.ari .add (.t 11) (kI 1)),iM 11 37])))
def nT:SCode :=
 .seq (sO [iM 38 3,iO 39 (.callb j5 [.t 38] [true])]
 (.cond (.t 39) (.skip)
 (.seq (.keep [3]) (.exit 2))))
 (.block 3 (.skip))
def Eu:SCode :=
 sO [iO 1 (.vbox 4 (.t 0)),iO 2 (.mov (.c (.pointer none)))]
 (sO [iF 4 3 1,iL 5 4,iO 6 (.build [.s 7 [],.s 1 [],.s 1 []] [(0,1,.t 5)]),iO 7 (.box 3 (.t 6)),iM 3 7]
 (.seq (sO [iF 8 3 1,iL 9 8,iO 10 (.len (.t 9)),iO 11 (.mov (kI 0))]
 (.block 0 (.loop [1,3,10,11] nO)))
 (.seq (.block 2 (.loop [3] nT))
 (sO [iM 40 3,iM 2 40]
 (.seq (.keep [20002,2]) .ret)))))
def wT:SFn:=⟨1,41,Eu,[.t 2]⟩
def Kj:SCode :=
 sO [iO 1 (.vbox 7 (.t 0)),iO 2 (.mov (.n 1))]
 (.seq (.block 0 (sO [iF 4 0 1,iL 5 4,iE 6 .eql 5 19,iM 3 6]
 (.cond (.t 3) (sO [iF 7 1 1,iL 8 7,iF 9 3 1,iL 10 9,iO 11 (.lit 1 [.t 8,.t 10]),iM 2 11]
 (.ret))
 (sO [iF 13 0 1,iL 14 13,iO 15 (.callr eA [.t 14,.c (.int .u8 68)]),iM 12 15]
 (.cond (.t 12) (sO [iF 16 1 1,iL 17 16,iO 18 (.lit 1 [.t 17]),iM 2 18]
 (.ret))
 (.skip))))))
 (sO [iO 2 (.mov (.n 1))]
 (.ret)))
def Dn:SFn:=⟨1,19,Kj,[.t 2]⟩
def G2:SCode :=
 sO [iO 2 (.vbox 7 (.t 0)),iO 3 (.vbox 7 (.t 1)),iO 4 (.mov (kB false))]
 (.seq (sO [iF 5 0 2,iL 6 5,iF 7 0 3,iL 8 7,iV 9 .neq 6 8]
 (.cond (.t 9) (sO [iO 4 (.mov (kB false))]
 (.ret))
 (.skip)))
 (.seq (sO [iF 10 1 2,iL 11 10,iF 12 1 3,iL 13 12,iV 14 .neq 11 13]
 (.cond (.t 14) (sO [iO 4 (.mov (kB false))]
 (.ret))
 (.skip)))
 (.seq (sO [iF 15 2 2,iL 16 15,iF 17 2 3,iL 18 17,iV 19 .neq 16 18]
 (.cond (.t 19) (sO [iO 4 (.mov (kB false))]
 (.ret))
 (.skip)))
 (.seq (sO [iF 20 3 2,iL 21 20,iF 22 3 3,iL 23 22,iV 24 .neq 21 23]
 (.cond (.t 24) (sO [iO 4 (.mov (kB false))]
 (.ret))
 (.skip)))
 (.seq (sO [iF 25 4 2,iL 26 25,iF 27 4 3,iL 28 27,iV 29 .neq 26 28]
 (.cond (.t 29) (sO [iO 4 (.mov (kB false))]
 (.ret))
 (.skip)))
 (.seq (sO [iF 30 5 2,iL 31 30,iF 32 5 3,iL 33 32,iV 34 .neq 31 33]
 (.cond (.t 34) (sO [iO 4 (.mov (kB false))]
 (.ret))
 (.skip)))
 (.seq (sO [iF 35 6 2,iL 36 35,iF 37 6 3,iL 38 37,iO 39 (.callr Dp [.t 36,.t 38]),iO 40 (.not (.t 39))]
 (.cond (.t 40) (sO [iO 4 (.mov (kB false))]
 (.ret))
 (.skip)))
 (sO [iO 4 (.mov (kB true))]
 (.ret)))))))))
def yS:SFn:=⟨2,41,G2,[.t 4]⟩
def kP:SCode :=
 .seq (sO [iM 6 5,iM 7 0,iO 8 (.len (.t 7)),iV 9 .lss 6 8]
 (.cond (.t 9) (.skip)
 (.seq (.keep [1]) (.exit 0))))
 (.seq (.block 1 (sO [iM 12 0,iM 13 5,iM 14 1,iO 15 (.ixa 1 (.t 12) (.t 13)),iN (.store 1 (.t 15) (.t 14))]
 (.ops [iM 16 1,iO 17 (.ari .add (.t 16) (kI 1)),iM 1 17])))
 (.ops [iM 10 5,iO 11 (.ari .add (.t 10) (kI 1)),iM 5 11]))
def A0:SCode :=
 sO [iO 4 (.mov (kI 0))]
 (.seq (sO [iO 5 (.mov (kI 0))]
 (.block 0 (.loop [0,1,5] kP)))
 (sO [iM 18 1,iM 4 18]
 (.ret)))
def qY:SFn:=⟨2,19,A0,[.t 4]⟩
def Hu:SCode :=
 sO [iO 4 (.mov (kB false))]
 (sO [iM 5 0,iO 6 (.callr D5 [.t 5]),iO 7 (.bos (.t 6)),iM 8 1,iO 9 (.callr gO [.t 7,.t 8]),iM 4 9]
 (.ret))
def yX:SFn:=⟨2,10,Hu,[.t 4]⟩
def Kz:SCode :=
 sO [iO 6 (.mov (kB false))]
 (sO [iM 7 0,iM 8 1,iV 9 .geq 7 8,iM 10 9,iT 11 10 (.mov (.t 0)),iT 12 10 (.mov (.t 2)),iT 13 10 (.cmp .leq (.t 11) (.t 12)),iO 14 (.pick (.t 10) (.t 13) (kB false)),iM 6 14]
 (.ret))
def Be:SFn:=⟨3,15,Kz,[.t 6]⟩
def H9:SCode :=
 sO [iO 4 (.mov (kI 0))]
 (.seq (sO [iM 5 0,iM 6 1,iV 7 .lss 5 6]
 (.cond (.t 7) (sO [iM 8 0,iM 4 8]
 (.ret))
 (.skip)))
 (sO [iM 9 1,iM 4 9]
 (.ret)))
def zJ:SFn:=⟨2,10,H9,[.t 4]⟩
def Ao:SCode :=
 sO [iO 2 (.vbox 7 (.t 0)),iO 4 (.mov (kB false))]
 (sO [iF 6 0 2,iL 7 6,iO 8 (.callr qH [.t 7]),iM 5 8]
 (.seq (sO [iF 9 0 2,iL 10 9,iO 11 (.callr eU [.t 10,.c (.int .i64 1),.c (.int .i64 28)]),iO 12 (.not (.t 11)),iM 13 12,iU 14 13 (.load (some 7) (.t 2)),iU 15 13 (.callr y9 [.t 14]),iU 16 13 (.not (.t 15)),iO 17 (.pick (.t 13) (kB true) (.t 16)),iM 18 17,iU 19 18 (.load (some 7) (.t 2)),iU 20 18 (.mov (.t 1)),iU 21 18 (.callr yV [.t 19,.t 20]),iU 22 18 (.not (.t 21)),iO 23 (.pick (.t 18) (kB true) (.t 22))]
 (.cond (.t 23) (sO [iO 4 (.mov (kB false))]
 (.ret))
 (.skip)))
 (.seq (sO [iF 24 0 2,iL 25 24,iE 26 .eql 25 19,iM 27 26,iT 28 27 (.faddr 4 (.t 2)),iT 29 27 (.load none (.t 28)),iT 30 27 (.callr eU [.t 29,.c (.int .i64 0),.c (.int .i64 1)]),iT 31 27 (.not (.t 30)),iO 32 (.pick (.t 27) (.t 31) (kB false)),iM 33 32,iU 34 33 (.faddr 4 (.t 2)),iU 35 33 (.load none (.t 34)),iU 36 33 (.callr uS [.t 35]),iU 37 33 (.not (.t 36)),iO 38 (.pick (.t 33) (kB true) (.t 37))]
 (.cond (.t 38) (sO [iO 4 (.mov (kB false))]
 (.ret))
 (.skip)))
 (sO [iM 39 5,iO 40 (.ari .and (.t 39) (kI 1)),iE 41 .neq 40 0,iM 42 41,iU 43 42 (.faddr 1 (.t 2)),iU 44 42 (.load none (.t 43)),iU 45 42 (.cmp .eql (.t 44) (kI 0)),iO 46 (.pick (.t 42) (kB true) (.t 45)),iM 47 46,iT 48 47 (.mov (.t 5)),iT 49 47 (.ari .and (.t 48) (kI 2)),iT 50 47 (.cmp .neq (.t 49) (kI 0)),iT 51 47 (.mov (.t 50)),iU 52 51 (.faddr 2 (.t 2)),iU 53 51 (.load none (.t 52)),iU 54 51 (.cmp .eql (.t 53) (kI 0)),iT 55 47 (.pick (.t 51) (kB true) (.t 54)),iO 56 (.pick (.t 47) (.t 55) (kB false)),iM 57 56,iT 58 57 (.mov (.t 5)),iT 59 57 (.ari .and (.t 58) (kI 4)),iT 60 57 (.cmp .neq (.t 59) (kI 0)),iT 61 57 (.mov (.t 60)),iU 62 61 (.faddr 3 (.t 2)),iU 63 61 (.load none (.t 62)),iU 64 61 (.cmp .eql (.t 63) (kI 0)),iT 65 57 (.pick (.t 61) (kB true) (.t 64)),iO 66 (.pick (.t 57) (.t 65) (kB false)),iM 67 66,iT 68 67 (.mov (.t 5)),iT 69 67 (.ari .and (.t 68) (kI 8)),iT 70 67 (.cmp .neq (.t 69) (kI 0)),iT 71 67 (.mov (.t 70)),iU 72 71 (.faddr 4 (.t 2)),iU 73 71 (.load none (.t 72)),iU 74 71 (.cmp .eql (.t 73) (kI 0)),iT 75 67 (.pick (.t 71) (kB true) (.t 74)),iO 76 (.pick (.t 67) (.t 75) (kB false)),iM 77 76,iT 78 77 (.mov (.t 5)),iT 79 77 (.ari .and (.t 78) (kI 16)),iT 80 77 (.cmp .neq (.t 79) (kI 0)),iT 81 77 (.mov (.t 80)),iU 82 81 (.faddr 5 (.t 2)),iU 83 81 (.load none (.t 82)),iU 84 81 (.cmp .eql (.t 83) (.c (.string ⟨#[]⟩))),iT 85 77 (.pick (.t 81) (kB true) (.t 84)),iO 86 (.pick (.t 77) (.t 85) (kB false)),iM 4 86]
 (.ret)))))
def rK:SFn:=⟨2,87,Ao,[.t 4]⟩
def kW:SCode :=
 .seq (sO [iM 6 5,iM 7 0,iO 8 (.len (.t 7)),iV 9 .lss 6 8]
 (.cond (.t 9) (.skip)
 (.seq (.keep []) (.exit 0))))
 (.seq (.block 1 (sO [iM 12 0,iM 13 5,iO 14 (.ixa 7 (.t 12) (.t 13)),iF 15 0 14,iL 16 15,iE 17 .eql 16 8,iM 18 17,iT 19 18 (.mov (.t 0)),iT 20 18 (.mov (.t 5)),iT 21 18 (.ixa 7 (.t 19) (.t 20)),iT 22 18 (.faddr 4 (.t 21)),iT 23 18 (.load none (.t 22)),iT 24 18 (.mov (.t 1)),iT 25 18 (.cmp .eql (.t 23) (.t 24)),iO 26 (.pick (.t 18) (.t 25) (kB false))]
 (.cond (.t 26) (sO [iM 27 5,iM 4 27]
 (.seq (.keep [4]) .ret))
 (.skip))))
 (.ops [iM 10 5,iO 11 (.ari .add (.t 10) (kI 1)),iM 5 11]))
def z7:SCode :=
 sO [iO 4 (.mov (kI 0))]
 (.seq (sO [iO 5 (.mov (kI 0))]
 (.block 0 (.loop [0,1,5] kW)))
 (sO [iO 4 (.mov (kI (-1)))]
 (.ret)))
def qW:SFn:=⟨2,28,z7,[.t 4]⟩
def fE:SCode :=
 .seq (sO [iM 35 9,iF 36 2 2,iL 37 36,iV 38 .lss 35 37]
 (.cond (.t 38) (.skip)
 (.seq (.keep [1,2,5,6]) (.exit 2))))
 (.seq (.block 3 (sO [iM 41 1,iM 42 6,iO 43 (.ixa 1 (.t 41) (.t 42)),iL 44 43,iM 45 9,iO 46 (.ixa 1 (.t 44) (.t 45)),iL 47 46,iM 48 47,iT 49 48 (.mov (.t 8)),iT 50 48 (.len (.t 49)),iT 51 48 (.cmp .eql (.t 50) (kI 0)),iT 52 48 (.mov (.t 51)),iU 53 52 (.mov (.t 8)),iU 54 52 (.ixa 1 (.t 53) (kI 0)),iU 55 52 (.load none (.t 54)),iU 56 52 (.mov (.t 9)),iU 57 52 (.cmp .neq (.t 55) (.t 56)),iT 58 48 (.pick (.t 52) (kB true) (.t 57)),iO 59 (.pick (.t 48) (.t 58) (kB false))]
 (.cond (.t 59) (.ops [iM 60 5,iM 61 9,iO 62 (.ixa 1 (.t 60) (.t 61)),iN (.store 1 (.t 62) (kB true))])
 (.skip))))
 (.ops [iM 39 9,iO 40 (.ari .add (.t 39) (kI 1)),iM 9 40]))
def fG:SCode :=
 .seq (sO [iM 13 6,iF 14 3 2,iL 15 14,iO 16 (.len (.t 15)),iV 17 .lss 13 16]
 (.cond (.t 17) (.skip)
 (.seq (.keep [5]) (.exit 0))))
 (.seq (.block 1 (sO [iF 20 3 2,iL 21 20,iM 22 6,iO 23 (.ixa 7 (.t 21) (.t 22)),iK 24 7 23,iO 7 (.alloc [zI,zI,zI,zI,zI,zS,.s 1 []]),iN (.store 7 (.t 7) (.t 24))]
 (.seq (sO [iF 25 0 7,iL 26 25,iE 27 .neq 26 11,iM 28 27,iT 29 28 (.faddr 0 (.t 7)),iT 30 28 (.load none (.t 29)),iT 31 28 (.cmp .neq (.t 30) (kI 27)),iO 32 (.pick (.t 28) (.t 31) (kB false))]
 (.cond (.t 32) (.exit 1)
 (.skip)))
 (sO [iK 33 7 7,iO 34 (.callr sB [.t 33]),iM 8 34]
 (sO [iO 9 (.mov (kI 0))]
 (.block 2 (.loop [1,2,5,6,8,9] fE)))))))
 (.ops [iM 18 6,iO 19 (.ari .add (.t 18) (kI 1)),iM 6 19]))
def uH:SCode :=
 sO [iO 2 (.vbox 4 (.t 0)),iO 4 (.mov (.n 1))]
 (sO [iF 10 2 2,iL 11 10,iO 12 (.mk 1 1 [.v (.bool false)] (.t 11)),iM 5 12]
 (.seq (sO [iO 6 (.mov (kI 0))]
 (.block 0 (.loop [1,2,5,6] fG)))
 (sO [iM 63 5,iM 4 63]
 (.ret))))
def oG:SFn:=⟨2,64,uH,[.t 4]⟩
def kY:SCode :=
 .seq (sO [iM 45 11,iM 46 10,iO 47 (.len (.t 46)),iV 48 .lss 45 47]
 (.cond (.t 48) (.skip)
 (.seq (.keep [1,2,6,7,8,9]) (.exit 2))))
 (.seq (.block 3 (.ops [iM 51 9,iM 52 10,iM 53 11,iO 54 (.ixa 1 (.t 52) (.t 53)),iL 55 54,iO 56 (.ixa 1 (.t 51) (.t 55)),iN (.store 1 (.t 56) (kB true))]))
 (.ops [iM 49 11,iO 50 (.ari .add (.t 49) (kI 1)),iM 11 50]))
def gU:SCode :=
 .seq (sO [iM 57 12,iF 58 2 2,iL 59 58,iV 60 .lss 57 59]
 (.cond (.t 60) (.skip)
 (.seq (.keep [1,2,6,7,8]) (.exit 4))))
 (.seq (.block 5 (.seq (sO [iM 63 9,iM 64 12,iO 65 (.ixa 1 (.t 63) (.t 64)),iL 66 65,iO 67 (.not (.t 66))]
 (.cond (.t 67) (.exit 5)
 (.skip)))
 (.seq (sO [iM 68 6,iM 69 12,iO 70 (.ixa 1 (.t 68) (.t 69)),iL 71 70,iE 72 .lss 71 0]
 (.cond (.t 72) (.ops [iM 73 6,iM 74 12,iM 75 8,iO 76 (.ixa 1 (.t 73) (.t 74)),iN (.store 1 (.t 76) (.t 75))])
 (.skip)))
 (.ops [iM 77 7,iM 78 12,iM 79 8,iO 80 (.ixa 1 (.t 77) (.t 78)),iN (.store 1 (.t 80) (.t 79))]))))
 (.ops [iM 61 12,iO 62 (.ari .add (.t 61) (kI 1)),iM 12 62]))
def kQ:SCode :=
 .seq (sO [iM 19 8,iF 20 3 2,iL 21 20,iO 22 (.len (.t 21)),iV 23 .lss 19 22]
 (.cond (.t 23) (.skip)
 (.seq (.keep [6,7]) (.exit 0))))
 (.seq (.block 1 (sO [iO 26 (.lit 1 []),iM 27 1,iM 28 8,iO 29 (.ixa 1 (.t 27) (.t 28)),iL 30 29,iO 31 (.app 1 1 (.t 26) (.t 30)),iM 9 31]
 (.seq (.opsd [⟨iF 32 3 2,0,[]⟩,⟨iL 33 32,1,[]⟩,⟨iM 34 8,2,[]⟩,⟨iO 35 (.ixa 7 (.t 33) (.t 34)),3,[]⟩,⟨iK 36 7 35,4,[]⟩,⟨iF 38 3 2,6,[]⟩,⟨iL 39 38,7,[]⟩,⟨iM 40 8,8,[]⟩,⟨iO 41 (.ixa 7 (.t 39) (.t 40)),9,[]⟩,⟨iK 42 7 41,10,[]⟩,⟨iO 37 (.call sB [.t 36]),5,[iF 38 3 2,iL 39 38,iM 40 8,iO 41 (.ixa 7 (.t 39) (.t 40)),iK 42 7 41]⟩,⟨iO 43 (.call xL [.t 42]),11,[]⟩,⟨iO 44 (.app 1 8 (.t 37) (.t 43)),12,[]⟩,⟨iM 10 44,13,[]⟩])
 (.seq (sO [iO 11 (.mov (kI 0))]
 (.block 2 (.loop [1,2,6,7,8,9,10,11] kY)))
 (sO [iO 12 (.mov (kI 0))]
 (.block 4 (.loop [1,2,6,7,8,9,12] gU)))))))
 (.ops [iM 24 8,iO 25 (.ari .add (.t 24) (kI 1)),iM 8 25]))
def Al:SCode :=
 sO [iO 2 (.vbox 4 (.t 0)),iO 4 (.mov (.n 1)),iO 5 (.mov (.n 1))]
 (.seq (.opsd [⟨iF 13 2 2,0,[]⟩,⟨iL 14 13,1,[]⟩,⟨iF 16 2 2,3,[]⟩,⟨iL 17 16,4,[]⟩,⟨iO 15 (.call oT [.t 14]),2,[iF 16 2 2,iL 17 16]⟩,⟨iO 18 (.call oT [.t 17]),5,[]⟩,⟨iM 6 15,6,[]⟩,⟨iM 7 18,7,[]⟩])
 (.seq (sO [iO 8 (.mov (kI 0))]
 (.block 0 (.loop [1,2,6,7,8] kQ)))
 (sO [iM 81 6,iM 82 7,iM 4 81,iM 5 82]
 (.ret))))
def rN:SFn:=⟨2,83,Al,[.t 4,.t 5]⟩
def mF:SCode :=
 .seq (sO [iM 12 7,iM 13 0,iO 14 (.nck (.t 13)),iF 15 2 14,iL 16 15,iO 17 (.len (.t 16)),iV 18 .lss 12 17]
 (.cond (.t 18) (.skip)
 (.seq (.keep [0,1,5,6]) (.exit 2))))
 (.seq (.block 3 (sO [iM 21 0,iO 22 (.nck (.t 21)),iF 23 2 22,iL 24 23,iM 25 7,iO 26 (.ixa 1 (.t 24) (.t 25)),iL 27 26,iM 28 5,iV 29 .eql 27 28,iM 30 29,iT 31 30 (.mov (.t 0)),iT 32 30 (.nck (.t 31)),iT 33 30 (.faddr 0 (.t 32)),iT 34 30 (.load none (.t 33)),iT 35 30 (.mov (.t 7)),iT 36 30 (.ixa 1 (.t 34) (.t 35)),iT 37 30 (.load none (.t 36)),iT 38 30 (.mov (.t 0)),iT 39 30 (.nck (.t 38)),iT 40 30 (.faddr 1 (.t 39)),iT 41 30 (.load none (.t 40)),iT 42 30 (.mov (.t 1)),iT 43 30 (.ixa 1 (.t 41) (.t 42)),iT 44 30 (.load none (.t 43)),iT 45 30 (.cmp .leq (.t 37) (.t 44)),iO 46 (.pick (.t 30) (.t 45) (kB false)),iM 47 46,iT 48 47 (.mov (.t 0)),iT 49 47 (.nck (.t 48)),iT 50 47 (.faddr 0 (.t 49)),iT 51 47 (.load none (.t 50)),iT 52 47 (.mov (.t 1)),iT 53 47 (.ixa 1 (.t 51) (.t 52)),iT 54 47 (.load none (.t 53)),iT 55 47 (.mov (.t 0)),iT 56 47 (.nck (.t 55)),iT 57 47 (.faddr 1 (.t 56)),iT 58 47 (.load none (.t 57)),iT 59 47 (.mov (.t 7)),iT 60 47 (.ixa 1 (.t 58) (.t 59)),iT 61 47 (.load none (.t 60)),iT 62 47 (.cmp .leq (.t 54) (.t 61)),iO 63 (.pick (.t 47) (.t 62) (kB false))]
 (.cond (.t 63) (.ops [iO 6 (.mov (kB false))])
 (.skip))))
 (.ops [iM 19 7,iO 20 (.ari .add (.t 19) (kI 1)),iM 7 20]))
def cF:SCode :=
 .seq (sO [iM 8 5,iE 9 .lss 8 3]
 (.cond (.t 9) (.skip)
 (.seq (.keep []) (.exit 0))))
 (.seq (.block 1 (sO [iO 6 (.mov (kB true))]
 (.seq (sO [iO 7 (.mov (kI 0))]
 (.block 2 (.loop [0,1,5,6,7] mF)))
 (sO [iM 64 6]
 (.cond (.t 64) (sO [iM 65 5,iM 4 65]
 (.seq (.keep [4]) .ret))
 (.skip))))))
 (.ops [iM 10 5,iO 11 (.ari .add (.t 10) (kI 1)),iM 5 11]))
def Bm:SCode :=
 sO [iO 4 (.mov (kI 0))]
 (.seq (sO [iO 5 (.mov (kI 0))]
 (.block 0 (.loop [0,1,5] cF)))
 (sO [iO 4 (.mov (kI (-1)))]
 (.ret)))
def sV:SFn:=⟨2,66,Bm,[.t 4]⟩
def Fl:SCode :=
 sO [iO 3 (.vbox 6 (.t 1))]
 (.opsd [⟨iM 4 0,0,[]⟩,⟨iM 5 0,1,[]⟩,⟨iO 6 (.nck (.t 5)),2,[]⟩,⟨iF 7 3 6,3,[]⟩,⟨iL 8 7,4,[]⟩,⟨iK 9 6 3,5,[]⟩,⟨iO 10 (.build [zS,zI,zI,zI,zI,zI,zI,zS] [(1,6,.t 9)]),6,[]⟩,⟨iO 11 (.lit 8 [.t 10]),7,[iM 4 0,iM 5 0,iO 6 (.nck (.t 5)),iF 7 3 6,iL 8 7]⟩,⟨iO 12 (.app 8 80 (.t 8) (.t 11)),8,[iM 4 0]⟩,⟨iO 13 (.nck (.t 4)),9,[]⟩,⟨iF 14 3 13,10,[]⟩,⟨iN (.store 1 (.t 14) (.t 12)),11,[]⟩])
def vE:SFn:=⟨2,15,Fl,[]⟩
def Ab:SCode :=
 sO [iM 7 0,iO 8 (.nck (.t 7)),iF 9 1 8,iL 10 9,iM 11 1,iO 12 (.ixa 1 (.t 10) (.t 11)),iL 13 12,iM 6 13]
 (.block 0 (sO [iM 15 6,iE 16 .geq 15 10,iM 14 16]
 (.cond (.t 14) (.ops [iM 17 0,iM 18 6,iO 19 (.ari .add (kI 2) (.t 18)),iO 20 (.ari .sub (.t 19) (kI 10)),iM 21 2,iO 22 (.build [zI,zI,zI,zI,zI,zI] [(0,1,.c (.int .i64 9)),(2,1,.c (.int .i64 6)),(4,1,.t 20),(3,1,.t 21)]),iO 23 (.callb cG [.t 17,.t 22] [true,false])])
 (sO [iM 25 6,iE 26 .geq 25 0,iM 27 26,iT 28 27 (.mov (.t 6)),iT 29 27 (.mov (.t 2)),iT 30 27 (.cmp .neq (.t 28) (.t 29)),iO 31 (.pick (.t 27) (.t 30) (kB false)),iM 24 31]
 (.cond (.t 24) (.ops [iM 32 0,iM 33 6,iM 34 2,iO 35 (.build [zI,zI,zI,zI,zI,zI] [(0,1,.c (.int .i64 2)),(1,1,.t 33),(2,1,.t 34)]),iO 36 (.callb cG [.t 32,.t 35] [true,false])])
 (.skip))))))
def rD:SFn:=⟨3,37,Ab,[]⟩
def Aq:SCode :=
 sO [iO 4 (.mov (.c (.string ⟨#[]⟩)))]
 (sO [iM 5 0,iO 6 (.nck (.t 5)),iF 7 0 6,iL 8 7,iO 9 (.cat (.t 8) (.c (.string ⟨#[46]⟩))),iM 10 1,iO 11 (.callr Cu [.t 10]),iO 12 (.cat (.t 9) (.t 11)),iM 4 12]
 (.ret))
def q6:SFn:=⟨2,13,Aq,[.t 4]⟩
def G9:SCode :=
 sO [iO 4 (.vbox 6 (.t 1))]
 (.opsd [⟨iM 6 0,0,[]⟩,⟨iM 7 0,1,[]⟩,⟨iO 8 (.nck (.t 7)),2,[]⟩,⟨iF 9 3 8,3,[]⟩,⟨iL 10 9,4,[]⟩,⟨iK 11 6 4,5,[]⟩,⟨iM 12 2,6,[]⟩,⟨iO 13 (.build [zS,zI,zI,zI,zI,zI,zI,zS] [(1,6,.t 11),(7,1,.t 12)]),7,[]⟩,⟨iO 14 (.lit 8 [.t 13]),8,[iM 6 0,iM 7 0,iO 8 (.nck (.t 7)),iF 9 3 8,iL 10 9]⟩,⟨iO 15 (.app 8 80 (.t 10) (.t 14)),9,[iM 6 0]⟩,⟨iO 16 (.nck (.t 6)),10,[]⟩,⟨iF 17 3 16,11,[]⟩,⟨iN (.store 1 (.t 17) (.t 15)),12,[]⟩])
def yC:SFn:=⟨3,18,G9,[]⟩
def mO:SCode :=
 .seq (sO [iM 6 4,iF 7 6 3,iL 8 7,iO 9 (.len (.t 8)),iV 10 .lss 6 9]
 (.cond (.t 10) (.skip)
 (.seq (.keep [0,3]) (.exit 0))))
 (.seq (.block 1 (sO [iM 13 0,iF 14 6 3,iL 15 14,iM 16 4,iO 17 (.ixa 1 (.t 15) (.t 16)),iL 18 17,iO 19 (.callb fH [.t 13,.t 18,.c (.int .i64 3)] [true,false,false]),iM 5 19]
 (.ops [iM 20 0,iM 21 0,iO 22 (.nck (.t 21)),iF 23 2 22,iL 24 23,iO 25 (.ari .add (.t 24) (kI 2)),iM 26 4,iO 27 (.ari .add (.t 25) (.t 26)),iM 28 5,iO 29 (.build [zI,zI,zI,zI,zI,zI] [(0,1,.c (.int .i64 9)),(2,1,.c (.int .i64 6)),(4,1,.t 27),(3,1,.t 28)]),iO 30 (.callb cG [.t 20,.t 29] [true,false])])))
 (.ops [iM 11 4,iO 12 (.ari .add (.t 11) (kI 1)),iM 4 12]))
def D2:SCode :=
 sO [iO 3 (.vbox 7 (.t 1))]
 (.seq (sO [iO 4 (.mov (kI 0))]
 (.block 0 (.loop [0,3,4] mO)))
 (sO [iM 31 0,iM 32 0,iO 33 (.nck (.t 32)),iF 34 2 33,iL 35 34,iO 36 (.build [zI,zI,zI,zI,zI,zI] [(0,1,.c (.int .i64 13)),(5,1,.t 35)]),iF 37 5 3,iL 38 37,iO 39 (.callb pJ [.t 31,.t 36,.t 38] [true,false,false])]
 (.ops [iM 40 0,iF 41 1 3,iL 42 41,iO 43 (.callb dZ [.t 40,.t 42,.c (.int .i64 0)] [true,false,false])])))
def sK:SFn:=⟨2,44,D2,[]⟩
def Fn:SCode :=
 sO [iO 3 (.vbox 7 (.t 1))]
 (sO [iM 7 0,iF 8 2 3,iL 9 8,iO 10 (.callb fH [.t 7,.t 9,.c (.int .i64 3)] [true,false,false]),iM 4 10]
 (sO [iM 11 0,iF 12 3 3,iL 13 12,iO 14 (.callb fH [.t 11,.t 13,.c (.int .i64 4)] [true,false,false]),iM 5 14]
 (sO [iM 15 0,iM 16 5,iO 17 (.build [zI,zI,zI,zI,zI,zI] [(0,1,.c (.int .i64 2)),(1,1,.c (.int .i64 5)),(2,1,.t 16)]),iO 18 (.callb cG [.t 15,.t 17] [true,false])]
 (sO [iM 19 0,iF 20 6 3,iL 21 20,iO 22 (.ixa 1 (.t 21) (kI 0)),iL 23 22,iO 24 (.callb fH [.t 19,.t 23,.c (.int .i64 4)] [true,false,false]),iM 6 24]
 (sO [iM 25 0,iM 26 4,iM 27 6,iO 28 (.build [zI,zI,zI,zI,zI,zI] [(0,1,.c (.int .i64 10)),(1,1,.c (.int .i64 5)),(2,1,.t 26),(3,1,.t 27)]),iO 29 (.callb cG [.t 25,.t 28] [true,false])]
 (.ops [iM 30 0,iF 31 1 3,iL 32 31,iO 33 (.callb dZ [.t 30,.t 32,.c (.int .i64 5)] [true,false,false])]))))))
def vD:SFn:=⟨2,34,Fn,[]⟩
def eE:SCode :=
 sO [iO 3 (.vbox 7 (.t 1))]
 (sO [iM 6 0,iF 7 2 3,iL 8 7,iO 9 (.callb fH [.t 6,.t 8,.c (.int .i64 3)] [true,false,false]),iM 4 9]
 (sO [iM 10 0,iF 11 3 3,iL 12 11,iO 13 (.callb fH [.t 10,.t 12,.c (.int .i64 4)] [true,false,false]),iM 5 13]
 (sO [iF 14 0 3,iL 15 14]
 (.block 0 (sO [iE 30 .eql 15 21,iM 29 30]
 (.cond (.t 29) (.ops [iM 31 0,iM 32 4,iM 33 5,iO 34 (.build [zI,zI,zI,zI,zI,zI] [(0,1,.c (.int .i64 9)),(2,1,.t 32),(3,1,.t 33)]),iO 35 (.callb cG [.t 31,.t 34] [true,false])])
 (sO [iE 37 .eql 15 26,iM 36 37]
 (.cond (.t 36) (.ops [iM 38 0,iM 39 4,iM 40 5,iO 41 (.build [zI,zI,zI,zI,zI,zI] [(0,1,.c (.int .i64 16)),(2,1,.t 39),(3,1,.t 40)]),iO 42 (.callb cG [.t 38,.t 41] [true,false])])
 (sO [iE 44 .eql 15 27,iM 43 44]
 (.cond (.t 43) (.ops [iM 45 0,iM 46 4,iM 47 5,iO 48 (.build [zI,zI,zI,zI,zI,zI] [(0,1,.c (.int .i64 17)),(2,1,.t 46),(3,1,.t 47)]),iO 49 (.callb cG [.t 45,.t 48] [true,false])])
 (sO [iM 16 0,iF 17 0 3,iL 18 17,iO 19 (.ari .add (kI 3) (.t 18)),iO 20 (.ari .sub (.t 19) (kI 3)),iM 21 4,iM 22 5,iO 23 (.build [zI,zI,zI,zI,zI,zI] [(0,1,.t 20),(1,1,.c (.int .i64 5)),(2,1,.t 21),(3,1,.t 22)]),iO 24 (.callb cG [.t 16,.t 23] [true,false])]
 (.ops [iM 25 0,iF 26 1 3,iL 27 26,iO 28 (.callb dZ [.t 25,.t 27,.c (.int .i64 5)] [true,false,false])]))))))))))))
def vU:SFn:=⟨2,50,eE,[]⟩
def iD:SCode :=
 sO [iO 3 (.vbox 7 (.t 1))]
 (sO [iM 5 0,iF 6 2 3,iL 7 6,iO 8 (.callb fH [.t 5,.t 7,.c (.int .i64 3)] [true,false,false]),iM 4 8]
 (sO [iF 9 0 3,iL 10 9]
 (.block 0 (sO [iE 12 .eql 10 2,iM 11 12]
 (.cond (.t 11) (.ops [iM 13 0,iF 14 1 3,iL 15 14,iM 16 4,iO 17 (.callb dZ [.t 13,.t 15,.t 16] [true,false,false])])
 (sO [iE 19 .eql 10 10,iM 18 19]
 (.cond (.t 18) (.ops [iM 20 0,iM 21 4,iO 22 (.build [zI,zI,zI,zI,zI,zI] [(0,1,.c (.int .i64 12)),(2,1,.t 21)]),iM 23 0,iF 24 4 3,iL 25 24,iO 26 (.callr m5 [.t 23,.t 25]),iO 27 (.callb pJ [.t 20,.t 22,.t 26] [true,false,false])])
 (sO [iE 29 .eql 10 12,iM 28 29]
 (.cond (.t 28) (sO [iM 30 0,iM 31 4,iO 32 (.build [zI,zI,zI,zI,zI,zI] [(0,1,.c (.int .i64 2)),(2,1,.t 31)]),iO 33 (.callb cG [.t 30,.t 32] [true,false])]
 (.ops [iM 34 0,iO 35 (.build [zI,zI,zI,zI,zI,zI] [(0,1,.c (.int .i64 14))]),iO 36 (.callb cG [.t 34,.t 35] [true,false])]))
 (sO [iE 38 .eql 10 20,iM 37 38]
 (.cond (.t 37) (sO [iM 39 0,iM 40 4,iO 41 (.build [zI,zI,zI,zI,zI,zI] [(0,1,.c (.int .i64 8)),(1,1,.c (.int .i64 5)),(2,1,.t 40)]),iO 42 (.callb cG [.t 39,.t 41] [true,false])]
 (.ops [iM 43 0,iF 44 1 3,iL 45 44,iO 46 (.callb dZ [.t 43,.t 45,.c (.int .i64 5)] [true,false,false])]))
 (sO [iE 48 .eql 10 25,iM 47 48]
 (.cond (.t 47) (.ops [iM 49 0,iM 50 4,iO 51 (.build [zI,zI,zI,zI,zI,zI] [(0,1,.c (.int .i64 15)),(2,1,.t 50)]),iO 52 (.callb cG [.t 49,.t 51] [true,false])])
 (sO [iE 54 .eql 10 28,iM 53 54]
 (.cond (.t 53) (.ops [iM 55 0,iM 56 4,iO 57 (.build [zI,zI,zI,zI,zI,zI] [(0,1,.c (.int .i64 19)),(2,1,.t 56)]),iO 58 (.callb cG [.t 55,.t 57] [true,false])])
 (.skip))))))))))))))))
def wH:SFn:=⟨2,59,iD,[]⟩
def Es:SCode :=
 sO [iO 6 (.mov (kB false))]
 (sO [iM 7 0,iM 8 1,iV 9 .geq 7 8,iM 10 9,iT 11 10 (.mov (.t 0)),iT 12 10 (.mov (.t 2)),iT 13 10 (.cmp .leq (.t 11) (.t 12)),iO 14 (.pick (.t 10) (.t 13) (kB false)),iM 6 14]
 (.ret))
def v7:SFn:=⟨3,15,Es,[.t 6]⟩
def Hb:SCode :=
 sO [iO 2 (.vbox 7 (.t 0)),iO 3 (.box 1 (.t 1)),iO 4 (.mov (kB false))]
 (.seq (sO [iF 5 0 2,iL 6 5,iO 7 (.callr D5 [.t 6]),iO 8 (.cmp .eql (.t 7) (.c (.string ⟨#[]⟩))),iM 9 8,iU 10 9 (.faddr 4 (.t 2)),iU 11 9 (.load none (.t 10)),iU 12 9 (.callr uW [.t 11]),iU 13 9 (.not (.t 12)),iO 14 (.pick (.t 9) (kB true) (.t 13)),iM 15 14,iU 16 15 (.load (some 7) (.t 2)),iU 17 15 (.load none (.t 3)),iU 18 15 (.callr Bd [.t 16,.t 17]),iU 19 15 (.not (.t 18)),iO 20 (.pick (.t 15) (kB true) (.t 19))]
 (.cond (.t 20) (sO [iO 4 (.mov (kB false))]
 (.ret))
 (.skip)))
 (.seq (sO [iF 21 0 2,iL 22 21,iO 23 (.callr eA [.t 22,.c (.int .u8 68)]),iO 24 (.not (.t 23)),iM 25 24,iT 26 25 (.faddr 1 (.t 2)),iT 27 25 (.load none (.t 26)),iT 28 25 (.cmp .neq (.t 27) (kI 0)),iO 29 (.pick (.t 25) (.t 28) (kB false)),iM 30 29,iU 31 30 (.faddr 0 (.t 2)),iU 32 30 (.load none (.t 31)),iU 33 30 (.callr eA [.t 32,.c (.int .u8 65)]),iU 34 30 (.not (.t 33)),iU 35 30 (.mov (.t 34)),iT 36 35 (.faddr 2 (.t 2)),iT 37 35 (.load none (.t 36)),iT 38 35 (.cmp .neq (.t 37) (kI 0)),iU 39 30 (.pick (.t 35) (.t 38) (kB false)),iO 40 (.pick (.t 30) (kB true) (.t 39)),iM 41 40,iU 42 41 (.faddr 0 (.t 2)),iU 43 41 (.load none (.t 42)),iU 44 41 (.callr eA [.t 43,.c (.int .u8 66)]),iU 45 41 (.not (.t 44)),iU 46 41 (.mov (.t 45)),iT 47 46 (.faddr 3 (.t 2)),iT 48 46 (.load none (.t 47)),iT 49 46 (.cmp .neq (.t 48) (kI 0)),iU 50 41 (.pick (.t 46) (.t 49) (kB false)),iO 51 (.pick (.t 41) (kB true) (.t 50)),iM 52 51,iU 53 52 (.faddr 0 (.t 2)),iU 54 52 (.load none (.t 53)),iU 55 52 (.callr eA [.t 54,.c (.int .u8 78)]),iU 56 52 (.not (.t 55)),iU 57 52 (.mov (.t 56)),iT 58 57 (.faddr 4 (.t 2)),iT 59 57 (.load none (.t 58)),iT 60 57 (.cmp .neq (.t 59) (kI 0)),iU 61 52 (.pick (.t 57) (.t 60) (kB false)),iO 62 (.pick (.t 52) (kB true) (.t 61)),iM 63 62,iU 64 63 (.faddr 0 (.t 2)),iU 65 63 (.load none (.t 64)),iU 66 63 (.callr eA [.t 65,.c (.int .u8 83)]),iU 67 63 (.not (.t 66)),iU 68 63 (.mov (.t 67)),iT 69 68 (.faddr 5 (.t 2)),iT 70 68 (.load none (.t 69)),iT 71 68 (.cmp .neq (.t 70) (.c (.string ⟨#[]⟩))),iU 72 63 (.pick (.t 68) (.t 71) (kB false)),iO 73 (.pick (.t 63) (kB true) (.t 72))]
 (.cond (.t 73) (sO [iO 4 (.mov (kB false))]
 (.ret))
 (.skip)))
 (.seq (.opsd [⟨iK 74 7 2,0,[]⟩,⟨iK 76 7 2,2,[]⟩,⟨iO 79 (.fn jT [.t 3]),5,[]⟩,⟨iO 75 (.call sC [.t 74]),1,[iK 76 7 2,iO 79 (.fn jT [.t 3])]⟩,⟨iO 77 (.call wY [.t 76]),3,[iO 79 (.fn jT [.t 3])]⟩,⟨iO 78 (.app 1 8 (.t 75) (.t 77)),4,[iO 79 (.fn jT [.t 3])]⟩,⟨iO 80 (.calli (.f fJ) [.t 78,.t 79]),6,[]⟩,⟨iO 81 (.not (.t 80)),7,[]⟩,⟨iM 4 81,8,[]⟩])
 (.ret))))
def y5:SFn:=⟨2,82,Hb,[.t 4]⟩
def A9:SCode :=
 sO [iO 3 (.box 1 (.t 1)),iO 4 (.mov (kI 0))]
 (sO [iM 5 0,iO 6 (.fn oV [.t 3]),iO 7 (.calli (.f cB) [.t 5,.t 6]),iM 4 7]
 (.ret))
def tA:SFn:=⟨2,8,A9,[.t 4]⟩
def bI:SCode :=
 sO [iV 9 .lss 8 7]
 (.seq (.cond (.t 9) (.skip)
 (.seq (.keep []) (.exit 0)))
 (.seq (.block 1 (sO [iM 10 8,iM 5 10]
 (sO [iM 11 1,iM 12 0,iM 13 5,iO 14 (.ixa 7 (.t 12) (.t 13)),iK 15 7 14,iO 16 (.calli (.t 11) [.t 15])]
 (.cond (.t 16) (sO [iM 17 5,iM 4 17]
 (.seq (.keep [4]) .ret))
 (.skip)))))
 (.ops [iO 18 (.ari .add (.t 8) (kI 1)),iM 8 18])))
def dF:SCode :=
 sO [iO 4 (.mov (kI 0))]
 (.seq (sO [iM 6 0,iO 7 (.len (.t 6)),iO 8 (.mov (kI 0))]
 (.block 0 (.loop [0,1,7,8] bI)))
 (sO [iO 4 (.mov (kI (-1)))]
 (.ret)))
def dI:SFn:=⟨2,19,dF,[.t 4]⟩
def oS:SCode :=
 sO [iV 24 .lss 23 22]
 (.seq (.cond (.t 24) (.skip)
 (.seq (.keep [1,4,5]) (.exit 0)))
 (.seq (.block 1 (sO [iM 25 23,iM 6 25]
 (.ops [iM 26 4,iM 27 6,iM 28 5,iM 29 6,iO 30 (.ixa 1 (.t 26) (.t 27)),iN (.store 1 (.t 30) (kI (-1))),iO 31 (.ixa 1 (.t 28) (.t 29)),iN (.store 1 (.t 31) (kI (-1)))])))
 (.ops [iO 32 (.ari .add (.t 23) (kI 1)),iM 23 32])))
def oJ:SCode :=
 sO [iV 55 .lss 54 53]
 (.seq (.cond (.t 55) (.skip)
 (.seq (.keep [4,5,7,36,37,38]) (.exit 4)))
 (.seq (.block 5 (sO [iO 56 (.ixa 1 (.t 52) (.t 54)),iL 57 56,iM 11 57]
 (.seq (sO [iM 58 4,iM 59 11,iO 60 (.ixa 1 (.t 58) (.t 59)),iL 61 60,iE 62 .lss 61 0]
 (.cond (.t 62) (.ops [iM 63 4,iM 64 11,iM 65 8,iO 66 (.ixa 1 (.t 63) (.t 64)),iN (.store 1 (.t 66) (.t 65))])
 (.skip)))
 (.ops [iM 67 5,iM 68 11,iM 69 8,iO 70 (.ixa 1 (.t 67) (.t 68)),iN (.store 1 (.t 70) (.t 69))]))))
 (.ops [iO 71 (.ari .add (.t 54) (kI 1)),iM 54 71])))
def oN:SCode :=
 sO [iV 39 .lss 38 37]
 (.seq (.cond (.t 39) (.skip)
 (.seq (.keep [4,5]) (.exit 2)))
 (.seq (.block 3 (sO [iM 40 38,iO 41 (.ixa 7 (.t 36) (.t 38)),iK 42 7 41,iO 9 (.alloc [zI,zI,zI,zI,zI,zS,.s 1 []]),iM 8 40,iN (.store 7 (.t 9) (.t 42))]
 (.seq (.opsd [⟨iK 43 7 9,0,[]⟩,⟨iO 44 (.callr sC [.t 43]),1,[]⟩,⟨iK 45 7 9,2,[]⟩,⟨iO 46 (.callr wY [.t 45]),3,[]⟩,⟨iM 47 7,4,[]⟩,⟨iM 48 8,5,[]⟩,⟨iO 49 (.ixa 1 (.t 47) (.t 48)),6,[]⟩,⟨iL 50 49,7,[]⟩,⟨iO 54 (.mov (kI 0)),11,[]⟩,⟨iO 51 (.lit 1 [.t 44,.t 46,.t 50]),8,[iO 54 (.mov (kI 0))]⟩,⟨iO 52 (.callr kM [.t 51]),9,[]⟩,⟨iO 53 (.len (.t 52)),10,[]⟩])
 (.block 4 (.loop [4,5,7,8,36,37,38,52,53,54] oJ)))))
 (.ops [iO 72 (.ari .add (.t 38) (kI 1)),iM 38 72])))
def Ig:SCode :=
 sO [iO 1 (.vbox 4 (.t 0)),iO 2 (.mov (.n 1)),iO 3 (.mov (.n 1))]
 (.seq (sO [iK 12 4 1,iO 13 (.callr lI [.t 12]),iO 14 (.not (.t 13))]
 (.cond (.t 14) (sO [iO 2 (.mov (.n 1)),iO 3 (.mov (.n 1))]
 (.ret))
 (.skip)))
 (.seq (.opsd [⟨iF 15 2 1,0,[]⟩,⟨iL 16 15,1,[]⟩,⟨iF 18 2 1,3,[]⟩,⟨iL 19 18,4,[]⟩,⟨iO 17 (.mk 1 8 [zI] (.t 16)),2,[]⟩,⟨iM 4 17,6,[]⟩,⟨iO 20 (.mk 1 8 [zI] (.t 19)),5,[]⟩,⟨iM 5 20,7,[]⟩])
 (.seq (sO [iF 21 2 1,iL 22 21,iO 23 (.mov (kI 0))]
 (.block 0 (.loop [1,4,5,22,23] oS)))
 (sO [iK 33 4 1,iO 34 (.callr r6 [.t 33]),iM 7 34]
 (.seq (sO [iF 35 3 1,iL 36 35,iO 37 (.len (.t 36)),iO 38 (.mov (kI 0))]
 (.block 2 (.loop [4,5,7,36,37,38] oN)))
 (sO [iM 73 4,iM 74 5,iM 2 73,iM 3 74]
 (.ret)))))))
def zX:SFn:=⟨1,75,Ig,[.t 2,.t 3]⟩
def i4:SCode :=
 sO [iV 37 .lss 36 35]
 (.seq (.cond (.t 37) (.skip)
 (.seq (.keep [1,3,14,15,16]) (.exit 2)))
 (.seq (.block 3 (sO [iO 38 (.ixa 1 (.t 34) (.t 36)),iL 39 38,iM 8 39]
 (sO [iK 40 7 6,iO 41 (.callr sC [.t 40]),iM 42 8,iO 43 (.callr eR [.t 41,.t 42]),iO 44 (.not (.t 43))]
 (.cond (.t 44) (.ops [iM 45 3,iM 46 8,iO 47 (.lit 1 [.t 46]),iO 48 (.app 1 8 (.t 45) (.t 47)),iM 3 48])
 (.skip)))))
 (.ops [iO 49 (.ari .add (.t 36) (kI 1)),iM 36 49])))
def lZ:SCode :=
 sO [iV 17 .lss 16 15]
 (.seq (.cond (.t 17) (.skip)
 (.seq (.keep [3]) (.exit 0)))
 (.seq (.block 1 (sO [iM 18 16,iO 19 (.ixa 1 (.t 14) (.t 16)),iL 20 19,iM 4 18,iM 5 20]
 (sO [iF 21 3 1,iL 22 21,iM 23 4,iO 24 (.ixa 7 (.t 22) (.t 23)),iK 25 7 24,iO 6 (.alloc [zI,zI,zI,zI,zI,zS,.s 1 []]),iN (.store 7 (.t 6) (.t 25))]
 (.seq (sO [iF 26 0 6,iL 27 26,iE 28 .neq 27 11,iM 29 28,iT 30 29 (.faddr 0 (.t 6)),iT 31 29 (.load none (.t 30)),iT 32 29 (.cmp .neq (.t 31) (kI 27)),iO 33 (.pick (.t 29) (.t 32) (kB false))]
 (.cond (.t 33) (.exit 1)
 (.skip)))
 (sO [iM 34 5,iO 35 (.len (.t 34)),iO 36 (.mov (kI 0))]
 (.block 2 (.loop [1,3,6,14,15,16,34,35,36] i4)))))))
 (.ops [iO 50 (.ari .add (.t 16) (kI 1)),iM 16 50])))
def Do:SCode :=
 sO [iO 1 (.vbox 4 (.t 0)),iO 2 (.mov (.n 1))]
 (.seq (sO [iK 9 4 1,iO 10 (.callr lI [.t 9]),iO 11 (.not (.t 10))]
 (.cond (.t 11) (sO [iO 2 (.mov (.n 1))]
 (.ret))
 (.skip)))
 (sO [iO 12 (.lit 1 []),iM 3 12]
 (.seq (sO [iK 13 4 1,iO 14 (.callr r6 [.t 13]),iO 15 (.len (.t 14)),iO 16 (.mov (kI 0))]
 (.block 0 (.loop [1,3,14,15,16] lZ)))
 (sO [iM 51 3,iO 52 (.callb iX [.t 51] [true])]
 (sO [iM 53 3,iO 54 (.callb fI [.t 53] [true]),iM 2 54]
 (.ret))))))
def tQ:SFn:=⟨1,55,Do,[.t 2]⟩
def iQ:SCode :=
 .ops [iM 4 0,iM 5 0,iO 6 (.len (.t 5)),iM 7 1,iO 8 (.calli (.f hX) [.t 4,.t 6,.t 7])]
def d9:SFn:=⟨2,9,iQ,[]⟩
def Bw:SCode :=
 sO [iO 5 (.mov (kI 0))]
 (sO [iL 6 2,iM 7 0,iO 8 (.ixa 1 (.t 6) (.t 7)),iL 9 8,iL 10 2,iM 11 1,iO 12 (.ixa 1 (.t 10) (.t 11)),iL 13 12,iO 14 (.ari .sub (.t 9) (.t 13)),iM 5 14]
 (.ret))
def tM:SFn:=⟨3,15,Bw,[.t 5]⟩
def bD:SCode :=
 sO [iV 9 .lss 8 7]
 (.seq (.cond (.t 9) (.skip)
 (.seq (.keep []) (.exit 0)))
 (.seq (.block 1 (sO [iM 10 8,iM 5 10]
 (sO [iM 11 1,iM 12 0,iM 13 5,iO 14 (.ixa 1 (.t 12) (.t 13)),iL 15 14,iO 16 (.cmpb .eql (.t 11) (.t 15))]
 (.cond (.t 16) (sO [iM 17 5,iM 4 17]
 (.seq (.keep [4]) .ret))
 (.skip)))))
 (.ops [iO 18 (.ari .add (.t 8) (kI 1)),iM 8 18])))
def m6:SCode :=
 sO [iO 4 (.mov (kI 0))]
 (.seq (sO [iM 6 0,iO 7 (.len (.t 6)),iO 8 (.mov (kI 0))]
 (.block 0 (.loop [0,1,7,8] bD)))
 (sO [iO 4 (.mov (kI (-1)))]
 (.ret)))
def iI:SFn:=⟨2,19,m6,[.t 4]⟩
def mR:SCode :=
 sO [iO 4 (.mov (kB false))]
 (sO [iM 5 0,iM 6 1,iO 7 (.callr lN [.t 5,.t 6]),iE 8 .geq 7 0,iM 4 8]
 (.ret))
def gP:SFn:=⟨2,9,mR,[.t 4]⟩
def tE:SCode :=
 sO [iO 4 (.vbox 6 (.t 1))]
 (.opsd [⟨iM 6 0,0,[]⟩,⟨iM 7 0,1,[]⟩,⟨iO 8 (.nck (.t 7)),2,[]⟩,⟨iF 9 6 8,3,[]⟩,⟨iL 10 9,4,[]⟩,⟨iK 11 6 4,5,[]⟩,⟨iM 12 2,6,[]⟩,⟨iO 13 (.build [zS,zI,zI,zI,zI,zI,zI,zS] [(1,6,.t 11),(7,1,.t 12)]),7,[]⟩,⟨iO 14 (.lit 8 [.t 13]),8,[iM 6 0,iM 7 0,iO 8 (.nck (.t 7)),iF 9 6 8,iL 10 9]⟩,⟨iO 15 (.app 8 80 (.t 10) (.t 14)),9,[iM 6 0]⟩,⟨iO 16 (.nck (.t 6)),10,[]⟩,⟨iF 17 6 16,11,[]⟩,⟨iN (.store 1 (.t 17) (.t 15)),12,[]⟩])
def nV:SFn:=⟨3,18,tE,[]⟩
def rP:SCode :=
 sO [iM 7 0,iO 8 (.nck (.t 7)),iF 9 4 8,iL 10 9,iM 11 1,iO 12 (.ixa 1 (.t 10) (.t 11)),iL 13 12,iM 6 13]
 (.block 0 (sO [iM 15 6,iE 16 .geq 15 10,iM 14 16]
 (.cond (.t 14) (.ops [iM 17 0,iM 18 2,iM 19 6,iO 20 (.ari .add (kI 2) (.t 19)),iO 21 (.ari .sub (.t 20) (kI 10)),iO 22 (.build [zI,zI,zI,zI,zI,zI] [(0,1,.c (.int .i64 9)),(2,1,.c (.int .i64 6)),(3,1,.t 18),(4,1,.t 21)]),iO 23 (.callb bG [.t 17,.t 22,.c (.string ⟨#[]⟩)] [true,false,false])])
 (sO [iM 25 6,iE 26 .geq 25 0,iM 27 26,iT 28 27 (.mov (.t 6)),iT 29 27 (.mov (.t 2)),iT 30 27 (.cmp .neq (.t 28) (.t 29)),iO 31 (.pick (.t 27) (.t 30) (kB false)),iM 24 31]
 (.cond (.t 24) (.ops [iM 32 0,iM 33 6,iM 34 2,iO 35 (.build [zI,zI,zI,zI,zI,zI] [(0,1,.c (.int .i64 2)),(1,1,.t 33),(2,1,.t 34)]),iO 36 (.callb bG [.t 32,.t 35,.c (.string ⟨#[]⟩)] [true,false,false])])
 (.skip))))))
def mZ:SFn:=⟨3,37,rP,[]⟩
def rR:SCode :=
 sO [iO 6 (.mov (kI 0))]
 (sO [iM 8 0,iO 9 (.nck (.t 8)),iF 10 4 9,iL 11 10,iM 12 1,iO 13 (.ixa 1 (.t 11) (.t 12)),iL 14 13,iM 7 14]
 (.seq (sO [iM 15 7,iE 16 .lss 15 10]
 (.cond (.t 16) (sO [iM 17 7,iM 6 17]
 (.ret))
 (.skip)))
 (sO [iM 18 0,iM 19 2,iM 20 7,iO 21 (.ari .add (kI 2) (.t 20)),iO 22 (.ari .sub (.t 21) (kI 10)),iO 23 (.build [zI,zI,zI,zI,zI,zI] [(0,1,.c (.int .i64 8)),(1,1,.t 19),(2,1,.c (.int .i64 6)),(4,1,.t 22)]),iO 24 (.callb bG [.t 18,.t 23,.c (.string ⟨#[]⟩)] [true,false,false])]
 (sO [iM 25 2,iM 6 25]
 (.ret)))))
def mV:SFn:=⟨3,26,rR,[.t 6]⟩
def qE:SCode :=
 sO [iO 4 (.mov (.c (.string ⟨#[]⟩)))]
 (sO [iM 5 0,iO 6 (.nck (.t 5)),iF 7 0 6,iF 8 0 7,iL 9 8,iO 10 (.cat (.t 9) (.c (.string ⟨#[46]⟩))),iM 11 1,iO 12 (.callr jK [.t 11]),iO 13 (.cat (.t 10) (.t 12)),iM 4 13]
 (.ret))
def lG:SFn:=⟨2,14,qE,[.t 4]⟩
def gK:SCode :=
 sO [iV 11 .lss 10 9]
 (.seq (.cond (.t 11) (.skip)
 (.seq (.keep [0,3]) (.exit 0)))
 (.seq (.block 1 (sO [iM 12 10,iO 13 (.ixa 1 (.t 8) (.t 10)),iL 14 13,iM 4 12,iM 5 14]
 (sO [iM 15 0,iM 16 5,iO 17 (.callb bW [.t 15,.t 16,.c (.int .i64 3)] [true,false,false]),iM 6 17]
 (.ops [iM 18 0,iM 19 6,iM 20 0,iO 21 (.nck (.t 20)),iF 22 5 21,iL 23 22,iO 24 (.ari .add (.t 23) (kI 2)),iM 25 4,iO 26 (.ari .add (.t 24) (.t 25)),iO 27 (.build [zI,zI,zI,zI,zI,zI] [(0,1,.c (.int .i64 9)),(2,1,.c (.int .i64 6)),(3,1,.t 19),(4,1,.t 26)]),iO 28 (.callb bG [.t 18,.t 27,.c (.string ⟨#[]⟩)] [true,false,false])]))))
 (.ops [iO 29 (.ari .add (.t 10) (kI 1)),iM 10 29])))
def rS:SCode :=
 sO [iO 3 (.vbox 7 (.t 1))]
 (.seq (sO [iF 7 6 3,iL 8 7,iO 9 (.len (.t 8)),iO 10 (.mov (kI 0))]
 (.block 0 (.loop [0,3,8,9,10] gK)))
 (sO [iM 30 0,iM 31 0,iO 32 (.nck (.t 31)),iF 33 5 32,iL 34 33,iO 35 (.build [zI,zI,zI,zI,zI,zI] [(0,1,.c (.int .i64 13)),(5,1,.t 34)]),iF 36 5 3,iL 37 36,iO 38 (.callb bG [.t 30,.t 35,.t 37] [true,false,false])]
 (.ops [iM 39 0,iF 40 1 3,iL 41 40,iO 42 (.callb cN [.t 39,.t 41,.c (.int .i64 0)] [true,false,false])])))
def mY:SFn:=⟨2,43,rS,[]⟩
def gJ:SCode :=
 sO [iO 3 (.vbox 7 (.t 1))]
 (sO [iM 7 0,iF 8 2 3,iL 9 8,iO 10 (.callb bW [.t 7,.t 9,.c (.int .i64 3)] [true,false,false]),iM 4 10]
 (.seq (sO [iF 11 0 3,iL 12 11,iE 13 .eql 12 20]
 (.cond (.t 13) (sO [iM 14 0,iM 15 4,iO 16 (.build [zI,zI,zI,zI,zI,zI] [(0,1,.c (.int .i64 8)),(1,1,.c (.int .i64 5)),(2,1,.t 15)]),iO 17 (.callb bG [.t 14,.t 16,.c (.string ⟨#[]⟩)] [true,false,false])]
 (sO [iM 18 0,iF 19 1 3,iL 20 19,iO 21 (.callb cN [.t 18,.t 20,.c (.int .i64 5)] [true,false,false])]
 (.ret)))
 (.skip)))
 (sO [iM 22 0,iF 23 3 3,iL 24 23,iO 25 (.callb bW [.t 22,.t 24,.c (.int .i64 4)] [true,false,false]),iM 5 25]
 (.seq (sO [iF 26 0 3,iL 27 26,iE 28 .eql 27 21]
 (.cond (.t 28) (sO [iM 29 0,iM 30 4,iM 31 5,iO 32 (.build [zI,zI,zI,zI,zI,zI] [(0,1,.c (.int .i64 9)),(2,1,.t 30),(3,1,.t 31)]),iO 33 (.callb bG [.t 29,.t 32,.c (.string ⟨#[]⟩)] [true,false,false])]
 (.ret))
 (.skip)))
 (sO [iM 34 0,iM 35 5,iO 36 (.build [zI,zI,zI,zI,zI,zI] [(0,1,.c (.int .i64 2)),(1,1,.c (.int .i64 5)),(2,1,.t 35)]),iO 37 (.callb bG [.t 34,.t 36,.c (.string ⟨#[]⟩)] [true,false,false])]
 (sO [iM 38 0,iF 39 6 3,iL 40 39,iO 41 (.ixa 1 (.t 40) (kI 0)),iL 42 41,iO 43 (.callb bW [.t 38,.t 42,.c (.int .i64 4)] [true,false,false]),iM 6 43]
 (sO [iM 44 0,iM 45 4,iM 46 6,iO 47 (.build [zI,zI,zI,zI,zI,zI] [(0,1,.c (.int .i64 10)),(1,1,.c (.int .i64 5)),(2,1,.t 45),(3,1,.t 46)]),iO 48 (.callb bG [.t 44,.t 47,.c (.string ⟨#[]⟩)] [true,false,false])]
 (.ops [iM 49 0,iF 50 1 3,iL 51 50,iO 52 (.callb cN [.t 49,.t 51,.c (.int .i64 5)] [true,false,false])]))))))))
def kJ:SFn:=⟨2,53,gJ,[]⟩
def eN:SCode :=
 sO [iO 3 (.vbox 7 (.t 1))]
 (sO [iO 5 (.build [zI,zI,zI,zI,zI,zI] []),iO 4 (.alloc [zI,zI,zI,zI,zI,zI]),iN (.store 6 (.t 4) (.t 5))]
 (sO [iM 6 0,iF 7 2 3,iL 8 7,iO 9 (.callb bW [.t 6,.t 8,.c (.int .i64 3)] [true,false,false]),iF 10 2 4,iN (.store 1 (.t 10) (.t 9))]
 (.seq (sO [iF 11 0 3,iL 12 11]
 (.block 0 (sO [iE 14 .eql 12 25,iM 13 14]
 (.cond (.t 13) (.ops [iF 15 0 4,iN (.store 1 (.t 15) (kI 15))])
 (sO [iE 17 .eql 12 28,iM 16 17]
 (.cond (.t 16) (.ops [iF 18 0 4,iN (.store 1 (.t 18) (kI 19))])
 (sO [iE 20 .eql 12 26,iM 19 20]
 (.cond (.t 19) (.ops [iF 21 0 4,iN (.store 1 (.t 21) (kI 16))])
 (sO [iE 23 .eql 12 27,iM 22 23]
 (.cond (.t 22) (.ops [iF 24 0 4,iN (.store 1 (.t 24) (kI 17))])
 (.skip)))))))))))
 (.seq (sO [iF 25 0 3,iL 26 25,iE 27 .eql 26 26,iM 28 27,iU 29 28 (.faddr 0 (.t 3)),iU 30 28 (.load none (.t 29)),iU 31 28 (.cmp .eql (.t 30) (kI 27)),iO 32 (.pick (.t 28) (kB true) (.t 31))]
 (.cond (.t 32) (.ops [iM 33 0,iF 34 3 3,iL 35 34,iO 36 (.callb bW [.t 33,.t 35,.c (.int .i64 4)] [true,false,false]),iF 37 3 4,iN (.store 1 (.t 37) (.t 36))])
 (.skip)))
 (.ops [iM 38 0,iK 39 6 4,iO 40 (.callb bG [.t 38,.t 39,.c (.string ⟨#[]⟩)] [true,false,false])])))))
def lX:SFn:=⟨2,41,eN,[]⟩
def Hh:SCode :=
 sO [iO 2 (.vbox 6 (.t 0)),iO 3 (.vbox 6 (.t 1)),iO 4 (.mov (kB false))]
 (.seq (sO [iF 5 0 2,iL 6 5,iF 7 0 3,iL 8 7,iV 9 .neq 6 8]
 (.cond (.t 9) (sO [iO 4 (.mov (kB false))]
 (.ret))
 (.skip)))
 (.seq (sO [iF 10 1 2,iL 11 10,iF 12 1 3,iL 13 12,iV 14 .neq 11 13]
 (.cond (.t 14) (sO [iO 4 (.mov (kB false))]
 (.ret))
 (.skip)))
 (.seq (sO [iF 15 2 2,iL 16 15,iF 17 2 3,iL 18 17,iV 19 .neq 16 18]
 (.cond (.t 19) (sO [iO 4 (.mov (kB false))]
 (.ret))
 (.skip)))
 (.seq (sO [iF 20 3 2,iL 21 20,iF 22 3 3,iL 23 22,iV 24 .neq 21 23]
 (.cond (.t 24) (sO [iO 4 (.mov (kB false))]
 (.ret))
 (.skip)))
 (.seq (sO [iF 25 4 2,iL 26 25,iF 27 4 3,iL 28 27,iV 29 .neq 26 28]
 (.cond (.t 29) (sO [iO 4 (.mov (kB false))]
 (.ret))
 (.skip)))
 (.seq (sO [iF 30 5 2,iL 31 30,iF 32 5 3,iL 33 32,iV 34 .neq 31 33]
 (.cond (.t 34) (sO [iO 4 (.mov (kB false))]
 (.ret))
 (.skip)))
 (sO [iO 4 (.mov (kB true))]
 (.ret))))))))
def yP:SFn:=⟨2,35,Hh,[.t 4]⟩
def Fb:SCode :=
 sO [iO 4 (.mov (kI 0))]
 (sO [iM 5 1,iM 6 0,iO 7 (.len (.t 6)),iO 8 (.ari .sub (.t 5) (.t 7)),iM 1 8]
 (.seq (sO [iM 9 1,iE 10 .lss 9 0]
 (.cond (.t 10) (sO [iO 4 (.mov (kI (-1)))]
 (.ret))
 (.skip)))
 (sO [iM 11 1,iM 4 11]
 (.ret))))
def vO:SFn:=⟨2,12,Fb,[.t 4]⟩
def Dy:SCode :=
 sO [iO 2 (.vbox 4 (.t 0)),iO 4 (.mov (.n 1))]
 (sO [iF 7 3 2,iL 8 7,iM 9 1,iO 10 (.ixa 7 (.t 8) (.t 9)),iK 11 7 10,iO 5 (.alloc [zI,zI,zI,zI,zI,zS,.s 1 []]),iN (.store 7 (.t 5) (.t 11))]
 (sO [iF 12 3 2,iL 13 12,iF 14 4 5,iL 15 14,iO 16 (.callr kH [.t 13,.t 15]),iM 6 16]
 (.seq (sO [iF 17 0 5,iL 18 17]
 (.block 0 (.seq (sO [iE 20 .eql 18 12,iM 19 20]
 (.cond (.t 19) (.skip)
 (.ops [iE 21 .eql 18 28,iM 19 21])))
 (.cond (.t 19) (sO [iO 22 (.lit 1 []),iM 4 22]
 (.ret))
 (sO [iE 24 .eql 18 9,iM 23 24]
 (.cond (.t 23) (sO [iM 25 6,iO 26 (.lit 1 [.t 25]),iM 4 26]
 (.ret))
 (sO [iE 28 .eql 18 10,iM 27 28]
 (.cond (.t 27) (.seq (sO [iM 29 6,iM 30 1,iO 31 (.ari .add (.t 30) (kI 1)),iV 32 .lss 29 31]
 (.cond (.t 32) (sO [iM 33 6,iM 34 1,iO 35 (.ari .add (.t 34) (kI 1)),iO 36 (.lit 1 [.t 33,.t 35]),iM 4 36]
 (.ret))
 (.skip)))
 (sO [iM 37 6,iM 38 1,iO 39 (.ari .add (.t 38) (kI 1)),iV 40 .gtr 37 39]
 (.cond (.t 40) (sO [iM 41 1,iO 42 (.ari .add (.t 41) (kI 1)),iM 43 6,iO 44 (.lit 1 [.t 42,.t 43]),iM 4 44]
 (.ret))
 (.skip))))
 (.skip)))))))))
 (sO [iM 45 1,iO 46 (.ari .add (.t 45) (kI 1)),iO 47 (.lit 1 [.t 46]),iM 4 47]
 (.ret)))))
def sJ:SFn:=⟨2,48,Dy,[.t 4]⟩
def oL:SCode :=
 .seq (sO [iM 15 7,iM 16 6,iO 17 (.len (.t 16)),iV 18 .lss 15 17]
 (.cond (.t 18) (.skip)
 (.seq (.keep [2,5]) (.exit 0))))
 (.seq (.block 1 (.ops [iM 21 5,iM 22 6,iM 23 7,iO 24 (.ixa 1 (.t 22) (.t 23)),iL 25 24,iO 26 (.ixa 1 (.t 21) (.t 25)),iN (.store 1 (.t 26) (kB false))]))
 (.ops [iM 19 7,iO 20 (.ari .add (.t 19) (kI 1)),iM 7 20]))
def oW:SCode :=
 .seq (sO [iM 29 9,iM 30 8,iO 31 (.len (.t 30)),iV 32 .lss 29 31]
 (.cond (.t 32) (.skip)
 (.seq (.keep [5]) (.exit 2))))
 (.seq (.block 3 (.ops [iM 35 5,iM 36 8,iM 37 9,iO 38 (.ixa 1 (.t 36) (.t 37)),iL 39 38,iO 40 (.ixa 1 (.t 35) (.t 39)),iN (.store 1 (.t 40) (kB true))]))
 (.ops [iM 33 9,iO 34 (.ari .add (.t 33) (kI 1)),iM 9 34]))
def G4:SCode :=
 sO [iO 2 (.vbox 7 (.t 0)),iO 4 (.mov (.n 1))]
 (sO [iO 10 (.lit 1 []),iM 11 1,iO 12 (.app 1 1 (.t 10) (.t 11)),iM 5 12]
 (sO [iK 13 7 2,iO 14 (.callr sB [.t 13]),iM 6 14]
 (.seq (sO [iO 7 (.mov (kI 0))]
 (.block 0 (.loop [2,5,6,7] oL)))
 (sO [iK 27 7 2,iO 28 (.callr xL [.t 27]),iM 8 28]
 (.seq (sO [iO 9 (.mov (kI 0))]
 (.block 2 (.loop [5,8,9] oW)))
 (sO [iM 41 5,iM 4 41]
 (.ret)))))))
def zC:SFn:=⟨2,42,G4,[.t 4]⟩
def Fg:SCode :=
 sO [iO 2 (.mov (kI 0))]
 (.seq (sO [iM 3 0,iO 4 (.callr eU [.t 3,.c (.int .i64 1),.c (.int .i64 28)]),iO 5 (.not (.t 4))]
 (.cond (.t 5) (sO [iO 2 (.mov (kI 0))]
 (.ret))
 (.skip)))
 (sO [iO 6 (.lit 1 [.c (.int .i64 0),.c (.int .i64 9),.c (.int .i64 3),.c (.int .i64 7),.c (.int .i64 7),.c (.int .i64 7),.c (.int .i64 7),.c (.int .i64 7),.c (.int .i64 8),.c (.int .i64 8),.c (.int .i64 10),.c (.int .i64 49),.c (.int .i64 2),.c (.int .i64 2),.c (.int .i64 48),.c (.int .i64 3),.c (.int .i64 6),.c (.int .i64 3),.c (.int .i64 2),.c (.int .i64 45),.c (.int .i64 3),.c (.int .i64 6),.c (.int .i64 39),.c (.int .i64 1),.c (.int .i64 17),.c (.int .i64 2),.c (.int .i64 6),.c (.int .i64 6),.c (.int .i64 2)]),iM 7 0,iO 8 (.ixa 1 (.t 6) (.t 7)),iL 9 8,iM 2 9]
 (.ret)))
def vG:SFn:=⟨1,10,Fg,[.t 2]⟩
def nN:SCode :=
 .seq (sO [iM 8 4,iM 9 0,iO 10 (.len (.t 9)),iV 11 .lss 8 10]
 (.cond (.t 11) (.skip)
 (.seq (.keep [3]) (.exit 0))))
 (.seq (.block 1 (.ops [iM 14 3,iM 15 4,iM 16 0,iM 17 4,iO 18 (.ixa 1 (.t 16) (.t 17)),iL 19 18,iO 20 (.ixa 1 (.t 14) (.t 15)),iN (.store 1 (.t 20) (.t 19))]))
 (.ops [iM 12 4,iO 13 (.ari .add (.t 12) (kI 1)),iM 4 13]))
def E3:SCode :=
 sO [iO 2 (.mov (.n 1))]
 (sO [iM 5 0,iO 6 (.len (.t 5)),iO 7 (.mk 1 8 [zI] (.t 6)),iM 3 7]
 (.seq (sO [iO 4 (.mov (kI 0))]
 (.block 0 (.loop [0,3,4] nN)))
 (sO [iM 21 3,iM 2 21]
 (.ret))))
def wF:SFn:=⟨1,22,E3,[.t 2]⟩
def fO:SCode :=
 sO [iV 44 .lss 43 42]
 (.seq (.cond (.t 44) (.skip)
 (.seq (.keep [0,3,4,29,30,31]) (.exit 4)))
 (.seq (.block 5 (sO [iM 45 43,iO 46 (.ixa 1 (.t 41) (.t 43)),iL 47 46,iM 7 45,iM 8 47]
 (.ops [iM 48 0,iO 49 (.nck (.t 48)),iF 50 2 49,iL 51 50,iM 52 4,iO 53 (.ixa 1 (.t 51) (.t 52)),iL 54 53,iM 55 7,iM 56 0,iO 57 (.nck (.t 56)),iF 58 2 57,iL 59 58,iM 60 4,iO 61 (.ixa 1 (.t 59) (.t 60)),iL 62 61,iM 63 7,iO 64 (.ixa 1 (.t 62) (.t 63)),iL 65 64,iM 66 65,iU 67 66 (.mov (.t 8)),iO 68 (.pick (.t 66) (kB true) (.t 67)),iO 69 (.ixa 1 (.t 54) (.t 55)),iN (.store 1 (.t 69) (.t 68))])))
 (.ops [iO 70 (.ari .add (.t 43) (kI 1)),iM 43 70])))
def fP:SCode :=
 sO [iV 32 .lss 31 30]
 (.seq (.cond (.t 32) (.skip)
 (.seq (.keep [0,3,4]) (.exit 2)))
 (.seq (.block 3 (sO [iO 33 (.ixa 1 (.t 29) (.t 31)),iL 34 33,iM 6 34]
 (sO [iM 35 0,iO 36 (.nck (.t 35)),iF 37 1 36,iL 38 37,iM 39 6,iO 40 (.ixa 1 (.t 38) (.t 39)),iL 41 40,iO 42 (.len (.t 41)),iO 43 (.mov (kI 0))]
 (.block 4 (.loop [0,3,4,29,30,31,41,42,43] fO)))))
 (.ops [iO 71 (.ari .add (.t 31) (kI 1)),iM 31 71])))
def fQ:SCode :=
 sO [iV 90 .lss 89 88]
 (.seq (.cond (.t 90) (.skip)
 (.seq (.keep [0,3,4,9]) (.exit 6)))
 (.seq (.block 7 (sO [iO 91 (.ixa 1 (.t 87) (.t 89)),iL 92 91,iM 11 92]
 (.ops [iM 93 9,iM 94 11,iO 95 (.ixa 1 (.t 93) (.t 94)),iN (.store 1 (.t 95) (kB false))])))
 (.ops [iO 96 (.ari .add (.t 89) (kI 1)),iM 89 96])))
def fL:SCode :=
 sO [iV 107 .lss 106 105]
 (.seq (.cond (.t 107) (.skip)
 (.seq (.keep [0,3,4,9]) (.exit 8)))
 (.seq (.block 9 (sO [iO 108 (.ixa 1 (.t 104) (.t 106)),iL 109 108,iM 13 109]
 (.ops [iM 110 9,iM 111 13,iO 112 (.ixa 1 (.t 110) (.t 111)),iN (.store 1 (.t 112) (kB true))])))
 (.ops [iO 113 (.ari .add (.t 106) (kI 1)),iM 106 113])))
def dC:SCode :=
 .seq (sO [iM 20 4,iE 21 .geq 20 0]
 (.cond (.t 21) (.skip)
 (.seq (.keep [3]) (.exit 0))))
 (.seq (.block 1 (.seq (sO [iM 24 0,iO 25 (.nck (.t 24)),iF 26 0 25,iL 27 26,iM 28 4,iO 29 (.callr Jw [.t 27,.t 28]),iO 30 (.len (.t 29)),iO 31 (.mov (kI 0))]
 (.block 2 (.loop [0,3,4,29,30,31] fP)))
 (sO [iM 72 0,iO 73 (.nck (.t 72)),iF 74 2 73,iL 75 74,iM 76 4,iO 77 (.ixa 1 (.t 75) (.t 76)),iL 78 77,iO 79 (.call jZ [.t 78]),iM 9 79]
 (.seq (sO [iM 80 0,iO 81 (.nck (.t 80)),iF 82 0 81,iL 83 82,iM 84 4,iO 85 (.ixa 7 (.t 83) (.t 84)),iK 86 7 85,iO 87 (.callr sC [.t 86]),iO 88 (.len (.t 87)),iO 89 (.mov (kI 0))]
 (.block 6 (.loop [0,3,4,9,87,88,89] fQ)))
 (.seq (sO [iM 97 0,iO 98 (.nck (.t 97)),iF 99 0 98,iL 100 99,iM 101 4,iO 102 (.ixa 7 (.t 100) (.t 101)),iK 103 7 102,iO 104 (.callr wY [.t 103]),iO 105 (.len (.t 104)),iO 106 (.mov (kI 0))]
 (.block 8 (.loop [0,3,4,9,104,105,106] fL)))
 (sO [iM 114 9,iM 115 0,iO 116 (.nck (.t 115)),iF 117 1 116,iL 118 117,iM 119 4,iO 120 (.ixa 1 (.t 118) (.t 119)),iL 121 120,iO 122 (.callr jX [.t 114,.t 121]),iO 123 (.not (.t 122))]
 (.cond (.t 123) (sO [iM 124 0,iO 125 (.nck (.t 124)),iF 126 1 125,iL 127 126,iM 128 4,iM 129 9,iO 130 (.ixa 1 (.t 127) (.t 128)),iN (.store 1 (.t 130) (.t 129))]
 (.ops [iO 3 (.mov (kB true))]))
 (.skip))))))))
 (.ops [iM 22 4,iO 23 (.ari .sub (.t 22) (kI 1)),iM 4 23]))
def qO:SCode :=
 sO [iO 2 (.mov (kB false))]
 (sO [iO 3 (.mov (kB false))]
 (.seq (sO [iM 14 0,iO 15 (.nck (.t 14)),iF 16 0 15,iL 17 16,iO 18 (.len (.t 17)),iO 19 (.ari .sub (.t 18) (kI 1)),iM 4 19]
 (.block 0 (.loop [0,3,4] dC)))
 (sO [iM 131 3,iM 2 131]
 (.ret))))
def lL:SFn:=⟨1,132,qO,[.t 2]⟩
def nJ:SCode :=
 .seq (sO [iM 11 5,iM 12 0,iO 13 (.len (.t 12)),iV 14 .lss 11 13]
 (.cond (.t 14) (.skip)
 (.seq (.keep []) (.exit 0))))
 (.seq (.block 1 (sO [iM 17 0,iM 18 5,iO 19 (.ixa 1 (.t 17) (.t 18)),iL 20 19,iM 21 1,iM 22 5,iO 23 (.ixa 1 (.t 21) (.t 22)),iL 24 23,iV 25 .neq 20 24]
 (.cond (.t 25) (sO [iO 4 (.mov (kB false))]
 (.seq (.keep [4]) .ret))
 (.skip))))
 (.ops [iM 15 5,iO 16 (.ari .add (.t 15) (kI 1)),iM 5 16]))
def Ez:SCode :=
 sO [iO 4 (.mov (kB false))]
 (.seq (sO [iM 6 0,iO 7 (.len (.t 6)),iM 8 1,iO 9 (.len (.t 8)),iV 10 .neq 7 9]
 (.cond (.t 10) (sO [iO 4 (.mov (kB false))]
 (.ret))
 (.skip)))
 (.seq (sO [iO 5 (.mov (kI 0))]
 (.block 0 (.loop [0,1,5] nJ)))
 (sO [iO 4 (.mov (kB true))]
 (.ret))))
def wJ:SFn:=⟨2,26,Ez,[.t 4]⟩
def kS:SCode :=
 sO [iO 4 (.mov (kB false))]
 (sO [iM 5 0,iM 6 1,iO 7 (.callr j4 [.t 5,.t 6]),iE 8 .geq 7 0,iM 4 8]
 (.ret))
def fT:SFn:=⟨2,9,kS,[.t 4]⟩
def Kl:SCode :=
 sO [iO 2 (.mov (.c (.string ⟨#[]⟩)))]
 (.seq (sO [iM 3 0]
 (.block 0 (sO [iE 5 .eql 3 1,iM 4 5]
 (.cond (.t 4) (sO [iO 2 (.mov (.c (.string ⟨#[68,78]⟩)))]
 (.ret))
 (.seq (sO [iE 7 .eql 3 2,iM 6 7]
 (.cond (.t 6) (.skip)
 (sO [iE 8 .eql 3 15,iM 6 8]
 (.cond (.t 6) (.skip)
 (sO [iE 9 .eql 3 17,iM 6 9]
 (.cond (.t 6) (.skip)
 (.ops [iE 10 .eql 3 20,iM 6 10])))))))
 (.cond (.t 6) (sO [iO 2 (.mov (.c (.string ⟨#[68,65]⟩)))]
 (.ret))
 (.seq (sO [iE 12 .eql 3 3,iM 11 12]
 (.cond (.t 11) (.skip)
 (sO [iE 13 .eql 3 4,iM 11 13]
 (.cond (.t 11) (.skip)
 (sO [iE 14 .eql 3 5,iM 11 14]
 (.cond (.t 11) (.skip)
 (sO [iE 15 .eql 3 6,iM 11 15]
 (.cond (.t 11) (.skip)
 (.ops [iE 16 .eql 3 7,iM 11 16])))))))))
 (.cond (.t 11) (sO [iO 2 (.mov (.c (.string ⟨#[68,65,66]⟩)))]
 (.ret))
 (.seq (sO [iE 18 .eql 3 8,iM 17 18]
 (.cond (.t 17) (.skip)
 (.ops [iE 19 .eql 3 9,iM 17 19])))
 (.cond (.t 17) (sO [iO 2 (.mov (.c (.string ⟨#[78]⟩)))]
 (.ret))
 (sO [iE 21 .eql 3 10,iM 20 21]
 (.cond (.t 20) (sO [iO 2 (.mov (.c (.string ⟨#[65,78]⟩)))]
 (.ret))
 (sO [iE 23 .eql 3 11,iM 22 23]
 (.cond (.t 22) (sO [iO 2 (.mov (.c (.string ⟨#[68,83,88]⟩)))]
 (.ret))
 (.seq (sO [iE 25 .eql 3 12,iM 24 25]
 (.cond (.t 24) (.skip)
 (sO [iE 26 .eql 3 13,iM 24 26]
 (.cond (.t 24) (.skip)
 (sO [iE 27 .eql 3 18,iM 24 27]
 (.cond (.t 24) (.skip)
 (sO [iE 28 .eql 3 25,iM 24 28]
 (.cond (.t 24) (.skip)
 (.ops [iE 29 .eql 3 28,iM 24 29])))))))))
 (.cond (.t 24) (sO [iO 2 (.mov (.c (.string ⟨#[65]⟩)))]
 (.ret))
 (sO [iE 31 .eql 3 14,iM 30 31]
 (.cond (.t 30) (sO [iO 2 (.mov (.c (.string ⟨#[83,88]⟩)))]
 (.ret))
 (.seq (sO [iE 33 .eql 3 16,iM 32 33]
 (.cond (.t 32) (.skip)
 (sO [iE 34 .eql 3 21,iM 32 34]
 (.cond (.t 32) (.skip)
 (sO [iE 35 .eql 3 26,iM 32 35]
 (.cond (.t 32) (.skip)
 (.ops [iE 36 .eql 3 27,iM 32 36])))))))
 (.cond (.t 32) (sO [iO 2 (.mov (.c (.string ⟨#[65,66]⟩)))]
 (.ret))
 (sO [iE 38 .eql 3 19,iM 37 38]
 (.cond (.t 37) (sO [iO 2 (.mov (.c (.string ⟨#[68,66,78,88]⟩)))]
 (.ret))
 (sO [iE 40 .eql 3 22,iM 39 40]
 (.cond (.t 39) (sO [iO 2 (.mov (.c (.string ⟨#[68,65,66,88]⟩)))]
 (.ret))
 (sO [iE 42 .eql 3 23,iM 41 42]
 (.cond (.t 41) (sO [iO 2 (.mov (.c (.string ⟨#[68]⟩)))]
 (.ret))
 (sO [iE 44 .eql 3 24,iM 43 44]
 (.cond (.t 43) (sO [iO 2 (.mov (.c (.string ⟨#[68,83]⟩)))]
 (.ret))
 (.skip)))))))))))))))))))))))))))))
 (sO [iO 2 (.mov (.c (.string ⟨#[]⟩)))]
 (.ret)))
def Dj:SFn:=⟨1,45,Kl,[.t 2]⟩
def l4:SCode :=
 .seq (sO [iM 12 4,iM 13 3,iV 14 .lss 12 13]
 (.cond (.t 14) (.skip)
 (.seq (.keep [3]) (.exit 1))))
 (.seq (.block 2 (sO [iF 17 6 1,iL 18 17,iM 19 4,iO 20 (.ixa 1 (.t 18) (.t 19)),iL 21 20,iO 22 (.callr eU [.t 21,.c (.int .i64 1),.c (.int .i64 2)]),iO 23 (.not (.t 22)),iM 24 23,iU 25 24 (.mov (.t 4)),iU 26 24 (.ari .add (.t 25) (kI 2)),iU 27 24 (.mov (.t 3)),iU 28 24 (.cmp .lss (.t 26) (.t 27)),iU 29 24 (.mov (.t 28)),iT 30 29 (.faddr 6 (.t 1)),iT 31 29 (.load none (.t 30)),iT 32 29 (.mov (.t 4)),iT 33 29 (.ixa 1 (.t 31) (.t 32)),iT 34 29 (.load none (.t 33)),iT 35 29 (.cmp .eql (.t 34) (kI 1)),iU 36 24 (.pick (.t 29) (.t 35) (kB false)),iU 37 24 (.mov (.t 36)),iT 38 37 (.faddr 6 (.t 1)),iT 39 37 (.load none (.t 38)),iT 40 37 (.mov (.t 4)),iT 41 37 (.ari .add (.t 40) (kI 2)),iT 42 37 (.ixa 1 (.t 39) (.t 41)),iT 43 37 (.load none (.t 42)),iT 44 37 (.cmp .neq (.t 43) (kI 0)),iU 45 24 (.pick (.t 37) (.t 44) (kB false)),iO 46 (.pick (.t 24) (kB true) (.t 45))]
 (.cond (.t 46) (sO [iO 2 (.mov (kB false))]
 (.seq (.keep [2]) .ret))
 (.skip))))
 (.ops [iM 15 4,iO 16 (.ari .add (.t 15) (kI 3)),iM 4 16]))
def D0:SCode :=
 sO [iO 1 (.vbox 7 (.t 0)),iO 2 (.mov (kB false))]
 (sO [iF 5 6 1,iL 6 5,iO 7 (.len (.t 6)),iM 3 7]
 (.seq (sO [iF 8 0 1,iL 9 8]
 (.block 0 (sO [iE 11 .eql 9 19,iM 10 11]
 (.cond (.t 10) (.seq (sO [iO 4 (.mov (kI 0))]
 (.block 1 (.loop [1,3,4] l4)))
 (sO [iM 47 3,iE 48 .eql 47 3,iM 49 48,iU 50 49 (.mov (.t 3)),iU 51 49 (.cmp .eql (.t 50) (kI 6)),iO 52 (.pick (.t 49) (kB true) (.t 51)),iM 53 52,iU 54 53 (.mov (.t 3)),iU 55 53 (.cmp .eql (.t 54) (kI 9)),iO 56 (.pick (.t 53) (kB true) (.t 55)),iM 2 56]
 (.ret)))
 (sO [iE 58 .eql 9 22,iM 57 58]
 (.cond (.t 57) (sO [iM 59 3,iE 60 .eql 59 1,iM 2 60]
 (.ret))
 (.seq (sO [iE 62 .eql 9 11,iM 61 62]
 (.cond (.t 61) (.skip)
 (.ops [iE 63 .eql 9 14,iM 61 63])))
 (.cond (.t 61) (sO [iM 64 3,iE 65 .leq 64 4,iM 2 65]
 (.ret))
 (.skip)))))))))
 (sO [iM 66 3,iE 67 .eql 66 0,iM 2 67]
 (.ret))))
def sN:SFn:=⟨1,68,D0,[.t 2]⟩
def mJ:SCode :=
 .seq (sO [iM 12 6,iM 13 5,iO 14 (.len (.t 13)),iV 15 .lss 12 14]
 (.cond (.t 15) (.skip)
 (.seq (.keep []) (.exit 0))))
 (.seq (.block 1 (sO [iM 18 5,iM 19 6,iO 20 (.ixa 1 (.t 18) (.t 19)),iL 21 20,iM 22 1,iO 23 (.ari .sub (.t 22) (kI 1)),iO 24 (.callr eU [.t 21,.c (.int .i64 0),.t 23]),iO 25 (.not (.t 24))]
 (.cond (.t 25) (sO [iO 4 (.mov (kB false))]
 (.seq (.keep [4]) .ret))
 (.skip))))
 (.ops [iM 16 6,iO 17 (.ari .add (.t 16) (kI 1)),iM 6 17]))
def Dr:SCode :=
 sO [iO 2 (.vbox 7 (.t 0)),iO 4 (.mov (kB false))]
 (.seq (.opsd [⟨iK 7 7 2,0,[]⟩,⟨iK 9 7 2,2,[]⟩,⟨iO 8 (.call sB [.t 7]),1,[iK 9 7 2]⟩,⟨iO 10 (.call xL [.t 9]),3,[]⟩,⟨iO 11 (.app 1 8 (.t 8) (.t 10)),4,[]⟩,⟨iM 5 11,5,[]⟩])
 (.seq (sO [iO 6 (.mov (kI 0))]
 (.block 0 (.loop [1,5,6] mJ)))
 (sO [iO 4 (.mov (kB true))]
 (.ret))))
def tH:SFn:=⟨2,26,Dr,[.t 4]⟩
def Ft:SCode :=
 sO [iO 2 (.mov (kB false))]
 (sO [iM 3 0,iO 4 (.callr eU [.t 3,.c (.int .i64 (-2147483648)),.c (.int .i64 2147483647)]),iM 2 4]
 (.ret))
def vX:SFn:=⟨1,5,Ft,[.t 2]⟩
def kG:SCode :=
 .seq (sO [iM 31 5,iF 32 6 1,iL 33 32,iO 34 (.len (.t 33)),iV 35 .lss 31 34,iM 36 35,iT 37 36 (.mov (.t 4)),iT 38 36 (.ari .and (.t 37) (kI 32)),iT 39 36 (.cmp .neq (.t 38) (kI 0)),iO 40 (.pick (.t 36) (.t 39) (kB false))]
 (.cond (.t 40) (.skip)
 (.seq (.keep [3]) (.exit 0))))
 (.seq (.block 1 (sO [iF 43 0 1,iL 44 43,iE 45 .neq 44 19,iM 46 45,iU 47 46 (.mov (.t 5)),iU 48 46 (.ari .rem (.t 47) (kI 3)),iU 49 46 (.cmp .eql (.t 48) (kI 1)),iO 50 (.pick (.t 46) (kB true) (.t 49)),iM 51 50,iU 52 51 (.mov (.t 5)),iU 53 51 (.ari .rem (.t 52) (kI 3)),iU 54 51 (.cmp .eql (.t 53) (kI 2)),iU 55 51 (.mov (.t 54)),iT 56 55 (.faddr 6 (.t 1)),iT 57 55 (.load none (.t 56)),iT 58 55 (.mov (.t 5)),iT 59 55 (.ari .sub (.t 58) (kI 2)),iT 60 55 (.ixa 1 (.t 57) (.t 59)),iT 61 55 (.load none (.t 60)),iT 62 55 (.cmp .eql (.t 61) (kI 2)),iU 63 51 (.pick (.t 55) (.t 62) (kB false)),iO 64 (.pick (.t 51) (kB true) (.t 63))]
 (.cond (.t 64) (.ops [iM 65 3,iF 66 6 1,iL 67 66,iM 68 5,iO 69 (.ixa 1 (.t 67) (.t 68)),iL 70 69,iO 71 (.lit 1 [.t 70]),iO 72 (.app 1 8 (.t 65) (.t 71)),iM 3 72])
 (.skip))))
 (.ops [iM 41 5,iO 42 (.ari .add (.t 41) (kI 1)),iM 5 42]))
def K3:SCode :=
 sO [iO 1 (.vbox 7 (.t 0)),iO 2 (.mov (.n 1))]
 (sO [iO 6 (.lit 1 []),iM 3 6]
 (sO [iF 7 0 1,iL 8 7,iO 9 (.callr qH [.t 8]),iM 4 9]
 (.seq (sO [iM 10 4,iO 11 (.ari .and (.t 10) (kI 2)),iE 12 .neq 11 0]
 (.cond (.t 12) (.ops [iM 13 3,iF 14 2 1,iL 15 14,iO 16 (.lit 1 [.t 15]),iO 17 (.app 1 8 (.t 13) (.t 16)),iM 3 17])
 (.skip)))
 (.seq (sO [iM 18 4,iO 19 (.ari .and (.t 18) (kI 4)),iE 20 .neq 19 0,iM 21 20,iT 22 21 (.faddr 0 (.t 1)),iT 23 21 (.load none (.t 22)),iT 24 21 (.cmp .neq (.t 23) (kI 19)),iO 25 (.pick (.t 21) (.t 24) (kB false))]
 (.cond (.t 25) (.ops [iM 26 3,iF 27 3 1,iL 28 27,iO 29 (.lit 1 [.t 28]),iO 30 (.app 1 8 (.t 26) (.t 29)),iM 3 30])
 (.skip)))
 (.seq (sO [iO 5 (.mov (kI 0))]
 (.block 0 (.loop [1,3,4,5] kG)))
 (sO [iM 73 3,iM 2 73]
 (.ret)))))))
def Bj:SFn:=⟨1,74,K3,[.t 2]⟩
def qX:SCode :=
 .seq (sO [iM 10 0,iE 11 .neq 10 0]
 (.cond (.t 11) (.skip)
 (.seq (.keep [3,4]) (.exit 0))))
 (.block 1 (sO [iM 12 0,iO 13 (.ari .rem (.t 12) (kI 10)),iM 5 13]
 (.seq (sO [iM 14 5,iE 15 .lss 14 0]
 (.cond (.t 15) (.ops [iM 16 5,iO 17 (.ari .sub (kI 0) (.t 16)),iM 5 17])
 (.skip)))
 (sO [iM 18 5,iO 19 (.ari .add (kI 48) (.t 18)),iO 20 (.conv .u8 (.t 19)),iO 21 (.lit 1 [.t 20]),iO 22 (.sob (.t 21)),iM 23 4,iO 24 (.cat (.t 22) (.t 23)),iM 4 24]
 (.ops [iM 25 0,iO 26 (.ari .quo (.t 25) (kI 10)),iM 0 26])))))
def E7:SCode :=
 sO [iO 2 (.mov (.c (.string ⟨#[]⟩)))]
 (.seq (sO [iM 6 0,iE 7 .eql 6 0]
 (.cond (.t 7) (sO [iO 2 (.mov (.c (.string ⟨#[48]⟩)))]
 (.ret))
 (.skip)))
 (sO [iM 8 0,iE 9 .lss 8 0,iM 3 9]
 (sO [iO 4 (.mov (.c (.string ⟨#[]⟩)))]
 (.seq (.block 0 (.loop [0,3,4] qX))
 (.seq (sO [iM 27 3]
 (.cond (.t 27) (sO [iM 28 4,iO 29 (.cat (.c (.string ⟨#[45]⟩)) (.t 28)),iM 2 29]
 (.ret))
 (.skip)))
 (sO [iM 30 4,iM 2 30]
 (.ret)))))))
def vT:SFn:=⟨1,31,E7,[.t 2]⟩
end Go.Ev.G
