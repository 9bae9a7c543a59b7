import Derived.Test.YtcaonmepamlclaaGreatEvRow
set_option linter.all false
namespace Go.Ev.G
abbrev pR:Nat:=4
abbrev Bu:Nat:=7
abbrev m6:Nat:=9
abbrev Be:Nat:=13
abbrev Ew:Nat:=14
abbrev vJ:Nat:=15
abbrev y9:Nat:=16
abbrev J7:Nat:=19
abbrev Cb:Nat:=20
abbrev pY:Nat:=21
abbrev wC:Nat:=22
abbrev pV:Nat:=23
abbrev Fv:Nat:=30
abbrev o9:Nat:=31
abbrev Kh:Nat:=32
abbrev Jl:Nat:=34
abbrev Gy:Nat:=36
abbrev dP:Nat:=37
abbrev Jn:Nat:=39
abbrev bL:Nat:=41
abbrev Eq:Nat:=44
abbrev eE:Nat:=45
abbrev sJ:Nat:=46
abbrev pK:Nat:=47
abbrev yH:Nat:=48
abbrev xZ:Nat:=49
abbrev Cp:Nat:=50
abbrev rQ:Nat:=51
abbrev E2:Nat:=52
abbrev yV:Nat:=53
abbrev x6:Nat:=54
abbrev x7:Nat:=69
abbrev xG:Nat:=70
abbrev Mu:Nat:=71
abbrev J5:Nat:=72
abbrev wQ:Nat:=73
abbrev Ho:Nat:=74
abbrev xQ:Nat:=76
abbrev wX:Nat:=77
abbrev Mw:Nat:=78
abbrev Hg:Nat:=79
abbrev lH:Nat:=80
abbrev fZ:Nat:=81
abbrev xD:Nat:=83
abbrev bP:Nat:=84
abbrev yO:Nat:=86
abbrev oY:Nat:=87
abbrev tR:Nat:=88
abbrev rM:Nat:=89
abbrev aZ:Nat:=90
abbrev d3:Nat:=91
abbrev bN:Nat:=92
abbrev cM:Nat:=93
abbrev Jj:Nat:=94
abbrev tX:Nat:=95
abbrev Mz:Nat:=96
abbrev Fa:Nat:=97
abbrev uB:Nat:=105
abbrev cH:Nat:=109
abbrev d4:Nat:=115
abbrev eX:Nat:=117
abbrev Bt:Nat:=118
abbrev B4:Nat:=119
abbrev rT:Nat:=120
abbrev t9:Nat:=121
abbrev cN:Nat:=122
abbrev Ce:Nat:=123
abbrev pJ:Nat:=124
abbrev tS:Nat:=125
abbrev t8:Nat:=126
abbrev vC:Nat:=127
abbrev pA:Nat:=128
abbrev B6:Nat:=130
abbrev Cc:Nat:=131
abbrev iQ:Nat:=132
abbrev rN:Nat:=133
abbrev dT:Nat:=134
abbrev uD:Nat:=135
abbrev gW:Nat:=136
abbrev jD:Nat:=137
abbrev kH:Nat:=138
abbrev o7:Nat:=139
abbrev Cn:Nat:=140
abbrev xH:Nat:=141
abbrev fM:Nat:=142
abbrev tZ:Nat:=143
abbrev hY:Nat:=144
abbrev iA:Nat:=145
abbrev iW:Nat:=146
abbrev Bs:Nat:=148
abbrev Bn:Nat:=149
abbrev bT:Nat:=150
abbrev i6:Nat:=151
abbrev rZ:Nat:=152
abbrev zF:Nat:=153
abbrev rG:Nat:=154
abbrev fL:Nat:=155
abbrev jQ:Nat:=156
abbrev Hq:Nat:=157
abbrev Ha:Nat:=158
abbrev M0:Nat:=159
abbrev Ni:Nat:=160
abbrev kG:Nat:=161
abbrev pH:Nat:=162
abbrev Ji:Nat:=163
abbrev Ki:Nat:=167
abbrev iD:Nat:=189
abbrev yQ:Nat:=190
abbrev Ca:Nat:=191
abbrev a9:Nat:=192
abbrev iI:Nat:=193
abbrev oX:Nat:=194
abbrev iP:Nat:=195
abbrev G8:Nat:=196
abbrev nZ:Nat:=197
abbrev U3:Nat:=201
abbrev qV:Nat:=202
abbrev Cv:Nat:=203
abbrev eC:Nat:=204
abbrev bJ:Nat:=205
abbrev mF:Nat:=206
abbrev hX:Nat:=207
abbrev pP:Nat:=208
abbrev bX:Nat:=209
abbrev wZ:Nat:=210
abbrev dS:Nat:=211
abbrev fV:Nat:=212
abbrev oI:Nat:=213
abbrev m8:Nat:=217
abbrev j4:Nat:=218
abbrev r8:Nat:=219
abbrev Cj:Nat:=220
abbrev Cw:Nat:=221
abbrev fX:Nat:=222
abbrev lQ:Nat:=223
abbrev jC:Nat:=224
abbrev gY:Nat:=225
abbrev fU:Nat:=226
abbrev t6:Nat:=227
abbrev j9:Nat:=249
abbrev Bi:Nat:=250
abbrev gH:Nat:=251
abbrev kW:Nat:=252
abbrev B2:Nat:=253
abbrev oC:Nat:=256
abbrev xN:Nat:=257
abbrev gL:Nat:=258
abbrev dO:Nat:=259
abbrev gU:Nat:=260
abbrev vH:Nat:=264
abbrev rB:Nat:=265
abbrev pN:Nat:=266
abbrev cX:Nat:=267
abbrev pW:Nat:=268
abbrev q7:Nat:=269
abbrev Es:Nat:=270
abbrev Ff:Nat:=271
abbrev Mv:Nat:=272
abbrev Na:Nat:=273
abbrev fJ:Nat:=274
abbrev dB:Nat:=275
abbrev gN:Nat:=290
abbrev gE:Nat:=291
def tI:SCode :=
 sO [iO 4 (.mov (kB false))]
 (sO [iO 5 (.mov (kI 1048576))]
 (sO [iM 13 0,iM 14 5,iO 15 (.callr Bu [.t 13,.t 14]),iM 5 15]
 (.seq (sO [iM 16 5,iE 17 .lss 16 0]
 (.cond (.t 17) (sO [iO 4 (.mov (kB true))]
 (.ret))
 (.skip)))
 (sO [iM 18 0,iO 19 (.callr m6 [.t 18]),iM 20 1,iO 21 (.callr J7 [.t 19,.t 20]),iM 6 21]
 (sO [iM 22 0,iO 23 (.call m6 [.t 22]),iM 7 23]
 (sO [iM 24 7,iM 25 1,iO 26 (.call Cb [.t 24,.t 25]),iM 8 26]
 (.seq (sO [iM 27 8,iM 28 6,iO 29 (.callr pY [.t 27,.t 28]),iO 30 (.not (.t 29))]
 (.cond (.t 30) (sO [iO 4 (.mov (kB false))]
 (.ret))
 (.skip)))
 (.seq (sO [iM 31 7,iM 32 0,iO 33 (.callr m6 [.t 32]),iO 34 (.callr Be [.t 31,.t 33]),iO 35 (.not (.t 34))]
 (.cond (.t 35) (sO [iO 4 (.mov (kB false))]
 (.ret))
 (.skip)))
 (sO [iO 9 (.mov (kI 1))]
 (sO [iM 36 7,iM 37 9,iO 38 (.callb vJ [.t 36,.t 37] [true,false]),iM 9 38]
 (.seq (sO [iM 39 9,iE 40 .lss 39 0,iM 41 40,iU 42 41 (.mov (.t 8)),iU 43 41 (.mov (.t 6)),iU 44 41 (.callr pY [.t 42,.t 43]),iU 45 41 (.not (.t 44)),iO 46 (.pick (.t 41) (kB true) (.t 45))]
 (.cond (.t 46) (sO [iO 4 (.mov (kB false))]
 (.ret))
 (.skip)))
 (sO [iO 10 (.mov (kI 1))]
 (sO [iM 47 8,iM 48 10,iO 49 (.callb wC [.t 47,.t 48] [true,false]),iM 10 49]
 (sO [iO 11 (.mov (kI 1))]
 (sO [iM 50 8,iM 51 11,iO 52 (.callr pV [.t 50,.t 51]),iM 11 52]
 (.seq (sO [iM 53 11,iE 54 .lss 53 0]
 (.cond (.t 54) (sO [iO 4 (.mov (kB false))]
 (.ret))
 (.skip)))
 (.seq (sO [iM 55 11,iM 56 10,iV 57 .neq 55 56]
 (.cond (.t 57) (sO [iO 4 (.mov (kB false))]
 (.ret))
 (.skip)))
 (sO [iM 58 0,iO 59 (.callr m6 [.t 58]),iM 60 1,iO 61 (.callr Cb [.t 59,.t 60]),iM 12 61]
 (.seq (sO [iM 62 12,iM 63 6,iO 64 (.callr pY [.t 62,.t 63]),iO 65 (.not (.t 64))]
 (.cond (.t 65) (sO [iO 4 (.mov (kB false))]
 (.ret))
 (.skip)))
 (sO [iO 11 (.mov (kI 1))]
 (sO [iM 66 8,iM 67 11,iO 68 (.callr pV [.t 66,.t 67]),iM 11 68]
 (.seq (sO [iM 69 11,iE 70 .lss 69 0]
 (.cond (.t 70) (sO [iO 4 (.mov (kB false))]
 (.ret))
 (.skip)))
 (.seq (sO [iM 71 11,iM 72 10,iV 73 .neq 71 72]
 (.cond (.t 73) (sO [iO 4 (.mov (kB false))]
 (.ret))
 (.skip)))
 (sO [iO 4 (.mov (kB true))]
 (.ret)))))))))))))))))))))))))
def nM:SFn:=⟨2,74,tI,[.t 4]⟩
def nA:SCode :=
 .seq (sO [iM 12 5,iM 13 0,iO 14 (.len (.t 13)),iV 15 .lss 12 14]
 (.cond (.t 15) (.skip)
 (.seq (.keep [1]) (.exit 0))))
 (.seq (.block 1 (sO [iM 18 0,iM 19 5,iO 20 (.ixa 6 (.t 18) (.t 19)),iK 21 6 20,iM 22 1,iO 23 (.callr Fv [.t 21,.t 22]),iM 1 23]
 (sO [iM 24 1,iE 25 .lss 24 0]
 (.cond (.t 25) (sO [iO 4 (.mov (kI (-1)))]
 (.seq (.keep [4]) .ret))
 (.skip)))))
 (.ops [iM 16 5,iO 17 (.ari .add (.t 16) (kI 1)),iM 5 17]))
def Et:SCode :=
 sO [iO 4 (.mov (kI 0))]
 (sO [iM 6 1,iM 7 0,iO 8 (.len (.t 7)),iO 9 (.ari .sub (.t 6) (.t 8)),iM 1 9]
 (.seq (sO [iM 10 1,iE 11 .lss 10 0]
 (.cond (.t 11) (sO [iO 4 (.mov (kI (-1)))]
 (.ret))
 (.skip)))
 (.seq (sO [iO 5 (.mov (kI 0))]
 (.block 0 (.loop [0,1,5] nA)))
 (sO [iM 26 1,iM 4 26]
 (.ret)))))
def uY:SFn:=⟨2,27,Et,[.t 4]⟩
def nD:SCode :=
 .seq (sO [iM 8 4,iM 9 0,iO 10 (.len (.t 9)),iV 11 .lss 8 10]
 (.cond (.t 11) (.skip)
 (.seq (.keep [3]) (.exit 0))))
 (.seq (.block 1 (.ops [iM 14 3,iM 15 4,iM 16 0,iM 17 4,iO 18 (.ixa 6 (.t 16) (.t 17)),iK 19 6 18,iO 20 (.call Gy [.t 19]),iO 21 (.ixa 6 (.t 14) (.t 15)),iN (.store 6 (.t 21) (.t 20))]))
 (.ops [iM 12 4,iO 13 (.ari .add (.t 12) (kI 1)),iM 4 13]))
def E1:SCode :=
 sO [iO 2 (.mov (.n 6))]
 (sO [iM 5 0,iO 6 (.len (.t 5)),iO 7 (.mk 6 96 [zS,.s 2 [],zI,zS,zI,.s 4 []] (.t 6)),iM 3 7]
 (.seq (sO [iO 4 (.mov (kI 0))]
 (.block 0 (.loop [0,3,4] nD)))
 (sO [iM 22 3,iM 2 22]
 (.ret))))
def vE:SFn:=⟨1,23,E1,[.t 2]⟩
def mT:SCode :=
 .seq (sO [iM 11 5,iM 12 0,iO 13 (.len (.t 12)),iV 14 .lss 11 13]
 (.cond (.t 14) (.skip)
 (.seq (.keep []) (.exit 0))))
 (.seq (.block 1 (sO [iM 17 0,iM 18 5,iO 19 (.ixa 6 (.t 17) (.t 18)),iK 20 6 19,iM 21 1,iM 22 5,iO 23 (.ixa 6 (.t 21) (.t 22)),iK 24 6 23,iO 25 (.callr Eq [.t 20,.t 24]),iO 26 (.not (.t 25))]
 (.cond (.t 26) (sO [iO 4 (.mov (kB false))]
 (.seq (.keep [4]) .ret))
 (.skip))))
 (.ops [iM 15 5,iO 16 (.ari .add (.t 15) (kI 1)),iM 5 16]))
def F5:SCode :=
 sO [iO 4 (.mov (kB false))]
 (.seq (sO [iM 6 0,iO 7 (.len (.t 6)),iM 8 1,iO 9 (.len (.t 8)),iV 10 .neq 7 9]
 (.cond (.t 10) (sO [iO 4 (.mov (kB false))]
 (.ret))
 (.skip)))
 (.seq (sO [iO 5 (.mov (kI 0))]
 (.block 0 (.loop [0,1,5] mT)))
 (sO [iO 4 (.mov (kB true))]
 (.ret))))
def wF:SFn:=⟨2,27,F5,[.t 4]⟩
def n7:SCode :=
 .seq (sO [iM 11 5,iM 12 0,iO 13 (.len (.t 12)),iV 14 .lss 11 13]
 (.cond (.t 14) (.skip)
 (.seq (.keep []) (.exit 0))))
 (.seq (.block 1 (sO [iM 17 0,iM 18 5,iO 19 (.ixa 1 (.t 17) (.t 18)),iL 20 19,iM 21 1,iM 22 5,iO 23 (.ixa 1 (.t 21) (.t 22)),iL 24 23,iV 25 .neq 20 24]
 (.cond (.t 25) (sO [iO 4 (.mov (kB false))]
 (.seq (.keep [4]) .ret))
 (.skip))))
 (.ops [iM 15 5,iO 16 (.ari .add (.t 15) (kI 1)),iM 5 16]))
def Iw:SCode :=
 sO [iO 4 (.mov (kB false))]
 (.seq (sO [iM 6 0,iO 7 (.len (.t 6)),iM 8 1,iO 9 (.len (.t 8)),iV 10 .neq 7 9]
 (.cond (.t 10) (sO [iO 4 (.mov (kB false))]
 (.ret))
 (.skip)))
 (.seq (sO [iO 5 (.mov (kI 0))]
 (.block 0 (.loop [0,1,5] n7)))
 (sO [iO 4 (.mov (kB true))]
 (.ret))))
def xX:SFn:=⟨2,26,Iw,[.t 4]⟩
def kE:SCode :=
 .seq (sO [iM 6 5,iM 7 0,iO 8 (.len (.t 7)),iV 9 .lss 6 8]
 (.cond (.t 9) (.skip)
 (.seq (.keep [1]) (.exit 0))))
 (.seq (.block 1 (sO [iM 12 0,iM 13 5,iM 14 1,iO 15 (.callr eE [.t 14]),iO 16 (.ixa 6 (.t 12) (.t 13)),iF 17 0 16,iN (.store 1 (.t 17) (.t 15))]
 (sO [iM 18 1,iO 19 (.ari .add (.t 18) (kI 1)),iM 1 19]
 (sO [iM 20 0,iM 21 5,iO 22 (.ixa 6 (.t 20) (.t 21)),iF 23 1 22,iL 24 23,iM 25 1,iO 26 (.callb sJ [.t 24,.t 25] [true,false]),iM 1 26]
 (sO [iM 27 0,iM 28 5,iM 29 1,iO 30 (.ixa 6 (.t 27) (.t 28)),iF 31 2 30,iF 32 0 31,iN (.store 1 (.t 32) (.t 29))]
 (sO [iM 33 1,iO 34 (.ari .add (.t 33) (kI 1)),iM 1 34]
 (sO [iM 35 0,iM 36 5,iM 37 1,iO 38 (.callr eE [.t 37]),iO 39 (.ixa 6 (.t 35) (.t 36)),iF 40 2 39,iF 41 1 40,iN (.store 1 (.t 41) (.t 38))]
 (sO [iM 42 1,iO 43 (.ari .add (.t 42) (kI 1)),iM 1 43]
 (sO [iM 44 0,iM 45 5,iM 46 1,iO 47 (.ixa 6 (.t 44) (.t 45)),iF 48 2 47,iF 49 2 48,iN (.store 1 (.t 49) (.t 46))]
 (sO [iM 50 1,iO 51 (.ari .add (.t 50) (kI 1)),iM 1 51]
 (.ops [iM 52 0,iM 53 5,iO 54 (.ixa 6 (.t 52) (.t 53)),iF 55 2 54,iF 56 3 55,iL 57 56,iM 58 1,iO 59 (.callb pK [.t 57,.t 58] [true,false]),iM 1 59])))))))))))
 (.ops [iM 10 5,iO 11 (.ari .add (.t 10) (kI 1)),iM 5 11]))
def A4:SCode :=
 sO [iO 4 (.mov (kI 0))]
 (.seq (sO [iO 5 (.mov (kI 0))]
 (.block 0 (.loop [0,1,5] kE)))
 (sO [iM 60 1,iM 4 60]
 (.ret)))
def qU:SFn:=⟨2,61,A4,[.t 4]⟩
def lJ:SCode :=
 .seq (sO [iM 6 5,iM 7 0,iO 8 (.len (.t 7)),iV 9 .lss 6 8]
 (.cond (.t 9) (.skip)
 (.seq (.keep [1]) (.exit 0))))
 (.seq (.block 1 (sO [iM 12 0,iM 13 5,iM 14 1,iO 15 (.ixa 1 (.t 12) (.t 13)),iN (.store 1 (.t 15) (.t 14))]
 (.ops [iM 16 1,iO 17 (.ari .add (.t 16) (kI 1)),iM 1 17])))
 (.ops [iM 10 5,iO 11 (.ari .add (.t 10) (kI 1)),iM 5 11]))
def D3:SCode :=
 sO [iO 4 (.mov (kI 0))]
 (.seq (sO [iO 5 (.mov (kI 0))]
 (.block 0 (.loop [0,1,5] lJ)))
 (sO [iM 18 1,iM 4 18]
 (.ret)))
def sK:SFn:=⟨2,19,D3,[.t 4]⟩
def Kq:SCode :=
 sO [iO 4 (.mov (.n 4))]
 (.seq (sO [iM 5 0,iM 6 1,iO 7 (.callr Kh [.t 5,.t 6]),iE 8 .neq 7 0]
 (.cond (.t 8) (sO [iO 9 (.lit 4 []),iM 4 9]
 (.ret))
 (.skip)))
 (sO [iM 10 0,iO 11 (.call xZ [.t 10]),iM 4 11]
 (.ret)))
def Bm:SFn:=⟨2,12,Kq,[.t 4]⟩
def l7:SCode :=
 sO [iV 17 .lss 16 15]
 (.seq (.cond (.t 17) (.skip)
 (.seq (.keep [5]) (.exit 0)))
 (.seq (.block 1 (sO [iO 18 (.ixa 6 (.t 14) (.t 16)),iK 19 6 18,iO 7 (.alloc [zS,.s 2 [],zI,zS,zI,.s 4 []]),iN (.store 6 (.t 7) (.t 19))]
 (sO [iK 20 6 7,iO 21 (.call Cp [.t 20]),iO 8 (.alloc [zS,zI,zI,.s 7 []]),iN (.store 4 (.t 8) (.t 21))]
 (.seq (sO [iK 22 4 8,iO 23 (.callr rQ [.t 22]),iO 24 (.not (.t 23))]
 (.cond (.t 24) (sO [iO 4 (.mov (.n 4))]
 (.seq (.keep [4]) .ret))
 (.skip)))
 (.ops [iM 25 5,iK 26 4 8,iO 27 (.lit 4 [.t 26]),iO 28 (.app 4 56 (.t 25) (.t 27)),iM 5 28])))))
 (.ops [iO 29 (.ari .add (.t 16) (kI 1)),iM 16 29])))
def Lr:SCode :=
 sO [iO 4 (.mov (.n 4))]
 (.seq (sO [iM 9 0,iM 10 1,iO 11 (.callr Jn [.t 9,.t 10]),iE 12 .neq 11 0]
 (.cond (.t 12) (sO [iO 4 (.mov (.n 4))]
 (.ret))
 (.skip)))
 (sO [iO 13 (.lit 4 []),iM 5 13]
 (.seq (sO [iM 14 0,iO 15 (.len (.t 14)),iO 16 (.mov (kI 0))]
 (.block 0 (.loop [5,14,15,16] l7)))
 (sO [iM 30 5,iM 4 30]
 (.ret)))))
def Bo:SFn:=⟨2,31,Lr,[.t 4]⟩
def mO:SCode :=
 .seq (sO [iM 11 5,iM 12 0,iO 13 (.len (.t 12)),iV 14 .lss 11 13]
 (.cond (.t 14) (.skip)
 (.seq (.keep []) (.exit 0))))
 (.seq (.block 1 (sO [iM 17 0,iM 18 5,iO 19 (.ixa 4 (.t 17) (.t 18)),iK 20 4 19,iM 21 1,iM 22 5,iO 23 (.ixa 4 (.t 21) (.t 22)),iK 24 4 23,iO 25 (.callr E2 [.t 20,.t 24]),iO 26 (.not (.t 25))]
 (.cond (.t 26) (sO [iO 4 (.mov (kB false))]
 (.seq (.keep [4]) .ret))
 (.skip))))
 (.ops [iM 15 5,iO 16 (.ari .add (.t 15) (kI 1)),iM 5 16]))
def Fm:SCode :=
 sO [iO 4 (.mov (kB false))]
 (.seq (sO [iM 6 0,iO 7 (.len (.t 6)),iM 8 1,iO 9 (.len (.t 8)),iV 10 .neq 7 9]
 (.cond (.t 10) (sO [iO 4 (.mov (kB false))]
 (.ret))
 (.skip)))
 (.seq (sO [iO 5 (.mov (kI 0))]
 (.block 0 (.loop [0,1,5] mO)))
 (sO [iO 4 (.mov (kB true))]
 (.ret))))
def uT:SFn:=⟨2,27,Fm,[.t 4]⟩
def j6:SCode :=
 .seq (sO [iM 6 5,iM 7 0,iO 8 (.len (.t 7)),iV 9 .lss 6 8]
 (.cond (.t 9) (.skip)
 (.seq (.keep [1]) (.exit 0))))
 (.seq (.block 1 (sO [iM 12 0,iM 13 5,iM 14 1,iO 15 (.callr eE [.t 14]),iO 16 (.ixa 4 (.t 12) (.t 13)),iF 17 0 16,iN (.store 1 (.t 17) (.t 15))]
 (sO [iM 18 1,iO 19 (.ari .add (.t 18) (kI 1)),iM 1 19]
 (sO [iM 20 0,iM 21 5,iM 22 1,iO 23 (.ixa 4 (.t 20) (.t 21)),iF 24 1 23,iN (.store 1 (.t 24) (.t 22))]
 (sO [iM 25 1,iO 26 (.ari .add (.t 25) (kI 1)),iM 1 26]
 (sO [iM 27 0,iM 28 5,iM 29 1,iO 30 (.ixa 4 (.t 27) (.t 28)),iF 31 2 30,iN (.store 1 (.t 31) (.t 29))]
 (sO [iM 32 1,iO 33 (.ari .add (.t 32) (kI 1)),iM 1 33]
 (.ops [iM 34 0,iM 35 5,iO 36 (.ixa 4 (.t 34) (.t 35)),iF 37 3 36,iL 38 37,iM 39 1,iO 40 (.callb yV [.t 38,.t 39] [true,false]),iM 1 40]))))))))
 (.ops [iM 10 5,iO 11 (.ari .add (.t 10) (kI 1)),iM 5 11]))
def Aa:SCode :=
 sO [iO 4 (.mov (kI 0))]
 (.seq (sO [iO 5 (.mov (kI 0))]
 (.block 0 (.loop [0,1,5] j6)))
 (sO [iM 41 1,iM 4 41]
 (.ret)))
def qK:SFn:=⟨2,42,Aa,[.t 4]⟩
def kL:SCode :=
 .seq (sO [iM 6 5,iM 7 0,iO 8 (.len (.t 7)),iV 9 .lss 6 8]
 (.cond (.t 9) (.skip)
 (.seq (.keep [1]) (.exit 0))))
 (.seq (.block 1 (.seq (sO [iM 12 0,iM 13 5,iO 14 (.ixa 4 (.t 12) (.t 13)),iF 15 0 14,iL 16 15,iM 17 1,iO 18 (.callr eE [.t 17]),iV 19 .neq 16 18]
 (.cond (.t 19) (sO [iO 4 (.mov (kI (-1)))]
 (.seq (.keep [4]) .ret))
 (.skip)))
 (sO [iM 20 1,iO 21 (.ari .add (.t 20) (kI 1)),iM 1 21]
 (.seq (sO [iM 22 0,iM 23 5,iO 24 (.ixa 4 (.t 22) (.t 23)),iF 25 1 24,iL 26 25,iM 27 1,iV 28 .neq 26 27]
 (.cond (.t 28) (sO [iO 4 (.mov (kI (-1)))]
 (.seq (.keep [4]) .ret))
 (.skip)))
 (sO [iM 29 1,iO 30 (.ari .add (.t 29) (kI 1)),iM 1 30]
 (.seq (sO [iM 31 0,iM 32 5,iO 33 (.ixa 4 (.t 31) (.t 32)),iF 34 2 33,iL 35 34,iM 36 1,iV 37 .neq 35 36]
 (.cond (.t 37) (sO [iO 4 (.mov (kI (-1)))]
 (.seq (.keep [4]) .ret))
 (.skip)))
 (sO [iM 38 1,iO 39 (.ari .add (.t 38) (kI 1)),iM 1 39]
 (sO [iM 40 0,iM 41 5,iO 42 (.ixa 4 (.t 40) (.t 41)),iF 43 3 42,iL 44 43,iM 45 1,iO 46 (.callr x6 [.t 44,.t 45]),iM 1 46]
 (sO [iM 47 1,iE 48 .lss 47 0]
 (.cond (.t 48) (sO [iO 4 (.mov (kI (-1)))]
 (.seq (.keep [4]) .ret))
 (.skip)))))))))))
 (.ops [iM 10 5,iO 11 (.ari .add (.t 10) (kI 1)),iM 5 11]))
def As:SCode :=
 sO [iO 4 (.mov (kI 0))]
 (.seq (sO [iO 5 (.mov (kI 0))]
 (.block 0 (.loop [0,1,5] kL)))
 (sO [iM 49 1,iM 4 49]
 (.ret)))
def qO:SFn:=⟨2,50,As,[.t 4]⟩
def I2:SCode :=
 sO [iO 2 (.vbox 6 (.t 0)),iO 4 (.mov (kI 0))]
 (sO [iM 5 1,iF 6 0 2,iL 7 6,iO 8 (.slen (.t 7)),iO 9 (.ari .sub (.t 5) (.t 8)),iM 1 9]
 (.seq (sO [iM 10 1,iE 11 .lss 10 0]
 (.cond (.t 11) (sO [iO 4 (.mov (kI (-1)))]
 (.ret))
 (.skip)))
 (sO [iF 12 1 2,iL 13 12,iM 14 1,iO 15 (.callr x7 [.t 13,.t 14]),iM 1 15]
 (.seq (sO [iM 16 1,iE 17 .lss 16 0]
 (.cond (.t 17) (sO [iO 4 (.mov (kI (-1)))]
 (.ret))
 (.skip)))
 (sO [iF 18 2 2,iK 19 4 18,iM 20 1,iO 21 (.callr xG [.t 19,.t 20]),iM 1 21]
 (.seq (sO [iM 22 1,iE 23 .lss 22 0]
 (.cond (.t 23) (sO [iO 4 (.mov (kI (-1)))]
 (.ret))
 (.skip)))
 (sO [iM 24 1,iM 4 24]
 (.ret))))))))
def yB:SFn:=⟨2,25,I2,[.t 4]⟩
def oF:SCode :=
 .seq (sO [iM 6 5,iM 7 0,iO 8 (.len (.t 7)),iV 9 .lss 6 8]
 (.cond (.t 9) (.skip)
 (.seq (.keep []) (.exit 0))))
 (.seq (.block 1 (sO [iM 12 0,iM 13 5,iO 14 (.ixa 6 (.t 12) (.t 13)),iF 15 0 14,iL 16 15,iM 17 1,iV 18 .eql 16 17]
 (.cond (.t 18) (sO [iM 19 5,iM 4 19]
 (.seq (.keep [4]) .ret))
 (.skip))))
 (.ops [iM 10 5,iO 11 (.ari .add (.t 10) (kI 1)),iM 5 11]))
def I1:SCode :=
 sO [iO 4 (.mov (kI 0))]
 (.seq (sO [iO 5 (.mov (kI 0))]
 (.block 0 (.loop [0,1,5] oF)))
 (sO [iO 4 (.mov (kI (-1)))]
 (.ret)))
def zH:SFn:=⟨2,20,I1,[.t 4]⟩
def mC:SCode :=
 .seq (sO [iM 11 5,iM 12 0,iO 13 (.len (.t 12)),iV 14 .lss 11 13]
 (.cond (.t 14) (.skip)
 (.seq (.keep [0,1]) (.exit 0))))
 (.seq (.block 1 (sO [iM 17 0,iM 18 5,iM 19 1,iO 20 (.callr J5 [.t 17,.t 18,.t 19]),iM 6 20]
 (sO [iM 21 6,iE 22 .neq 21 0]
 (.cond (.t 22) (sO [iM 23 6,iM 4 23]
 (.seq (.keep [4]) .ret))
 (.skip)))))
 (.ops [iM 15 5,iO 16 (.ari .add (.t 15) (kI 1)),iM 5 16]))
def Mi:SCode :=
 sO [iO 4 (.mov (kI 0))]
 (.seq (sO [iM 8 0,iO 9 (.callr Mu [.t 8]),iO 10 (.not (.t 9))]
 (.cond (.t 10) (sO [iO 4 (.mov (kI 1))]
 (.ret))
 (.skip)))
 (.seq (sO [iO 5 (.mov (kI 0))]
 (.block 0 (.loop [0,1,5] mC)))
 (sO [iM 24 0,iO 25 (.len (.t 24)),iM 7 25]
 (.seq (sO [iM 26 1,iO 27 (.not (.t 26)),iM 28 27,iT 29 28 (.mov (.t 7)),iT 30 28 (.cmp .eql (.t 29) (kI 0)),iT 31 28 (.mov (.t 30)),iU 32 31 (.mov (.t 0)),iU 33 31 (.mov (.t 7)),iU 34 31 (.ari .sub (.t 33) (kI 1)),iU 35 31 (.ixa 6 (.t 32) (.t 34)),iU 36 31 (.faddr 0 (.t 35)),iU 37 31 (.load none (.t 36)),iU 38 31 (.cmp .neq (.t 37) (.c (.string ⟨#[109,97,105,110]⟩))),iT 39 28 (.pick (.t 31) (kB true) (.t 38)),iT 40 28 (.mov (.t 39)),iU 41 40 (.mov (.t 0)),iU 42 40 (.mov (.t 7)),iU 43 40 (.ari .sub (.t 42) (kI 1)),iU 44 40 (.ixa 6 (.t 41) (.t 43)),iU 45 40 (.faddr 1 (.t 44)),iU 46 40 (.load none (.t 45)),iU 47 40 (.len (.t 46)),iU 48 40 (.cmp .gtr (.t 47) (kI 0)),iT 49 28 (.pick (.t 40) (kB true) (.t 48)),iO 50 (.pick (.t 28) (.t 49) (kB false))]
 (.cond (.t 50) (sO [iO 4 (.mov (kI 7))]
 (.ret))
 (.skip)))
 (sO [iO 4 (.mov (kI 0))]
 (.ret))))))
def Bw:SFn:=⟨2,51,Mi,[.t 4]⟩
def K9:SCode :=
 sO [iO 4 (.mov (kI 0))]
 (.seq (sO [iM 5 0,iM 6 1,iV 7 .lss 5 6]
 (.cond (.t 7) (sO [iM 8 0,iM 4 8]
 (.ret))
 (.skip)))
 (sO [iM 9 1,iM 4 9]
 (.ret)))
def Br:SFn:=⟨2,10,K9,[.t 4]⟩
def Ic:SCode :=
 sO [iO 1 (.vbox 6 (.t 0)),iO 2 (.alloc [zS,.s 2 [],zI,zS,zI,.s 4 []])]
 (sO [iO 3 (.alloc [zS,.s 2 [],zI,zS,zI,.s 4 []])]
 (sO [iF 4 0 1,iL 5 4,iF 6 0 3,iN (.store 1 (.t 6) (.t 5))]
 (sO [iF 7 1 1,iL 8 7,iO 9 (.call xQ [.t 8]),iF 10 1 3,iN (.store 1 (.t 10) (.t 9))]
 (sO [iF 11 2 1,iK 12 4 11,iO 13 (.call wX [.t 12]),iF 14 2 3,iN (.store 4 (.t 14) (.t 13))]
 (sO [iK 15 6 3,iN (.store 6 (.t 2) (.t 15))]
 (.ret))))))
def y8:SFn:=⟨1,16,Ic,[.c 2 (some 6)]⟩
def bW:SCode :=
 sO [iV 9 .lss 8 7]
 (.seq (.cond (.t 9) (.skip)
 (.seq (.keep []) (.exit 0)))
 (.seq (.block 1 (sO [iM 10 8,iM 5 10]
 (sO [iM 11 1,iM 12 0,iM 13 5,iO 14 (.ixa 6 (.t 12) (.t 13)),iK 15 6 14,iO 16 (.calli (.t 11) [.t 15])]
 (.cond (.t 16) (sO [iM 17 5,iM 4 17]
 (.seq (.keep [4]) .ret))
 (.skip)))))
 (.ops [iO 18 (.ari .add (.t 8) (kI 1)),iM 8 18])))
def fE:SCode :=
 sO [iO 4 (.mov (kI 0))]
 (.seq (sO [iM 6 0,iO 7 (.len (.t 6)),iO 8 (.mov (kI 0))]
 (.block 0 (.loop [0,1,7,8] bW)))
 (sO [iO 4 (.mov (kI (-1)))]
 (.ret)))
def dE:SFn:=⟨2,19,fE,[.t 4]⟩
def l4:SCode :=
 sO [iV 16 .lss 15 14]
 (.seq (.cond (.t 16) (.skip)
 (.seq (.keep [0,1]) (.exit 0)))
 (.seq (.block 1 (sO [iM 17 15,iO 18 (.ixa 6 (.t 13) (.t 15)),iK 19 6 18,iO 6 (.alloc [zS,.s 2 [],zI,zS,zI,.s 4 []]),iM 5 17,iN (.store 6 (.t 6) (.t 19))]
 (sO [iM 20 0,iM 21 5,iK 22 6 6,iO 23 (.call Hg [.t 22]),iO 24 (.build [.s 6 [],zI,.s 2 []] [(0,1,.t 20),(1,1,.t 21),(2,1,.t 23)]),iO 25 (.box 3 (.t 24)),iM 7 25]
 (sO [iM 26 7,iM 27 1,iO 28 (.callb lH [.t 26,.t 27] [true,false]),iM 8 28]
 (sO [iM 29 8,iE 30 .neq 29 0]
 (.cond (.t 30) (sO [iM 31 8,iM 4 31]
 (.seq (.keep [4]) .ret))
 (.skip)))))))
 (.ops [iO 32 (.ari .add (.t 15) (kI 1)),iM 15 32])))
def K0:SCode :=
 sO [iO 4 (.mov (kI 0))]
 (.seq (sO [iM 10 0,iO 11 (.callr Mw [.t 10]),iO 12 (.not (.t 11))]
 (.cond (.t 12) (sO [iO 4 (.mov (kI 1))]
 (.ret))
 (.skip)))
 (.seq (sO [iM 13 0,iO 14 (.len (.t 13)),iO 15 (.mov (kI 0))]
 (.block 0 (.loop [0,1,13,14,15] l4)))
 (.seq (sO [iM 33 1]
 (.cond (.t 33) (sO [iO 4 (.mov (kI 0))]
 (.ret))
 (.skip)))
 (.seq (sO [iM 34 0,iO 35 (.len (.t 34)),iO 36 (.ari .sub (.t 35) (kI 1)),iM 9 36]
 (sO [iM 37 9,iE 38 .lss 37 0,iM 39 38,iU 40 39 (.mov (.t 0)),iU 41 39 (.mov (.t 9)),iU 42 39 (.ixa 6 (.t 40) (.t 41)),iU 43 39 (.faddr 0 (.t 42)),iU 44 39 (.load none (.t 43)),iU 45 39 (.cmp .neq (.t 44) (.c (.string ⟨#[109,97,105,110]⟩))),iO 46 (.pick (.t 39) (kB true) (.t 45)),iM 47 46,iU 48 47 (.mov (.t 0)),iU 49 47 (.mov (.t 9)),iU 50 47 (.ixa 6 (.t 48) (.t 49)),iU 51 47 (.faddr 1 (.t 50)),iU 52 47 (.load none (.t 51)),iU 53 47 (.len (.t 52)),iU 54 47 (.cmp .gtr (.t 53) (kI 0)),iO 55 (.pick (.t 47) (kB true) (.t 54))]
 (.cond (.t 55) (sO [iO 4 (.mov (kI 7))]
 (.ret))
 (.skip))))
 (sO [iO 4 (.mov (kI 0))]
 (.ret))))))
def By:SFn:=⟨2,56,K0,[.t 4]⟩
def eA:SCode :=
 sO [iO 4 (.mov (kB false))]
 (sO [iM 5 0,iM 6 1,iO 7 (.calli (.f bP) [.t 5,.t 6]),iE 8 .geq 7 0,iM 4 8]
 (.ret))
def cL:SFn:=⟨2,9,eA,[.t 4]⟩
def H7:SCode :=
 sO [iO 2 (.vbox 6 (.t 0)),iO 3 (.vbox 6 (.t 1)),iO 4 (.mov (kB false))]
 (.seq (sO [iF 5 0 2,iL 6 5,iF 7 0 3,iL 8 7,iV 9 .neq 6 8]
 (.cond (.t 9) (sO [iO 4 (.mov (kB false))]
 (.ret))
 (.skip)))
 (.seq (sO [iF 10 1 2,iL 11 10,iF 12 1 3,iL 13 12,iO 14 (.callr yO [.t 11,.t 13]),iO 15 (.not (.t 14))]
 (.cond (.t 15) (sO [iO 4 (.mov (kB false))]
 (.ret))
 (.skip)))
 (.seq (sO [iF 16 2 2,iK 17 4 16,iF 18 2 3,iK 19 4 18,iO 20 (.callr oY [.t 17,.t 19]),iO 21 (.not (.t 20))]
 (.cond (.t 21) (sO [iO 4 (.mov (kB false))]
 (.ret))
 (.skip)))
 (sO [iO 4 (.mov (kB true))]
 (.ret)))))
def yU:SFn:=⟨2,22,H7,[.t 4]⟩
def pF:SCode :=
 .seq (sO [iM 6 0,iE 7 .gtr 6 0]
 (.cond (.t 7) (.skip)
 (.seq (.keep [3]) (.exit 0))))
 (.block 1 (sO [iM 8 0,iO 9 (.ari .rem (.t 8) (kI 10)),iO 10 (.ari .add (kI 48) (.t 9)),iO 11 (.conv .u8 (.t 10)),iO 12 (.lit 1 [.t 11]),iO 13 (.sob (.t 12)),iM 14 3,iO 15 (.cat (.t 13) (.t 14)),iM 3 15]
 (.ops [iM 16 0,iO 17 (.ari .quo (.t 16) (kI 10)),iM 0 17])))
def Dc:SCode :=
 sO [iO 2 (.mov (.c (.string ⟨#[]⟩)))]
 (.seq (sO [iM 4 0,iE 5 .leq 4 0]
 (.cond (.t 5) (sO [iO 2 (.mov (.c (.string ⟨#[109,48]⟩)))]
 (.ret))
 (.skip)))
 (sO [iO 3 (.mov (.c (.string ⟨#[]⟩)))]
 (.seq (.block 0 (.loop [0,3] pF))
 (sO [iM 18 3,iO 19 (.cat (.c (.string ⟨#[109]⟩)) (.t 18)),iM 2 19]
 (.ret)))))
def sL:SFn:=⟨1,20,Dc,[.t 2]⟩
def jB:SCode :=
 .seq (sO [iM 6 5,iM 7 0,iO 8 (.len (.t 7)),iV 9 .lss 6 8]
 (.cond (.t 9) (.skip)
 (.seq (.keep [1]) (.exit 0))))
 (.seq (.block 1 (sO [iM 12 0,iM 13 5,iM 14 1,iO 15 (.callr eE [.t 14]),iO 16 (.ixa 2 (.t 12) (.t 13)),iF 17 0 16,iN (.store 1 (.t 17) (.t 15))]
 (sO [iM 18 1,iO 19 (.ari .add (.t 18) (kI 1)),iM 1 19]
 (sO [iM 20 0,iM 21 5,iM 22 1,iO 23 (.ari .rem (.t 22) (kI 3)),iE 24 .eql 23 0,iO 25 (.ixa 2 (.t 20) (.t 21)),iF 26 1 25,iN (.store 1 (.t 26) (.t 24))]
 (.ops [iM 27 1,iO 28 (.ari .add (.t 27) (kI 1)),iM 1 28])))))
 (.ops [iM 10 5,iO 11 (.ari .add (.t 10) (kI 1)),iM 5 11]))
def xJ:SCode :=
 sO [iO 4 (.mov (kI 0))]
 (.seq (sO [iO 5 (.mov (kI 0))]
 (.block 0 (.loop [0,1,5] jB)))
 (sO [iM 29 1,iM 4 29]
 (.ret)))
def p7:SFn:=⟨2,30,xJ,[.t 4]⟩
def j5:SCode :=
 .seq (sO [iM 6 5,iM 7 0,iO 8 (.len (.t 7)),iV 9 .lss 6 8]
 (.cond (.t 9) (.skip)
 (.seq (.keep [1]) (.exit 0))))
 (.seq (.block 1 (sO [iM 12 0,iM 13 5,iM 14 1,iO 15 (.ixa 4 (.t 12) (.t 13)),iF 16 0 15,iN (.store 1 (.t 16) (.t 14))]
 (sO [iM 17 1,iO 18 (.ari .add (.t 17) (kI 1)),iM 1 18]
 (sO [iM 19 0,iM 20 5,iM 21 1,iO 22 (.callr eE [.t 21]),iO 23 (.ixa 4 (.t 19) (.t 20)),iF 24 1 23,iN (.store 1 (.t 24) (.t 22))]
 (sO [iM 25 1,iO 26 (.ari .add (.t 25) (kI 1)),iM 1 26]
 (sO [iM 27 0,iM 28 5,iM 29 1,iO 30 (.ixa 4 (.t 27) (.t 28)),iF 31 2 30,iN (.store 1 (.t 31) (.t 29))]
 (sO [iM 32 1,iO 33 (.ari .add (.t 32) (kI 1)),iM 1 33]
 (.ops [iM 34 0,iM 35 5,iO 36 (.ixa 4 (.t 34) (.t 35)),iF 37 3 36,iL 38 37,iM 39 1,iO 40 (.callb pK [.t 38,.t 39] [true,false]),iM 1 40]))))))))
 (.ops [iM 10 5,iO 11 (.ari .add (.t 10) (kI 1)),iM 5 11]))
def A2:SCode :=
 sO [iO 4 (.mov (kI 0))]
 (.seq (sO [iO 5 (.mov (kI 0))]
 (.block 0 (.loop [0,1,5] j5)))
 (sO [iM 41 1,iM 4 41]
 (.ret)))
def qT:SFn:=⟨2,42,A2,[.t 4]⟩
def lI:SCode :=
 .seq (sO [iM 6 5,iM 7 0,iO 8 (.len (.t 7)),iV 9 .lss 6 8]
 (.cond (.t 9) (.skip)
 (.seq (.keep [1]) (.exit 0))))
 (.seq (.block 1 (.seq (sO [iM 12 0,iM 13 5,iO 14 (.ixa 1 (.t 12) (.t 13)),iL 15 14,iM 16 1,iV 17 .neq 15 16]
 (.cond (.t 17) (sO [iO 4 (.mov (kI (-1)))]
 (.seq (.keep [4]) .ret))
 (.skip)))
 (.ops [iM 18 1,iO 19 (.ari .add (.t 18) (kI 1)),iM 1 19])))
 (.ops [iM 10 5,iO 11 (.ari .add (.t 10) (kI 1)),iM 5 11]))
def Dd:SCode :=
 sO [iO 4 (.mov (kI 0))]
 (.seq (sO [iO 5 (.mov (kI 0))]
 (.block 0 (.loop [0,1,5] lI)))
 (sO [iM 20 1,iM 4 20]
 (.ret)))
def tG:SFn:=⟨2,21,Dd,[.t 4]⟩
def iJ:SCode :=
 .seq (sO [iM 7 4,iM 8 0,iO 9 (.len (.t 8)),iV 10 .lss 7 9]
 (.cond (.t 10) (.skip)
 (.seq (.keep [3]) (.exit 0))))
 (.seq (.block 1 (sO [iM 13 0,iM 14 4,iO 15 (.ixa 6 (.t 13) (.t 14)),iK 16 6 15,iO 17 (.call tR [.t 16]),iO 5 (.alloc [zS,zI,zI,.s 7 []]),iN (.store 4 (.t 5) (.t 17))]
 (.seq (sO [iK 18 4 5,iO 19 (.callr rM [.t 18]),iO 20 (.not (.t 19))]
 (.cond (.t 20) (sO [iO 21 (.lit 4 []),iM 2 21]
 (.seq (.keep [2]) .ret))
 (.skip)))
 (.ops [iM 22 3,iK 23 4 5,iO 24 (.lit 4 [.t 23]),iO 25 (.app 4 56 (.t 22) (.t 24)),iM 3 25]))))
 (.ops [iM 11 4,iO 12 (.ari .add (.t 11) (kI 1)),iM 4 12]))
def Dp:SCode :=
 sO [iO 2 (.mov (.n 4))]
 (sO [iO 6 (.lit 4 []),iM 3 6]
 (.seq (sO [iO 4 (.mov (kI 0))]
 (.block 0 (.loop [0,3,4] iJ)))
 (sO [iM 26 3,iM 2 26]
 (.ret))))
def tB:SFn:=⟨1,27,Dp,[.t 2]⟩
def pT:SCode :=
 .seq (sO [iM 21 4,iM 22 3,iO 23 (.nck (.t 22)),iF 24 0 23,iL 25 24,iO 26 (.len (.t 25)),iV 27 .lss 21 26]
 (.cond (.t 27) (.skip)
 (.seq (.keep [1,2,3]) (.exit 0))))
 (.seq (.block 1 (.ops [iM 30 3,iM 31 4,iO 32 (.build [zI,zI,zI,zI,zI,zS,.s 1 []] [(0,1,.c (.int .i64 1)),(1,1,.t 31)]),iO 33 (.callb aZ [.t 30,.t 32] [true,true])]))
 (.ops [iM 28 4,iO 29 (.ari .add (.t 28) (kI 1)),iM 4 29]))
def Ln:SCode :=
 sO [iO 1 (.vbox 6 (.t 0)),iO 2 (.alloc [zS,zI,zI,.s 7 []])]
 (sO [iK 6 6 1,iO 7 (.call Hg [.t 6]),iO 8 (.build [.s 2 [],.s 7 [],zI,zI] [(0,1,.t 7)]),iO 9 (.box 4 (.t 8)),iM 3 9]
 (sO [iM 10 3,iM 11 3,iO 12 (.nck (.t 11)),iF 13 0 12,iL 14 13,iO 15 (.len (.t 14)),iO 16 (.nck (.t 10)),iF 17 2 16,iN (.store 1 (.t 17) (.t 15))]
 (.seq (sO [iF 18 1 1,iL 19 18,iO 20 (.len (.t 19)),iM 4 20]
 (.block 0 (.loop [1,2,3,4] pT)))
 (sO [iM 34 3,iF 35 2 1,iK 36 4 35,iO 37 (.callb d3 [.t 34,.t 36] [true,false])]
 (sO [iM 38 3,iO 39 (.build [zI,zI,zI,zI,zI,zS,.s 1 []] [(0,1,.c (.int .i64 1))]),iO 40 (.callb bN [.t 38,.t 39] [true,true]),iM 5 40]
 (sO [iM 41 3,iM 42 5,iO 43 (.build [zI,zI,zI,zI,zI,zS,.s 1 []] [(0,1,.c (.int .i64 12)),(2,1,.t 42)]),iO 44 (.callb aZ [.t 41,.t 43] [true,true])]
 (sO [iF 45 0 1,iL 46 45,iF 47 1 1,iL 48 47,iO 49 (.len (.t 48)),iM 50 3,iO 51 (.nck (.t 50)),iF 52 2 51,iL 53 52,iM 54 3,iO 55 (.nck (.t 54)),iF 56 1 55,iL 57 56,iO 58 (.build [zS,zI,zI,.s 7 []] [(0,1,.t 46),(1,1,.t 49),(2,1,.t 53),(3,1,.t 57)]),iN (.store 4 (.t 2) (.t 58))]
 (.ret))))))))
def Bz:SFn:=⟨1,59,Ln,[.c 2 (some 4)]⟩
def oD:SCode :=
 sO [iV 29 .lss 28 27]
 (.seq (.cond (.t 29) (.skip)
 (.seq (.keep [1]) (.exit 0)))
 (.seq (.block 1 (sO [iM 30 28,iO 31 (.ixa 7 (.t 26) (.t 28)),iK 32 7 31,iO 4 (.alloc [zI,zI,zI,zI,zI,zS,.s 1 []]),iM 3 30,iN (.store 7 (.t 4) (.t 32))]
 (.block 2 (sO [iK 34 7 4,iF 35 2 1,iL 36 35,iO 37 (.callr Jj [.t 34,.t 36]),iO 38 (.not (.t 37)),iM 33 38]
 (.cond (.t 33) (sO [iO 2 (.mov (kB false))]
 (.seq (.keep [2]) .ret))
 (sO [iF 40 0 4,iL 41 40,iE 42 .eql 41 8,iM 43 42,iT 44 43 (.faddr 4 (.t 4)),iT 45 43 (.load none (.t 44)),iT 46 43 (.callr cM [.t 45,.c (.int .i64 0),.c (.int .i64 900)]),iT 47 43 (.not (.t 46)),iT 48 43 (.mov (.t 47)),iU 49 48 (.faddr 3 (.t 1)),iU 50 48 (.load none (.t 49)),iU 51 48 (.faddr 4 (.t 4)),iU 52 48 (.load none (.t 51)),iU 53 48 (.callr tX [.t 50,.t 52]),iU 54 48 (.mov (.t 3)),iU 55 48 (.cmp .neq (.t 53) (.t 54)),iT 56 43 (.pick (.t 48) (kB true) (.t 55)),iO 57 (.pick (.t 43) (.t 56) (kB false)),iM 39 57]
 (.cond (.t 39) (sO [iO 2 (.mov (kB false))]
 (.seq (.keep [2]) .ret))
 (sO [iF 59 0 4,iL 60 59,iE 61 .eql 60 9,iM 62 61,iU 63 62 (.faddr 0 (.t 4)),iU 64 62 (.load none (.t 63)),iU 65 62 (.cmp .eql (.t 64) (kI 10)),iO 66 (.pick (.t 62) (kB true) (.t 65)),iM 67 66,iT 68 67 (.faddr 3 (.t 1)),iT 69 67 (.load none (.t 68)),iT 70 67 (.faddr 4 (.t 4)),iT 71 67 (.load none (.t 70)),iT 72 67 (.callr tX [.t 69,.t 71]),iT 73 67 (.cmp .lss (.t 72) (kI 0)),iO 74 (.pick (.t 67) (.t 73) (kB false)),iM 58 74]
 (.cond (.t 58) (sO [iO 2 (.mov (kB false))]
 (.seq (.keep [2]) .ret))
 (.skip))))))))))
 (.ops [iO 75 (.ari .add (.t 28) (kI 1)),iM 28 75])))
def xU:SCode :=
 sO [iO 1 (.vbox 4 (.t 0)),iO 2 (.mov (kB false))]
 (.seq (sO [iF 5 2 1,iL 6 5,iO 7 (.callr cM [.t 6,.c (.int .i64 0),.c (.int .i64 250)]),iO 8 (.not (.t 7)),iM 9 8,iU 10 9 (.faddr 1 (.t 1)),iU 11 9 (.load none (.t 10)),iU 12 9 (.faddr 2 (.t 1)),iU 13 9 (.load none (.t 12)),iU 14 9 (.mm false (kI 4) (.t 13)),iU 15 9 (.callr cM [.t 11,.c (.int .i64 0),.t 14]),iU 16 9 (.not (.t 15)),iO 17 (.pick (.t 9) (kB true) (.t 16)),iM 18 17,iU 19 18 (.faddr 3 (.t 1)),iU 20 18 (.load none (.t 19)),iU 21 18 (.len (.t 20)),iU 22 18 (.callr cM [.t 21,.c (.int .i64 1),.c (.int .i64 900)]),iU 23 18 (.not (.t 22)),iO 24 (.pick (.t 18) (kB true) (.t 23))]
 (.cond (.t 24) (sO [iO 2 (.mov (kB false))]
 (.ret))
 (.skip)))
 (.seq (sO [iF 25 3 1,iL 26 25,iO 27 (.len (.t 26)),iO 28 (.mov (kI 0))]
 (.block 0 (.loop [1,26,27,28] oD)))
 (sO [iF 76 3 1,iL 77 76,iF 78 3 1,iL 79 78,iO 80 (.len (.t 79)),iO 81 (.ari .sub (.t 80) (kI 1)),iO 82 (.ixa 7 (.t 77) (.t 81)),iF 83 0 82,iL 84 83,iO 85 (.callr Mz [.t 84]),iM 2 85]
 (.ret))))
def yA:SFn:=⟨1,86,xU,[.t 2]⟩
def Ie:SCode :=
 sO [iO 2 (.vbox 4 (.t 0)),iO 3 (.vbox 4 (.t 1)),iO 4 (.mov (kB false))]
 (.seq (sO [iF 5 0 2,iL 6 5,iF 7 0 3,iL 8 7,iV 9 .neq 6 8]
 (.cond (.t 9) (sO [iO 4 (.mov (kB false))]
 (.ret))
 (.skip)))
 (.seq (sO [iF 10 1 2,iL 11 10,iF 12 1 3,iL 13 12,iV 14 .neq 11 13]
 (.cond (.t 14) (sO [iO 4 (.mov (kB false))]
 (.ret))
 (.skip)))
 (.seq (sO [iF 15 2 2,iL 16 15,iF 17 2 3,iL 18 17,iV 19 .neq 16 18]
 (.cond (.t 19) (sO [iO 4 (.mov (kB false))]
 (.ret))
 (.skip)))
 (.seq (sO [iF 20 3 2,iL 21 20,iF 22 3 3,iL 23 22,iO 24 (.callr Fa [.t 21,.t 23]),iO 25 (.not (.t 24))]
 (.cond (.t 25) (sO [iO 4 (.mov (kB false))]
 (.ret))
 (.skip)))
 (sO [iO 4 (.mov (kB true))]
 (.ret))))))
def zD:SFn:=⟨2,26,Ie,[.t 4]⟩
def lN:SCode :=
 .seq (sO [iM 6 5,iM 7 0,iO 8 (.len (.t 7)),iV 9 .lss 6 8]
 (.cond (.t 9) (.skip)
 (.seq (.keep [1]) (.exit 0))))
 (.seq (.block 1 (sO [iM 12 0,iM 13 5,iM 14 1,iO 15 (.ixa 7 (.t 12) (.t 13)),iF 16 0 15,iN (.store 1 (.t 16) (.t 14))]
 (sO [iM 17 1,iO 18 (.ari .add (.t 17) (kI 1)),iM 1 18]
 (sO [iM 19 0,iM 20 5,iM 21 1,iO 22 (.ixa 7 (.t 19) (.t 20)),iF 23 1 22,iN (.store 1 (.t 23) (.t 21))]
 (sO [iM 24 1,iO 25 (.ari .add (.t 24) (kI 1)),iM 1 25]
 (sO [iM 26 0,iM 27 5,iM 28 1,iO 29 (.ixa 7 (.t 26) (.t 27)),iF 30 2 29,iN (.store 1 (.t 30) (.t 28))]
 (sO [iM 31 1,iO 32 (.ari .add (.t 31) (kI 1)),iM 1 32]
 (sO [iM 33 0,iM 34 5,iM 35 1,iO 36 (.ixa 7 (.t 33) (.t 34)),iF 37 3 36,iN (.store 1 (.t 37) (.t 35))]
 (sO [iM 38 1,iO 39 (.ari .add (.t 38) (kI 1)),iM 1 39]
 (sO [iM 40 0,iM 41 5,iM 42 1,iO 43 (.ixa 7 (.t 40) (.t 41)),iF 44 4 43,iN (.store 1 (.t 44) (.t 42))]
 (sO [iM 45 1,iO 46 (.ari .add (.t 45) (kI 1)),iM 1 46]
 (sO [iM 47 0,iM 48 5,iM 49 1,iO 50 (.callr eE [.t 49]),iO 51 (.ixa 7 (.t 47) (.t 48)),iF 52 5 51,iN (.store 1 (.t 52) (.t 50))]
 (sO [iM 53 1,iO 54 (.ari .add (.t 53) (kI 1)),iM 1 54]
 (.ops [iM 55 0,iM 56 5,iO 57 (.ixa 7 (.t 55) (.t 56)),iF 58 6 57,iL 59 58,iM 60 1,iO 61 (.callb y9 [.t 59,.t 60] [true,false]),iM 1 61]))))))))))))))
 (.ops [iM 10 5,iO 11 (.ari .add (.t 10) (kI 1)),iM 5 11]))
def D4:SCode :=
 sO [iO 4 (.mov (kI 0))]
 (.seq (sO [iO 5 (.mov (kI 0))]
 (.block 0 (.loop [0,1,5] lN)))
 (sO [iM 62 1,iM 4 62]
 (.ret)))
def tC:SFn:=⟨2,63,D4,[.t 4]⟩
def lT:SCode :=
 .seq (sO [iM 6 5,iM 7 0,iO 8 (.len (.t 7)),iV 9 .lss 6 8]
 (.cond (.t 9) (.skip)
 (.seq (.keep [1]) (.exit 0))))
 (.seq (.block 1 (.seq (sO [iM 12 0,iM 13 5,iO 14 (.ixa 7 (.t 12) (.t 13)),iF 15 0 14,iL 16 15,iM 17 1,iV 18 .neq 16 17]
 (.cond (.t 18) (sO [iO 4 (.mov (kI (-1)))]
 (.seq (.keep [4]) .ret))
 (.skip)))
 (sO [iM 19 1,iO 20 (.ari .add (.t 19) (kI 1)),iM 1 20]
 (.seq (sO [iM 21 0,iM 22 5,iO 23 (.ixa 7 (.t 21) (.t 22)),iF 24 1 23,iL 25 24,iM 26 1,iV 27 .neq 25 26]
 (.cond (.t 27) (sO [iO 4 (.mov (kI (-1)))]
 (.seq (.keep [4]) .ret))
 (.skip)))
 (sO [iM 28 1,iO 29 (.ari .add (.t 28) (kI 1)),iM 1 29]
 (.seq (sO [iM 30 0,iM 31 5,iO 32 (.ixa 7 (.t 30) (.t 31)),iF 33 2 32,iL 34 33,iM 35 1,iV 36 .neq 34 35]
 (.cond (.t 36) (sO [iO 4 (.mov (kI (-1)))]
 (.seq (.keep [4]) .ret))
 (.skip)))
 (sO [iM 37 1,iO 38 (.ari .add (.t 37) (kI 1)),iM 1 38]
 (.seq (sO [iM 39 0,iM 40 5,iO 41 (.ixa 7 (.t 39) (.t 40)),iF 42 3 41,iL 43 42,iM 44 1,iV 45 .neq 43 44]
 (.cond (.t 45) (sO [iO 4 (.mov (kI (-1)))]
 (.seq (.keep [4]) .ret))
 (.skip)))
 (sO [iM 46 1,iO 47 (.ari .add (.t 46) (kI 1)),iM 1 47]
 (.seq (sO [iM 48 0,iM 49 5,iO 50 (.ixa 7 (.t 48) (.t 49)),iF 51 4 50,iL 52 51,iM 53 1,iV 54 .neq 52 53]
 (.cond (.t 54) (sO [iO 4 (.mov (kI (-1)))]
 (.seq (.keep [4]) .ret))
 (.skip)))
 (sO [iM 55 1,iO 56 (.ari .add (.t 55) (kI 1)),iM 1 56]
 (.seq (sO [iM 57 0,iM 58 5,iO 59 (.ixa 7 (.t 57) (.t 58)),iF 60 5 59,iL 61 60,iM 62 1,iO 63 (.callr eE [.t 62]),iV 64 .neq 61 63]
 (.cond (.t 64) (sO [iO 4 (.mov (kI (-1)))]
 (.seq (.keep [4]) .ret))
 (.skip)))
 (sO [iM 65 1,iO 66 (.ari .add (.t 65) (kI 1)),iM 1 66]
 (sO [iM 67 0,iM 68 5,iO 69 (.ixa 7 (.t 67) (.t 68)),iF 70 6 69,iL 71 70,iM 72 1,iO 73 (.callr yH [.t 71,.t 72]),iM 1 73]
 (sO [iM 74 1,iE 75 .lss 74 0]
 (.cond (.t 75) (sO [iO 4 (.mov (kI (-1)))]
 (.seq (.keep [4]) .ret))
 (.skip)))))))))))))))))
 (.ops [iM 10 5,iO 11 (.ari .add (.t 10) (kI 1)),iM 5 11]))
def Du:SCode :=
 sO [iO 4 (.mov (kI 0))]
 (.seq (sO [iO 5 (.mov (kI 0))]
 (.block 0 (.loop [0,1,5] lT)))
 (sO [iM 76 1,iM 4 76]
 (.ret)))
def sC:SFn:=⟨2,77,Du,[.t 4]⟩
def lL:SCode :=
 .seq (sO [iM 12 5,iM 13 0,iO 14 (.len (.t 13)),iV 15 .lss 12 14]
 (.cond (.t 15) (.skip)
 (.seq (.keep [1]) (.exit 0))))
 (.seq (.block 1 (sO [iM 18 0,iM 19 5,iO 20 (.ixa 2 (.t 18) (.t 19)),iK 21 2 20,iM 22 1,iO 23 (.callr Bt [.t 21,.t 22]),iM 1 23]
 (sO [iM 24 1,iE 25 .lss 24 0]
 (.cond (.t 25) (sO [iO 4 (.mov (kI (-1)))]
 (.seq (.keep [4]) .ret))
 (.skip)))))
 (.ops [iM 16 5,iO 17 (.ari .add (.t 16) (kI 1)),iM 5 17]))
def Dh:SCode :=
 sO [iO 4 (.mov (kI 0))]
 (sO [iM 6 1,iM 7 0,iO 8 (.len (.t 7)),iO 9 (.ari .sub (.t 6) (.t 8)),iM 1 9]
 (.seq (sO [iM 10 1,iE 11 .lss 10 0]
 (.cond (.t 11) (sO [iO 4 (.mov (kI (-1)))]
 (.ret))
 (.skip)))
 (.seq (sO [iO 5 (.mov (kI 0))]
 (.block 0 (.loop [0,1,5] lL)))
 (sO [iM 26 1,iM 4 26]
 (.ret)))))
def sD:SFn:=⟨2,27,Dh,[.t 4]⟩
def In:SCode :=
 sO [iO 2 (.vbox 4 (.t 0)),iO 4 (.mov (kI 0))]
 (sO [iM 5 1,iF 6 1 2,iL 7 6,iO 8 (.slen (.t 7)),iO 9 (.ari .sub (.t 5) (.t 8)),iM 1 9]
 (.seq (sO [iM 10 1,iE 11 .lss 10 0]
 (.cond (.t 11) (sO [iO 4 (.mov (kI (-1)))]
 (.ret))
 (.skip)))
 (sO [iF 12 3 2,iL 13 12,iM 14 1,iO 15 (.callr B4 [.t 13,.t 14]),iM 1 15]
 (.seq (sO [iM 16 1,iE 17 .lss 16 0]
 (.cond (.t 17) (sO [iO 4 (.mov (kI (-1)))]
 (.ret))
 (.skip)))
 (sO [iM 18 1,iM 4 18]
 (.ret))))))
def yK:SFn:=⟨2,19,In,[.t 4]⟩
def q9:SCode :=
 .seq (sO [iM 16 5,iF 17 1 4,iL 18 17,iO 19 (.len (.t 18)),iV 20 .lss 16 19]
 (.cond (.t 20) (.skip)
 (.seq (.keep [0,3,4]) (.exit 2))))
 (.seq (.block 3 (sO [iF 23 1 4,iL 24 23,iM 25 5,iO 26 (.ixa 2 (.t 24) (.t 25)),iF 27 0 26,iL 28 27,iO 29 (.callr rT [.t 28]),iO 30 (.not (.t 29))]
 (.cond (.t 30) (sO [iO 2 (.mov (kB false))]
 (.seq (.keep [2]) .ret))
 (.skip))))
 (.ops [iM 21 5,iO 22 (.ari .add (.t 21) (kI 1)),iM 5 22]))
def rA:SCode :=
 .seq (sO [iM 6 3,iM 7 0,iO 8 (.len (.t 7)),iV 9 .lss 6 8]
 (.cond (.t 9) (.skip)
 (.seq (.keep [0]) (.exit 0))))
 (.seq (.block 1 (sO [iM 12 0,iM 13 3,iO 14 (.ixa 6 (.t 12) (.t 13)),iK 15 6 14,iO 4 (.alloc [zS,.s 2 [],zI,zS,zI,.s 4 []]),iN (.store 6 (.t 4) (.t 15))]
 (.seq (sO [iO 5 (.mov (kI 0))]
 (.block 2 (.loop [0,3,4,5] q9)))
 (sO [iF 31 0 4,iL 32 31,iO 33 (.callr rT [.t 32]),iO 34 (.not (.t 33)),iM 35 34,iU 36 35 (.faddr 2 (.t 4)),iU 37 35 (.faddr 0 (.t 36)),iU 38 35 (.load none (.t 37)),iU 39 35 (.cmp .neq (.t 38) (kI 1)),iO 40 (.pick (.t 35) (kB true) (.t 39)),iM 41 40,iU 42 41 (.faddr 2 (.t 4)),iU 43 41 (.load (some 4) (.t 42)),iU 44 41 (.callr t9 [.t 43]),iU 45 41 (.cmp .gtr (.t 44) (kI 20)),iO 46 (.pick (.t 41) (kB true) (.t 45)),iM 47 46,iU 48 47 (.faddr 2 (.t 4)),iU 49 47 (.load (some 4) (.t 48)),iU 50 47 (.callr cN [.t 49]),iU 51 47 (.not (.t 50)),iO 52 (.pick (.t 47) (kB true) (.t 51))]
 (.cond (.t 52) (sO [iO 2 (.mov (kB false))]
 (.seq (.keep [2]) .ret))
 (.skip))))))
 (.ops [iM 10 3,iO 11 (.ari .add (.t 10) (kI 1)),iM 3 11]))
def On:SCode :=
 sO [iO 2 (.mov (kB false))]
 (.seq (sO [iO 3 (.mov (kI 0))]
 (.block 0 (.loop [0,3] rA)))
 (sO [iM 53 0,iO 54 (.len (.t 53)),iE 55 .leq 54 40,iM 2 55]
 (.ret)))
def Fq:SFn:=⟨1,56,On,[.t 2]⟩
def pX:SCode :=
 .seq (sO [iM 79 13,iF 80 1 7,iL 81 80,iO 82 (.len (.t 81)),iV 83 .lss 79 82]
 (.cond (.t 83) (.skip)
 (.seq (.keep [2,7,9,10,12]) (.exit 0))))
 (.seq (.block 1 (.ops [iM 86 12,iM 87 86,iU 88 87 (.faddr 1 (.t 7)),iU 89 87 (.load none (.t 88)),iU 90 87 (.mov (.t 13)),iU 91 87 (.ixa 2 (.t 89) (.t 90)),iU 92 87 (.faddr 1 (.t 91)),iU 93 87 (.load none (.t 92)),iO 94 (.pick (.t 87) (kB true) (.t 93)),iM 12 94]))
 (.ops [iM 84 13,iO 85 (.ari .add (.t 84) (kI 1)),iM 13 85]))
def Ko:SCode :=
 sO [iO 6 (.mov (kI 0))]
 (sO [iM 14 0,iM 15 1,iO 16 (.ixa 6 (.t 14) (.t 15)),iK 17 6 16,iO 7 (.alloc [zS,.s 2 [],zI,zS,zI,.s 4 []]),iN (.store 6 (.t 7) (.t 17))]
 (sO [iK 18 6 7,iO 19 (.callr Ho [.t 18]),iM 8 19]
 (sO [iO 20 (.lit 1 [.c (.int .i64 13),.c (.int .i64 14),.c (.int .i64 15),.c (.int .i64 16),.c (.int .i64 17),.c (.int .i64 28),.c (.int .i64 29),.c (.int .i64 30),.c (.int .i64 31)]),iM 9 20]
 (sO [iO 21 (.lit 1 [.c (.int .i64 6),.c (.int .i64 8),.c (.int .i64 9),.c (.int .i64 10),.c (.int .i64 11),.c (.int .i64 12),.c (.int .i64 27)]),iM 10 21]
 (.seq (sO [iM 22 0,iF 23 0 7,iL 24 23,iO 25 (.callr o9 [.t 22,.t 24]),iM 26 1,iV 27 .neq 25 26,iM 28 27,iU 29 28 (.mov (.t 8)),iU 30 28 (.callr Ce [.t 29]),iO 31 (.pick (.t 28) (kB true) (.t 30))]
 (.cond (.t 31) (sO [iO 6 (.mov (kI 2))]
 (.ret))
 (.skip)))
 (.seq (sO [iM 32 8,iO 33 (.len (.t 32)),iE 34 .gtr 33 8,iM 35 34,iU 36 35 (.faddr 1 (.t 7)),iU 37 35 (.load none (.t 36)),iU 38 35 (.len (.t 37)),iU 39 35 (.cmp .gtr (.t 38) (kI 4)),iO 40 (.pick (.t 35) (kB true) (.t 39)),iM 41 40,iU 42 41 (.faddr 2 (.t 7)),iU 43 41 (.load (some 4) (.t 42)),iU 44 41 (.callr pJ [.t 43]),iU 45 41 (.not (.t 44)),iO 46 (.pick (.t 41) (kB true) (.t 45))]
 (.cond (.t 46) (sO [iO 6 (.mov (kI 3))]
 (.ret))
 (.skip)))
 (sO [iM 47 0,iM 48 1,iO 49 (.lit 2 []),iF 50 1 7,iL 51 50,iO 52 (.app 2 24 (.t 49) (.t 51)),iO 53 (.build [.s 6 [],zI,.s 2 [],zI,.v (.bool false)] [(0,1,.t 47),(1,1,.t 48),(2,1,.t 52)]),iO 54 (.box 5 (.t 53)),iM 11 54]
 (sO [iM 55 11,iF 56 2 7,iK 57 4 56,iO 58 (.callb tS [.t 55,.t 57] [true,false])]
 (.seq (sO [iM 59 11,iO 60 (.nck (.t 59)),iF 61 4 60,iL 62 61]
 (.cond (.t 62) (sO [iO 6 (.mov (kI 4))]
 (.ret))
 (.skip)))
 (sO [iM 63 0,iM 64 1,iO 65 (.lit 2 []),iF 66 1 7,iL 67 66,iO 68 (.app 2 24 (.t 65) (.t 67)),iO 69 (.build [.s 6 [],zI,.s 2 [],zI,.v (.bool false)] [(0,1,.t 63),(1,1,.t 64),(2,1,.t 68)]),iO 70 (.box 5 (.t 69)),iM 11 70]
 (sO [iM 71 11,iF 72 2 7,iK 73 4 72,iO 74 (.callb t8 [.t 71,.t 73] [true,false])]
 (.seq (sO [iM 75 11,iO 76 (.nck (.t 75)),iF 77 4 76,iL 78 77]
 (.cond (.t 78) (sO [iO 6 (.mov (kI 5))]
 (.ret))
 (.skip)))
 (sO [iO 12 (.mov (kB false))]
 (.seq (sO [iO 13 (.mov (kI 0))]
 (.block 0 (.loop [2,7,9,10,12,13] pX)))
 (.seq (sO [iM 95 2,iO 96 (.not (.t 95)),iM 97 96,iT 98 97 (.faddr 2 (.t 7)),iT 99 97 (.load (some 4) (.t 98)),iT 100 97 (.mov (.t 9)),iT 101 97 (.callr vC [.t 99,.t 100]),iO 102 (.pick (.t 97) (.t 101) (kB false)),iM 103 102,iU 104 103 (.mov (.t 2)),iU 105 103 (.mov (.t 104)),iT 106 105 (.mov (.t 12)),iT 107 105 (.mov (.t 106)),iU 108 107 (.faddr 2 (.t 7)),iU 109 107 (.load (some 4) (.t 108)),iU 110 107 (.mov (.t 10)),iU 111 107 (.callr vC [.t 109,.t 110]),iT 112 105 (.pick (.t 107) (kB true) (.t 111)),iU 113 103 (.pick (.t 105) (.t 112) (kB false)),iO 114 (.pick (.t 103) (kB true) (.t 113))]
 (.cond (.t 114) (sO [iO 6 (.mov (kI 6))]
 (.ret))
 (.skip)))
 (sO [iO 6 (.mov (kI 0))]
 (.ret)))))))))))))))))
def Cu:SFn:=⟨3,115,Ko,[.t 6]⟩
def Il:SCode :=
 sO [iO 2 (.mov (kB false))]
 (sO [iM 3 0,iO 4 (.callr cH [.t 3,.c (.int .i64 (-2147483648)),.c (.int .i64 2147483647)]),iM 2 4]
 (.ret))
def xY:SFn:=⟨1,5,Il,[.t 2]⟩
def Ox:SCode :=
 sO [iO 1 (.vbox 6 (.t 0)),iO 2 (.mov (.n 2))]
 (.seq (.opsd [⟨iF 3 2 1,0,[]⟩,⟨iK 4 4 3,1,[]⟩,⟨iF 6 1 1,3,[]⟩,⟨iL 7 6,4,[]⟩,⟨iO 5 (.lit 2 []),2,[iF 3 2 1,iK 4 4 3,iF 6 1 1,iL 7 6]⟩,⟨iO 8 (.app 2 24 (.t 5) (.t 7)),5,[iF 3 2 1,iK 4 4 3]⟩,⟨iO 9 (.callb pA [.t 4,.t 8] [false,true]),6,[]⟩,⟨iM 2 9,7,[]⟩])
 (.ret))
def Gp:SFn:=⟨1,10,Ox,[.t 2]⟩
def lX:SCode :=
 .seq (sO [iM 8 4,iM 9 0,iO 10 (.len (.t 9)),iV 11 .lss 8 10]
 (.cond (.t 11) (.skip)
 (.seq (.keep [3]) (.exit 0))))
 (.seq (.block 1 (.ops [iM 14 3,iM 15 4,iM 16 0,iM 17 4,iO 18 (.ixa 2 (.t 16) (.t 17)),iK 19 2 18,iO 20 (.callr B6 [.t 19]),iO 21 (.ixa 2 (.t 14) (.t 15)),iN (.store 2 (.t 21) (.t 20))]))
 (.ops [iM 12 4,iO 13 (.ari .add (.t 12) (kI 1)),iM 4 13]))
def C5:SCode :=
 sO [iO 2 (.mov (.n 2))]
 (sO [iM 5 0,iO 6 (.len (.t 5)),iO 7 (.mk 2 24 [zS,.v (.bool false)] (.t 6)),iM 3 7]
 (.seq (sO [iO 4 (.mov (kI 0))]
 (.block 0 (.loop [0,3,4] lX)))
 (sO [iM 22 3,iM 2 22]
 (.ret))))
def sR:SFn:=⟨1,23,C5,[.t 2]⟩
def Iz:SCode :=
 sO [iO 1 (.vbox 4 (.t 0)),iO 2 (.alloc [zI,zS,zI,.s 4 []])]
 (sO [iO 3 (.alloc [zI,zS,zI,.s 4 []])]
 (sO [iF 4 0 1,iL 5 4,iF 6 0 3,iN (.store 1 (.t 6) (.t 5))]
 (sO [iF 7 1 1,iL 8 7,iF 9 1 3,iN (.store 1 (.t 9) (.t 8))]
 (sO [iF 10 2 1,iL 11 10,iF 12 2 3,iN (.store 1 (.t 12) (.t 11))]
 (sO [iF 13 3 1,iL 14 13,iO 15 (.call Cc [.t 14]),iF 16 3 3,iN (.store 1 (.t 16) (.t 15))]
 (sO [iK 17 4 3,iN (.store 4 (.t 2) (.t 17))]
 (.ret)))))))
def xW:SFn:=⟨1,18,Iz,[.c 2 (some 4)]⟩
def qZ:SCode :=
 sO [iV 8 .lss 7 6]
 (.seq (.cond (.t 8) (.skip)
 (.seq (.keep [0]) (.exit 0)))
 (.seq (.block 1 (sO [iO 9 (.ixa 6 (.t 5) (.t 7)),iK 10 6 9,iO 4 (.alloc [zS,.s 2 [],zI,zS,zI,.s 4 []]),iN (.store 6 (.t 4) (.t 10))]
 (sO [iF 11 0 4,iL 12 11,iO 13 (.callr iQ [.t 12]),iO 14 (.not (.t 13)),iM 15 14,iU 16 15 (.faddr 1 (.t 4)),iU 17 15 (.load none (.t 16)),iU 18 15 (.calli (.f bL) [.t 17,.f rN]),iO 19 (.pick (.t 15) (kB true) (.t 18)),iM 20 19,iU 21 20 (.faddr 2 (.t 4)),iU 22 20 (.load (some 4) (.t 21)),iU 23 20 (.callr uB [.t 22]),iU 24 20 (.cmp .gtr (.t 23) (kI 20)),iO 25 (.pick (.t 20) (kB true) (.t 24)),iM 26 25,iU 27 26 (.faddr 2 (.t 4)),iU 28 26 (.load (some 4) (.t 27)),iU 29 26 (.callr dT [.t 28]),iU 30 26 (.not (.t 29)),iO 31 (.pick (.t 26) (kB true) (.t 30))]
 (.cond (.t 31) (sO [iO 2 (.mov (kB false))]
 (.seq (.keep [2]) .ret))
 (.skip)))))
 (.ops [iO 32 (.ari .add (.t 7) (kI 1)),iM 7 32])))
def Om:SCode :=
 sO [iO 2 (.mov (kB false))]
 (.seq (sO [iM 5 0,iO 6 (.len (.t 5)),iO 7 (.mov (kI 0))]
 (.block 0 (.loop [0,5,6,7] qZ)))
 (sO [iM 33 0,iO 34 (.len (.t 33)),iE 35 .leq 34 40,iM 2 35]
 (.ret)))
def E7:SFn:=⟨1,36,Om,[.t 2]⟩
def Pf:SCode :=
 sO [iO 1 (.vbox 6 (.t 0)),iO 2 (.mov (.n 2))]
 (.seq (.opsd [⟨iF 3 2 1,0,[]⟩,⟨iK 4 4 3,1,[]⟩,⟨iF 5 1 1,2,[]⟩,⟨iL 6 5,3,[]⟩,⟨iO 7 (.call gW [.t 6]),4,[iF 3 2 1,iK 4 4 3]⟩,⟨iO 8 (.callb uD [.t 4,.t 7] [false,true]),5,[]⟩,⟨iM 2 8,6,[]⟩])
 (.ret))
def Eh:SFn:=⟨1,9,Pf,[.t 2]⟩
def eR:SCode :=
 sO [iV 28 .lss 27 26]
 (.seq (.cond (.t 28) (.skip)
 (.seq (.keep [0,1,5,6]) (.exit 0)))
 (.seq (.block 1 (sO [iO 29 (.ixa 2 (.t 25) (.t 27)),iK 30 2 29,iO 8 (.alloc [zS,.v (.bool false)]),iN (.store 2 (.t 8) (.t 30))]
 (.ops [iL 31 6,iF 32 0 8,iL 33 32,iO 34 (.lit 1 [.t 33]),iO 35 (.app 1 16 (.t 31) (.t 34)),iN (.store 1 (.t 6) (.t 35))])))
 (.ops [iO 36 (.ari .add (.t 27) (kI 1)),iM 27 36])))
def eS:SCode :=
 sO [iV 52 .lss 51 50]
 (.seq (.cond (.t 52) (.skip)
 (.seq (.keep [0,1,5,6,9]) (.exit 2)))
 (.seq (.block 3 (sO [iM 53 51,iO 54 (.ixa 2 (.t 49) (.t 51)),iK 55 2 54,iO 11 (.alloc [zS,.v (.bool false)]),iM 10 53,iN (.store 2 (.t 11) (.t 55))]
 (.ops [iM 56 9,iM 57 56,iU 58 57 (.mov (.t 0)),iU 59 57 (.nck (.t 58)),iU 60 57 (.faddr 2 (.t 59)),iU 61 57 (.load none (.t 60)),iU 62 57 (.faddr 0 (.t 11)),iU 63 57 (.load none (.t 62)),iU 64 57 (.callr kH [.t 61,.t 63]),iU 65 57 (.mov (.t 10)),iU 66 57 (.cmp .neq (.t 64) (.t 65)),iO 67 (.pick (.t 57) (kB true) (.t 66)),iM 9 67])))
 (.ops [iO 68 (.ari .add (.t 51) (kI 1)),iM 51 68])))
def oU:SCode :=
 sO [iO 4 (.mov (kI 0))]
 (.seq (.opsd [⟨iM 13 0,0,[]⟩,⟨iO 14 (.nck (.t 13)),1,[]⟩,⟨iF 15 0 14,2,[]⟩,⟨iL 16 15,3,[]⟩,⟨iM 17 0,4,[]⟩,⟨iO 18 (.nck (.t 17)),5,[]⟩,⟨iF 19 1 18,6,[]⟩,⟨iL 20 19,7,[]⟩,⟨iO 21 (.ixa 6 (.t 16) (.t 20)),8,[]⟩,⟨iK 22 6 21,9,[]⟩,⟨iO 5 (.alloc [zS,.s 2 [],zI,zS,zI,.s 4 []]),10,[]⟩,⟨iN (.store 6 (.t 5) (.t 22)),11,[]⟩])
 (sO [iO 23 (.lit 1 []),iO 6 (.alloc [.s 1 []]),iN (.store 1 (.t 6) (.t 23))]
 (.seq (sO [iF 24 1 5,iL 25 24,iO 26 (.len (.t 25)),iO 27 (.mov (kI 0))]
 (.block 0 (.loop [0,1,5,6,25,26,27] eR)))
 (sO [iM 37 0,iF 38 0 5,iL 39 38,iM 40 0,iO 41 (.nck (.t 40)),iF 42 1 41,iL 43 42,iO 44 (.callb jD [.t 37,.t 39,.t 43] [true,false,false]),iE 45 .geq 44 0,iM 9 45]
 (.seq (sO [iM 46 0,iO 47 (.nck (.t 46)),iF 48 2 47,iL 49 48,iO 50 (.len (.t 49)),iO 51 (.mov (kI 0))]
 (.block 2 (.loop [0,1,5,6,9,49,50,51] eS)))
 (sO [iF 69 2 5,iK 70 4 69,iO 71 (.calli (.f o7) [.t 70,.f Cn]),iM 12 71]
 (.seq (sO [iM 72 1]
 (.cond (.t 72) (.ops [iF 73 2 5,iK 74 4 73,iO 75 (.calli (.f o7) [.t 74,.f xH]),iM 76 75,iU 77 76 (.faddr 1 (.t 5)),iU 78 76 (.load none (.t 77)),iU 79 76 (.calli (.f bL) [.t 78,.f fM]),iO 80 (.pick (.t 76) (kB true) (.t 79)),iM 12 80])
 (.skip)))
 (.seq (.block 4 (sO [iM 82 9,iM 81 82]
 (.cond (.t 81) (sO [iO 4 (.mov (kI 2))]
 (.ret))
 (sO [iM 84 0,iO 85 (.nck (.t 84)),iF 86 2 85,iL 87 86,iO 88 (.len (.t 87)),iE 89 .gtr 88 8,iM 90 89,iU 91 90 (.faddr 1 (.t 5)),iU 92 90 (.load none (.t 91)),iU 93 90 (.len (.t 92)),iU 94 90 (.cmp .gtr (.t 93) (kI 4)),iO 95 (.pick (.t 90) (kB true) (.t 94)),iM 96 95,iU 97 96 (.faddr 2 (.t 5)),iU 98 96 (.load (some 4) (.t 97)),iU 99 96 (.calli (.f o7) [.t 98,.f tZ]),iO 100 (.pick (.t 96) (kB true) (.t 99)),iM 83 100]
 (.cond (.t 83) (sO [iO 4 (.mov (kI 3))]
 (.ret))
 (sO [iM 102 0,iF 103 2 5,iK 104 4 103,iO 105 (.callb hY [.t 102,.t 104,.t 6] [true,false,true]),iM 101 105]
 (.cond (.t 101) (sO [iO 4 (.mov (kI 4))]
 (.ret))
 (sO [iM 107 0,iF 108 2 5,iK 109 4 108,iO 110 (.callb iA [.t 107,.t 109] [true,false]),iM 106 110]
 (.cond (.t 106) (sO [iO 4 (.mov (kI 5))]
 (.ret))
 (sO [iM 112 12,iM 111 112]
 (.cond (.t 111) (sO [iO 4 (.mov (kI 6))]
 (.ret))
 (.skip))))))))))))
 (sO [iO 4 (.mov (kI 0))]
 (.ret))))))))))
def jK:SFn:=⟨2,113,oU,[.t 4]⟩
def jZ:SCode :=
 sO [iO 4 (.mov (kB false))]
 (sO [iM 5 0,iM 6 1,iO 7 (.calli (.f iW) [.t 5,.t 6]),iE 8 .geq 7 0,iM 4 8]
 (.ret))
def fH:SFn:=⟨2,9,jZ,[.t 4]⟩
def I5:SCode :=
 sO [iO 2 (.mov (kB false))]
 (sO [iM 3 0,iO 4 (.callr cM [.t 3,.c (.int .i64 (-2147483648)),.c (.int .i64 2147483647)]),iM 2 4]
 (.ret))
def x4:SFn:=⟨1,5,I5,[.t 2]⟩
def a7:SCode :=
 sO [iV 9 .lss 8 7]
 (.seq (.cond (.t 9) (.skip)
 (.seq (.keep []) (.exit 0)))
 (.seq (.block 1 (sO [iM 10 8,iM 5 10]
 (sO [iM 11 1,iM 12 0,iM 13 5,iO 14 (.ixa 2 (.t 12) (.t 13)),iK 15 2 14,iO 16 (.calli (.t 11) [.t 15])]
 (.cond (.t 16) (sO [iM 17 5,iM 4 17]
 (.seq (.keep [4]) .ret))
 (.skip)))))
 (.ops [iO 18 (.ari .add (.t 8) (kI 1)),iM 8 18])))
def cT:SCode :=
 sO [iO 4 (.mov (kI 0))]
 (.seq (sO [iM 6 0,iO 7 (.len (.t 6)),iO 8 (.mov (kI 0))]
 (.block 0 (.loop [0,1,7,8] a7)))
 (sO [iO 4 (.mov (kI (-1)))]
 (.ret)))
def cV:SFn:=⟨2,19,cT,[.t 4]⟩
def lV:SCode :=
 .seq (sO [iM 11 5,iM 12 0,iO 13 (.len (.t 12)),iV 14 .lss 11 13]
 (.cond (.t 14) (.skip)
 (.seq (.keep []) (.exit 0))))
 (.seq (.block 1 (sO [iM 17 0,iM 18 5,iO 19 (.ixa 2 (.t 17) (.t 18)),iK 20 2 19,iM 21 1,iM 22 5,iO 23 (.ixa 2 (.t 21) (.t 22)),iK 24 2 23,iO 25 (.callr Bs [.t 20,.t 24]),iO 26 (.not (.t 25))]
 (.cond (.t 26) (sO [iO 4 (.mov (kB false))]
 (.seq (.keep [4]) .ret))
 (.skip))))
 (.ops [iM 15 5,iO 16 (.ari .add (.t 15) (kI 1)),iM 5 16]))
def Dn:SCode :=
 sO [iO 4 (.mov (kB false))]
 (.seq (sO [iM 6 0,iO 7 (.len (.t 6)),iM 8 1,iO 9 (.len (.t 8)),iV 10 .neq 7 9]
 (.cond (.t 10) (sO [iO 4 (.mov (kB false))]
 (.ret))
 (.skip)))
 (.seq (sO [iO 5 (.mov (kI 0))]
 (.block 0 (.loop [0,1,5] lV)))
 (sO [iO 4 (.mov (kB true))]
 (.ret))))
def sE:SFn:=⟨2,27,Dn,[.t 4]⟩
def Jf:SCode :=
 sO [iO 2 (.vbox 4 (.t 0)),iO 3 (.vbox 4 (.t 1)),iO 4 (.mov (kB false))]
 (.seq (sO [iF 5 0 2,iL 6 5,iF 7 0 3,iL 8 7,iV 9 .neq 6 8]
 (.cond (.t 9) (sO [iO 4 (.mov (kB false))]
 (.ret))
 (.skip)))
 (.seq (sO [iF 10 1 2,iL 11 10,iF 12 1 3,iL 13 12,iV 14 .neq 11 13]
 (.cond (.t 14) (sO [iO 4 (.mov (kB false))]
 (.ret))
 (.skip)))
 (.seq (sO [iF 15 2 2,iL 16 15,iF 17 2 3,iL 18 17,iV 19 .neq 16 18]
 (.cond (.t 19) (sO [iO 4 (.mov (kB false))]
 (.ret))
 (.skip)))
 (.seq (sO [iF 20 3 2,iL 21 20,iF 22 3 3,iL 23 22,iO 24 (.callr Bn [.t 21,.t 23]),iO 25 (.not (.t 24))]
 (.cond (.t 25) (sO [iO 4 (.mov (kB false))]
 (.ret))
 (.skip)))
 (sO [iO 4 (.mov (kB true))]
 (.ret))))))
def y6:SFn:=⟨2,26,Jf,[.t 4]⟩
def mW:SCode :=
 .seq (sO [iM 23 5,iM 24 3,iO 25 (.len (.t 24)),iV 26 .lss 23 25]
 (.cond (.t 26) (.skip)
 (.seq (.keep [1,2,4]) (.exit 0))))
 (.seq (.block 1 (.ops [iM 29 4,iM 30 5,iO 31 (.build [zI,zI,zI,zI,zI,zS,.s 1 []] [(0,1,.c (.int .i64 1)),(1,1,.t 30)]),iO 32 (.callb bT [.t 29,.t 31] [true,true])]))
 (.ops [iM 27 5,iO 28 (.ari .add (.t 27) (kI 1)),iM 5 28]))
def Ez:SCode :=
 sO [iO 1 (.vbox 6 (.t 0)),iO 2 (.alloc [zS,zI,zI,.s 7 []])]
 (sO [iK 7 6 1,iO 8 (.callr Ho [.t 7]),iM 3 8]
 (sO [iF 9 0 1,iL 10 9,iF 11 1 1,iL 12 11,iO 13 (.len (.t 12)),iM 14 3,iO 15 (.len (.t 14)),iO 16 (.build [zS,zI,zI,.s 7 []] [(0,1,.t 10),(1,1,.t 13),(2,1,.t 15)]),iM 17 3,iO 18 (.build [zS,zI,zI,.s 7 [],.s 2 [],zI] [(0,4,.t 16),(4,1,.t 17)]),iO 19 (.box 6 (.t 18)),iM 4 19]
 (.seq (sO [iF 20 1 1,iL 21 20,iO 22 (.len (.t 21)),iM 5 22]
 (.block 0 (.loop [1,2,3,4,5] mW)))
 (sO [iM 33 4,iF 34 2 1,iK 35 4 34,iO 36 (.callb i6 [.t 33,.t 35] [true,false])]
 (sO [iM 37 4,iO 38 (.callb rZ [.t 37,.c (.int .i64 0)] [true,false]),iM 6 38]
 (sO [iM 39 4,iM 40 6,iO 41 (.build [zI,zI,zI,zI,zI,zS,.s 1 []] [(0,1,.c (.int .i64 12)),(2,1,.t 40)]),iO 42 (.callb bT [.t 39,.t 41] [true,true])]
 (sO [iM 43 4,iO 44 (.nck (.t 43)),iF 45 0 44,iK 46 4 45,iN (.store 4 (.t 2) (.t 46))]
 (.ret))))))))
def uZ:SFn:=⟨1,47,Ez,[.c 2 (some 4)]⟩
def oH:SCode :=
 .seq (sO [iM 29 4,iM 30 3,iV 31 .lss 29 30]
 (.cond (.t 31) (.skip)
 (.seq (.keep [1,3]) (.exit 0))))
 (.seq (.block 1 (sO [iF 34 3 1,iL 35 34,iM 36 4,iO 37 (.ixa 7 (.t 35) (.t 36)),iK 38 7 37,iO 5 (.alloc [zI,zI,zI,zI,zI,zS,.s 1 []]),iN (.store 7 (.t 5) (.t 38))]
 (.seq (sO [iK 39 7 5,iF 40 2 1,iL 41 40,iO 42 (.callr zF [.t 39,.t 41]),iO 43 (.not (.t 42))]
 (.cond (.t 43) (sO [iO 2 (.mov (kB false))]
 (.seq (.keep [2]) .ret))
 (.skip)))
 (sO [iF 44 3 1,iL 45 44,iF 46 4 5,iL 47 46,iO 48 (.callr rG [.t 45,.t 47]),iM 6 48]
 (sO [iF 49 0 5,iL 50 49,iE 51 .eql 50 8,iM 52 51,iT 53 52 (.mov (.t 6)),iT 54 52 (.mov (.t 4)),iT 55 52 (.cmp .neq (.t 53) (.t 54)),iT 56 52 (.mov (.t 55)),iU 57 56 (.faddr 4 (.t 5)),iU 58 56 (.load none (.t 57)),iU 59 56 (.callr cH [.t 58,.c (.int .i64 0),.c (.int .i64 900)]),iU 60 56 (.not (.t 59)),iT 61 52 (.pick (.t 56) (kB true) (.t 60)),iO 62 (.pick (.t 52) (.t 61) (kB false)),iM 63 62,iU 64 63 (.faddr 0 (.t 5)),iU 65 63 (.load none (.t 64)),iU 66 63 (.cmp .eql (.t 65) (kI 9)),iU 67 63 (.mov (.t 66)),iU 68 67 (.faddr 0 (.t 5)),iU 69 67 (.load none (.t 68)),iU 70 67 (.cmp .eql (.t 69) (kI 10)),iU 71 63 (.pick (.t 67) (kB true) (.t 70)),iU 72 63 (.mov (.t 71)),iT 73 72 (.mov (.t 6)),iT 74 72 (.cmp .lss (.t 73) (kI 0)),iU 75 63 (.pick (.t 72) (.t 74) (kB false)),iO 76 (.pick (.t 63) (kB true) (.t 75))]
 (.cond (.t 76) (sO [iO 2 (.mov (kB false))]
 (.seq (.keep [2]) .ret))
 (.skip)))))))
 (.ops [iM 32 4,iO 33 (.ari .add (.t 32) (kI 1)),iM 4 33]))
def xS:SCode :=
 sO [iO 1 (.vbox 4 (.t 0)),iO 2 (.mov (kB false))]
 (sO [iF 8 3 1,iL 9 8,iO 10 (.len (.t 9)),iM 3 10]
 (.seq (sO [iF 11 2 1,iL 12 11,iO 13 (.callr cH [.t 12,.c (.int .i64 0),.c (.int .i64 250)]),iO 14 (.not (.t 13)),iM 15 14,iU 16 15 (.faddr 1 (.t 1)),iU 17 15 (.load none (.t 16)),iU 18 15 (.faddr 2 (.t 1)),iU 19 15 (.load none (.t 18)),iU 20 15 (.callr Jl [.c (.int .i64 4),.t 19]),iU 21 15 (.callr cH [.t 17,.c (.int .i64 0),.t 20]),iU 22 15 (.not (.t 21)),iO 23 (.pick (.t 15) (kB true) (.t 22)),iM 24 23,iU 25 24 (.mov (.t 3)),iU 26 24 (.callr cH [.t 25,.c (.int .i64 1),.c (.int .i64 900)]),iU 27 24 (.not (.t 26)),iO 28 (.pick (.t 24) (kB true) (.t 27))]
 (.cond (.t 28) (sO [iO 2 (.mov (kB false))]
 (.ret))
 (.skip)))
 (.seq (sO [iO 4 (.mov (kI 0))]
 (.block 0 (.loop [1,3,4] oH)))
 (sO [iF 77 3 1,iL 78 77,iM 79 3,iO 80 (.ari .sub (.t 79) (kI 1)),iO 81 (.ixa 7 (.t 78) (.t 80)),iF 82 0 81,iL 83 82,iM 7 83]
 (sO [iM 84 7,iE 85 .eql 84 12,iM 86 85,iU 87 86 (.mov (.t 7)),iU 88 86 (.cmp .eql (.t 87) (kI 9)),iO 89 (.pick (.t 86) (kB true) (.t 88)),iM 90 89,iU 91 90 (.mov (.t 7)),iU 92 90 (.cmp .eql (.t 91) (kI 28)),iO 93 (.pick (.t 90) (kB true) (.t 92)),iM 2 93]
 (.ret))))))
def xT:SFn:=⟨1,94,xS,[.t 2]⟩
def oJ:SCode :=
 sO [iO 3 (.vbox 7 (.t 1))]
 (.opsd [⟨iM 4 0,0,[]⟩,⟨iM 5 0,1,[]⟩,⟨iO 6 (.nck (.t 5)),2,[]⟩,⟨iF 7 1 6,3,[]⟩,⟨iL 8 7,4,[]⟩,⟨iK 9 7 3,5,[]⟩,⟨iO 10 (.lit 7 [.t 9]),6,[iM 4 0,iM 5 0,iO 6 (.nck (.t 5)),iF 7 1 6,iL 8 7]⟩,⟨iO 11 (.app 7 80 (.t 8) (.t 10)),7,[iM 4 0]⟩,⟨iO 12 (.nck (.t 4)),8,[]⟩,⟨iF 13 1 12,9,[]⟩,⟨iN (.store 1 (.t 13) (.t 11)),10,[]⟩])
def oL:SFn:=⟨2,14,oJ,[]⟩
def gB:SCode :=
 sO [iV 10 .lss 9 8]
 (.seq (.cond (.t 10) (.skip)
 (.seq (.keep []) (.exit 0)))
 (.seq (.block 1 (sO [iO 11 (.ixa 4 (.t 7) (.t 9)),iK 12 4 11,iO 5 (.alloc [zI,zS,zI,.s 4 []]),iN (.store 4 (.t 5) (.t 12))]
 (.ops [iM 13 0,iK 14 4 5,iO 15 (.callb fL [.t 13,.t 14] [true,false])])))
 (.ops [iO 16 (.ari .add (.t 9) (kI 1)),iM 9 16])))
def rY:SCode :=
 sO [iO 3 (.vbox 4 (.t 1))]
 (sO [iF 6 3 3,iL 7 6,iO 8 (.len (.t 7)),iO 9 (.mov (kI 0))]
 (.block 0 (.loop [0,7,8,9] gB)))
def mE:SFn:=⟨2,17,rY,[]⟩
def oN:SCode :=
 sO [iO 3 (.box 7 (.t 1)),iO 4 (.mov (kI 0))]
 (sO [iM 5 0,iO 6 (.callb jQ [.t 5] [true]),iF 7 1 3,iN (.store 1 (.t 7) (.t 6))]
 (sO [iM 8 0,iK 9 7 3,iO 10 (.callb aZ [.t 8,.t 9] [true,true])]
 (sO [iF 11 1 3,iL 12 11,iM 4 12]
 (.ret))))
def oM:SFn:=⟨2,13,oN,[.t 4]⟩
def Je:SCode :=
 sO [iO 6 (.mov (kB false))]
 (sO [iM 7 0,iM 8 1,iV 9 .geq 7 8,iM 10 9,iT 11 10 (.mov (.t 0)),iT 12 10 (.mov (.t 2)),iT 13 10 (.cmp .leq (.t 11) (.t 12)),iO 14 (.pick (.t 10) (.t 13) (kB false)),iM 6 14]
 (.ret))
def yI:SFn:=⟨3,15,Je,[.t 6]⟩
def L5:SCode :=
 sO [iO 2 (.vbox 7 (.t 0)),iO 3 (.box 1 (.t 1)),iO 4 (.mov (kB false))]
 (.seq (sO [iF 5 0 2,iL 6 5,iO 7 (.callr Hq [.t 6]),iO 8 (.cmp .eql (.t 7) (.c (.string ⟨#[]⟩))),iM 9 8,iU 10 9 (.faddr 4 (.t 2)),iU 11 9 (.load none (.t 10)),iU 12 9 (.callr xD [.t 11]),iU 13 9 (.not (.t 12)),iO 14 (.pick (.t 9) (kB true) (.t 13)),iM 15 14,iU 16 15 (.load (some 7) (.t 2)),iU 17 15 (.load none (.t 3)),iU 18 15 (.callr Ha [.t 16,.t 17]),iU 19 15 (.not (.t 18)),iO 20 (.pick (.t 15) (kB true) (.t 19))]
 (.cond (.t 20) (sO [iO 4 (.mov (kB false))]
 (.ret))
 (.skip)))
 (.seq (sO [iF 21 0 2,iL 22 21,iO 23 (.callr eX [.t 22,.c (.int .u8 68)]),iO 24 (.not (.t 23)),iM 25 24,iT 26 25 (.faddr 1 (.t 2)),iT 27 25 (.load none (.t 26)),iT 28 25 (.cmp .neq (.t 27) (kI 0)),iO 29 (.pick (.t 25) (.t 28) (kB false)),iM 30 29,iU 31 30 (.faddr 0 (.t 2)),iU 32 30 (.load none (.t 31)),iU 33 30 (.callr eX [.t 32,.c (.int .u8 65)]),iU 34 30 (.not (.t 33)),iU 35 30 (.mov (.t 34)),iT 36 35 (.faddr 2 (.t 2)),iT 37 35 (.load none (.t 36)),iT 38 35 (.cmp .neq (.t 37) (kI 0)),iU 39 30 (.pick (.t 35) (.t 38) (kB false)),iO 40 (.pick (.t 30) (kB true) (.t 39)),iM 41 40,iU 42 41 (.faddr 0 (.t 2)),iU 43 41 (.load none (.t 42)),iU 44 41 (.callr eX [.t 43,.c (.int .u8 66)]),iU 45 41 (.not (.t 44)),iU 46 41 (.mov (.t 45)),iT 47 46 (.faddr 3 (.t 2)),iT 48 46 (.load none (.t 47)),iT 49 46 (.cmp .neq (.t 48) (kI 0)),iU 50 41 (.pick (.t 46) (.t 49) (kB false)),iO 51 (.pick (.t 41) (kB true) (.t 50)),iM 52 51,iU 53 52 (.faddr 0 (.t 2)),iU 54 52 (.load none (.t 53)),iU 55 52 (.callr eX [.t 54,.c (.int .u8 78)]),iU 56 52 (.not (.t 55)),iU 57 52 (.mov (.t 56)),iT 58 57 (.faddr 4 (.t 2)),iT 59 57 (.load none (.t 58)),iT 60 57 (.cmp .neq (.t 59) (kI 0)),iU 61 52 (.pick (.t 57) (.t 60) (kB false)),iO 62 (.pick (.t 52) (kB true) (.t 61)),iM 63 62,iU 64 63 (.faddr 0 (.t 2)),iU 65 63 (.load none (.t 64)),iU 66 63 (.callr eX [.t 65,.c (.int .u8 83)]),iU 67 63 (.not (.t 66)),iU 68 63 (.mov (.t 67)),iT 69 68 (.faddr 5 (.t 2)),iT 70 68 (.load none (.t 69)),iT 71 68 (.cmp .neq (.t 70) (.c (.string ⟨#[]⟩))),iU 72 63 (.pick (.t 68) (.t 71) (kB false)),iO 73 (.pick (.t 63) (kB true) (.t 72))]
 (.cond (.t 73) (sO [iO 4 (.mov (kB false))]
 (.ret))
 (.skip)))
 (.seq (.opsd [⟨iK 74 7 2,0,[]⟩,⟨iK 76 7 2,2,[]⟩,⟨iO 79 (.fn kG [.t 3]),5,[]⟩,⟨iO 75 (.call M0 [.t 74]),1,[iK 76 7 2,iO 79 (.fn kG [.t 3])]⟩,⟨iO 77 (.call Ni [.t 76]),3,[iO 79 (.fn kG [.t 3])]⟩,⟨iO 78 (.app 1 8 (.t 75) (.t 77)),4,[iO 79 (.fn kG [.t 3])]⟩,⟨iO 80 (.calli (.f fZ) [.t 78,.t 79]),6,[]⟩,⟨iO 81 (.not (.t 80)),7,[]⟩,⟨iM 4 81,8,[]⟩])
 (.ret))))
def Bf:SFn:=⟨2,82,L5,[.t 4]⟩
def F2:SCode :=
 sO [iO 3 (.box 1 (.t 1)),iO 4 (.mov (kI 0))]
 (sO [iM 5 0,iO 6 (.fn pH [.t 3]),iO 7 (.calli (.f d4) [.t 5,.t 6]),iM 4 7]
 (.ret))
def vL:SFn:=⟨2,8,F2,[.t 4]⟩
def Pd:SCode :=
 sO [iO 2 (.mov (kB false))]
 (sO [iM 3 0,iE 4 .eql 3 12,iM 5 4,iU 6 5 (.mov (.t 0)),iU 7 5 (.cmp .eql (.t 6) (kI 9)),iO 8 (.pick (.t 5) (kB true) (.t 7)),iM 9 8,iU 10 9 (.mov (.t 0)),iU 11 9 (.cmp .eql (.t 10) (kI 28)),iO 12 (.pick (.t 9) (kB true) (.t 11)),iM 2 12]
 (.ret))
def Fh:SFn:=⟨1,13,Pd,[.t 2]⟩
def oA:SCode :=
 .seq (sO [iM 11 5,iM 12 0,iO 13 (.len (.t 12)),iV 14 .lss 11 13]
 (.cond (.t 14) (.skip)
 (.seq (.keep []) (.exit 0))))
 (.seq (.block 1 (sO [iM 17 0,iM 18 5,iO 19 (.ixa 7 (.t 17) (.t 18)),iK 20 7 19,iM 21 1,iM 22 5,iO 23 (.ixa 7 (.t 21) (.t 22)),iK 24 7 23,iO 25 (.callr Ji [.t 20,.t 24]),iO 26 (.not (.t 25))]
 (.cond (.t 26) (sO [iO 4 (.mov (kB false))]
 (.seq (.keep [4]) .ret))
 (.skip))))
 (.ops [iM 15 5,iO 16 (.ari .add (.t 15) (kI 1)),iM 5 16]))
def I6:SCode :=
 sO [iO 4 (.mov (kB false))]
 (.seq (sO [iM 6 0,iO 7 (.len (.t 6)),iM 8 1,iO 9 (.len (.t 8)),iV 10 .neq 7 9]
 (.cond (.t 10) (sO [iO 4 (.mov (kB false))]
 (.ret))
 (.skip)))
 (.seq (sO [iO 5 (.mov (kI 0))]
 (.block 0 (.loop [0,1,5] oA)))
 (sO [iO 4 (.mov (kB true))]
 (.ret))))
def y5:SFn:=⟨2,27,I6,[.t 4]⟩
def rF:SCode :=
 sO [iV 10 .lss 9 8]
 (.seq (.cond (.t 10) (.skip)
 (.seq (.keep [3]) (.exit 0)))
 (.seq (.block 1 (sO [iO 11 (.ixa 4 (.t 7) (.t 9)),iK 12 4 11,iO 5 (.alloc [zI,zS,zI,.s 4 []]),iN (.store 4 (.t 5) (.t 12))]
 (.ops [iM 13 3,iK 14 4 5,iO 15 (.callr uB [.t 14]),iO 16 (.mm true (.t 13) (.t 15)),iM 3 16])))
 (.ops [iO 17 (.ari .add (.t 9) (kI 1)),iM 9 17])))
def O2:SCode :=
 sO [iO 1 (.vbox 4 (.t 0)),iO 2 (.mov (kI 0))]
 (sO [iO 3 (.mov (kI 0))]
 (.seq (sO [iF 6 3 1,iL 7 6,iO 8 (.len (.t 7)),iO 9 (.mov (kI 0))]
 (.block 0 (.loop [3,7,8,9] rF)))
 (sO [iM 18 3,iO 19 (.ari .add (.t 18) (kI 1)),iM 2 19]
 (.ret))))
def Ej:SFn:=⟨1,20,O2,[.t 2]⟩
def Pi:SCode :=
 sO [iO 6 (.mov (kB false))]
 (sO [iM 7 0,iM 8 1,iV 9 .geq 7 8,iM 10 9,iT 11 10 (.mov (.t 0)),iT 12 10 (.mov (.t 2)),iT 13 10 (.cmp .leq (.t 11) (.t 12)),iO 14 (.pick (.t 10) (.t 13) (kB false)),iM 6 14]
 (.ret))
def Fo:SFn:=⟨3,15,Pi,[.t 6]⟩
def cD:SCode :=
 sO [iV 9 .lss 8 7]
 (.seq (.cond (.t 9) (.skip)
 (.seq (.keep []) (.exit 0)))
 (.seq (.block 1 (sO [iM 10 8,iM 5 10]
 (sO [iM 11 1,iM 12 0,iM 13 5,iO 14 (.ixa 7 (.t 12) (.t 13)),iK 15 7 14,iO 16 (.calli (.t 11) [.t 15])]
 (.cond (.t 16) (sO [iM 17 5,iM 4 17]
 (.seq (.keep [4]) .ret))
 (.skip)))))
 (.ops [iO 18 (.ari .add (.t 8) (kI 1)),iM 8 18])))
def fT:SCode :=
 sO [iO 4 (.mov (kI 0))]
 (.seq (sO [iM 6 0,iO 7 (.len (.t 6)),iO 8 (.mov (kI 0))]
 (.block 0 (.loop [0,1,7,8] cD)))
 (sO [iO 4 (.mov (kI (-1)))]
 (.ret)))
def dQ:SFn:=⟨2,19,fT,[.t 4]⟩
def K8:SCode :=
 sO [iO 4 (.mov (kB false))]
 (sO [iM 5 0,iO 6 (.callr Hq [.t 5]),iO 7 (.bos (.t 6)),iM 8 1,iO 9 (.callr iD [.t 7,.t 8]),iM 4 9]
 (.ret))
def B7:SFn:=⟨2,10,K8,[.t 4]⟩
def Eu:SCode :=
 sO [iO 2 (.vbox 2 (.t 0)),iO 4 (.mov (kI 0))]
 (sO [iM 5 1,iF 6 0 2,iL 7 6,iO 8 (.slen (.t 7)),iO 9 (.ari .sub (.t 5) (.t 8)),iM 1 9]
 (.seq (sO [iM 10 1,iE 11 .lss 10 0]
 (.cond (.t 11) (sO [iO 4 (.mov (kI (-1)))]
 (.ret))
 (.skip)))
 (sO [iM 12 1,iM 4 12]
 (.ret))))
def uV:SFn:=⟨2,13,Eu,[.t 4]⟩
def mX:SCode :=
 .seq (sO [iM 12 5,iM 13 0,iO 14 (.len (.t 13)),iV 15 .lss 12 14]
 (.cond (.t 15) (.skip)
 (.seq (.keep [1]) (.exit 0))))
 (.seq (.block 1 (sO [iM 18 0,iM 19 5,iO 20 (.ixa 4 (.t 18) (.t 19)),iK 21 4 20,iM 22 1,iO 23 (.callr xG [.t 21,.t 22]),iM 1 23]
 (sO [iM 24 1,iE 25 .lss 24 0]
 (.cond (.t 25) (sO [iO 4 (.mov (kI (-1)))]
 (.seq (.keep [4]) .ret))
 (.skip)))))
 (.ops [iM 16 5,iO 17 (.ari .add (.t 16) (kI 1)),iM 5 17]))
def Gu:SCode :=
 sO [iO 4 (.mov (kI 0))]
 (sO [iM 6 1,iM 7 0,iO 8 (.len (.t 7)),iO 9 (.ari .sub (.t 6) (.t 8)),iM 1 9]
 (.seq (sO [iM 10 1,iE 11 .lss 10 0]
 (.cond (.t 11) (sO [iO 4 (.mov (kI (-1)))]
 (.ret))
 (.skip)))
 (.seq (sO [iO 5 (.mov (kI 0))]
 (.block 0 (.loop [0,1,5] mX)))
 (sO [iM 26 1,iM 4 26]
 (.ret)))))
def wA:SFn:=⟨2,27,Gu,[.t 4]⟩
def n5:SCode :=
 .seq (sO [iM 4 3,iM 5 0,iO 6 (.slen (.t 5)),iV 7 .lss 4 6]
 (.cond (.t 7) (.skip)
 (.seq (.keep [0]) (.exit 0))))
 (.seq (.block 1 (sO [iM 10 0,iM 11 3,iO 12 (.ixs (.t 10) (.t 11)),iO 13 (.callr yQ [.t 12]),iO 14 (.not (.t 13))]
 (.cond (.t 14) (sO [iO 2 (.mov (kB false))]
 (.seq (.keep [2]) .ret))
 (.skip))))
 (.ops [iM 8 3,iO 9 (.ari .add (.t 8) (kI 1)),iM 3 9]))
def Ix:SCode :=
 sO [iO 2 (.mov (kB false))]
 (.seq (sO [iO 3 (.mov (kI 0))]
 (.block 0 (.loop [0,3] n5)))
 (sO [iM 15 0,iO 16 (.slen (.t 15)),iO 17 (.callr cH [.t 16,.c (.int .i64 1),.c (.int .i64 10)]),iM 18 17,iT 19 18 (.mov (.t 0)),iT 20 18 (.callr Ca [.t 19]),iT 21 18 (.not (.t 20)),iO 22 (.pick (.t 18) (.t 21) (kB false)),iM 2 22]
 (.ret)))
def xP:SFn:=⟨1,23,Ix,[.t 2]⟩
def rD:SCode :=
 .seq (sO [iM 5 4,iF 6 3 1,iL 7 6,iO 8 (.len (.t 7)),iV 9 .lss 5 8]
 (.cond (.t 9) (.skip)
 (.seq (.keep [3]) (.exit 0))))
 (.seq (.block 1 (.ops [iM 12 3,iF 13 3 1,iL 14 13,iM 15 4,iO 16 (.ixa 4 (.t 14) (.t 15)),iK 17 4 16,iO 18 (.callr t9 [.t 17]),iO 19 (.callr Ki [.t 12,.t 18]),iM 3 19]))
 (.ops [iM 10 4,iO 11 (.ari .add (.t 10) (kI 1)),iM 4 11]))
def O6:SCode :=
 sO [iO 1 (.vbox 4 (.t 0)),iO 2 (.mov (kI 0))]
 (sO [iO 3 (.mov (kI 0))]
 (.seq (sO [iO 4 (.mov (kI 0))]
 (.block 0 (.loop [1,3,4] rD)))
 (sO [iM 20 3,iO 21 (.ari .add (.t 20) (kI 1)),iM 2 21]
 (.ret))))
def G3:SFn:=⟨1,22,O6,[.t 2]⟩
def dU:SCode :=
 sO [iO 1 (.vbox 4 (.t 0)),iO 2 (.mov (kB false))]
 (.seq (sO [iK 3 4 1,iO 4 (.callr a9 [.t 3]),iO 5 (.not (.t 4)),iM 6 5,iU 7 6 (.faddr 2 (.t 1)),iU 8 6 (.load none (.t 7)),iU 9 6 (.cmp .neq (.t 8) (kI 0)),iU 10 6 (.mov (.t 9)),iT 11 10 (.faddr 0 (.t 1)),iT 12 10 (.load none (.t 11)),iT 13 10 (.cmp .neq (.t 12) (kI 19)),iU 14 6 (.pick (.t 10) (.t 13) (kB false)),iO 15 (.pick (.t 6) (kB true) (.t 14))]
 (.cond (.t 15) (sO [iO 2 (.mov (kB false))]
 (.ret))
 (.skip)))
 (.seq (sO [iF 16 0 1,iL 17 16]
 (.block 0 (.seq (sO [iE 19 .eql 17 2,iM 18 19]
 (.cond (.t 18) (.skip)
 (sO [iE 20 .eql 17 3,iM 18 20]
 (.cond (.t 18) (.skip)
 (sO [iE 21 .eql 17 8,iM 18 21]
 (.cond (.t 18) (.skip)
 (sO [iE 22 .eql 17 10,iM 18 22]
 (.cond (.t 18) (.skip)
 (sO [iE 23 .eql 17 20,iM 18 23]
 (.cond (.t 18) (.skip)
 (sO [iE 24 .eql 17 26,iM 18 24]
 (.cond (.t 18) (.skip)
 (sO [iE 25 .eql 17 31,iM 18 25]
 (.cond (.t 18) (.skip)
 (.ops [iE 26 .eql 17 32,iM 18 26])))))))))))))))
 (.cond (.t 18) (sO [iF 27 1 1,iL 28 27,iO 29 (.callr rT [.t 28]),iM 2 29]
 (.ret))
 (sO [iE 31 .eql 17 19,iM 30 31]
 (.cond (.t 30) (sO [iF 32 1 1,iL 33 32,iO 34 (.cmp .eql (.t 33) (.c (.string ⟨#[]⟩))),iM 35 34,iT 36 35 (.faddr 2 (.t 1)),iT 37 35 (.load none (.t 36)),iT 38 35 (.callr cH [.t 37,.c (.int .i64 (-2147483647)),.c (.int .i64 2147483647)]),iO 39 (.pick (.t 35) (.t 38) (kB false)),iM 2 39]
 (.ret))
 (.skip)))))))
 (sO [iF 40 1 1,iL 41 40,iO 42 (.cmp .eql (.t 41) (.c (.string ⟨#[]⟩))),iM 43 42,iT 44 43 (.faddr 0 (.t 1)),iT 45 43 (.load none (.t 44)),iT 46 43 (.callr cH [.t 45,.c (.int .i64 1),.c (.int .i64 34)]),iO 47 (.pick (.t 43) (.t 46) (kB false)),iM 2 47]
 (.ret))))
def yC:SFn:=⟨1,48,dU,[.t 2]⟩
def jT:SCode :=
 .seq (sO [iM 4 3,iM 5 0,iO 6 (.len (.t 5)),iV 7 .lss 4 6]
 (.cond (.t 7) (.skip)
 (.seq (.keep []) (.exit 0))))
 (.seq (.block 1 (sO [iM 10 0,iM 11 0,iM 12 3,iO 13 (.ixa 2 (.t 11) (.t 12)),iF 14 0 13,iL 15 14,iO 16 (.callr iI [.t 10,.t 15]),iM 17 3,iV 18 .neq 16 17]
 (.cond (.t 18) (sO [iO 2 (.mov (kB true))]
 (.seq (.keep [2]) .ret))
 (.skip))))
 (.ops [iM 8 3,iO 9 (.ari .add (.t 8) (kI 1)),iM 3 9]))
def Gf:SCode :=
 sO [iO 2 (.mov (kB false))]
 (.seq (sO [iO 3 (.mov (kI 0))]
 (.block 0 (.loop [0,3] jT)))
 (sO [iO 2 (.mov (kB false))]
 (.ret)))
def uJ:SFn:=⟨1,19,Gf,[.t 2]⟩
def gT:SCode :=
 .seq (sO [iM 28 4,iF 29 3 1,iL 30 29,iO 31 (.len (.t 30)),iV 32 .lss 28 31]
 (.cond (.t 32) (.skip)
 (.seq (.keep []) (.exit 0))))
 (.seq (.block 1 (sO [iF 35 3 1,iL 36 35,iM 37 4,iO 38 (.ixa 4 (.t 36) (.t 37)),iK 39 4 38,iO 40 (.callr pJ [.t 39]),iO 41 (.not (.t 40))]
 (.cond (.t 41) (sO [iO 2 (.mov (kB false))]
 (.seq (.keep [2]) .ret))
 (.skip))))
 (.ops [iM 33 4,iO 34 (.ari .add (.t 33) (kI 1)),iM 4 34]))
def A5:SCode :=
 sO [iO 1 (.vbox 4 (.t 0)),iO 2 (.mov (kB false))]
 (.seq (sO [iF 5 0 1,iL 6 5,iE 7 .eql 6 12]
 (.cond (.t 7) (sO [iF 8 3 1,iL 9 8,iO 10 (.len (.t 9)),iM 3 10]
 (.seq (sO [iM 11 3,iE 12 .gtr 11 0,iM 13 12,iT 14 13 (.faddr 3 (.t 1)),iT 15 13 (.load none (.t 14)),iT 16 13 (.mov (.t 3)),iT 17 13 (.ari .sub (.t 16) (kI 1)),iT 18 13 (.ixa 4 (.t 15) (.t 17)),iT 19 13 (.faddr 0 (.t 18)),iT 20 13 (.load none (.t 19)),iT 21 13 (.cmp .eql (.t 20) (kI 34)),iO 22 (.pick (.t 13) (.t 21) (kB false))]
 (.cond (.t 22) (.ops [iM 23 3,iO 24 (.ari .sub (.t 23) (kI 1)),iM 3 24])
 (.skip)))
 (sO [iM 25 3,iO 26 (.callr cH [.t 25,.c (.int .i64 1),.c (.int .i64 3)]),iO 27 (.not (.t 26))]
 (.cond (.t 27) (sO [iO 2 (.mov (kB false))]
 (.ret))
 (.skip)))))
 (.skip)))
 (.seq (sO [iO 4 (.mov (kI 0))]
 (.block 0 (.loop [1,4] gT)))
 (sO [iO 2 (.mov (kB true))]
 (.ret))))
def qQ:SFn:=⟨1,42,A5,[.t 2]⟩
def jH:SCode :=
 .seq (sO [iM 6 4,iF 7 3 3,iL 8 7,iO 9 (.len (.t 8)),iV 10 .lss 6 9]
 (.cond (.t 10) (.skip)
 (.seq (.keep [0,3]) (.exit 0))))
 (.seq (.block 1 (.seq (sO [iF 13 0 3,iL 14 13,iE 15 .eql 14 32,iM 16 15,iT 17 16 (.mov (.t 4)),iT 18 16 (.cmp .eql (.t 17) (kI 1)),iO 19 (.pick (.t 16) (.t 18) (kB false)),iM 20 19,iT 21 20 (.mov (.t 0)),iT 22 20 (.nck (.t 21)),iT 23 20 (.faddr 2 (.t 22)),iT 24 20 (.load none (.t 23)),iT 25 20 (.faddr 1 (.t 3)),iT 26 20 (.load none (.t 25)),iT 27 20 (.callr iI [.t 24,.t 26]),iT 28 20 (.cmp .lss (.t 27) (kI 0)),iO 29 (.pick (.t 20) (.t 28) (kB false))]
 (.cond (.t 29) (.ops [iM 30 0,iO 31 (.nck (.t 30)),iF 32 4 31,iN (.store 1 (.t 32) (kB true))])
 (.skip)))
 (.ops [iM 33 0,iF 34 3 3,iL 35 34,iM 36 4,iO 37 (.ixa 4 (.t 35) (.t 36)),iK 38 4 37,iO 39 (.callb tS [.t 33,.t 38] [true,false])])))
 (.ops [iM 11 4,iO 12 (.ari .add (.t 11) (kI 1)),iM 4 12]))
def Gn:SCode :=
 sO [iO 3 (.vbox 4 (.t 1))]
 (.seq (sO [iO 4 (.mov (kI 0))]
 (.block 0 (.loop [0,3,4] jH)))
 (sO [iM 40 0,iO 41 (.nck (.t 40)),iF 42 0 41,iL 43 42,iF 44 1 3,iL 45 44,iO 46 (.callr o9 [.t 43,.t 45]),iM 5 46]
 (sO [iF 47 0 3,iL 48 47]
 (.block 2 (sO [iE 50 .eql 48 2,iM 49 50]
 (.cond (.t 49) (.opsd [⟨iM 51 0,0,[]⟩,⟨iM 52 0,1,[]⟩,⟨iO 53 (.nck (.t 52)),2,[]⟩,⟨iF 54 2 53,3,[]⟩,⟨iL 55 54,4,[]⟩,⟨iF 56 1 3,5,[]⟩,⟨iL 57 56,6,[]⟩,⟨iF 58 3 3,7,[]⟩,⟨iL 59 58,8,[]⟩,⟨iO 60 (.ixa 4 (.t 59) (kI 0)),9,[]⟩,⟨iK 61 4 60,10,[]⟩,⟨iM 62 0,11,[]⟩,⟨iO 63 (.nck (.t 62)),12,[]⟩,⟨iF 64 2 63,13,[]⟩,⟨iL 65 64,14,[]⟩,⟨iO 66 (.callr oX [.t 61,.t 65]),15,[]⟩,⟨iO 67 (.build [zS,.v (.bool false)] [(0,1,.t 57),(1,1,.t 66)]),16,[]⟩,⟨iO 68 (.lit 2 [.t 67]),17,[iM 51 0,iM 52 0,iO 53 (.nck (.t 52)),iF 54 2 53,iL 55 54]⟩,⟨iO 69 (.app 2 24 (.t 55) (.t 68)),18,[iM 51 0]⟩,⟨iO 70 (.nck (.t 51)),19,[]⟩,⟨iF 71 2 70,20,[]⟩,⟨iN (.store 1 (.t 71) (.t 69)),21,[]⟩])
 (.seq (sO [iE 73 .eql 48 20,iM 72 73]
 (.cond (.t 72) (.skip)
 (sO [iE 74 .eql 48 3,iM 72 74]
 (.cond (.t 72) (.skip)
 (sO [iE 75 .eql 48 10,iM 72 75]
 (.cond (.t 72) (.skip)
 (.ops [iE 76 .eql 48 32,iM 72 76])))))))
 (.cond (.t 72) (.ops [iM 77 0,iM 78 0,iO 79 (.nck (.t 78)),iF 80 4 79,iL 81 80,iM 82 81,iU 83 82 (.mov (.t 0)),iU 84 82 (.nck (.t 83)),iU 85 82 (.faddr 2 (.t 84)),iU 86 82 (.load none (.t 85)),iU 87 82 (.faddr 1 (.t 3)),iU 88 82 (.load none (.t 87)),iU 89 82 (.callr iI [.t 86,.t 88]),iU 90 82 (.cmp .lss (.t 89) (kI 0)),iO 91 (.pick (.t 82) (kB true) (.t 90)),iO 92 (.nck (.t 77)),iF 93 4 92,iN (.store 1 (.t 93) (.t 91))])
 (sO [iE 95 .eql 48 26,iM 94 95]
 (.cond (.t 94) (.ops [iM 96 0,iM 97 0,iO 98 (.nck (.t 97)),iF 99 4 98,iL 100 99,iM 101 100,iU 102 101 (.mov (.t 5)),iU 103 101 (.cmp .lss (.t 102) (kI 0)),iO 104 (.pick (.t 101) (kB true) (.t 103)),iM 105 104,iU 106 105 (.mov (.t 5)),iU 107 105 (.mov (.t 0)),iU 108 105 (.nck (.t 107)),iU 109 105 (.faddr 1 (.t 108)),iU 110 105 (.load none (.t 109)),iU 111 105 (.cmp .geq (.t 106) (.t 110)),iO 112 (.pick (.t 105) (kB true) (.t 111)),iM 113 112,iU 114 113 (.mov (.t 0)),iU 115 113 (.nck (.t 114)),iU 116 113 (.faddr 0 (.t 115)),iU 117 113 (.load none (.t 116)),iU 118 113 (.mov (.t 5)),iU 119 113 (.ixa 6 (.t 117) (.t 118)),iU 120 113 (.faddr 1 (.t 119)),iU 121 113 (.load none (.t 120)),iU 122 113 (.len (.t 121)),iU 123 113 (.faddr 3 (.t 3)),iU 124 113 (.load none (.t 123)),iU 125 113 (.len (.t 124)),iU 126 113 (.cmp .neq (.t 122) (.t 125)),iO 127 (.pick (.t 113) (kB true) (.t 126)),iO 128 (.nck (.t 96)),iF 129 4 128,iN (.store 1 (.t 129) (.t 127))])
 (sO [iE 131 .eql 48 8,iM 130 131]
 (.cond (.t 130) (.ops [iM 132 0,iM 133 0,iO 134 (.nck (.t 133)),iF 135 4 134,iL 136 135,iM 137 136,iU 138 137 (.mov (.t 5)),iU 139 137 (.cmp .lss (.t 138) (kI 0)),iO 140 (.pick (.t 137) (kB true) (.t 139)),iM 141 140,iU 142 141 (.mov (.t 0)),iU 143 141 (.nck (.t 142)),iU 144 141 (.faddr 0 (.t 143)),iU 145 141 (.load none (.t 144)),iU 146 141 (.mov (.t 5)),iU 147 141 (.ixa 6 (.t 145) (.t 146)),iU 148 141 (.faddr 1 (.t 147)),iU 149 141 (.load none (.t 148)),iU 150 141 (.len (.t 149)),iU 151 141 (.faddr 3 (.t 3)),iU 152 141 (.load none (.t 151)),iU 153 141 (.len (.t 152)),iU 154 141 (.cmp .neq (.t 150) (.t 153)),iO 155 (.pick (.t 141) (kB true) (.t 154)),iO 156 (.nck (.t 132)),iF 157 4 156,iN (.store 1 (.t 157) (.t 155))])
 (sO [iE 159 .eql 48 31,iM 158 159]
 (.cond (.t 158) (.ops [iM 160 0,iM 161 0,iO 162 (.nck (.t 161)),iF 163 4 162,iL 164 163,iM 165 164,iU 166 165 (.mov (.t 5)),iU 167 165 (.cmp .lss (.t 166) (kI 0)),iO 168 (.pick (.t 165) (kB true) (.t 167)),iO 169 (.nck (.t 160)),iF 170 4 169,iN (.store 1 (.t 170) (.t 168))])
 (.skip)))))))))))))))
def v6:SFn:=⟨2,171,Gn,[]⟩
def mZ:SCode :=
 .seq (sO [iM 7 4,iF 8 3 3,iL 9 8,iO 10 (.len (.t 9)),iV 11 .lss 7 10]
 (.cond (.t 11) (.skip)
 (.seq (.keep [0,3]) (.exit 0))))
 (.seq (.block 1 (.ops [iM 14 0,iF 15 3 3,iL 16 15,iM 17 4,iO 18 (.ixa 4 (.t 16) (.t 17)),iK 19 4 18,iO 20 (.callb t8 [.t 14,.t 19] [true,false])]))
 (.ops [iM 12 4,iO 13 (.ari .add (.t 12) (kI 1)),iM 4 13]))
def jP:SCode :=
 .seq (sO [iM 30 6,iF 31 3 3,iL 32 31,iO 33 (.len (.t 32)),iV 34 .lss 30 33]
 (.cond (.t 34) (.skip)
 (.seq (.keep []) (.exit 3))))
 (.seq (.block 4 (sO [iF 37 3 3,iL 38 37,iM 39 6,iO 40 (.ixa 4 (.t 38) (.t 39)),iF 41 0 40,iL 42 41,iO 43 (.callr nZ [.t 42])]
 (.cond (.t 43) (.ops [iM 44 0,iF 45 3 3,iL 46 45,iM 47 6,iO 48 (.ixa 4 (.t 46) (.t 47)),iK 49 4 48,iO 50 (.callb iP [.t 44,.t 49,.c (.bool false)] [true,false,false])])
 (.skip))))
 (.ops [iM 35 6,iO 36 (.ari .add (.t 35) (kI 1)),iM 6 36]))
def Gt:SCode :=
 sO [iO 3 (.vbox 4 (.t 1))]
 (.seq (sO [iO 4 (.mov (kI 0))]
 (.block 0 (.loop [0,3,4] mZ)))
 (sO [iM 21 0,iO 22 (.nck (.t 21)),iF 23 2 22,iL 24 23,iF 25 1 3,iL 26 25,iO 27 (.callr iI [.t 24,.t 26]),iM 5 27]
 (sO [iF 28 0 3,iL 29 28]
 (.block 2 (sO [iE 52 .eql 29 2,iM 51 52]
 (.cond (.t 51) (.opsd [⟨iM 53 0,0,[]⟩,⟨iM 54 0,1,[]⟩,⟨iO 55 (.nck (.t 54)),2,[]⟩,⟨iF 56 2 55,3,[]⟩,⟨iL 57 56,4,[]⟩,⟨iF 58 1 3,5,[]⟩,⟨iL 59 58,6,[]⟩,⟨iF 60 3 3,7,[]⟩,⟨iL 61 60,8,[]⟩,⟨iO 62 (.ixa 4 (.t 61) (kI 0)),9,[]⟩,⟨iK 63 4 62,10,[]⟩,⟨iM 64 0,11,[]⟩,⟨iO 65 (.nck (.t 64)),12,[]⟩,⟨iF 66 2 65,13,[]⟩,⟨iL 67 66,14,[]⟩,⟨iO 68 (.callr oX [.t 63,.t 67]),15,[]⟩,⟨iO 69 (.build [zS,.v (.bool false)] [(0,1,.t 59),(1,1,.t 68)]),16,[]⟩,⟨iO 70 (.lit 2 [.t 69]),17,[iM 53 0,iM 54 0,iO 55 (.nck (.t 54)),iF 56 2 55,iL 57 56]⟩,⟨iO 71 (.app 2 24 (.t 57) (.t 70)),18,[iM 53 0]⟩,⟨iO 72 (.nck (.t 53)),19,[]⟩,⟨iF 73 2 72,20,[]⟩,⟨iN (.store 1 (.t 73) (.t 71)),21,[]⟩])
 (sO [iE 75 .eql 29 3,iM 74 75]
 (.cond (.t 74) (.ops [iM 76 0,iF 77 3 3,iL 78 77,iO 79 (.ixa 4 (.t 78) (kI 0)),iK 80 4 79,iM 81 0,iO 82 (.nck (.t 81)),iF 83 2 82,iL 84 83,iM 85 5,iO 86 (.ixa 2 (.t 84) (.t 85)),iF 87 1 86,iL 88 87,iO 89 (.callb iP [.t 76,.t 80,.t 88] [true,false,false])])
 (.seq (sO [iE 91 .eql 29 8,iM 90 91]
 (.cond (.t 90) (.skip)
 (.ops [iE 92 .eql 29 26,iM 90 92])))
 (.cond (.t 90) (.ops [iM 93 0,iK 94 4 3,iO 95 (.callb G8 [.t 93,.t 94] [true,false])])
 (.seq (sO [iE 97 .eql 29 9,iM 96 97]
 (.cond (.t 96) (.skip)
 (.ops [iE 98 .eql 29 33,iM 96 98])))
 (.cond (.t 96) (sO [iM 99 0,iF 100 3 3,iL 101 100,iO 102 (.ixa 4 (.t 101) (kI 0)),iK 103 4 102,iO 104 (.callb iP [.t 99,.t 103,.c (.bool true)] [true,false,false])]
 (.ops [iM 105 0,iF 106 3 3,iL 107 106,iO 108 (.ixa 4 (.t 107) (kI 1)),iK 109 4 108,iO 110 (.callb iP [.t 105,.t 109,.c (.bool false)] [true,false,false])]))
 (.seq (sO [iE 112 .eql 29 10,iM 111 112]
 (.cond (.t 111) (.skip)
 (.ops [iE 113 .eql 29 32,iM 111 113])))
 (.cond (.t 111) (sO [iM 114 0,iF 115 3 3,iL 116 115,iO 117 (.ixa 4 (.t 116) (kI 0)),iK 118 4 117,iO 119 (.callb iP [.t 114,.t 118,.c (.bool true)] [true,false,false])]
 (.ops [iM 120 0,iM 121 0,iO 122 (.nck (.t 121)),iF 123 4 122,iL 124 123,iM 125 124,iU 126 125 (.mov (.t 0)),iU 127 125 (.nck (.t 126)),iU 128 125 (.faddr 2 (.t 127)),iU 129 125 (.load none (.t 128)),iU 130 125 (.mov (.t 5)),iU 131 125 (.ixa 2 (.t 129) (.t 130)),iU 132 125 (.faddr 1 (.t 131)),iU 133 125 (.load none (.t 132)),iO 134 (.pick (.t 125) (kB true) (.t 133)),iO 135 (.nck (.t 120)),iF 136 4 135,iN (.store 1 (.t 136) (.t 134))]))
 (sO [iE 138 .eql 29 11,iM 137 138]
 (.cond (.t 137) (.ops [iM 139 0,iF 140 3 3,iL 141 140,iO 142 (.ixa 4 (.t 141) (kI 0)),iK 143 4 142,iO 144 (.callb iP [.t 139,.t 143,.c (.bool true)] [true,false,false])])
 (sO [iO 6 (.mov (kI 0))]
 (.block 3 (.loop [0,3,6] jP)))))))))))))))))))
def uN:SFn:=⟨2,145,Gt,[]⟩
def mG:SCode :=
 .seq (sO [iM 7 5,iM 8 1,iO 9 (.len (.t 8)),iV 10 .lss 7 9]
 (.cond (.t 10) (.skip)
 (.seq (.keep [1,2]) (.exit 0))))
 (.seq (.block 1 (sO [iF 13 0 2,iL 14 13,iM 15 1,iM 16 5,iO 17 (.ixa 1 (.t 15) (.t 16)),iL 18 17,iV 19 .eql 14 18]
 (.cond (.t 19) (sO [iO 4 (.mov (kB true))]
 (.seq (.keep [4]) .ret))
 (.skip))))
 (.ops [iM 11 5,iO 12 (.ari .add (.t 11) (kI 1)),iM 5 12]))
def mL:SCode :=
 .seq (sO [iM 20 6,iF 21 3 2,iL 22 21,iO 23 (.len (.t 22)),iV 24 .lss 20 23]
 (.cond (.t 24) (.skip)
 (.seq (.keep []) (.exit 2))))
 (.seq (.block 3 (sO [iF 27 3 2,iL 28 27,iM 29 6,iO 30 (.ixa 4 (.t 28) (.t 29)),iK 31 4 30,iM 32 1,iO 33 (.callr vC [.t 31,.t 32])]
 (.cond (.t 33) (sO [iO 4 (.mov (kB true))]
 (.seq (.keep [4]) .ret))
 (.skip))))
 (.ops [iM 25 6,iO 26 (.ari .add (.t 25) (kI 1)),iM 6 26]))
def K6:SCode :=
 sO [iO 2 (.vbox 4 (.t 0)),iO 4 (.mov (kB false))]
 (.seq (sO [iO 5 (.mov (kI 0))]
 (.block 0 (.loop [1,2,5] mG)))
 (.seq (sO [iO 6 (.mov (kI 0))]
 (.block 2 (.loop [1,2,6] mL)))
 (sO [iO 4 (.mov (kB false))]
 (.ret))))
def Cx:SFn:=⟨2,34,K6,[.t 4]⟩
def oG:SCode :=
 .seq (sO [iM 6 5,iF 7 3 2,iL 8 7,iO 9 (.len (.t 8)),iV 10 .lss 6 9]
 (.cond (.t 10) (.skip)
 (.seq (.keep [1,2]) (.exit 0))))
 (.seq (.block 1 (.ops [iF 13 3 2,iL 14 13,iM 15 5,iO 16 (.ixa 4 (.t 14) (.t 15)),iK 17 4 16,iM 18 1,iO 19 (.callb pA [.t 17,.t 18] [false,true]),iM 1 19]))
 (.ops [iM 11 5,iO 12 (.ari .add (.t 11) (kI 1)),iM 5 12]))
def Ir:SCode :=
 sO [iO 2 (.vbox 4 (.t 0)),iO 4 (.mov (.n 2))]
 (.seq (sO [iO 5 (.mov (kI 0))]
 (.block 0 (.loop [1,2,5] oG)))
 (.seq (sO [iF 20 0 2,iL 21 20,iE 22 .eql 21 2,iM 23 22,iT 24 23 (.faddr 3 (.t 2)),iT 25 23 (.load none (.t 24)),iT 26 23 (.len (.t 25)),iT 27 23 (.cmp .gtr (.t 26) (kI 0)),iO 28 (.pick (.t 23) (.t 27) (kB false))]
 (.cond (.t 28) (.opsd [⟨iM 29 1,0,[]⟩,⟨iF 30 1 2,1,[]⟩,⟨iL 31 30,2,[]⟩,⟨iF 32 3 2,3,[]⟩,⟨iL 33 32,4,[]⟩,⟨iO 34 (.ixa 4 (.t 33) (kI 0)),5,[]⟩,⟨iK 35 4 34,6,[]⟩,⟨iM 36 1,7,[]⟩,⟨iO 37 (.callr oX [.t 35,.t 36]),8,[]⟩,⟨iO 38 (.build [zS,.v (.bool false)] [(0,1,.t 31),(1,1,.t 37)]),9,[]⟩,⟨iO 39 (.lit 2 [.t 38]),10,[iM 29 1]⟩,⟨iO 40 (.app 2 24 (.t 29) (.t 39)),11,[]⟩,⟨iM 1 40,12,[]⟩])
 (.skip)))
 (sO [iM 41 1,iM 4 41]
 (.ret))))
def xO:SFn:=⟨2,42,Ir,[.t 4]⟩
def Gw:SCode :=
 sO [iO 1 (.vbox 2 (.t 0)),iO 2 (.alloc [zS,.v (.bool false)])]
 (sO [iO 3 (.alloc [zS,.v (.bool false)])]
 (sO [iF 4 0 1,iL 5 4,iF 6 0 3,iN (.store 1 (.t 6) (.t 5))]
 (sO [iF 7 1 1,iL 8 7,iF 9 1 3,iN (.store 1 (.t 9) (.t 8))]
 (sO [iK 10 2 3,iN (.store 2 (.t 2) (.t 10))]
 (.ret)))))
def vM:SFn:=⟨1,11,Gw,[.c 2 (some 2)]⟩
def nB:SCode :=
 .seq (sO [iM 8 4,iM 9 0,iO 10 (.len (.t 9)),iV 11 .lss 8 10]
 (.cond (.t 11) (.skip)
 (.seq (.keep [3]) (.exit 0))))
 (.seq (.block 1 (.ops [iM 14 3,iM 15 4,iM 16 0,iM 17 4,iO 18 (.ixa 4 (.t 16) (.t 17)),iK 19 4 18,iO 20 (.call wX [.t 19]),iO 21 (.ixa 4 (.t 14) (.t 15)),iN (.store 4 (.t 21) (.t 20))]))
 (.ops [iM 12 4,iO 13 (.ari .add (.t 12) (kI 1)),iM 4 13]))
def Fp:SCode :=
 sO [iO 2 (.mov (.n 4))]
 (sO [iM 5 0,iO 6 (.len (.t 5)),iO 7 (.mk 4 56 [zI,zS,zI,.s 4 []] (.t 6)),iM 3 7]
 (.seq (sO [iO 4 (.mov (kI 0))]
 (.block 0 (.loop [0,3,4] nB)))
 (sO [iM 22 3,iM 2 22]
 (.ret))))
def wD:SFn:=⟨1,23,Fp,[.t 2]⟩
def H3:SCode :=
 sO [iO 2 (.mov (kB false))]
 (sO [iM 3 0,iO 4 (.slen (.t 3)),iO 5 (.callr cM [.t 4,.c (.int .i64 1),.c (.int .i64 10)]),iM 6 5,iT 7 6 (.mov (.t 0)),iT 8 6 (.calli (.f U3) [.t 7,.c (.int .i64 0),.f qV]),iT 9 6 (.mov (.t 0)),iT 10 6 (.slen (.t 9)),iT 11 6 (.cmp .eql (.t 8) (.t 10)),iO 12 (.pick (.t 6) (.t 11) (kB false)),iM 13 12,iT 14 13 (.mov (.t 0)),iT 15 13 (.callr Cv [.t 14]),iT 16 13 (.not (.t 15)),iO 17 (.pick (.t 13) (.t 16) (kB false)),iM 2 17]
 (.ret))
def yF:SFn:=⟨1,18,H3,[.t 2]⟩
def H9:SCode :=
 sO [iO 1 (.vbox 2 (.t 0)),iO 2 (.mov (kB false))]
 (sO [iF 3 0 1,iL 4 3,iO 5 (.callr iQ [.t 4]),iO 6 (.not (.t 5)),iM 2 6]
 (.ret))
def yR:SFn:=⟨1,7,H9,[.t 2]⟩
def A0:SCode :=
 sO [iO 1 (.vbox 4 (.t 0)),iO 2 (.mov (kB false))]
 (sO [iF 3 0 1,iL 4 3,iE 5 .eql 4 1,iM 6 5,iT 7 6 (.faddr 1 (.t 1)),iT 8 6 (.load none (.t 7)),iT 9 6 (.cmp .eql (.t 8) (.c (.string ⟨#[]⟩))),iO 10 (.pick (.t 6) (.t 9) (kB false)),iM 11 10,iT 12 11 (.faddr 2 (.t 1)),iT 13 11 (.load none (.t 12)),iT 14 11 (.cmp .eql (.t 13) (kI 0)),iO 15 (.pick (.t 11) (.t 14) (kB false)),iM 16 15,iT 17 16 (.faddr 3 (.t 1)),iT 18 16 (.load none (.t 17)),iT 19 16 (.calli (.f eC) [.t 18,.f bJ]),iO 20 (.pick (.t 16) (.t 19) (kB false)),iM 2 20]
 (.ret))
def qR:SFn:=⟨1,21,A0,[.t 2]⟩
def q5:SCode :=
 sO [iV 11 .lss 10 9]
 (.seq (.cond (.t 11) (.skip)
 (.seq (.keep [1,2]) (.exit 0)))
 (.seq (.block 1 (sO [iO 12 (.ixa 4 (.t 8) (.t 10)),iK 13 4 12,iO 6 (.alloc [zI,zS,zI,.s 4 []]),iN (.store 4 (.t 6) (.t 13))]
 (.ops [iK 14 4 6,iM 15 1,iO 16 (.callb uD [.t 14,.t 15] [false,true]),iM 1 16])))
 (.ops [iO 17 (.ari .add (.t 10) (kI 1)),iM 10 17])))
def Ov:SCode :=
 sO [iO 2 (.vbox 4 (.t 0)),iO 4 (.mov (.n 2))]
 (.seq (sO [iF 7 3 2,iL 8 7,iO 9 (.len (.t 8)),iO 10 (.mov (kI 0))]
 (.block 0 (.loop [1,2,8,9,10] q5)))
 (.seq (sO [iF 18 0 2,iL 19 18,iE 20 .eql 19 2,iM 21 20,iT 22 21 (.faddr 3 (.t 2)),iT 23 21 (.load none (.t 22)),iT 24 21 (.len (.t 23)),iT 25 21 (.cmp .gtr (.t 24) (kI 0)),iO 26 (.pick (.t 21) (.t 25) (kB false))]
 (.cond (.t 26) (.opsd [⟨iM 27 1,0,[]⟩,⟨iF 28 1 2,1,[]⟩,⟨iL 29 28,2,[]⟩,⟨iM 30 1,3,[]⟩,⟨iF 31 3 2,4,[]⟩,⟨iL 32 31,5,[]⟩,⟨iO 33 (.ixa 4 (.t 32) (kI 0)),6,[]⟩,⟨iK 34 4 33,7,[]⟩,⟨iO 35 (.callr mF [.t 30,.t 34]),8,[]⟩,⟨iO 36 (.build [zS,.v (.bool false)] [(0,1,.t 29),(1,1,.t 35)]),9,[]⟩,⟨iO 37 (.lit 2 [.t 36]),10,[iM 27 1]⟩,⟨iO 38 (.app 2 24 (.t 27) (.t 37)),11,[]⟩,⟨iM 1 38,12,[]⟩])
 (.skip)))
 (sO [iM 39 1,iM 4 39]
 (.ret))))
def Gh:SFn:=⟨2,40,Ov,[.t 4]⟩
def nF:SCode :=
 .clone 2 [iO 5 (.lit 2 []),iM 6 0,iO 7 (.app 2 24 (.t 5) (.t 6)),iM 2 7]
def dR:SFn:=⟨1,8,nF,[.t 2]⟩
def qI:SCode :=
 sO [iO 4 (.box 1 (.t 1)),iO 6 (.mov (kI 0))]
 (sO [iM 7 0,iO 8 (.nck (.t 7)),iF 9 0 8,iL 10 9,iM 11 2,iO 12 (.cutr 6 (.t 10) none (some (.t 11))),iO 13 (.fn hX [.t 4]),iO 14 (.calli (.f dP) [.t 12,.t 13]),iM 6 14]
 (.ret))
def lB:SFn:=⟨3,15,qI,[.t 6]⟩
def E4:SCode :=
 sO [iO 3 (.box 1 (.t 1)),iO 4 (.mov (kI 0))]
 (sO [iM 5 0,iO 6 (.fn pP [.t 3]),iO 7 (.calli (.f bP) [.t 5,.t 6]),iM 4 7]
 (.ret))
def vG:SFn:=⟨2,8,E4,[.t 4]⟩
def O1:SCode :=
 sO [iO 2 (.vbox 4 (.t 0)),iO 3 (.box 1 (.t 1)),iO 4 (.mov (kB false))]
 (sO [iL 5 3,iK 6 4 2,iO 7 (.calli (.t 5) [.t 6]),iM 8 7,iU 9 8 (.faddr 3 (.t 2)),iU 10 8 (.load none (.t 9)),iU 11 8 (.fn wZ [.t 3]),iU 12 8 (.calli (.f bX) [.t 10,.t 11]),iO 13 (.pick (.t 8) (kB true) (.t 12)),iM 4 13]
 (.ret))
def G1:SFn:=⟨2,14,O1,[.t 4]⟩
def K5:SCode :=
 sO [iO 1 (.vbox 4 (.t 0)),iO 2 (.mov (kB false))]
 (.seq (sO [iF 3 0 1,iL 4 3]
 (.block 0 (.seq (sO [iE 6 .eql 4 13,iM 5 6]
 (.cond (.t 5) (.skip)
 (sO [iE 7 .eql 4 14,iM 5 7]
 (.cond (.t 5) (.skip)
 (sO [iE 8 .eql 4 15,iM 5 8]
 (.cond (.t 5) (.skip)
 (sO [iE 9 .eql 4 16,iM 5 9]
 (.cond (.t 5) (.skip)
 (sO [iE 10 .eql 4 17,iM 5 10]
 (.cond (.t 5) (.skip)
 (sO [iE 11 .eql 4 28,iM 5 11]
 (.cond (.t 5) (.skip)
 (sO [iE 12 .eql 4 29,iM 5 12]
 (.cond (.t 5) (.skip)
 (sO [iE 13 .eql 4 30,iM 5 13]
 (.cond (.t 5) (.skip)
 (.ops [iE 14 .eql 4 31,iM 5 14])))))))))))))))))
 (.cond (.t 5) (sO [iO 2 (.mov (kB true))]
 (.ret))
 (.skip)))))
 (sO [iO 2 (.mov (kB false))]
 (.ret)))
def Bh:SFn:=⟨1,15,K5,[.t 2]⟩
def Iq:SCode :=
 sO [iO 1 (.vbox 4 (.t 0)),iO 2 (.mov (kB false))]
 (.seq (sO [iF 3 0 1,iL 4 3]
 (.block 0 (.seq (sO [iE 6 .eql 4 6,iM 5 6]
 (.cond (.t 5) (.skip)
 (sO [iE 7 .eql 4 8,iM 5 7]
 (.cond (.t 5) (.skip)
 (sO [iE 8 .eql 4 9,iM 5 8]
 (.cond (.t 5) (.skip)
 (sO [iE 9 .eql 4 10,iM 5 9]
 (.cond (.t 5) (.skip)
 (sO [iE 10 .eql 4 11,iM 5 10]
 (.cond (.t 5) (.skip)
 (sO [iE 11 .eql 4 12,iM 5 11]
 (.cond (.t 5) (.skip)
 (.ops [iE 12 .eql 4 27,iM 5 12])))))))))))))
 (.cond (.t 5) (sO [iO 2 (.mov (kB true))]
 (.ret))
 (.skip)))))
 (sO [iO 2 (.mov (kB false))]
 (.ret)))
def yT:SFn:=⟨1,13,Iq,[.t 2]⟩
def nE:SCode :=
 sO [iO 1 (.vbox 2 (.t 0)),iO 2 (.mov (kB false))]
 (sO [iF 3 1 1,iL 4 3,iM 2 4]
 (.ret))
def iC:SFn:=⟨1,5,nE,[.t 2]⟩
def gO:SCode :=
 sO [iV 13 .lss 12 11]
 (.seq (.cond (.t 13) (.skip)
 (.seq (.keep [3]) (.exit 0)))
 (.seq (.block 1 (sO [iM 14 12,iO 15 (.ixa 4 (.t 10) (.t 12)),iK 16 4 15,iO 5 (.alloc [zI,zS,zI,.s 4 []]),iM 4 14,iN (.store 4 (.t 5) (.t 16))]
 (sO [iF 17 0 5,iL 18 17,iE 19 .neq 18 34]
 (.cond (.t 19) (.ops [iM 20 3,iO 21 (.ari .add (.t 20) (kI 1)),iM 3 21])
 (sO [iM 22 4,iF 23 3 1,iL 24 23,iO 25 (.len (.t 24)),iO 26 (.ari .sub (.t 25) (kI 1)),iV 27 .neq 22 26]
 (.cond (.t 27) (sO [iO 2 (.mov (kB true))]
 (.seq (.keep [2]) .ret))
 (.skip)))))))
 (.ops [iO 28 (.ari .add (.t 12) (kI 1)),iM 12 28])))
def Fw:SCode :=
 sO [iO 1 (.vbox 4 (.t 0)),iO 2 (.mov (kB false))]
 (.seq (sO [iF 6 0 1,iL 7 6,iE 8 .neq 7 12]
 (.cond (.t 8) (sO [iO 2 (.mov (kB false))]
 (.ret))
 (.skip)))
 (sO [iO 3 (.mov (kI 0))]
 (.seq (sO [iF 9 3 1,iL 10 9,iO 11 (.len (.t 10)),iO 12 (.mov (kI 0))]
 (.block 0 (.loop [1,3,10,11,12] gO)))
 (sO [iM 29 3,iO 30 (.callr cM [.t 29,.c (.int .i64 1),.c (.int .i64 3)]),iO 31 (.not (.t 30)),iM 2 31]
 (.ret)))))
def vW:SFn:=⟨1,32,Fw,[.t 2]⟩
def dM:SCode :=
 sO [iV 41 .lss 40 39]
 (.seq (.cond (.t 41) (.skip)
 (.seq (.keep [2,4]) (.exit 1)))
 (.seq (.block 2 (sO [iO 42 (.ixa 4 (.t 38) (.t 40)),iK 43 4 42,iO 10 (.alloc [zI,zS,zI,.s 4 []]),iN (.store 4 (.t 10) (.t 43))]
 (sO [iM 44 0,iK 45 4 10,iM 46 2,iO 47 (.callb hY [.t 44,.t 45,.t 46] [true,false,true])]
 (.cond (.t 47) (sO [iO 6 (.mov (kB true))]
 (.seq (.keep [6]) .ret))
 (.skip)))))
 (.ops [iO 48 (.ari .add (.t 40) (kI 1)),iM 40 48])))
def bM:SCode :=
 sO [iO 4 (.vbox 4 (.t 1)),iO 6 (.mov (kB false))]
 (.seq (sO [iF 11 0 4,iL 12 11]
 (.block 0 (.seq (sO [iE 14 .eql 12 20,iM 13 14]
 (.cond (.t 13) (.skip)
 (sO [iE 15 .eql 12 3,iM 13 15]
 (.cond (.t 13) (.skip)
 (sO [iE 16 .eql 12 10,iM 13 16]
 (.cond (.t 13) (.skip)
 (.ops [iE 17 .eql 12 32,iM 13 17])))))))
 (.cond (.t 13) (sO [iM 18 2,iO 19 (.nck (.t 18)),iL 20 19,iF 21 1 4,iL 22 21,iO 23 (.callr dS [.t 20,.t 22]),iO 24 (.not (.t 23))]
 (.cond (.t 24) (sO [iO 6 (.mov (kB true))]
 (.ret))
 (.skip)))
 (.seq (sO [iE 26 .eql 12 26,iM 25 26]
 (.cond (.t 25) (.skip)
 (sO [iE 27 .eql 12 8,iM 25 27]
 (.cond (.t 25) (.skip)
 (.ops [iE 28 .eql 12 31,iM 25 28])))))
 (.cond (.t 25) (sO [iM 30 0,iK 31 4 4,iO 32 (.callb fV [.t 30,.t 31] [true,false]),iM 29 32,iO 33 (.ext (.t 29) 0),iO 34 (.ext (.t 29) 1),iO 7 (.alloc [zS,.s 2 [],zI,zS,zI,.s 4 []]),iN (.store 6 (.t 7) (.t 33)),iM 8 34]
 (sO [iM 35 8,iO 36 (.not (.t 35))]
 (.cond (.t 36) (sO [iO 6 (.mov (kB true))]
 (.ret))
 (.skip))))
 (.skip)))))))
 (.seq (sO [iF 37 3 4,iL 38 37,iO 39 (.len (.t 38)),iO 40 (.mov (kI 0))]
 (.block 1 (.loop [0,2,4,38,39,40] dM)))
 (.seq (sO [iF 49 0 4,iL 50 49,iE 51 .eql 50 2]
 (.cond (.t 51) (.opsd [⟨iM 52 2,0,[]⟩,⟨iM 53 2,1,[]⟩,⟨iO 54 (.nck (.t 53)),2,[]⟩,⟨iL 55 54,3,[]⟩,⟨iF 56 1 4,4,[]⟩,⟨iL 57 56,5,[]⟩,⟨iO 58 (.lit 1 [.t 57]),6,[iM 52 2,iM 53 2,iO 54 (.nck (.t 53)),iL 55 54]⟩,⟨iO 59 (.app 1 16 (.t 55) (.t 58)),7,[iM 52 2]⟩,⟨iO 60 (.nck (.t 52)),8,[]⟩,⟨iN (.store 1 (.t 60) (.t 59)),9,[]⟩])
 (.skip)))
 (sO [iO 6 (.mov (kB false))]
 (.ret)))))
def jE:SFn:=⟨3,61,bM,[.t 6]⟩
def dN:SCode :=
 sO [iV 31 .lss 30 29]
 (.seq (.cond (.t 31) (.skip)
 (.seq (.keep []) (.exit 0)))
 (.seq (.block 1 (sO [iM 32 30,iO 33 (.ixa 4 (.t 28) (.t 30)),iK 34 4 33,iO 6 (.alloc [zI,zS,zI,.s 4 []]),iM 5 32,iN (.store 4 (.t 6) (.t 34))]
 (sO [iM 36 0,iK 37 4 3,iM 38 5,iO 39 (.callb oI [.t 36,.t 37,.t 38] [true,false,false]),iM 35 39,iO 40 (.ext (.t 35) 0),iO 41 (.ext (.t 35) 1),iM 7 40,iM 8 41]
 (sO [iM 42 8,iO 43 (.not (.t 42)),iM 44 43,iT 45 44 (.mov (.t 0)),iT 46 44 (.nck (.t 45)),iT 47 44 (.faddr 2 (.t 46)),iT 48 44 (.load none (.t 47)),iT 49 44 (.load (some 4) (.t 6)),iT 50 44 (.callr mF [.t 48,.t 49]),iT 51 44 (.mov (.t 7)),iT 52 44 (.cmpb .neq (.t 50) (.t 51)),iO 53 (.pick (.t 44) (.t 52) (kB false)),iM 54 53,iU 55 54 (.mov (.t 0)),iU 56 54 (.load (some 4) (.t 6)),iU 57 54 (.callb iA [.t 55,.t 56] [true,false]),iO 58 (.pick (.t 54) (kB true) (.t 57))]
 (.cond (.t 58) (sO [iO 4 (.mov (kB true))]
 (.seq (.keep [4]) .ret))
 (.skip))))))
 (.ops [iO 59 (.ari .add (.t 30) (kI 1)),iM 30 59])))
def oV:SCode :=
 sO [iO 3 (.vbox 4 (.t 1)),iO 4 (.mov (kB false))]
 (.seq (sO [iF 9 0 3,iL 10 9,iE 11 .eql 10 10,iM 12 11,iU 13 12 (.faddr 0 (.t 3)),iU 14 12 (.load none (.t 13)),iU 15 12 (.cmp .eql (.t 14) (kI 32)),iO 16 (.pick (.t 12) (kB true) (.t 15)),iM 17 16,iT 18 17 (.mov (.t 0)),iT 19 17 (.nck (.t 18)),iT 20 17 (.faddr 2 (.t 19)),iT 21 17 (.load none (.t 20)),iT 22 17 (.faddr 1 (.t 3)),iT 23 17 (.load none (.t 22)),iT 24 17 (.build [zI,zS,zI,.s 4 []] [(0,1,.c (.int .i64 20)),(1,1,.t 23)]),iT 25 17 (.callr mF [.t 21,.t 24]),iO 26 (.pick (.t 17) (.t 25) (kB false))]
 (.cond (.t 26) (sO [iO 4 (.mov (kB true))]
 (.ret))
 (.skip)))
 (.seq (sO [iF 27 3 3,iL 28 27,iO 29 (.len (.t 28)),iO 30 (.mov (kI 0))]
 (.block 0 (.loop [0,3,28,29,30] dN)))
 (sO [iO 4 (.mov (kB false))]
 (.ret))))
def jI:SFn:=⟨2,60,oV,[.t 4]⟩
def dY:SCode :=
 sO [iV 9 .lss 8 7]
 (.seq (.cond (.t 9) (.skip)
 (.seq (.keep []) (.exit 0)))
 (.seq (.block 1 (sO [iM 10 8,iM 5 10]
 (sO [iM 11 1,iM 12 0,iM 13 5,iO 14 (.ixa 1 (.t 12) (.t 13)),iL 15 14,iO 16 (.calli (.t 11) [.t 15])]
 (.cond (.t 16) (sO [iM 17 5,iM 4 17]
 (.seq (.keep [4]) .ret))
 (.skip)))))
 (.ops [iO 18 (.ari .add (.t 8) (kI 1)),iM 8 18])))
def mN:SCode :=
 sO [iO 4 (.mov (kI 0))]
 (.seq (sO [iM 6 0,iO 7 (.len (.t 6)),iO 8 (.mov (kI 0))]
 (.block 0 (.loop [0,1,7,8] dY)))
 (sO [iO 4 (.mov (kI (-1)))]
 (.ret)))
def hI:SFn:=⟨2,19,mN,[.t 4]⟩
def Ge:SCode :=
 sO [iO 2 (.vbox 2 (.t 0)),iO 3 (.vbox 2 (.t 1)),iO 4 (.mov (kB false))]
 (.seq (sO [iF 5 0 2,iL 6 5,iF 7 0 3,iL 8 7,iV 9 .neq 6 8]
 (.cond (.t 9) (sO [iO 4 (.mov (kB false))]
 (.ret))
 (.skip)))
 (.seq (sO [iF 10 1 2,iL 11 10,iF 12 1 3,iL 13 12,iO 14 (.cmpb .neq (.t 11) (.t 13))]
 (.cond (.t 14) (sO [iO 4 (.mov (kB false))]
 (.ret))
 (.skip)))
 (sO [iO 4 (.mov (kB true))]
 (.ret))))
def uM:SFn:=⟨2,15,Ge,[.t 4]⟩
def nC:SCode :=
 .seq (sO [iM 11 5,iM 12 0,iO 13 (.len (.t 12)),iV 14 .lss 11 13]
 (.cond (.t 14) (.skip)
 (.seq (.keep []) (.exit 0))))
 (.seq (.block 1 (sO [iM 17 0,iM 18 5,iO 19 (.ixa 4 (.t 17) (.t 18)),iK 20 4 19,iM 21 1,iM 22 5,iO 23 (.ixa 4 (.t 21) (.t 22)),iK 24 4 23,iO 25 (.callr oY [.t 20,.t 24]),iO 26 (.not (.t 25))]
 (.cond (.t 26) (sO [iO 4 (.mov (kB false))]
 (.seq (.keep [4]) .ret))
 (.skip))))
 (.ops [iM 15 5,iO 16 (.ari .add (.t 15) (kI 1)),iM 5 16]))
def En:SCode :=
 sO [iO 4 (.mov (kB false))]
 (.seq (sO [iM 6 0,iO 7 (.len (.t 6)),iM 8 1,iO 9 (.len (.t 8)),iV 10 .neq 7 9]
 (.cond (.t 10) (sO [iO 4 (.mov (kB false))]
 (.ret))
 (.skip)))
 (.seq (sO [iO 5 (.mov (kI 0))]
 (.block 0 (.loop [0,1,5] nC)))
 (sO [iO 4 (.mov (kB true))]
 (.ret))))
def u9:SFn:=⟨2,27,En,[.t 4]⟩
def yG:SCode :=
 sO [iO 3 (.vbox 7 (.t 1))]
 (.opsd [⟨iM 4 0,0,[]⟩,⟨iM 5 0,1,[]⟩,⟨iO 6 (.nck (.t 5)),2,[]⟩,⟨iF 7 0 6,3,[]⟩,⟨iF 8 3 7,4,[]⟩,⟨iL 9 8,5,[]⟩,⟨iK 10 7 3,6,[]⟩,⟨iO 11 (.lit 7 [.t 10]),7,[iM 4 0,iM 5 0,iO 6 (.nck (.t 5)),iF 7 0 6,iF 8 3 7,iL 9 8]⟩,⟨iO 12 (.app 7 80 (.t 9) (.t 11)),8,[iM 4 0]⟩,⟨iO 13 (.nck (.t 4)),9,[]⟩,⟨iF 14 0 13,10,[]⟩,⟨iF 15 3 14,11,[]⟩,⟨iN (.store 1 (.t 15) (.t 12)),12,[]⟩])
def yJ:SFn:=⟨2,16,yG,[]⟩
def lK:SCode :=
 .seq (sO [iM 5 4,iF 6 3 3,iL 7 6,iO 8 (.len (.t 7)),iV 9 .lss 5 8]
 (.cond (.t 9) (.skip)
 (.seq (.keep []) (.exit 0))))
 (.seq (.block 1 (.ops [iM 12 0,iF 13 3 3,iL 14 13,iM 15 4,iO 16 (.ixa 4 (.t 14) (.t 15)),iK 17 4 16,iO 18 (.callb m8 [.t 12,.t 17] [true,false])]))
 (.ops [iM 10 4,iO 11 (.ari .add (.t 10) (kI 1)),iM 4 11]))
def Di:SCode :=
 sO [iO 3 (.vbox 4 (.t 1))]
 (sO [iO 4 (.mov (kI 0))]
 (.block 0 (.loop [0,3,4] lK)))
def sP:SFn:=⟨2,19,Di,[]⟩
def Ii:SCode :=
 sO [iO 4 (.mov (kI 0))]
 (sO [iM 6 0,iO 7 (.callb j4 [.t 6] [true]),iM 5 7]
 (sO [iM 8 0,iM 9 5,iM 10 1,iO 11 (.build [zI,zI,zI,zI,zI,zS,.s 1 []] [(0,1,.c (.int .i64 1)),(1,1,.t 9),(4,1,.t 10)]),iO 12 (.callb bT [.t 8,.t 11] [true,true])]
 (sO [iM 13 5,iM 4 13]
 (.ret))))
def zG:SFn:=⟨2,14,Ii,[.t 4]⟩
def Cz:SCode :=
 sO [iO 2 (.vbox 7 (.t 0)),iO 4 (.mov (kB false))]
 (sO [iF 6 0 2,iL 7 6,iO 8 (.callr r8 [.t 7]),iM 5 8]
 (.seq (sO [iF 9 0 2,iL 10 9,iO 11 (.callr cH [.t 10,.c (.int .i64 1),.c (.int .i64 28)]),iO 12 (.not (.t 11)),iM 13 12,iU 14 13 (.load (some 7) (.t 2)),iU 15 13 (.callr Cj [.t 14]),iU 16 13 (.not (.t 15)),iO 17 (.pick (.t 13) (kB true) (.t 16)),iM 18 17,iU 19 18 (.load (some 7) (.t 2)),iU 20 18 (.mov (.t 1)),iU 21 18 (.callr Cw [.t 19,.t 20]),iU 22 18 (.not (.t 21)),iO 23 (.pick (.t 18) (kB true) (.t 22))]
 (.cond (.t 23) (sO [iO 4 (.mov (kB false))]
 (.ret))
 (.skip)))
 (.seq (sO [iF 24 0 2,iL 25 24,iE 26 .eql 25 19,iM 27 26,iT 28 27 (.faddr 4 (.t 2)),iT 29 27 (.load none (.t 28)),iT 30 27 (.callr cH [.t 29,.c (.int .i64 0),.c (.int .i64 1)]),iT 31 27 (.not (.t 30)),iO 32 (.pick (.t 27) (.t 31) (kB false)),iM 33 32,iU 34 33 (.faddr 4 (.t 2)),iU 35 33 (.load none (.t 34)),iU 36 33 (.callr wQ [.t 35]),iU 37 33 (.not (.t 36)),iO 38 (.pick (.t 33) (kB true) (.t 37))]
 (.cond (.t 38) (sO [iO 4 (.mov (kB false))]
 (.ret))
 (.skip)))
 (sO [iM 39 5,iO 40 (.ari .and (.t 39) (kI 1)),iE 41 .neq 40 0,iM 42 41,iU 43 42 (.faddr 1 (.t 2)),iU 44 42 (.load none (.t 43)),iU 45 42 (.cmp .eql (.t 44) (kI 0)),iO 46 (.pick (.t 42) (kB true) (.t 45)),iM 47 46,iT 48 47 (.mov (.t 5)),iT 49 47 (.ari .and (.t 48) (kI 2)),iT 50 47 (.cmp .neq (.t 49) (kI 0)),iT 51 47 (.mov (.t 50)),iU 52 51 (.faddr 2 (.t 2)),iU 53 51 (.load none (.t 52)),iU 54 51 (.cmp .eql (.t 53) (kI 0)),iT 55 47 (.pick (.t 51) (kB true) (.t 54)),iO 56 (.pick (.t 47) (.t 55) (kB false)),iM 57 56,iT 58 57 (.mov (.t 5)),iT 59 57 (.ari .and (.t 58) (kI 4)),iT 60 57 (.cmp .neq (.t 59) (kI 0)),iT 61 57 (.mov (.t 60)),iU 62 61 (.faddr 3 (.t 2)),iU 63 61 (.load none (.t 62)),iU 64 61 (.cmp .eql (.t 63) (kI 0)),iT 65 57 (.pick (.t 61) (kB true) (.t 64)),iO 66 (.pick (.t 57) (.t 65) (kB false)),iM 67 66,iT 68 67 (.mov (.t 5)),iT 69 67 (.ari .and (.t 68) (kI 8)),iT 70 67 (.cmp .neq (.t 69) (kI 0)),iT 71 67 (.mov (.t 70)),iU 72 71 (.faddr 4 (.t 2)),iU 73 71 (.load none (.t 72)),iU 74 71 (.cmp .eql (.t 73) (kI 0)),iT 75 67 (.pick (.t 71) (kB true) (.t 74)),iO 76 (.pick (.t 67) (.t 75) (kB false)),iM 77 76,iT 78 77 (.mov (.t 5)),iT 79 77 (.ari .and (.t 78) (kI 16)),iT 80 77 (.cmp .neq (.t 79) (kI 0)),iT 81 77 (.mov (.t 80)),iU 82 81 (.faddr 5 (.t 2)),iU 83 81 (.load none (.t 82)),iU 84 81 (.cmp .eql (.t 83) (.c (.string ⟨#[]⟩))),iT 85 77 (.pick (.t 81) (kB true) (.t 84)),iO 86 (.pick (.t 77) (.t 85) (kB false)),iM 4 86]
 (.ret)))))
def tE:SFn:=⟨2,87,Cz,[.t 4]⟩
def lZ:SCode :=
 .seq (sO [iM 6 5,iM 7 0,iO 8 (.len (.t 7)),iV 9 .lss 6 8]
 (.cond (.t 9) (.skip)
 (.seq (.keep []) (.exit 0))))
 (.seq (.block 1 (sO [iM 12 0,iM 13 5,iO 14 (.ixa 7 (.t 12) (.t 13)),iF 15 0 14,iL 16 15,iE 17 .eql 16 8,iM 18 17,iT 19 18 (.mov (.t 0)),iT 20 18 (.mov (.t 5)),iT 21 18 (.ixa 7 (.t 19) (.t 20)),iT 22 18 (.faddr 4 (.t 21)),iT 23 18 (.load none (.t 22)),iT 24 18 (.mov (.t 1)),iT 25 18 (.cmp .eql (.t 23) (.t 24)),iO 26 (.pick (.t 18) (.t 25) (kB false))]
 (.cond (.t 26) (sO [iM 27 5,iM 4 27]
 (.seq (.keep [4]) .ret))
 (.skip))))
 (.ops [iM 10 5,iO 11 (.ari .add (.t 10) (kI 1)),iM 5 11]))
def De:SCode :=
 sO [iO 4 (.mov (kI 0))]
 (.seq (sO [iO 5 (.mov (kI 0))]
 (.block 0 (.loop [0,1,5] lZ)))
 (sO [iO 4 (.mov (kI (-1)))]
 (.ret)))
def sW:SFn:=⟨2,28,De,[.t 4]⟩
def fW:SCode :=
 sO [iO 3 (.vbox 4 (.t 1))]
 (.seq (sO [iF 7 0 3,iL 8 7]
 (.block 0 (sO [iE 10 .eql 8 4,iM 9 10]
 (.cond (.t 9) (sO [iM 11 0,iK 12 4 3,iO 13 (.callb fX [.t 11,.t 12] [true,false])]
 (.ret))
 (sO [iE 15 .eql 8 5,iM 14 15]
 (.cond (.t 14) (sO [iM 16 0,iK 17 4 3,iO 18 (.callb lQ [.t 16,.t 17] [true,false])]
 (.ret))
 (sO [iE 20 .eql 8 12,iM 19 20]
 (.cond (.t 19) (sO [iM 21 0,iK 22 4 3,iO 23 (.callb jC [.t 21,.t 22] [true,false])]
 (.ret))
 (.skip)))))))))
 (sO [iM 24 0,iF 25 3 3,iL 26 25,iO 27 (.callb gY [.t 24,.t 26] [true,false]),iM 4 27]
 (sO [iF 28 0 3,iL 29 28]
 (.block 1 (.seq (sO [iE 48 .eql 29 2,iM 47 48]
 (.cond (.t 47) (.skip)
 (.ops [iE 49 .eql 29 3,iM 47 49])))
 (.cond (.t 47) (.ops [iM 50 0,iF 51 1 3,iL 52 51,iM 53 4,iO 54 (.ixa 1 (.t 53) (kI 0)),iL 55 54,iO 56 (.callb fU [.t 50,.t 52,.t 55] [true,false,false])])
 (sO [iE 58 .eql 29 8,iM 57 58]
 (.cond (.t 57) (.ops [iM 59 0,iF 60 1 3,iL 61 60,iM 62 4,iO 63 (.build [zI,zI,zI,zI,zI,zS,.s 1 []] [(0,1,.c (.int .i64 14)),(5,1,.t 61),(6,1,.t 62)]),iO 64 (.callb aZ [.t 59,.t 63] [true,true])])
 (sO [iE 66 .eql 29 10,iM 65 66]
 (.cond (.t 65) (sO [iM 67 0,iM 68 4,iO 69 (.ixa 1 (.t 68) (kI 0)),iL 70 69,iO 71 (.build [zI,zI,zI,zI,zI,zS,.s 1 []] [(0,1,.c (.int .i64 17)),(2,1,.t 70)]),iO 72 (.callb bN [.t 67,.t 71] [true,true]),iM 5 72]
 (.ops [iM 73 0,iF 74 1 3,iL 75 74,iM 76 5,iO 77 (.callb fU [.t 73,.t 75,.t 76] [true,false,false])]))
 (sO [iE 79 .eql 29 18,iM 78 79]
 (.cond (.t 78) (.skip)
 (.seq (.opsd [⟨iF 30 0 3,0,[]⟩,⟨iL 31 30,1,[]⟩,⟨iO 32 (.callr t6 [.t 31]),2,[]⟩,⟨iM 33 4,3,[]⟩,⟨iO 34 (.ixa 1 (.t 33) (kI 0)),4,[]⟩,⟨iL 35 34,5,[]⟩,⟨iO 36 (.build [zI,zI,zI,zI,zI,zS,.s 1 []] [(0,1,.t 32),(2,1,.t 35)]),6,[]⟩,⟨iO 6 (.alloc [zI,zI,zI,zI,zI,zS,.s 1 []]),7,[iF 30 0 3,iL 31 30,iO 32 (.callr t6 [.t 31]),iM 33 4,iO 34 (.ixa 1 (.t 33) (kI 0)),iL 35 34,iO 36 (.build [zI,zI,zI,zI,zI,zS,.s 1 []] [(0,1,.t 32),(2,1,.t 35)])]⟩,⟨iN (.store 7 (.t 6) (.t 36)),8,[]⟩])
 (.seq (sO [iM 37 4,iO 38 (.len (.t 37)),iE 39 .eql 38 2]
 (.cond (.t 39) (.ops [iM 40 4,iO 41 (.ixa 1 (.t 40) (kI 1)),iL 42 41,iF 43 3 6,iN (.store 1 (.t 43) (.t 42))])
 (.skip)))
 (.ops [iM 44 0,iK 45 7 6,iO 46 (.callb aZ [.t 44,.t 45] [true,true])])))))))))))))))
def nQ:SFn:=⟨2,80,fW,[]⟩
def uQ:SCode :=
 sO [iO 2 (.mov (kI 0))]
 (sO [iM 3 0,iO 4 (.nck (.t 3)),iF 5 2 4,iL 6 5,iO 7 (.ari .add (.t 6) (kI 1)),iO 8 (.nck (.t 3)),iF 9 2 8,iN (.store 1 (.t 9) (.t 7))]
 (sO [iM 10 0,iO 11 (.nck (.t 10)),iF 12 2 11,iL 13 12,iO 14 (.ari .sub (.t 13) (kI 1)),iM 2 14]
 (.ret)))
def oO:SFn:=⟨1,15,uQ,[.t 2]⟩
def Or:SCode :=
 sO [iO 2 (.mov (.c (.string ⟨#[]⟩)))]
 (.seq (sO [iM 3 0]
 (.block 0 (sO [iE 5 .eql 3 1,iM 4 5]
 (.cond (.t 4) (sO [iO 2 (.mov (.c (.string ⟨#[68,78]⟩)))]
 (.ret))
 (.seq (sO [iE 7 .eql 3 2,iM 6 7]
 (.cond (.t 6) (.skip)
 (sO [iE 8 .eql 3 15,iM 6 8]
 (.cond (.t 6) (.skip)
 (sO [iE 9 .eql 3 17,iM 6 9]
 (.cond (.t 6) (.skip)
 (.ops [iE 10 .eql 3 20,iM 6 10])))))))
 (.cond (.t 6) (sO [iO 2 (.mov (.c (.string ⟨#[68,65]⟩)))]
 (.ret))
 (.seq (sO [iE 12 .eql 3 3,iM 11 12]
 (.cond (.t 11) (.skip)
 (sO [iE 13 .eql 3 4,iM 11 13]
 (.cond (.t 11) (.skip)
 (sO [iE 14 .eql 3 5,iM 11 14]
 (.cond (.t 11) (.skip)
 (sO [iE 15 .eql 3 6,iM 11 15]
 (.cond (.t 11) (.skip)
 (.ops [iE 16 .eql 3 7,iM 11 16])))))))))
 (.cond (.t 11) (sO [iO 2 (.mov (.c (.string ⟨#[68,65,66]⟩)))]
 (.ret))
 (.seq (sO [iE 18 .eql 3 8,iM 17 18]
 (.cond (.t 17) (.skip)
 (.ops [iE 19 .eql 3 9,iM 17 19])))
 (.cond (.t 17) (sO [iO 2 (.mov (.c (.string ⟨#[78]⟩)))]
 (.ret))
 (sO [iE 21 .eql 3 10,iM 20 21]
 (.cond (.t 20) (sO [iO 2 (.mov (.c (.string ⟨#[65,78]⟩)))]
 (.ret))
 (sO [iE 23 .eql 3 11,iM 22 23]
 (.cond (.t 22) (sO [iO 2 (.mov (.c (.string ⟨#[68,83,88]⟩)))]
 (.ret))
 (.seq (sO [iE 25 .eql 3 12,iM 24 25]
 (.cond (.t 24) (.skip)
 (sO [iE 26 .eql 3 13,iM 24 26]
 (.cond (.t 24) (.skip)
 (sO [iE 27 .eql 3 18,iM 24 27]
 (.cond (.t 24) (.skip)
 (sO [iE 28 .eql 3 25,iM 24 28]
 (.cond (.t 24) (.skip)
 (.ops [iE 29 .eql 3 28,iM 24 29])))))))))
 (.cond (.t 24) (sO [iO 2 (.mov (.c (.string ⟨#[65]⟩)))]
 (.ret))
 (sO [iE 31 .eql 3 14,iM 30 31]
 (.cond (.t 30) (sO [iO 2 (.mov (.c (.string ⟨#[83,88]⟩)))]
 (.ret))
 (.seq (sO [iE 33 .eql 3 16,iM 32 33]
 (.cond (.t 32) (.skip)
 (sO [iE 34 .eql 3 21,iM 32 34]
 (.cond (.t 32) (.skip)
 (sO [iE 35 .eql 3 26,iM 32 35]
 (.cond (.t 32) (.skip)
 (.ops [iE 36 .eql 3 27,iM 32 36])))))))
 (.cond (.t 32) (sO [iO 2 (.mov (.c (.string ⟨#[65,66]⟩)))]
 (.ret))
 (sO [iE 38 .eql 3 19,iM 37 38]
 (.cond (.t 37) (sO [iO 2 (.mov (.c (.string ⟨#[68,66,78,88]⟩)))]
 (.ret))
 (sO [iE 40 .eql 3 22,iM 39 40]
 (.cond (.t 39) (sO [iO 2 (.mov (.c (.string ⟨#[68,65,66,88]⟩)))]
 (.ret))
 (sO [iE 42 .eql 3 23,iM 41 42]
 (.cond (.t 41) (sO [iO 2 (.mov (.c (.string ⟨#[68]⟩)))]
 (.ret))
 (sO [iE 44 .eql 3 24,iM 43 44]
 (.cond (.t 43) (sO [iO 2 (.mov (.c (.string ⟨#[68,83]⟩)))]
 (.ret))
 (.skip)))))))))))))))))))))))))))))
 (sO [iO 2 (.mov (.c (.string ⟨#[]⟩)))]
 (.ret)))
def E3:SFn:=⟨1,45,Or,[.t 2]⟩
def oB:SCode :=
 .seq (sO [iM 10 5,iO 11 (.ari .add (.t 10) (kI 2)),iF 12 6 2,iL 13 12,iO 14 (.len (.t 13)),iV 15 .lss 11 14]
 (.cond (.t 15) (.skip)
 (.seq (.keep [2]) (.exit 1))))
 (.seq (.block 2 (sO [iF 18 6 2,iL 19 18,iM 20 5,iO 21 (.ixa 1 (.t 19) (.t 20)),iL 22 21,iO 23 (.callr cM [.t 22,.c (.int .i64 1),.c (.int .i64 2)]),iO 24 (.not (.t 23)),iM 25 24,iU 26 25 (.faddr 6 (.t 2)),iU 27 25 (.load none (.t 26)),iU 28 25 (.mov (.t 5)),iU 29 25 (.ixa 1 (.t 27) (.t 28)),iU 30 25 (.load none (.t 29)),iU 31 25 (.cmp .eql (.t 30) (kI 1)),iU 32 25 (.mov (.t 31)),iT 33 32 (.faddr 6 (.t 2)),iT 34 32 (.load none (.t 33)),iT 35 32 (.mov (.t 5)),iT 36 32 (.ari .add (.t 35) (kI 2)),iT 37 32 (.ixa 1 (.t 34) (.t 36)),iT 38 32 (.load none (.t 37)),iT 39 32 (.cmp .neq (.t 38) (kI 0)),iU 40 25 (.pick (.t 32) (.t 39) (kB false)),iO 41 (.pick (.t 25) (kB true) (.t 40))]
 (.cond (.t 41) (sO [iO 4 (.mov (kB false))]
 (.seq (.keep [4]) .ret))
 (.skip))))
 (.ops [iM 16 5,iO 17 (.ari .add (.t 16) (kI 3)),iM 5 17]))
def H5:SCode :=
 sO [iO 2 (.vbox 7 (.t 0)),iO 4 (.mov (kB false))]
 (.seq (.block 0 (sO [iF 7 0 2,iL 8 7,iE 9 .eql 8 19,iM 6 9]
 (.cond (.t 6) (.seq (sO [iO 5 (.mov (kI 0))]
 (.block 1 (.loop [2,5] oB)))
 (sO [iF 42 6 2,iL 43 42,iO 44 (.len (.t 43)),iO 45 (.ari .rem (.t 44) (kI 3)),iE 46 .eql 45 0,iM 47 46,iT 48 47 (.faddr 6 (.t 2)),iT 49 47 (.load none (.t 48)),iT 50 47 (.len (.t 49)),iT 51 47 (.callr cM [.t 50,.c (.int .i64 3),.c (.int .i64 9)]),iO 52 (.pick (.t 47) (.t 51) (kB false)),iM 53 52,iT 54 53 (.faddr 4 (.t 2)),iT 55 53 (.load none (.t 54)),iT 56 53 (.callr cM [.t 55,.c (.int .i64 0),.c (.int .i64 1)]),iO 57 (.pick (.t 53) (.t 56) (kB false)),iM 4 57]
 (.ret)))
 (sO [iF 59 0 2,iL 60 59,iE 61 .eql 60 22,iM 58 61]
 (.cond (.t 58) (sO [iF 62 6 2,iL 63 62,iO 64 (.len (.t 63)),iE 65 .eql 64 1,iM 4 65]
 (.ret))
 (sO [iF 67 0 2,iL 68 67,iO 69 (.callr eX [.t 68,.c (.int .u8 88)]),iO 70 (.not (.t 69)),iM 66 70]
 (.cond (.t 66) (sO [iF 71 6 2,iL 72 71,iO 73 (.len (.t 72)),iE 74 .eql 73 0,iM 4 74]
 (.ret))
 (.skip))))))))
 (sO [iF 75 6 2,iL 76 75,iO 77 (.len (.t 76)),iE 78 .leq 77 4,iM 4 78]
 (.ret)))
def x8:SFn:=⟨2,79,H5,[.t 4]⟩
def Ow:SCode :=
 sO [iO 1 (.vbox 7 (.t 0)),iO 2 (.mov (.n 1))]
 (.seq (.block 0 (sO [iF 4 0 1,iL 5 4,iE 6 .eql 5 19,iM 3 6]
 (.cond (.t 3) (sO [iF 7 1 1,iL 8 7,iF 9 3 1,iL 10 9,iO 11 (.lit 1 [.t 8,.t 10]),iM 2 11]
 (.ret))
 (sO [iF 13 0 1,iL 14 13,iO 15 (.callr eX [.t 14,.c (.int .u8 68)]),iM 12 15]
 (.cond (.t 12) (sO [iF 16 1 1,iL 17 16,iO 18 (.lit 1 [.t 17]),iM 2 18]
 (.ret))
 (.skip))))))
 (sO [iO 2 (.mov (.n 1))]
 (.ret)))
def F9:SFn:=⟨1,19,Ow,[.t 2]⟩
def q6:SCode :=
 sO [iV 14 .lss 13 12]
 (.seq (.cond (.t 14) (.skip)
 (.seq (.keep [3]) (.exit 0)))
 (.seq (.block 1 (sO [iM 15 13,iO 16 (.ixa 1 (.t 11) (.t 13)),iL 17 16,iM 4 15,iM 5 17]
 (sO [iM 18 4,iO 19 (.ari .rem (.t 18) (kI 3)),iE 20 .eql 19 1,iM 21 20,iU 22 21 (.mov (.t 4)),iU 23 21 (.ari .rem (.t 22) (kI 3)),iU 24 21 (.cmp .eql (.t 23) (kI 2)),iU 25 21 (.mov (.t 24)),iT 26 25 (.faddr 6 (.t 1)),iT 27 25 (.load none (.t 26)),iT 28 25 (.mov (.t 4)),iT 29 25 (.ari .sub (.t 28) (kI 2)),iT 30 25 (.ixa 1 (.t 27) (.t 29)),iT 31 25 (.load none (.t 30)),iT 32 25 (.cmp .eql (.t 31) (kI 2)),iU 33 21 (.pick (.t 25) (.t 32) (kB false)),iO 34 (.pick (.t 21) (kB true) (.t 33))]
 (.cond (.t 34) (.ops [iM 35 3,iM 36 5,iO 37 (.lit 1 [.t 36]),iO 38 (.app 1 8 (.t 35) (.t 37)),iM 3 38])
 (.skip)))))
 (.ops [iO 39 (.ari .add (.t 13) (kI 1)),iM 13 39])))
def Oo:SCode :=
 sO [iO 1 (.vbox 7 (.t 0)),iO 2 (.mov (.n 1))]
 (sO [iO 6 (.lit 1 []),iM 3 6]
 (.seq (sO [iF 7 0 1,iL 8 7,iE 9 .eql 8 19]
 (.cond (.t 9) (.seq (sO [iF 10 6 1,iL 11 10,iO 12 (.len (.t 11)),iO 13 (.mov (kI 0))]
 (.block 0 (.loop [1,3,11,12,13] q6)))
 (sO [iM 40 3,iM 2 40]
 (.ret)))
 (.skip)))
 (.seq (sO [iF 41 0 1,iL 42 41,iO 43 (.callr eX [.t 42,.c (.int .u8 65)])]
 (.cond (.t 43) (.ops [iM 44 3,iF 45 2 1,iL 46 45,iO 47 (.lit 1 [.t 46]),iO 48 (.app 1 8 (.t 44) (.t 47)),iM 3 48])
 (.skip)))
 (.seq (sO [iF 49 0 1,iL 50 49,iO 51 (.callr eX [.t 50,.c (.int .u8 66)])]
 (.cond (.t 51) (.ops [iM 52 3,iF 53 3 1,iL 54 53,iO 55 (.lit 1 [.t 54]),iO 56 (.app 1 8 (.t 52) (.t 55)),iM 3 56])
 (.skip)))
 (.seq (sO [iF 57 0 1,iL 58 57,iO 59 (.callr eX [.t 58,.c (.int .u8 88)])]
 (.cond (.t 59) (.ops [iM 60 3,iF 61 6 1,iL 62 61,iO 63 (.app 1 8 (.t 60) (.t 62)),iM 3 63])
 (.skip)))
 (sO [iM 64 3,iM 2 64]
 (.ret)))))))
def Fd:SFn:=⟨1,65,Oo,[.t 2]⟩
def Gg:SCode :=
 sO [iO 3 (.mov (kB false))]
 (sO [iM 4 0,iL 5 1,iO 6 (.ari .sub (.t 5) (kI 1)),iO 7 (.callr cM [.t 4,.c (.int .i64 0),.t 6]),iO 8 (.not (.t 7)),iM 3 8]
 (.ret))
def vN:SFn:=⟨2,9,Gg,[.t 3]⟩
def zM:SCode :=
 sO [iO 2 (.vbox 7 (.t 0)),iO 3 (.mov (kB false))]
 (sO [iF 4 0 2,iL 5 4,iE 6 .eql 5 8,iM 7 6,iT 8 7 (.faddr 4 (.t 2)),iT 9 7 (.load none (.t 8)),iT 10 7 (.load none (.t 1)),iT 11 7 (.cmp .eql (.t 9) (.t 10)),iO 12 (.pick (.t 7) (.t 11) (kB false)),iM 3 12]
 (.ret))
def qP:SFn:=⟨2,13,zM,[.t 3]⟩
def Km:SCode :=
 sO [iO 2 (.vbox 7 (.t 0)),iO 3 (.vbox 7 (.t 1)),iO 4 (.mov (kB false))]
 (.seq (sO [iF 5 0 2,iL 6 5,iF 7 0 3,iL 8 7,iV 9 .neq 6 8]
 (.cond (.t 9) (sO [iO 4 (.mov (kB false))]
 (.ret))
 (.skip)))
 (.seq (sO [iF 10 1 2,iL 11 10,iF 12 1 3,iL 13 12,iV 14 .neq 11 13]
 (.cond (.t 14) (sO [iO 4 (.mov (kB false))]
 (.ret))
 (.skip)))
 (.seq (sO [iF 15 2 2,iL 16 15,iF 17 2 3,iL 18 17,iV 19 .neq 16 18]
 (.cond (.t 19) (sO [iO 4 (.mov (kB false))]
 (.ret))
 (.skip)))
 (.seq (sO [iF 20 3 2,iL 21 20,iF 22 3 3,iL 23 22,iV 24 .neq 21 23]
 (.cond (.t 24) (sO [iO 4 (.mov (kB false))]
 (.ret))
 (.skip)))
 (.seq (sO [iF 25 4 2,iL 26 25,iF 27 4 3,iL 28 27,iV 29 .neq 26 28]
 (.cond (.t 29) (sO [iO 4 (.mov (kB false))]
 (.ret))
 (.skip)))
 (.seq (sO [iF 30 5 2,iL 31 30,iF 32 5 3,iL 33 32,iV 34 .neq 31 33]
 (.cond (.t 34) (sO [iO 4 (.mov (kB false))]
 (.ret))
 (.skip)))
 (.seq (sO [iF 35 6 2,iL 36 35,iF 37 6 3,iL 38 37,iO 39 (.callr Ew [.t 36,.t 38]),iO 40 (.not (.t 39))]
 (.cond (.t 40) (sO [iO 4 (.mov (kB false))]
 (.ret))
 (.skip)))
 (sO [iO 4 (.mov (kB true))]
 (.ret)))))))))
def B9:SFn:=⟨2,41,Km,[.t 4]⟩
def Ll:SCode :=
 sO [iO 4 (.mov (kI 0))]
 (.seq (sO [iM 5 0,iM 6 1,iV 7 .gtr 5 6]
 (.cond (.t 7) (sO [iM 8 0,iM 4 8]
 (.ret))
 (.skip)))
 (sO [iM 9 1,iM 4 9]
 (.ret)))
def Ck:SFn:=⟨2,10,Ll,[.t 4]⟩
def lM:SCode :=
 sO [iO 4 (.mov (kB false))]
 (sO [iM 5 0,iM 6 1,iO 7 (.callr j9 [.t 5,.t 6]),iE 8 .geq 7 0,iM 4 8]
 (.ret))
def gG:SFn:=⟨2,9,lM,[.t 4]⟩
def Dv:SCode :=
 sO [iO 2 (.mov (kB false))]
 (sO [iM 3 0,iO 4 (.cmp .geq (.t 3) (.c (.int .u8 97))),iM 5 4,iT 6 5 (.mov (.t 0)),iT 7 5 (.cmp .leq (.t 6) (.c (.int .u8 122))),iO 8 (.pick (.t 5) (.t 7) (kB false)),iM 9 8,iU 10 9 (.mov (.t 0)),iU 11 9 (.cmp .geq (.t 10) (.c (.int .u8 65))),iU 12 9 (.mov (.t 11)),iT 13 12 (.mov (.t 0)),iT 14 12 (.cmp .leq (.t 13) (.c (.int .u8 90))),iU 15 9 (.pick (.t 12) (.t 14) (kB false)),iO 16 (.pick (.t 9) (kB true) (.t 15)),iM 2 16]
 (.ret))
def sG:SFn:=⟨1,17,Dv,[.t 2]⟩
def mP:SCode :=
 .seq (sO [iM 6 4,iM 7 3,iO 8 (.len (.t 7)),iV 9 .lss 6 8]
 (.cond (.t 9) (.skip)
 (.seq (.keep []) (.exit 0))))
 (.seq (.block 1 (sO [iM 12 3,iM 13 4,iO 14 (.ixa 1 (.t 12) (.t 13)),iL 15 14,iM 16 0,iV 17 .eql 15 16]
 (.cond (.t 17) (sO [iO 2 (.mov (kB true))]
 (.seq (.keep [2]) .ret))
 (.skip))))
 (.ops [iM 10 4,iO 11 (.ari .add (.t 10) (kI 1)),iM 4 11]))
def Fg:SCode :=
 sO [iO 2 (.mov (kB false))]
 (sO [iO 5 (.lit 1 [.c (.string ⟨#[102,117,110,99]⟩),.c (.string ⟨#[108,101,116]⟩),.c (.string ⟨#[105,102]⟩),.c (.string ⟨#[101,108,115,101]⟩),.c (.string ⟨#[119,104,105,108,101]⟩),.c (.string ⟨#[112,114,105,110,116]⟩),.c (.string ⟨#[114,101,116,117,114,110]⟩),.c (.string ⟨#[103,111]⟩),.c (.string ⟨#[115,101,110,100]⟩),.c (.string ⟨#[114,101,99,118]⟩),.c (.string ⟨#[99,108,111,115,101]⟩),.c (.string ⟨#[115,101,108,101,99,116]⟩),.c (.string ⟨#[99,97,115,101]⟩),.c (.string ⟨#[100,101,102,97,117,108,116]⟩),.c (.string ⟨#[109,97,107,101]⟩),.c (.string ⟨#[99,104,97,110]⟩),.c (.string ⟨#[112,111,107,101]⟩),.c (.string ⟨#[110,111,116,101]⟩),.c (.string ⟨#[115,119,97,112]⟩),.c (.string ⟨#[104,97,108,116]⟩),.c (.string ⟨#[111,117,116]⟩),.c (.string ⟨#[112,101,101,107]⟩),.c (.string ⟨#[99,97,115]⟩),.c (.string ⟨#[99,111,114,101]⟩),.c (.string ⟨#[97,100,100,114]⟩)]),iM 3 5]
 (.seq (sO [iO 4 (.mov (kI 0))]
 (.block 0 (.loop [0,3,4] mP)))
 (sO [iO 2 (.mov (kB false))]
 (.ret))))
def uH:SFn:=⟨1,18,Fg,[.t 2]⟩
def aX:SCode :=
 sO [iO 1 (.vbox 4 (.t 0)),iO 2 (.mov (kB false))]
 (sO [iF 4 3 1,iL 5 4,iO 6 (.len (.t 5)),iM 3 6]
 (.seq (sO [iF 7 0 1,iL 8 7]
 (.block 0 (sO [iE 10 .eql 8 1,iM 9 10]
 (.cond (.t 9) (sO [iK 11 4 1,iO 12 (.callr Bi [.t 11]),iM 2 12]
 (.ret))
 (.seq (sO [iE 14 .eql 8 2,iM 13 14]
 (.cond (.t 13) (.skip)
 (sO [iE 15 .eql 8 3,iM 13 15]
 (.cond (.t 13) (.skip)
 (sO [iE 16 .eql 8 6,iM 13 16]
 (.cond (.t 13) (.skip)
 (sO [iE 17 .eql 8 7,iM 13 17]
 (.cond (.t 13) (.skip)
 (sO [iE 18 .eql 8 10,iM 13 18]
 (.cond (.t 13) (.skip)
 (sO [iE 19 .eql 8 11,iM 13 19]
 (.cond (.t 13) (.skip)
 (sO [iE 20 .eql 8 16,iM 13 20]
 (.cond (.t 13) (.skip)
 (sO [iE 21 .eql 8 17,iM 13 21]
 (.cond (.t 13) (.skip)
 (sO [iE 22 .eql 8 18,iM 13 22]
 (.cond (.t 13) (.skip)
 (sO [iE 23 .eql 8 27,iM 13 23]
 (.cond (.t 13) (.skip)
 (.ops [iE 24 .eql 8 28,iM 13 24])))))))))))))))))))))
 (.cond (.t 13) (sO [iM 25 3,iE 26 .eql 25 1,iM 27 26,iT 28 27 (.load (some 4) (.t 1)),iT 29 27 (.callr gH [.t 28,.c (.int .i64 1)]),iO 30 (.pick (.t 27) (.t 29) (kB false)),iM 2 30]
 (.ret))
 (.seq (sO [iE 32 .eql 8 9,iM 31 32]
 (.cond (.t 31) (.skip)
 (sO [iE 33 .eql 8 13,iM 31 33]
 (.cond (.t 31) (.skip)
 (sO [iE 34 .eql 8 14,iM 31 34]
 (.cond (.t 31) (.skip)
 (sO [iE 35 .eql 8 15,iM 31 35]
 (.cond (.t 31) (.skip)
 (sO [iE 36 .eql 8 21,iM 31 36]
 (.cond (.t 31) (.skip)
 (sO [iE 37 .eql 8 22,iM 31 37]
 (.cond (.t 31) (.skip)
 (sO [iE 38 .eql 8 23,iM 31 38]
 (.cond (.t 31) (.skip)
 (sO [iE 39 .eql 8 24,iM 31 39]
 (.cond (.t 31) (.skip)
 (.ops [iE 40 .eql 8 25,iM 31 40])))))))))))))))))
 (.cond (.t 31) (sO [iM 41 3,iE 42 .eql 41 2,iM 43 42,iT 44 43 (.load (some 4) (.t 1)),iT 45 43 (.callr gH [.t 44,.c (.int .i64 2)]),iO 46 (.pick (.t 43) (.t 45) (kB false)),iM 2 46]
 (.ret))
 (sO [iE 48 .eql 8 4,iM 47 48]
 (.cond (.t 47) (sO [iM 49 3,iO 50 (.callr cH [.t 49,.c (.int .i64 2),.c (.int .i64 3)]),iM 51 50,iT 52 51 (.load (some 4) (.t 1)),iT 53 51 (.callr gH [.t 52,.c (.int .i64 1)]),iO 54 (.pick (.t 51) (.t 53) (kB false)),iM 55 54,iT 56 55 (.load (some 4) (.t 1)),iT 57 55 (.callr kW [.t 56,.c (.int .i64 1)]),iO 58 (.pick (.t 55) (.t 57) (kB false)),iM 2 58]
 (.ret))
 (.seq (sO [iE 60 .eql 8 5,iM 59 60]
 (.cond (.t 59) (.skip)
 (.ops [iE 61 .eql 8 32,iM 59 61])))
 (.cond (.t 59) (sO [iM 62 3,iE 63 .eql 62 2,iM 64 63,iT 65 64 (.load (some 4) (.t 1)),iT 66 64 (.callr gH [.t 65,.c (.int .i64 1)]),iO 67 (.pick (.t 64) (.t 66) (kB false)),iM 68 67,iT 69 68 (.load (some 4) (.t 1)),iT 70 68 (.callr kW [.t 69,.c (.int .i64 1)]),iO 71 (.pick (.t 68) (.t 70) (kB false)),iM 2 71]
 (.ret))
 (sO [iE 73 .eql 8 33,iM 72 73]
 (.cond (.t 72) (sO [iM 74 3,iE 75 .eql 74 3,iM 76 75,iT 77 76 (.load (some 4) (.t 1)),iT 78 76 (.callr gH [.t 77,.c (.int .i64 2)]),iO 79 (.pick (.t 76) (.t 78) (kB false)),iM 80 79,iT 81 80 (.load (some 4) (.t 1)),iT 82 80 (.callr kW [.t 81,.c (.int .i64 2)]),iO 83 (.pick (.t 80) (.t 82) (kB false)),iM 2 83]
 (.ret))
 (sO [iE 85 .eql 8 34,iM 84 85]
 (.cond (.t 84) (sO [iM 86 3,iE 87 .eql 86 1,iM 88 87,iT 89 88 (.load (some 4) (.t 1)),iT 90 88 (.callr kW [.t 89,.c (.int .i64 0)]),iO 91 (.pick (.t 88) (.t 90) (kB false)),iM 2 91]
 (.ret))
 (.seq (sO [iE 93 .eql 8 8,iM 92 93]
 (.cond (.t 92) (.skip)
 (.ops [iE 94 .eql 8 26,iM 92 94])))
 (.cond (.t 92) (sO [iK 95 4 1,iM 96 3,iO 97 (.callr gH [.t 95,.t 96]),iM 2 97]
 (.ret))
 (sO [iE 99 .eql 8 29,iM 98 99]
 (.cond (.t 98) (sO [iM 100 3,iE 101 .eql 100 3,iM 102 101,iT 103 102 (.load (some 4) (.t 1)),iT 104 102 (.callr gH [.t 103,.c (.int .i64 3)]),iO 105 (.pick (.t 102) (.t 104) (kB false)),iM 2 105]
 (.ret))
 (sO [iE 107 .eql 8 12,iM 106 107]
 (.cond (.t 106) (sO [iK 108 4 1,iO 109 (.callr B2 [.t 108]),iM 2 109]
 (.ret))
 (.skip)))))))))))))))))))))))
 (sO [iM 110 3,iE 111 .eql 110 0,iM 2 111]
 (.ret))))
def yS:SFn:=⟨1,112,aX,[.t 2]⟩
def n6:SCode :=
 .seq (sO [iM 6 5,iM 7 0,iO 8 (.len (.t 7)),iV 9 .lss 6 8]
 (.cond (.t 9) (.skip)
 (.seq (.keep []) (.exit 0))))
 (.seq (.block 1 (sO [iM 12 0,iM 13 5,iO 14 (.ixa 2 (.t 12) (.t 13)),iF 15 0 14,iL 16 15,iM 17 1,iV 18 .eql 16 17]
 (.cond (.t 18) (sO [iM 19 5,iM 4 19]
 (.seq (.keep [4]) .ret))
 (.skip))))
 (.ops [iM 10 5,iO 11 (.ari .add (.t 10) (kI 1)),iM 5 11]))
def I9:SCode :=
 sO [iO 4 (.mov (kI 0))]
 (.seq (sO [iO 5 (.mov (kI 0))]
 (.block 0 (.loop [0,1,5] n6)))
 (sO [iO 4 (.mov (kI (-1)))]
 (.ret)))
def zC:SFn:=⟨2,20,I9,[.t 4]⟩
def Ij:SCode :=
 sO [iO 2 (.vbox 4 (.t 0)),iO 4 (.mov (kB false))]
 (.seq (sO [iF 6 0 2,iL 7 6,iE 8 .eql 7 27]
 (.cond (.t 8) (sO [iO 4 (.mov (kB true))]
 (.ret))
 (.skip)))
 (sO [iM 9 1,iF 10 1 2,iL 11 10,iO 12 (.callr iI [.t 9,.t 11]),iM 5 12]
 (sO [iF 13 0 2,iL 14 13,iE 15 .eql 14 20,iM 16 15,iT 17 16 (.mov (.t 5)),iT 18 16 (.cmp .geq (.t 17) (kI 0)),iO 19 (.pick (.t 16) (.t 18) (kB false)),iM 20 19,iT 21 20 (.mov (.t 1)),iT 22 20 (.mov (.t 5)),iT 23 20 (.ixa 2 (.t 21) (.t 22)),iT 24 20 (.faddr 1 (.t 23)),iT 25 20 (.load none (.t 24)),iO 26 (.pick (.t 20) (.t 25) (kB false)),iM 4 26]
 (.ret))))
def y4:SFn:=⟨2,27,Ij,[.t 4]⟩
def I3:SCode :=
 sO [iO 4 (.vbox 4 (.t 1))]
 (sO [iK 6 4 4,iM 7 0,iO 8 (.nck (.t 7)),iF 9 2 8,iL 10 9,iO 11 (.callr oX [.t 6,.t 10]),iM 12 2,iO 13 (.cmpb .neq (.t 11) (.t 12))]
 (.cond (.t 13) (.ops [iM 14 0,iO 15 (.nck (.t 14)),iF 16 4 15,iN (.store 1 (.t 16) (kB true))])
 (.skip)))
def y7:SFn:=⟨3,17,I3,[]⟩
end Go.Ev.G
