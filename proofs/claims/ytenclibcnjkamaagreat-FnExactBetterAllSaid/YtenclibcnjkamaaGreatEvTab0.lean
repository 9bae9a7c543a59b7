import Derived.Test.YtenclibcnjkamaaGreatEvAlt
set_option linter.all false
namespace Go.Ev.G
abbrev iX:Nat:=5
abbrev wS:Nat:=8
abbrev j6:Nat:=10
abbrev kA:Nat:=12
abbrev Ai:Nat:=13
abbrev Ab:Nat:=14
abbrev zC:Nat:=15
abbrev Bg:Nat:=16
abbrev Ao:Nat:=17
abbrev qA:Nat:=20
abbrev mU:Nat:=21
abbrev mT:Nat:=22
abbrev mX:Nat:=23
abbrev pT:Nat:=31
abbrev sA:Nat:=34
abbrev Aj:Nat:=36
abbrev fC:Nat:=37
abbrev xJ:Nat:=38
abbrev Cn:Nat:=39
abbrev pV:Nat:=40
abbrev Cb:Nat:=41
abbrev zM:Nat:=42
abbrev eF:Nat:=43
abbrev vX:Nat:=44
abbrev Cm:Nat:=45
abbrev pL:Nat:=46
abbrev B7:Nat:=47
abbrev Ac:Nat:=48
abbrev sQ:Nat:=49
abbrev uD:Nat:=50
abbrev sY:Nat:=51
abbrev xL:Nat:=52
abbrev wW:Nat:=53
abbrev q6:Nat:=54
abbrev iS:Nat:=55
abbrev jP:Nat:=56
abbrev jF:Nat:=60
abbrev bI:Nat:=61
abbrev cM:Nat:=68
abbrev nZ:Nat:=69
abbrev D3:Nat:=71
abbrev xC:Nat:=72
abbrev mO:Nat:=73
abbrev xS:Nat:=74
abbrev zK:Nat:=75
abbrev v7:Nat:=76
abbrev pN:Nat:=77
abbrev nX:Nat:=78
abbrev mE:Nat:=79
abbrev nT:Nat:=80
abbrev rU:Nat:=81
abbrev D9:Nat:=82
abbrev wD:Nat:=83
abbrev rK:Nat:=84
abbrev oK:Nat:=85
abbrev Bs:Nat:=86
abbrev pX:Nat:=87
abbrev A0:Nat:=88
abbrev Bi:Nat:=89
abbrev gD:Nat:=90
abbrev vY:Nat:=91
abbrev nW:Nat:=92
abbrev l5:Nat:=93
abbrev zP:Nat:=94
abbrev mQ:Nat:=95
abbrev Ef:Nat:=96
abbrev sX:Nat:=97
abbrev tX:Nat:=98
abbrev cR:Nat:=99
abbrev dX:Nat:=100
abbrev Dy:Nat:=101
abbrev tQ:Nat:=102
abbrev iI:Nat:=103
abbrev cX:Nat:=115
abbrev Em:Nat:=116
abbrev jZ:Nat:=117
abbrev aZ:Nat:=118
abbrev By:Nat:=133
abbrev w6:Nat:=134
abbrev wM:Nat:=135
abbrev Dw:Nat:=136
abbrev l7:Nat:=137
abbrev p5:Nat:=138
abbrev lE:Nat:=139
abbrev zQ:Nat:=140
abbrev qX:Nat:=141
abbrev An:Nat:=142
abbrev oD:Nat:=143
abbrev mP:Nat:=144
abbrev hX:Nat:=145
abbrev fH:Nat:=146
abbrev wB:Nat:=147
abbrev Ba:Nat:=148
abbrev eV:Nat:=149
abbrev Ce:Nat:=150
abbrev xM:Nat:=151
abbrev wA:Nat:=152
abbrev sL:Nat:=153
abbrev Cd:Nat:=154
abbrev r7:Nat:=157
abbrev Ax:Nat:=158
abbrev eA:Nat:=159
abbrev B8:Nat:=160
abbrev gW:Nat:=161
abbrev mV:Nat:=162
abbrev kR:Nat:=165
abbrev gT:Nat:=166
abbrev rH:Nat:=170
abbrev xK:Nat:=171
abbrev Gt:Nat:=172
abbrev gN:Nat:=173
abbrev iA:Nat:=174
abbrev rJ:Nat:=175
abbrev gU:Nat:=176
abbrev fP:Nat:=177
def mA:SCode :=
 sO [iO 2 (.mov (kB false))]
 (sO [iO 3 (.mov (kI 1048576))]
 (sO [iM 11 0,iM 12 3,iO 13 (.callr wS [.t 11,.t 12]),iM 3 13]
 (.seq (sO [iM 14 3,iE 15 .lss 14 0]
 (.cond (.t 15) (sO [iO 2 (.mov (kB true))]
 (.ret))
 (.skip)))
 (sO [iM 16 0,iO 17 (.callr j6 [.t 16]),iO 18 (.callr qA [.t 17]),iM 4 18]
 (sO [iM 19 0,iO 20 (.call j6 [.t 19]),iM 5 20]
 (sO [iM 21 5,iO 22 (.call mU [.t 21]),iM 6 22]
 (.seq (sO [iM 23 6,iM 24 4,iO 25 (.callr kA [.t 23,.t 24]),iO 26 (.not (.t 25))]
 (.cond (.t 26) (sO [iO 2 (.mov (kB false))]
 (.ret))
 (.skip)))
 (.seq (sO [iM 27 5,iM 28 0,iO 29 (.callr j6 [.t 28]),iO 30 (.callr kA [.t 27,.t 29]),iO 31 (.not (.t 30))]
 (.cond (.t 31) (sO [iO 2 (.mov (kB false))]
 (.ret))
 (.skip)))
 (sO [iO 7 (.mov (kI 1))]
 (sO [iM 32 5,iM 33 7,iO 34 (.callb mT [.t 32,.t 33] [true,false]),iM 7 34]
 (.seq (sO [iM 35 7,iE 36 .lss 35 0,iM 37 36,iU 38 37 (.mov (.t 6)),iU 39 37 (.mov (.t 4)),iU 40 37 (.callr kA [.t 38,.t 39]),iU 41 37 (.not (.t 40)),iO 42 (.pick (.t 37) (kB true) (.t 41))]
 (.cond (.t 42) (sO [iO 2 (.mov (kB false))]
 (.ret))
 (.skip)))
 (sO [iO 8 (.mov (kI 1))]
 (sO [iM 43 6,iM 44 8,iO 45 (.callb mT [.t 43,.t 44] [true,false]),iM 8 45]
 (sO [iO 9 (.mov (kI 1))]
 (sO [iM 46 6,iM 47 9,iO 48 (.callr mX [.t 46,.t 47]),iM 9 48]
 (.seq (sO [iM 49 9,iE 50 .lss 49 0]
 (.cond (.t 50) (sO [iO 2 (.mov (kB false))]
 (.ret))
 (.skip)))
 (.seq (sO [iM 51 9,iM 52 8,iV 53 .neq 51 52]
 (.cond (.t 53) (sO [iO 2 (.mov (kB false))]
 (.ret))
 (.skip)))
 (sO [iM 54 0,iO 55 (.callr j6 [.t 54]),iO 56 (.callr mU [.t 55]),iM 10 56]
 (.seq (sO [iM 57 10,iM 58 4,iO 59 (.callr kA [.t 57,.t 58]),iO 60 (.not (.t 59))]
 (.cond (.t 60) (sO [iO 2 (.mov (kB false))]
 (.ret))
 (.skip)))
 (sO [iO 9 (.mov (kI 1))]
 (sO [iM 61 6,iM 62 9,iO 63 (.callr mX [.t 61,.t 62]),iM 9 63]
 (.seq (sO [iM 64 9,iE 65 .lss 64 0]
 (.cond (.t 65) (sO [iO 2 (.mov (kB false))]
 (.ret))
 (.skip)))
 (.seq (sO [iM 66 9,iM 67 8,iV 68 .neq 66 67]
 (.cond (.t 68) (sO [iO 2 (.mov (kB false))]
 (.ret))
 (.skip)))
 (sO [iO 2 (.mov (kB true))]
 (.ret)))))))))))))))))))))))))
def gE:SFn:=⟨1,69,mA,[.t 2]⟩
def j7:SCode :=
 .seq (sO [iM 12 5,iM 13 0,iO 14 (.len (.t 13)),iV 15 .lss 12 14]
 (.cond (.t 15) (.skip)
 (.seq (.keep [1]) (.exit 0))))
 (.seq (.block 1 (sO [iM 18 0,iM 19 5,iO 20 (.ixa 4 (.t 18) (.t 19)),iK 21 4 20,iM 22 1,iO 23 (.callr Ai [.t 21,.t 22]),iM 1 23]
 (sO [iM 24 1,iE 25 .lss 24 0]
 (.cond (.t 25) (sO [iO 4 (.mov (kI (-1)))]
 (.seq (.keep [4]) .ret))
 (.skip)))))
 (.ops [iM 16 5,iO 17 (.ari .add (.t 16) (kI 1)),iM 5 17]))
def A5:SCode :=
 sO [iO 4 (.mov (kI 0))]
 (sO [iM 6 1,iM 7 0,iO 8 (.len (.t 7)),iO 9 (.ari .sub (.t 6) (.t 8)),iM 1 9]
 (.seq (sO [iM 10 1,iE 11 .lss 10 0]
 (.cond (.t 11) (sO [iO 4 (.mov (kI (-1)))]
 (.ret))
 (.skip)))
 (.seq (sO [iO 5 (.mov (kI 0))]
 (.block 0 (.loop [0,1,5] j7)))
 (sO [iM 26 1,iM 4 26]
 (.ret)))))
def p4:SFn:=⟨2,27,A5,[.t 4]⟩
def j5:SCode :=
 .seq (sO [iM 8 4,iM 9 0,iO 10 (.len (.t 9)),iV 11 .lss 8 10]
 (.cond (.t 11) (.skip)
 (.seq (.keep [3]) (.exit 0))))
 (.seq (.block 1 (.ops [iM 14 3,iM 15 4,iM 16 0,iM 17 4,iO 18 (.ixa 4 (.t 16) (.t 17)),iK 19 4 18,iO 20 (.call zC [.t 19]),iO 21 (.ixa 4 (.t 14) (.t 15)),iN (.store 4 (.t 21) (.t 20))]))
 (.ops [iM 12 4,iO 13 (.ari .add (.t 12) (kI 1)),iM 4 13]))
def Bx:SCode :=
 sO [iO 2 (.mov (.n 4))]
 (sO [iM 5 0,iO 6 (.len (.t 5)),iO 7 (.mk 4 56 [zS,zI,zI,.s 7 []] (.t 6)),iM 3 7]
 (.seq (sO [iO 4 (.mov (kI 0))]
 (.block 0 (.loop [0,3,4] j5)))
 (sO [iM 22 3,iM 2 22]
 (.ret))))
def p7:SFn:=⟨1,23,Bx,[.t 2]⟩
def jX:SCode :=
 .seq (sO [iM 11 5,iM 12 0,iO 13 (.len (.t 12)),iV 14 .lss 11 13]
 (.cond (.t 14) (.skip)
 (.seq (.keep []) (.exit 0))))
 (.seq (.block 1 (sO [iM 17 0,iM 18 5,iO 19 (.ixa 4 (.t 17) (.t 18)),iK 20 4 19,iM 21 1,iM 22 5,iO 23 (.ixa 4 (.t 21) (.t 22)),iK 24 4 23,iO 25 (.callr Ao [.t 20,.t 24]),iO 26 (.not (.t 25))]
 (.cond (.t 26) (sO [iO 4 (.mov (kB false))]
 (.seq (.keep [4]) .ret))
 (.skip))))
 (.ops [iM 15 5,iO 16 (.ari .add (.t 15) (kI 1)),iM 5 16]))
def zN:SCode :=
 sO [iO 4 (.mov (kB false))]
 (.seq (sO [iM 6 0,iO 7 (.len (.t 6)),iM 8 1,iO 9 (.len (.t 8)),iV 10 .neq 7 9]
 (.cond (.t 10) (sO [iO 4 (.mov (kB false))]
 (.ret))
 (.skip)))
 (.seq (sO [iO 5 (.mov (kI 0))]
 (.block 0 (.loop [0,1,5] jX)))
 (sO [iO 4 (.mov (kB true))]
 (.ret))))
def qZ:SFn:=⟨2,27,zN,[.t 4]⟩
def Dp:SCode :=
 sO [iO 2 (.vbox 4 (.t 0)),iO 4 (.mov (kI 0))]
 (sO [iM 5 1,iF 6 0 2,iL 7 6,iO 8 (.slen (.t 7)),iO 9 (.ari .sub (.t 5) (.t 8)),iM 1 9]
 (.seq (sO [iM 10 1,iE 11 .lss 10 0]
 (.cond (.t 11) (sO [iO 4 (.mov (kI (-1)))]
 (.ret))
 (.skip)))
 (sO [iF 12 3 2,iL 13 12,iM 14 1,iO 15 (.callr Aj [.t 13,.t 14]),iM 1 15]
 (.seq (sO [iM 16 1,iE 17 .lss 16 0]
 (.cond (.t 17) (sO [iO 4 (.mov (kI (-1)))]
 (.ret))
 (.skip)))
 (sO [iM 18 1,iM 4 18]
 (.ret))))))
def s7:SFn:=⟨2,19,Dp,[.t 4]⟩
def dY:SCode :=
 .seq (sO [iM 7 4,iE 8 .lss 7 3]
 (.cond (.t 8) (.skip)
 (.seq (.keep [2,3]) (.exit 0))))
 (.seq (.block 1 (.alt (qEq 4 2) (.ops [iK 11 4 3,iO 12 (.callr Cb [.t 11]),iO 13 (.callr pV [.t 12]),iO 14 (.callr Cn [.t 13]),iO 15 (.call xJ [.t 14]),iN (.store 4 (.t 3) (.t 15))]) (.ops [iK 11 4 3,iO 12 (.callr Cb [.t 11]),iO 13 (.callr pV [.t 12]),iO 14 (.callr Cn [.t 13]),iO 15 (.callr xJ [.t 14]),iN (.store 4 (.t 3) (.t 15))])))
 (.ops [iM 9 4,iO 10 (.ari .add (.t 9) (kI 1)),iM 4 10]))
def Dk:SCode :=
 sO [iO 1 (.vbox 4 (.t 0)),iO 2 (.alloc [zS,zI,zI,.s 7 []])]
 (sO [iK 5 4 1,iO 6 (.callr fC [.t 5]),iO 3 (.alloc [zS,zI,zI,.s 7 []]),iN (.store 4 (.t 3) (.t 6))]
 (.seq (sO [iO 4 (.mov (kI 0))]
 (.block 0 (.loop [2,3,4] dY)))
 (sO [iK 16 4 3,iN (.store 4 (.t 2) (.t 16))]
 (.ret))))
def tE:SFn:=⟨1,17,Dk,[.c 2 (some 4)]⟩
def Df:SCode :=
 sO [iO 1 (.vbox 4 (.t 0)),iO 2 (.alloc [zS,zI,zI,.s 7 []])]
 (sO [iO 3 (.alloc [zS,zI,zI,.s 7 []])]
 (sO [iF 4 0 1,iL 5 4,iF 6 0 3,iN (.store 1 (.t 6) (.t 5))]
 (sO [iF 7 1 1,iL 8 7,iF 9 1 3,iN (.store 1 (.t 9) (.t 8))]
 (sO [iF 10 2 1,iL 11 10,iF 12 2 3,iN (.store 1 (.t 12) (.t 11))]
 (sO [iF 13 3 1,iL 14 13,iO 15 (.call zM [.t 14]),iF 16 3 3,iN (.store 1 (.t 16) (.t 15))]
 (sO [iK 17 4 3,iN (.store 4 (.t 2) (.t 17))]
 (.ret)))))))
def uB:SFn:=⟨1,18,Df,[.c 2 (some 4)]⟩
def d5:SCode :=
 sO [iE 7 .lss 6 3]
 (.seq (.cond (.t 7) (.skip)
 (.seq (.keep [2,3]) (.exit 0)))
 (.seq (.block 1 (.alt (qEq 6 2) (.ops [iK 8 4 3,iO 9 (.callr B7 [.t 8]),iO 10 (.callr pL [.t 9]),iO 11 (.callr Cm [.t 10]),iO 12 (.call vX [.t 11]),iN (.store 4 (.t 3) (.t 12))]) (.ops [iK 8 4 3,iO 9 (.callr B7 [.t 8]),iO 10 (.callr pL [.t 9]),iO 11 (.callr Cm [.t 10]),iO 12 (.callr vX [.t 11]),iN (.store 4 (.t 3) (.t 12))])))
 (.ops [iO 13 (.ari .add (.t 6) (kI 1)),iM 6 13])))
def Di:SCode :=
 sO [iO 1 (.vbox 4 (.t 0)),iO 2 (.alloc [zS,zI,zI,.s 7 []])]
 (sO [iK 4 4 1,iO 5 (.callr eF [.t 4]),iO 3 (.alloc [zS,zI,zI,.s 7 []]),iN (.store 4 (.t 3) (.t 5))]
 (.seq (sO [iO 6 (.mov (kI 0))]
 (.block 0 (.loop [2,3,6] d5)))
 (sO [iK 14 4 3,iN (.store 4 (.t 2) (.t 14))]
 (.ret))))
def tR:SFn:=⟨1,15,Di,[.c 2 (some 4)]⟩
def C8:SCode :=
 sO [iO 2 (.vbox 4 (.t 0)),iO 3 (.vbox 4 (.t 1)),iO 4 (.mov (kB false))]
 (.seq (sO [iF 5 0 2,iL 6 5,iF 7 0 3,iL 8 7,iV 9 .neq 6 8]
 (.cond (.t 9) (sO [iO 4 (.mov (kB false))]
 (.ret))
 (.skip)))
 (.seq (sO [iF 10 1 2,iL 11 10,iF 12 1 3,iL 13 12,iV 14 .neq 11 13]
 (.cond (.t 14) (sO [iO 4 (.mov (kB false))]
 (.ret))
 (.skip)))
 (.seq (sO [iF 15 2 2,iL 16 15,iF 17 2 3,iL 18 17,iV 19 .neq 16 18]
 (.cond (.t 19) (sO [iO 4 (.mov (kB false))]
 (.ret))
 (.skip)))
 (.seq (sO [iF 20 3 2,iL 21 20,iF 22 3 3,iL 23 22,iO 24 (.callr Ac [.t 21,.t 23]),iO 25 (.not (.t 24))]
 (.cond (.t 25) (sO [iO 4 (.mov (kB false))]
 (.ret))
 (.skip)))
 (sO [iO 4 (.mov (kB true))]
 (.ret))))))
def s4:SFn:=⟨2,26,C8,[.t 4]⟩
def dM:SCode :=
 .seq (sO [iM 7 4,iM 8 0,iO 9 (.len (.t 8)),iV 10 .lss 7 9,iM 11 10,iT 12 11 (.mov (.t 0)),iT 13 11 (.callr xL [.t 12]),iO 14 (.pick (.t 11) (.t 13) (kB false))]
 (.cond (.t 14) (.skip)
 (.seq (.keep [3]) (.exit 0))))
 (.seq (.block 1 (.ops [iM 17 3,iM 18 4,iM 19 0,iM 20 4,iO 21 (.ixa 4 (.t 19) (.t 20)),iK 22 4 21,iO 23 (.call Ab [.t 22]),iO 24 (.ixa 4 (.t 17) (.t 18)),iN (.store 4 (.t 24) (.t 23))]))
 (.ops [iM 15 4,iO 16 (.ari .add (.t 15) (kI 1)),iM 4 16]))
def uT:SCode :=
 sO [iO 2 (.mov (.n 4))]
 (sO [iM 5 0,iO 6 (.call sY [.t 5]),iM 3 6]
 (.seq (sO [iO 4 (.mov (kI 0))]
 (.block 0 (.loop [0,3,4] dM)))
 (sO [iM 25 3,iM 2 25]
 (.ret))))
def nO:SFn:=⟨1,26,uT,[.t 2]⟩
def gM:SCode :=
 sO [iV 15 .lss 14 13]
 (.seq (.cond (.t 15) (.skip)
 (.seq (.keep [3]) (.exit 0)))
 (.seq (.block 1 (sO [iO 16 (.ixa 4 (.t 12) (.t 14)),iK 17 4 16,iO 5 (.alloc [zS,zI,zI,.s 7 []]),iN (.store 4 (.t 5) (.t 17))]
 (.ops [iM 18 3,iK 19 4 5,iO 20 (.call Bg [.t 19]),iO 21 (.lit 4 [.t 20]),iO 22 (.app 4 56 (.t 18) (.t 21)),iM 3 22])))
 (.ops [iO 23 (.ari .add (.t 14) (kI 1)),iM 14 23])))
def uP:SCode :=
 sO [iO 2 (.mov (.n 4))]
 (.seq (sO [iM 6 0,iO 7 (.callr wW [.t 6]),iO 8 (.not (.t 7))]
 (.cond (.t 8) (sO [iM 9 0,iO 10 (.call q6 [.t 9]),iM 2 10]
 (.ret))
 (.skip)))
 (sO [iO 11 (.lit 4 []),iM 3 11]
 (.seq (sO [iM 12 0,iO 13 (.len (.t 12)),iO 14 (.mov (kI 0))]
 (.block 0 (.loop [3,12,13,14] gM)))
 (sO [iM 24 3,iM 2 24]
 (.ret)))))
def nS:SFn:=⟨1,25,uP,[.t 2]⟩
def gS:SCode :=
 .seq (sO [iM 6 5,iM 7 0,iO 8 (.len (.t 7)),iV 9 .lss 6 8]
 (.cond (.t 9) (.skip)
 (.seq (.keep [1]) (.exit 0))))
 (.seq (.block 1 (sO [iM 12 0,iM 13 5,iM 14 1,iO 15 (.callr iS [.t 14]),iO 16 (.ixa 4 (.t 12) (.t 13)),iF 17 0 16,iN (.store 1 (.t 17) (.t 15))]
 (sO [iM 18 1,iO 19 (.ari .add (.t 18) (kI 1)),iM 1 19]
 (sO [iM 20 0,iM 21 5,iM 22 1,iO 23 (.ixa 4 (.t 20) (.t 21)),iF 24 1 23,iN (.store 1 (.t 24) (.t 22))]
 (sO [iM 25 1,iO 26 (.ari .add (.t 25) (kI 1)),iM 1 26]
 (sO [iM 27 0,iM 28 5,iM 29 1,iO 30 (.ixa 4 (.t 27) (.t 28)),iF 31 2 30,iN (.store 1 (.t 31) (.t 29))]
 (sO [iM 32 1,iO 33 (.ari .add (.t 32) (kI 1)),iM 1 33]
 (.ops [iM 34 0,iM 35 5,iO 36 (.ixa 4 (.t 34) (.t 35)),iF 37 3 36,iL 38 37,iM 39 1,iO 40 (.callb sQ [.t 38,.t 39] [true,false]),iM 1 40]))))))))
 (.ops [iM 10 5,iO 11 (.ari .add (.t 10) (kI 1)),iM 5 11]))
def vN:SCode :=
 sO [iO 4 (.mov (kI 0))]
 (.seq (sO [iO 5 (.mov (kI 0))]
 (.block 0 (.loop [0,1,5] gS)))
 (sO [iM 41 1,iM 4 41]
 (.ret)))
def nH:SFn:=⟨2,42,vN,[.t 4]⟩
def gY:SCode :=
 .seq (sO [iM 6 5,iM 7 0,iO 8 (.len (.t 7)),iV 9 .lss 6 8]
 (.cond (.t 9) (.skip)
 (.seq (.keep [1]) (.exit 0))))
 (.seq (.block 1 (.seq (sO [iM 12 0,iM 13 5,iO 14 (.ixa 4 (.t 12) (.t 13)),iF 15 0 14,iL 16 15,iM 17 1,iO 18 (.callr iS [.t 17]),iV 19 .neq 16 18]
 (.cond (.t 19) (sO [iO 4 (.mov (kI (-1)))]
 (.seq (.keep [4]) .ret))
 (.skip)))
 (sO [iM 20 1,iO 21 (.ari .add (.t 20) (kI 1)),iM 1 21]
 (.seq (sO [iM 22 0,iM 23 5,iO 24 (.ixa 4 (.t 22) (.t 23)),iF 25 1 24,iL 26 25,iM 27 1,iV 28 .neq 26 27]
 (.cond (.t 28) (sO [iO 4 (.mov (kI (-1)))]
 (.seq (.keep [4]) .ret))
 (.skip)))
 (sO [iM 29 1,iO 30 (.ari .add (.t 29) (kI 1)),iM 1 30]
 (.seq (sO [iM 31 0,iM 32 5,iO 33 (.ixa 4 (.t 31) (.t 32)),iF 34 2 33,iL 35 34,iM 36 1,iV 37 .neq 35 36]
 (.cond (.t 37) (sO [iO 4 (.mov (kI (-1)))]
 (.seq (.keep [4]) .ret))
 (.skip)))
 (sO [iM 38 1,iO 39 (.ari .add (.t 38) (kI 1)),iM 1 39]
 (sO [iM 40 0,iM 41 5,iO 42 (.ixa 4 (.t 40) (.t 41)),iF 43 3 42,iL 44 43,iM 45 1,iO 46 (.callr uD [.t 44,.t 45]),iM 1 46]
 (sO [iM 47 1,iE 48 .lss 47 0]
 (.cond (.t 48) (sO [iO 4 (.mov (kI (-1)))]
 (.seq (.keep [4]) .ret))
 (.skip)))))))))))
 (.ops [iM 10 5,iO 11 (.ari .add (.t 10) (kI 1)),iM 5 11]))
def vU:SCode :=
 sO [iO 4 (.mov (kI 0))]
 (.seq (sO [iO 5 (.mov (kI 0))]
 (.block 0 (.loop [0,1,5] gY)))
 (sO [iM 49 1,iM 4 49]
 (.ret)))
def nJ:SFn:=⟨2,50,vU,[.t 4]⟩
def gI:SCode :=
 .seq (sO [iM 6 5,iM 7 0,iO 8 (.len (.t 7)),iV 9 .lss 6 8]
 (.cond (.t 9) (.skip)
 (.seq (.keep []) (.exit 0))))
 (.seq (.block 1 (sO [iM 12 0,iM 13 5,iO 14 (.ixa 4 (.t 12) (.t 13)),iF 15 0 14,iL 16 15,iM 17 1,iV 18 .eql 16 17]
 (.cond (.t 18) (sO [iM 19 5,iM 4 19]
 (.seq (.keep [4]) .ret))
 (.skip))))
 (.ops [iM 10 5,iO 11 (.ari .add (.t 10) (kI 1)),iM 5 11]))
def B4:SCode :=
 sO [iO 4 (.mov (kI 0))]
 (.seq (sO [iO 5 (.mov (kI 0))]
 (.block 0 (.loop [0,1,5] gI)))
 (sO [iO 4 (.mov (kI (-1)))]
 (.ret)))
def q8:SFn:=⟨2,20,B4,[.t 4]⟩
def Dt:SCode :=
 sO [iO 3 (.box 1 (.t 1)),iO 4 (.mov (kI 0))]
 (sO [iM 5 0,iO 6 (.fn nZ [.t 3]),iO 7 (.calli (.f cM) [.t 5,.t 6]),iM 4 7]
 (.ret))
def s6:SFn:=⟨2,8,Dt,[.t 4]⟩
def lQ:SCode :=
 .seq (sO [iM 12 5,iM 13 0,iO 14 (.len (.t 13)),iV 15 .lss 12 14]
 (.cond (.t 15) (.skip)
 (.seq (.keep [1]) (.exit 0))))
 (.seq (.block 1 (sO [iM 18 0,iM 19 5,iO 20 (.ixa 7 (.t 18) (.t 19)),iK 21 7 20,iM 22 1,iO 23 (.callr D3 [.t 21,.t 22]),iM 1 23]
 (sO [iM 24 1,iE 25 .lss 24 0]
 (.cond (.t 25) (sO [iO 4 (.mov (kI (-1)))]
 (.seq (.keep [4]) .ret))
 (.skip)))))
 (.ops [iM 16 5,iO 17 (.ari .add (.t 16) (kI 1)),iM 5 17]))
def C3:SCode :=
 sO [iO 4 (.mov (kI 0))]
 (sO [iM 6 1,iM 7 0,iO 8 (.len (.t 7)),iO 9 (.ari .sub (.t 6) (.t 8)),iM 1 9]
 (.seq (sO [iM 10 1,iE 11 .lss 10 0]
 (.cond (.t 11) (sO [iO 4 (.mov (kI (-1)))]
 (.ret))
 (.skip)))
 (.seq (sO [iO 5 (.mov (kI 0))]
 (.block 0 (.loop [0,1,5] lQ)))
 (sO [iM 26 1,iM 4 26]
 (.ret)))))
def tW:SFn:=⟨2,27,C3,[.t 4]⟩
def B1:SCode :=
 sO [iO 1 (.vbox 4 (.t 0)),iO 2 (.alloc [zS,zI,zI,.s 7 []])]
 (.seq (.opsd [⟨iF 3 0 1,0,[]⟩,⟨iL 4 3,1,[]⟩,⟨iF 5 1 1,2,[]⟩,⟨iL 6 5,3,[]⟩,⟨iF 7 2 1,4,[]⟩,⟨iL 8 7,5,[]⟩,⟨iF 9 3 1,6,[]⟩,⟨iL 10 9,7,[]⟩,⟨iO 11 (.call xC [.t 10]),8,[iF 3 0 1,iL 4 3,iF 5 1 1,iL 6 5,iF 7 2 1,iL 8 7]⟩,⟨iO 12 (.build [zS,zI,zI,.s 7 []] [(0,1,.t 4),(1,1,.t 6),(2,1,.t 8),(3,1,.t 11)]),9,[]⟩,⟨iN (.store 4 (.t 2) (.t 12)),10,[]⟩])
 (.ret))
def qW:SFn:=⟨1,13,B1,[.c 2 (some 4)]⟩
def eP:SCode :=
 .block 1 (.seq (.alt (zQ2 3) (.ops [iF 11 3 3,iL 12 11,iO 13 (.callu mO [.t 12]),iM 4 13]) (.ops [iF 11 3 3,iL 12 11,iO 13 (.callb mO [.t 12] [true]),iM 4 13]))
 (.seq (sO [iM 14 4,iO 15 (.len (.t 14)),iF 16 3 3,iL 17 16,iO 18 (.len (.t 17)),iV 19 .eql 15 18,iM 20 19,iU 21 20 (.mov (.t 4)),iU 22 20 (.callr xS [.t 21]),iU 23 20 (.not (.t 22)),iO 24 (.pick (.t 20) (kB true) (.t 23))]
 (.cond (.t 24) (sO [iK 25 4 3,iN (.store 4 (.t 2) (.t 25))]
 (.seq (.keep [2]) .ret))
 (.skip)))
 (.ops [iM 26 4,iF 27 3 3,iN (.store 1 (.t 27) (.t 26))])))
def vV:SCode :=
 sO [iO 1 (.vbox 4 (.t 0)),iO 2 (.alloc [zS,zI,zI,.s 7 []])]
 (sO [iK 5 4 1,iO 6 (.call fC [.t 5]),iO 3 (.alloc [zS,zI,zI,.s 7 []]),iN (.store 4 (.t 3) (.t 6))]
 (.seq (sO [iK 7 4 1,iO 8 (.callr jP [.t 7]),iO 9 (.not (.t 8))]
 (.cond (.t 9) (sO [iK 10 4 3,iN (.store 4 (.t 2) (.t 10))]
 (.ret))
 (.skip)))
 (.block 0 (.loop [2,3] eP))))
def wQ:SFn:=⟨1,28,vV,[.c 2 (some 4)]⟩
def eE:SCode :=
 .seq (sO [iM 19 7,iF 20 3 3,iL 21 20,iO 22 (.len (.t 21)),iV 23 .lss 19 22]
 (.cond (.t 23) (.skip)
 (.seq (.keep [2,3,4,6]) (.exit 2))))
 (.seq (.block 3 (sO [iF 26 3 3,iL 27 26,iM 28 7,iO 29 (.ixa 7 (.t 27) (.t 28)),iK 30 7 29,iO 8 (.alloc [zI,zI,zI,zI,zI,zS,.s 1 []]),iN (.store 7 (.t 8) (.t 30))]
 (.seq (sO [iF 31 0 8,iL 32 31,iO 33 (.callr v7 [.t 32]),iM 34 33,iT 35 34 (.mov (.t 5)),iT 36 34 (.mov (.t 7)),iT 37 34 (.ixa 1 (.t 35) (.t 36)),iT 38 34 (.load none (.t 37)),iT 39 34 (.faddr 1 (.t 8)),iT 40 34 (.load none (.t 39)),iT 41 34 (.ixa 1 (.t 38) (.t 40)),iT 42 34 (.load none (.t 41)),iT 43 34 (.not (.t 42)),iO 44 (.pick (.t 34) (.t 43) (kB false))]
 (.cond (.t 44) (sO [iO 4 (.mov (kB true))]
 (.exit 3))
 (.skip)))
 (.ops [iM 45 6,iK 46 7 8,iO 47 (.lit 7 [.t 46]),iO 48 (.app 7 80 (.t 45) (.t 47)),iM 6 48]))))
 (.ops [iM 24 7,iO 25 (.ari .add (.t 24) (kI 1)),iM 7 25]))
def iR:SCode :=
 .seq (sO [iM 15 4]
 (.cond (.t 15) (.skip)
 (.seq (.keep [2,3]) (.exit 0))))
 (.block 1 (sO [iO 4 (.mov (kB false))]
 (sO [iK 16 4 3,iO 17 (.callr zK [.t 16]),iM 5 17]
 (sO [iO 18 (.lit 7 []),iM 6 18]
 (.seq (sO [iO 7 (.mov (kI 0))]
 (.block 2 (.loop [2,3,4,5,6,7] eE)))
 (.ops [iM 49 6,iF 50 3 3,iN (.store 1 (.t 50) (.t 49))]))))))
def Bm:SCode :=
 sO [iO 1 (.vbox 4 (.t 0)),iO 2 (.alloc [zS,zI,zI,.s 7 []])]
 (sO [iK 9 4 1,iO 10 (.callr fC [.t 9]),iO 3 (.alloc [zS,zI,zI,.s 7 []]),iN (.store 4 (.t 3) (.t 10))]
 (.seq (sO [iK 11 4 1,iO 12 (.callr jP [.t 11]),iO 13 (.not (.t 12))]
 (.cond (.t 13) (sO [iK 14 4 3,iN (.store 4 (.t 2) (.t 14))]
 (.ret))
 (.skip)))
 (.seq (sO [iO 4 (.mov (kB true))]
 (.block 0 (.loop [2,3,4] iR)))
 (sO [iK 51 4 3,iN (.store 4 (.t 2) (.t 51))]
 (.ret)))))
def Ay:SFn:=⟨1,52,Bm,[.c 2 (some 4)]⟩
def gB:SCode :=
 .seq (sO [iM 62 9,iF 63 2 1,iL 64 63,iV 65 .lss 62 64]
 (.cond (.t 65) (.skip)
 (.seq (.keep [1,2,3,4,5,6,7,8]) (.exit 4))))
 (.seq (.block 5 (sO [iM 68 4,iM 69 9,iO 70 (.ixa 1 (.t 68) (.t 69)),iL 71 70,iM 72 7,iM 73 8,iO 74 (.ixa 1 (.t 72) (.t 73)),iL 75 74,iV 76 .eql 71 75]
 (.cond (.t 76) (.ops [iM 77 4,iM 78 9,iO 79 (.ixa 1 (.t 77) (.t 78)),iN (.store 1 (.t 79) (kI (-1)))])
 (.skip))))
 (.ops [iM 66 9,iO 67 (.ari .add (.t 66) (kI 1)),iM 9 67]))
def kF:SCode :=
 .seq (sO [iM 50 8,iM 51 7,iO 52 (.len (.t 51)),iV 53 .lss 50 52]
 (.cond (.t 53) (.skip)
 (.seq (.keep [1,2,3,4,5,6]) (.exit 2))))
 (.seq (.block 3 (sO [iM 56 4,iM 57 7,iM 58 8,iO 59 (.ixa 1 (.t 57) (.t 58)),iL 60 59,iO 61 (.ixa 1 (.t 56) (.t 60)),iN (.store 1 (.t 61) (kI (-1)))]
 (sO [iO 9 (.mov (kI 0))]
 (.block 4 (.loop [1,2,3,4,5,6,7,8,9] gB)))))
 (.ops [iM 54 8,iO 55 (.ari .add (.t 54) (kI 1)),iM 8 55]))
def eJ:SCode :=
 .seq (sO [iM 19 5,iF 20 3 3,iL 21 20,iO 22 (.len (.t 21)),iV 23 .lss 19 22]
 (.cond (.t 23) (.skip)
 (.seq (.keep [2,3]) (.exit 0))))
 (.seq (.block 1 (.seq (sO [iF 26 3 3,iL 27 26,iM 28 5,iO 29 (.ixa 7 (.t 27) (.t 28)),iF 30 0 29,iL 31 30,iE 32 .eql 31 8]
 (.cond (.t 32) (.ops [iF 33 2 1,iL 34 33,iO 35 (.call pN [.t 34]),iM 4 35])
 (.skip)))
 (sO [iF 36 3 3,iL 37 36,iM 38 5,iO 39 (.ixa 7 (.t 37) (.t 38)),iK 40 7 39,iM 41 4,iO 42 (.callb nX [.t 40,.t 41] [true,false]),iO 6 (.alloc [zI,zI,zI,zI,zI,zS,.s 1 []]),iN (.store 7 (.t 6) (.t 42))]
 (sO [iF 43 3 3,iL 44 43,iM 45 5,iK 46 7 6,iO 47 (.ixa 7 (.t 44) (.t 45)),iN (.store 7 (.t 47) (.t 46))]
 (sO [iK 48 7 6,iO 49 (.callr mE [.t 48]),iM 7 49]
 (.seq (sO [iO 8 (.mov (kI 0))]
 (.block 2 (.loop [1,2,3,4,5,6,7,8] kF)))
 (sO [iF 80 0 6,iL 81 80,iE 82 .eql 81 2,iM 83 82,iT 84 83 (.faddr 1 (.t 6)),iT 85 83 (.load none (.t 84)),iT 86 83 (.faddr 2 (.t 6)),iT 87 83 (.load none (.t 86)),iT 88 83 (.cmp .neq (.t 85) (.t 87)),iO 89 (.pick (.t 83) (.t 88) (kB false))]
 (.cond (.t 89) (.ops [iM 90 4,iF 91 1 6,iL 92 91,iF 93 2 6,iL 94 93,iO 95 (.ixa 1 (.t 90) (.t 92)),iN (.store 1 (.t 95) (.t 94))])
 (.skip)))))))))
 (.ops [iM 24 5,iO 25 (.ari .add (.t 24) (kI 1)),iM 5 25]))
def rD:SCode :=
 sO [iO 1 (.vbox 4 (.t 0)),iO 2 (.alloc [zS,zI,zI,.s 7 []])]
 (sO [iK 10 4 1,iO 11 (.call fC [.t 10]),iO 3 (.alloc [zS,zI,zI,.s 7 []]),iN (.store 4 (.t 3) (.t 11))]
 (.seq (sO [iK 12 4 1,iO 13 (.callr jP [.t 12]),iO 14 (.not (.t 13))]
 (.cond (.t 14) (sO [iK 15 4 3,iN (.store 4 (.t 2) (.t 15))]
 (.ret))
 (.skip)))
 (sO [iF 16 2 1,iL 17 16,iO 18 (.call pN [.t 17]),iM 4 18]
 (.seq (sO [iO 5 (.mov (kI 0))]
 (.block 0 (.loop [1,2,3,4,5] eJ)))
 (sO [iK 96 4 3,iN (.store 4 (.t 2) (.t 96))]
 (.ret))))))
def rI:SFn:=⟨1,97,rD,[.c 2 (some 4)]⟩
def iJ:SCode :=
 .seq (sO [iM 28 5,iF 29 3 1,iL 30 29,iO 31 (.len (.t 30)),iV 32 .lss 28 31]
 (.cond (.t 32) (.skip)
 (.seq (.keep [2,3]) (.exit 0))))
 (.seq (.block 1 (.seq (sO [iF 35 3 1,iL 36 35,iM 37 5,iO 38 (.ixa 7 (.t 36) (.t 37)),iF 39 0 38,iL 40 39,iE 41 .eql 40 8]
 (.cond (.t 41) (.ops [iM 42 4,iF 43 2 1,iL 44 43,iO 45 (.mk 1 1 [.v (.bool false)] (.t 44)),iO 46 (.nck (.t 42)),iF 47 0 46,iN (.store 1 (.t 47) (.t 45))])
 (.skip)))
 (sO [iM 49 4,iF 50 3 1,iL 51 50,iM 52 5,iO 53 (.ixa 7 (.t 51) (.t 52)),iK 54 7 53,iO 55 (.callr rU [.t 54]),iO 56 (.callb nT [.t 49,.t 55] [true,false]),iM 48 56,iO 57 (.ext (.t 48) 0),iO 58 (.ext (.t 48) 1),iO 6 (.alloc [zI,zI,zI,zI,zI,zS,.s 1 []]),iN (.store 7 (.t 6) (.t 57)),iM 7 58]
 (sO [iM 59 7]
 (.cond (.t 59) (.ops [iF 60 3 3,iL 61 60,iK 62 7 6,iO 63 (.lit 7 [.t 62]),iO 64 (.app 7 80 (.t 61) (.t 63)),iF 65 3 3,iN (.store 1 (.t 65) (.t 64))])
 (.skip))))))
 (.ops [iM 33 5,iO 34 (.ari .add (.t 33) (kI 1)),iM 5 34]))
def zX:SCode :=
 sO [iO 1 (.vbox 4 (.t 0)),iO 2 (.alloc [zS,zI,zI,.s 7 []])]
 (.seq (sO [iK 8 4 1,iO 9 (.callr jP [.t 8]),iO 10 (.not (.t 9))]
 (.cond (.t 10) (sO [iK 11 4 1,iO 12 (.call fC [.t 11]),iN (.store 4 (.t 2) (.t 12))]
 (.ret))
 (.skip)))
 (sO [iF 13 0 1,iL 14 13,iF 15 1 1,iL 16 15,iF 17 2 1,iL 18 17,iO 19 (.build [zS,zI,zI,.s 7 []] [(0,1,.t 14),(1,1,.t 16),(2,1,.t 18)]),iO 3 (.alloc [zS,zI,zI,.s 7 []]),iN (.store 4 (.t 3) (.t 19))]
 (.seq (.opsd [⟨iF 20 2 1,0,[]⟩,⟨iL 21 20,1,[]⟩,⟨iF 23 2 1,3,[]⟩,⟨iL 24 23,4,[]⟩,⟨iO 22 (.mk 1 1 [.v (.bool false)] (.t 21)),2,[]⟩,⟨iO 25 (.mk 1 8 [zI] (.t 24)),5,[]⟩,⟨iO 26 (.build [.s 1 [],.s 1 []] [(0,1,.t 22),(1,1,.t 25)]),6,[]⟩,⟨iO 27 (.box 2 (.t 26)),7,[]⟩,⟨iM 4 27,8,[]⟩])
 (.seq (sO [iO 5 (.mov (kI 0))]
 (.block 0 (.loop [1,2,3,4,5] iJ)))
 (sO [iK 66 4 3,iN (.store 4 (.t 2) (.t 66))]
 (.ret))))))
def Ae:SFn:=⟨1,67,zX,[.c 2 (some 4)]⟩
def lP:SCode :=
 .seq (sO [iM 8 4,iM 9 0,iO 10 (.len (.t 9)),iV 11 .lss 8 10]
 (.cond (.t 11) (.skip)
 (.seq (.keep [3]) (.exit 0))))
 (.seq (.block 1 (.ops [iM 14 3,iM 15 4,iM 16 0,iM 17 4,iO 18 (.ixa 7 (.t 16) (.t 17)),iK 19 7 18,iO 20 (.call D9 [.t 19]),iO 21 (.ixa 7 (.t 14) (.t 15)),iN (.store 7 (.t 21) (.t 20))]))
 (.ops [iM 12 4,iO 13 (.ari .add (.t 12) (kI 1)),iM 4 13]))
def Dr:SCode :=
 sO [iO 2 (.mov (.n 7))]
 (sO [iM 5 0,iO 6 (.len (.t 5)),iO 7 (.mk 7 80 [zI,zI,zI,zI,zI,zS,.s 1 []] (.t 6)),iM 3 7]
 (.seq (sO [iO 4 (.mov (kI 0))]
 (.block 0 (.loop [0,3,4] lP)))
 (sO [iM 22 3,iM 2 22]
 (.ret))))
def tM:SFn:=⟨1,23,Dr,[.t 2]⟩
def i5:SCode :=
 sO [iV 11 .lss 10 9]
 (.seq (.cond (.t 11) (.skip)
 (.seq (.keep [1,2,3]) (.exit 0)))
 (.seq (.block 1 (sO [iO 12 (.ixa 7 (.t 8) (.t 10)),iK 13 7 12,iO 5 (.alloc [zI,zI,zI,zI,zI,zS,.s 1 []]),iN (.store 7 (.t 5) (.t 13))]
 (.ops [iM 14 3,iK 15 7 5,iO 16 (.call wD [.t 15]),iO 17 (.lit 7 [.t 16]),iO 18 (.app 7 80 (.t 14) (.t 17)),iM 3 18])))
 (.ops [iO 19 (.ari .add (.t 10) (kI 1)),iM 10 19])))
def yO:SCode :=
 sO [iO 1 (.box 4 (.t 0)),iO 2 (.alloc [zS,zI,zI,.s 7 []])]
 (sO [iO 6 (.lit 7 []),iM 3 6]
 (.seq (sO [iF 7 3 1,iL 8 7,iO 9 (.len (.t 8)),iO 10 (.mov (kI 0))]
 (.block 0 (.loop [1,2,3,8,9,10] i5)))
 (sO [iM 20 3,iF 21 3 1,iN (.store 1 (.t 21) (.t 20))]
 (sO [iK 22 4 1,iN (.store 4 (.t 2) (.t 22))]
 (.ret)))))
def pF:SFn:=⟨1,23,yO,[.c 2 (some 4)]⟩
def eL:SCode :=
 .block 1 (.seq (.alt (zQ2 3) (.ops [iF 12 3 3,iL 13 12,iO 14 (.callu Bs [.t 13]),iO 15 (.callr oK [.t 14]),iO 16 (.callr rK [.t 15]),iM 4 16]) (.ops [iF 12 3 3,iL 13 12,iO 14 (.callb Bs [.t 13] [true]),iO 15 (.callb oK [.t 14] [true]),iO 16 (.callb rK [.t 15] [true]),iM 4 16]))
 (sO [iM 17 4,iO 18 (.len (.t 17)),iM 5 18]
 (.seq (sO [iM 19 5,iF 20 3 3,iL 21 20,iO 22 (.len (.t 21)),iV 23 .eql 19 22,iM 24 23,iU 25 24 (.mov (.t 5)),iU 26 24 (.cmp .eql (.t 25) (kI 0)),iO 27 (.pick (.t 24) (kB true) (.t 26)),iM 28 27,iU 29 28 (.mov (.t 4)),iU 30 28 (.mov (.t 5)),iU 31 28 (.ari .sub (.t 30) (kI 1)),iU 32 28 (.ixa 7 (.t 29) (.t 31)),iU 33 28 (.faddr 0 (.t 32)),iU 34 28 (.load none (.t 33)),iU 35 28 (.callr pX [.t 34]),iU 36 28 (.not (.t 35)),iO 37 (.pick (.t 28) (kB true) (.t 36))]
 (.cond (.t 37) (sO [iK 38 4 3,iN (.store 4 (.t 2) (.t 38))]
 (.seq (.keep [2]) .ret))
 (.skip)))
 (.ops [iM 39 4,iF 40 3 3,iN (.store 1 (.t 40) (.t 39))]))))
def xT:SCode :=
 sO [iO 1 (.vbox 4 (.t 0)),iO 2 (.alloc [zS,zI,zI,.s 7 []])]
 (sO [iK 6 4 1,iO 7 (.call eF [.t 6]),iO 3 (.alloc [zS,zI,zI,.s 7 []]),iN (.store 4 (.t 3) (.t 7))]
 (.seq (sO [iK 8 4 1,iO 9 (.callr jF [.t 8]),iO 10 (.not (.t 9))]
 (.cond (.t 10) (sO [iK 11 4 3,iN (.store 4 (.t 2) (.t 11))]
 (.ret))
 (.skip)))
 (.block 0 (.loop [2,3] eL))))
def xH:SFn:=⟨1,41,xT,[.c 2 (some 4)]⟩
def eG:SCode :=
 sO [iV 21 .lss 20 19]
 (.seq (.cond (.t 21) (.skip)
 (.seq (.keep [2,3,5]) (.exit 2)))
 (.seq (.block 3 (sO [iM 22 20,iO 23 (.ixa 7 (.t 18) (.t 20)),iK 24 7 23,iO 7 (.alloc [zI,zI,zI,zI,zI,zS,.s 1 []]),iM 6 22,iN (.store 7 (.t 7) (.t 24))]
 (sO [iF 25 0 7,iL 26 25,iO 27 (.callr Bi [.t 26]),iO 28 (.not (.t 27)),iM 29 28,iU 30 29 (.mov (.t 4)),iU 31 29 (.nck (.t 30)),iU 32 29 (.faddr 2 (.t 31)),iU 33 29 (.load none (.t 32)),iU 34 29 (.mov (.t 6)),iU 35 29 (.ixa 1 (.t 33) (.t 34)),iU 36 29 (.load none (.t 35)),iU 37 29 (.faddr 1 (.t 7)),iU 38 29 (.load none (.t 37)),iU 39 29 (.ixa 1 (.t 36) (.t 38)),iU 40 29 (.load none (.t 39)),iO 41 (.pick (.t 29) (kB true) (.t 40))]
 (.cond (.t 41) (.ops [iM 42 5,iK 43 7 7,iO 44 (.lit 7 [.t 43]),iO 45 (.app 7 80 (.t 42) (.t 44)),iM 5 45])
 (.skip)))))
 (.ops [iO 46 (.ari .add (.t 20) (kI 1)),iM 20 46])))
def nV:SCode :=
 .block 1 (sO [iK 14 4 3,iO 15 (.callr A0 [.t 14]),iM 4 15]
 (sO [iO 16 (.lit 7 []),iM 5 16]
 (.seq (sO [iF 17 3 3,iL 18 17,iO 19 (.len (.t 18)),iO 20 (.mov (kI 0))]
 (.block 2 (.loop [2,3,4,5,18,19,20] eG)))
 (.seq (sO [iM 47 5,iO 48 (.len (.t 47)),iF 49 3 3,iL 50 49,iO 51 (.len (.t 50)),iV 52 .eql 48 51]
 (.cond (.t 52) (sO [iK 53 4 3,iN (.store 4 (.t 2) (.t 53))]
 (.seq (.keep [2]) .ret))
 (.skip)))
 (.seq (.keep [20005,2,3,5])
 (.ops [iM 54 5,iO 55 (.callr gD [.t 54]),iF 56 3 3,iN (.store 1 (.t 56) (.t 55))]))))))
def Bz:SCode :=
 sO [iO 1 (.vbox 4 (.t 0)),iO 2 (.alloc [zS,zI,zI,.s 7 []])]
 (sO [iK 8 4 1,iO 9 (.callr eF [.t 8]),iO 3 (.alloc [zS,zI,zI,.s 7 []]),iN (.store 4 (.t 3) (.t 9))]
 (.seq (sO [iK 10 4 1,iO 11 (.callr jF [.t 10]),iO 12 (.not (.t 11))]
 (.cond (.t 12) (sO [iK 13 4 3,iN (.store 4 (.t 2) (.t 13))]
 (.ret))
 (.skip)))
 (.block 0 (.loop [2,3] nV))))
def zZ:SFn:=⟨1,57,Bz,[.c 2 (some 4)]⟩
def jV:SCode :=
 sO [iV 40 .lss 39 38]
 (.seq (.cond (.t 40) (.skip)
 (.seq (.keep [2,3,4,6,21,22,23]) (.exit 2)))
 (.seq (.block 3 (sO [iO 41 (.ixa 1 (.t 37) (.t 39)),iL 42 41,iM 8 42]
 (.ops [iM 43 4,iM 44 8,iO 45 (.callb zP [.t 43,.t 44] [true,false])])))
 (.ops [iO 46 (.ari .add (.t 39) (kI 1)),iM 39 46])))
def eI:SCode :=
 sO [iV 24 .lss 23 22]
 (.seq (.cond (.t 24) (.skip)
 (.seq (.keep [2,3]) (.exit 0)))
 (.seq (.block 1 (sO [iM 25 23,iO 26 (.ixa 7 (.t 21) (.t 23)),iK 27 7 26,iO 6 (.alloc [zI,zI,zI,zI,zI,zS,.s 1 []]),iM 5 25,iN (.store 7 (.t 6) (.t 27))]
 (sO [iK 28 7 6,iM 29 4,iO 30 (.callb nW [.t 28,.t 29] [true,false]),iN (.store 7 (.t 6) (.t 30))]
 (sO [iF 31 3 3,iL 32 31,iM 33 5,iK 34 7 6,iO 35 (.ixa 7 (.t 32) (.t 33)),iN (.store 7 (.t 35) (.t 34))]
 (.seq (sO [iK 36 7 6,iO 37 (.callr l5 [.t 36]),iO 38 (.len (.t 37)),iO 39 (.mov (kI 0))]
 (.block 2 (.loop [2,3,4,6,21,22,23,37,38,39] jV)))
 (.block 4 (sO [iF 48 0 6,iL 49 48,iE 50 .eql 49 8,iM 47 50]
 (.cond (.t 47) (.ops [iM 51 4,iO 52 (.callb vY [.t 51] [true])])
 (sO [iF 54 0 6,iL 55 54,iE 56 .eql 55 2,iM 57 56,iT 58 57 (.faddr 1 (.t 6)),iT 59 57 (.load none (.t 58)),iT 60 57 (.faddr 2 (.t 6)),iT 61 57 (.load none (.t 60)),iT 62 57 (.cmp .neq (.t 59) (.t 61)),iO 63 (.pick (.t 57) (.t 62) (kB false)),iM 53 63]
 (.cond (.t 53) (.ops [iM 64 4,iF 65 1 6,iL 66 65,iF 67 2 6,iL 68 67,iO 69 (.ixa 1 (.t 64) (.t 66)),iN (.store 1 (.t 69) (.t 68))])
 (.skip)))))))))))
 (.ops [iO 70 (.ari .add (.t 23) (kI 1)),iM 23 70])))
def qS:SCode :=
 sO [iO 1 (.vbox 4 (.t 0)),iO 2 (.alloc [zS,zI,zI,.s 7 []])]
 (sO [iK 9 4 1,iO 10 (.call eF [.t 9]),iO 3 (.alloc [zS,zI,zI,.s 7 []]),iN (.store 4 (.t 3) (.t 10))]
 (.seq (sO [iK 11 4 1,iO 12 (.callr jF [.t 11]),iO 13 (.not (.t 12))]
 (.cond (.t 13) (sO [iK 14 4 3,iN (.store 4 (.t 2) (.t 14))]
 (.ret))
 (.skip)))
 (sO [iF 15 2 1,iL 16 15,iO 17 (.mk 1 8 [zI] (.t 16)),iM 4 17]
 (sO [iM 18 4,iO 19 (.callb vY [.t 18] [true])]
 (.seq (sO [iF 20 3 3,iL 21 20,iO 22 (.len (.t 21)),iO 23 (.mov (kI 0))]
 (.block 0 (.loop [2,3,4,21,22,23] eI)))
 (sO [iK 71 4 3,iN (.store 4 (.t 2) (.t 71))]
 (.ret)))))))
def rE:SFn:=⟨1,72,qS,[.c 2 (some 4)]⟩
def lC:SCode :=
 sO [iV 29 .lss 28 27]
 (.seq (.cond (.t 29) (.skip)
 (.seq (.keep [2,3,5]) (.exit 0)))
 (.seq (.block 1 (sO [iO 30 (.ixa 7 (.t 26) (.t 28)),iK 31 7 30,iO 7 (.alloc [zI,zI,zI,zI,zI,zS,.s 1 []]),iN (.store 7 (.t 7) (.t 31))]
 (sO [iM 33 4,iK 34 7 7,iO 35 (.callb mQ [.t 33,.t 34] [true,false]),iM 32 35,iO 36 (.ext (.t 32) 0),iO 37 (.ext (.t 32) 1),iO 8 (.alloc [zI,zI,zI,zI,zI,zS,.s 1 []]),iN (.store 7 (.t 8) (.t 36)),iM 9 37]
 (sO [iM 38 9]
 (.cond (.t 38) (.ops [iM 39 5,iK 40 7 8,iO 41 (.lit 7 [.t 40]),iO 42 (.app 7 80 (.t 39) (.t 41)),iM 5 42])
 (.skip))))))
 (.ops [iO 43 (.ari .add (.t 28) (kI 1)),iM 28 43])))
def z7:SCode :=
 sO [iO 1 (.vbox 4 (.t 0)),iO 2 (.alloc [zS,zI,zI,.s 7 []])]
 (sO [iK 10 4 1,iO 11 (.callr eF [.t 10]),iO 3 (.alloc [zS,zI,zI,.s 7 []]),iN (.store 4 (.t 3) (.t 11))]
 (.seq (sO [iK 12 4 1,iO 13 (.callr jF [.t 12]),iO 14 (.not (.t 13))]
 (.cond (.t 14) (sO [iK 15 4 3,iN (.store 4 (.t 2) (.t 15))]
 (.ret))
 (.skip)))
 (.seq (.opsd [⟨iF 16 2 1,0,[]⟩,⟨iL 17 16,1,[]⟩,⟨iF 19 2 1,3,[]⟩,⟨iL 20 19,4,[]⟩,⟨iO 18 (.mk 1 1 [.v (.bool false)] (.t 17)),2,[]⟩,⟨iO 21 (.mk 1 8 [zI] (.t 20)),5,[]⟩,⟨iO 22 (.build [.s 1 [],.s 1 []] [(0,1,.t 18),(1,1,.t 21)]),6,[]⟩,⟨iO 23 (.box 2 (.t 22)),7,[]⟩,⟨iM 4 23,8,[]⟩])
 (sO [iO 24 (.lit 7 []),iM 5 24]
 (.seq (sO [iF 25 3 3,iL 26 25,iO 27 (.len (.t 26)),iO 28 (.mov (kI 0))]
 (.block 0 (.loop [2,3,4,5,26,27,28] lC)))
 (sO [iM 44 5,iF 45 3 3,iN (.store 1 (.t 45) (.t 44))]
 (sO [iK 46 4 3,iN (.store 4 (.t 2) (.t 46))]
 (.ret))))))))
def zA:SFn:=⟨1,47,z7,[.c 2 (some 4)]⟩
def lG:SCode :=
 .seq (sO [iM 11 5,iM 12 0,iO 13 (.len (.t 12)),iV 14 .lss 11 13]
 (.cond (.t 14) (.skip)
 (.seq (.keep []) (.exit 0))))
 (.seq (.block 1 (sO [iM 17 0,iM 18 5,iO 19 (.ixa 7 (.t 17) (.t 18)),iK 20 7 19,iM 21 1,iM 22 5,iO 23 (.ixa 7 (.t 21) (.t 22)),iK 24 7 23,iO 25 (.callr Ef [.t 20,.t 24]),iO 26 (.not (.t 25))]
 (.cond (.t 26) (sO [iO 4 (.mov (kB false))]
 (.seq (.keep [4]) .ret))
 (.skip))))
 (.ops [iM 15 5,iO 16 (.ari .add (.t 15) (kI 1)),iM 5 16]))
def C5:SCode :=
 sO [iO 4 (.mov (kB false))]
 (.seq (sO [iM 6 0,iO 7 (.len (.t 6)),iM 8 1,iO 9 (.len (.t 8)),iV 10 .neq 7 9]
 (.cond (.t 10) (sO [iO 4 (.mov (kB false))]
 (.ret))
 (.skip)))
 (.seq (sO [iO 5 (.mov (kI 0))]
 (.block 0 (.loop [0,1,5] lG)))
 (sO [iO 4 (.mov (kB true))]
 (.ret))))
def tO:SFn:=⟨2,27,C5,[.t 4]⟩
def i9:SCode :=
 .seq (sO [iM 6 5,iM 7 0,iO 8 (.len (.t 7)),iV 9 .lss 6 8]
 (.cond (.t 9) (.skip)
 (.seq (.keep [1]) (.exit 0))))
 (.seq (.block 1 (sO [iM 12 0,iM 13 5,iM 14 1,iO 15 (.ixa 7 (.t 12) (.t 13)),iF 16 0 15,iN (.store 1 (.t 16) (.t 14))]
 (sO [iM 17 1,iO 18 (.ari .add (.t 17) (kI 1)),iM 1 18]
 (sO [iM 19 0,iM 20 5,iM 21 1,iO 22 (.ixa 7 (.t 19) (.t 20)),iF 23 1 22,iN (.store 1 (.t 23) (.t 21))]
 (sO [iM 24 1,iO 25 (.ari .add (.t 24) (kI 1)),iM 1 25]
 (sO [iM 26 0,iM 27 5,iM 28 1,iO 29 (.ixa 7 (.t 26) (.t 27)),iF 30 2 29,iN (.store 1 (.t 30) (.t 28))]
 (sO [iM 31 1,iO 32 (.ari .add (.t 31) (kI 1)),iM 1 32]
 (sO [iM 33 0,iM 34 5,iM 35 1,iO 36 (.ixa 7 (.t 33) (.t 34)),iF 37 3 36,iN (.store 1 (.t 37) (.t 35))]
 (sO [iM 38 1,iO 39 (.ari .add (.t 38) (kI 1)),iM 1 39]
 (sO [iM 40 0,iM 41 5,iM 42 1,iO 43 (.ixa 7 (.t 40) (.t 41)),iF 44 4 43,iN (.store 1 (.t 44) (.t 42))]
 (sO [iM 45 1,iO 46 (.ari .add (.t 45) (kI 1)),iM 1 46]
 (sO [iM 47 0,iM 48 5,iM 49 1,iO 50 (.callr iS [.t 49]),iO 51 (.ixa 7 (.t 47) (.t 48)),iF 52 5 51,iN (.store 1 (.t 52) (.t 50))]
 (sO [iM 53 1,iO 54 (.ari .add (.t 53) (kI 1)),iM 1 54]
 (.ops [iM 55 0,iM 56 5,iO 57 (.ixa 7 (.t 55) (.t 56)),iF 58 6 57,iL 59 58,iM 60 1,iO 61 (.callb sX [.t 59,.t 60] [true,false]),iM 1 61]))))))))))))))
 (.ops [iM 10 5,iO 11 (.ari .add (.t 10) (kI 1)),iM 5 11]))
def x6:SCode :=
 sO [iO 4 (.mov (kI 0))]
 (.seq (sO [iO 5 (.mov (kI 0))]
 (.block 0 (.loop [0,1,5] i9)))
 (sO [iM 62 1,iM 4 62]
 (.ret)))
def o8:SFn:=⟨2,63,x6,[.t 4]⟩
def jD:SCode :=
 .seq (sO [iM 6 5,iM 7 0,iO 8 (.len (.t 7)),iV 9 .lss 6 8]
 (.cond (.t 9) (.skip)
 (.seq (.keep [1]) (.exit 0))))
 (.seq (.block 1 (.seq (sO [iM 12 0,iM 13 5,iO 14 (.ixa 7 (.t 12) (.t 13)),iF 15 0 14,iL 16 15,iM 17 1,iV 18 .neq 16 17]
 (.cond (.t 18) (sO [iO 4 (.mov (kI (-1)))]
 (.seq (.keep [4]) .ret))
 (.skip)))
 (sO [iM 19 1,iO 20 (.ari .add (.t 19) (kI 1)),iM 1 20]
 (.seq (sO [iM 21 0,iM 22 5,iO 23 (.ixa 7 (.t 21) (.t 22)),iF 24 1 23,iL 25 24,iM 26 1,iV 27 .neq 25 26]
 (.cond (.t 27) (sO [iO 4 (.mov (kI (-1)))]
 (.seq (.keep [4]) .ret))
 (.skip)))
 (sO [iM 28 1,iO 29 (.ari .add (.t 28) (kI 1)),iM 1 29]
 (.seq (sO [iM 30 0,iM 31 5,iO 32 (.ixa 7 (.t 30) (.t 31)),iF 33 2 32,iL 34 33,iM 35 1,iV 36 .neq 34 35]
 (.cond (.t 36) (sO [iO 4 (.mov (kI (-1)))]
 (.seq (.keep [4]) .ret))
 (.skip)))
 (sO [iM 37 1,iO 38 (.ari .add (.t 37) (kI 1)),iM 1 38]
 (.seq (sO [iM 39 0,iM 40 5,iO 41 (.ixa 7 (.t 39) (.t 40)),iF 42 3 41,iL 43 42,iM 44 1,iV 45 .neq 43 44]
 (.cond (.t 45) (sO [iO 4 (.mov (kI (-1)))]
 (.seq (.keep [4]) .ret))
 (.skip)))
 (sO [iM 46 1,iO 47 (.ari .add (.t 46) (kI 1)),iM 1 47]
 (.seq (sO [iM 48 0,iM 49 5,iO 50 (.ixa 7 (.t 48) (.t 49)),iF 51 4 50,iL 52 51,iM 53 1,iV 54 .neq 52 53]
 (.cond (.t 54) (sO [iO 4 (.mov (kI (-1)))]
 (.seq (.keep [4]) .ret))
 (.skip)))
 (sO [iM 55 1,iO 56 (.ari .add (.t 55) (kI 1)),iM 1 56]
 (.seq (sO [iM 57 0,iM 58 5,iO 59 (.ixa 7 (.t 57) (.t 58)),iF 60 5 59,iL 61 60,iM 62 1,iO 63 (.callr iS [.t 62]),iV 64 .neq 61 63]
 (.cond (.t 64) (sO [iO 4 (.mov (kI (-1)))]
 (.seq (.keep [4]) .ret))
 (.skip)))
 (sO [iM 65 1,iO 66 (.ari .add (.t 65) (kI 1)),iM 1 66]
 (sO [iM 67 0,iM 68 5,iO 69 (.ixa 7 (.t 67) (.t 68)),iF 70 6 69,iL 71 70,iM 72 1,iO 73 (.callr tX [.t 71,.t 72]),iM 1 73]
 (sO [iM 74 1,iE 75 .lss 74 0]
 (.cond (.t 75) (sO [iO 4 (.mov (kI (-1)))]
 (.seq (.keep [4]) .ret))
 (.skip)))))))))))))))))
 (.ops [iM 10 5,iO 11 (.ari .add (.t 10) (kI 1)),iM 5 11]))
def yC:SCode :=
 sO [iO 4 (.mov (kI 0))]
 (.seq (sO [iO 5 (.mov (kI 0))]
 (.block 0 (.loop [0,1,5] jD)))
 (sO [iM 76 1,iM 4 76]
 (.ret)))
def o9:SFn:=⟨2,77,yC,[.t 4]⟩
def i8:SCode :=
 .seq (sO [iM 6 4,iM 7 0,iO 8 (.len (.t 7)),iV 9 .lss 6 8]
 (.cond (.t 9) (.skip)
 (.seq (.keep [3]) (.exit 0))))
 (.seq (.block 1 (.ops [iM 12 3,iM 13 0,iM 14 4,iO 15 (.ixa 4 (.t 13) (.t 14)),iK 16 4 15,iO 17 (.call fC [.t 16]),iO 18 (.lit 4 [.t 17]),iO 19 (.app 4 56 (.t 12) (.t 18)),iM 3 19]))
 (.ops [iM 10 4,iO 11 (.ari .add (.t 10) (kI 1)),iM 4 11]))
def yJ:SCode :=
 sO [iO 2 (.mov (.n 4))]
 (sO [iO 5 (.lit 4 []),iM 3 5]
 (.seq (sO [iO 4 (.mov (kI 0))]
 (.block 0 (.loop [0,3,4] i8)))
 (sO [iM 20 3,iM 2 20]
 (.ret))))
def oP:SFn:=⟨1,21,yJ,[.t 2]⟩
def b9:SCode :=
 .seq (sO [iM 29 5,iF 30 3 4,iL 31 30,iO 32 (.len (.t 31)),iV 33 .lss 29 32]
 (.cond (.t 33) (.skip)
 (.seq (.keep [0,3]) (.exit 2))))
 (.seq (.block 3 (sO [iF 36 3 4,iL 37 36,iM 38 5,iO 39 (.ixa 7 (.t 37) (.t 38)),iK 40 7 39,iO 6 (.alloc [zI,zI,zI,zI,zI,zS,.s 1 []]),iN (.store 7 (.t 6) (.t 40))]
 (.seq (sO [iF 41 0 6,iL 42 41,iE 43 .neq 42 11,iM 44 43,iT 45 44 (.faddr 0 (.t 6)),iT 46 44 (.load none (.t 45)),iT 47 44 (.cmp .neq (.t 46) (kI 14)),iO 48 (.pick (.t 44) (.t 47) (kB false)),iM 49 48,iT 50 49 (.faddr 0 (.t 6)),iT 51 49 (.load none (.t 50)),iT 52 49 (.cmp .neq (.t 51) (kI 24)),iO 53 (.pick (.t 49) (.t 52) (kB false))]
 (.cond (.t 53) (.exit 3)
 (.skip)))
 (sO [iM 54 0,iF 55 5 6,iL 56 55,iO 57 (.callr pT [.t 54,.t 56]),iM 7 57]
 (sO [iM 58 7,iE 59 .lss 58 0,iM 60 59,iU 61 60 (.faddr 0 (.t 6)),iU 62 60 (.load none (.t 61)),iU 63 60 (.cmp .neq (.t 62) (kI 24)),iU 64 60 (.mov (.t 63)),iT 65 64 (.mov (.t 0)),iT 66 64 (.mov (.t 7)),iT 67 64 (.ixa 4 (.t 65) (.t 66)),iT 68 64 (.faddr 1 (.t 67)),iT 69 64 (.load none (.t 68)),iT 70 64 (.faddr 6 (.t 6)),iT 71 64 (.load none (.t 70)),iT 72 64 (.len (.t 71)),iT 73 64 (.cmp .neq (.t 69) (.t 72)),iU 74 60 (.pick (.t 64) (.t 73) (kB false)),iO 75 (.pick (.t 60) (kB true) (.t 74))]
 (.cond (.t 75) (sO [iO 2 (.mov (kB false))]
 (.seq (.keep [2]) .ret))
 (.skip)))))))
 (.ops [iM 34 5,iO 35 (.ari .add (.t 34) (kI 1)),iM 5 35]))
def dO:SCode :=
 .seq (sO [iM 8 3,iM 9 0,iO 10 (.len (.t 9)),iV 11 .lss 8 10]
 (.cond (.t 11) (.skip)
 (.seq (.keep [0]) (.exit 0))))
 (.seq (.block 1 (sO [iM 14 0,iM 15 3,iO 16 (.ixa 4 (.t 14) (.t 15)),iK 17 4 16,iO 4 (.alloc [zS,zI,zI,.s 7 []]),iN (.store 4 (.t 4) (.t 17))]
 (.seq (sO [iK 18 4 4,iO 19 (.callr jP [.t 18]),iO 20 (.not (.t 19)),iM 21 20,iU 22 21 (.mov (.t 0)),iU 23 21 (.faddr 0 (.t 4)),iU 24 21 (.load none (.t 23)),iU 25 21 (.callr pT [.t 22,.t 24]),iU 26 21 (.mov (.t 3)),iU 27 21 (.cmp .neq (.t 25) (.t 26)),iO 28 (.pick (.t 21) (kB true) (.t 27))]
 (.cond (.t 28) (sO [iO 2 (.mov (kB false))]
 (.seq (.keep [2]) .ret))
 (.skip)))
 (sO [iO 5 (.mov (kI 0))]
 (.block 2 (.loop [0,3,4,5] b9))))))
 (.ops [iM 12 3,iO 13 (.ari .add (.t 12) (kI 1)),iM 3 13]))
def A7:SCode :=
 sO [iO 2 (.mov (kB false))]
 (.seq (sO [iO 3 (.mov (kI 0))]
 (.block 0 (.loop [0,3] dO)))
 (sO [iM 76 0,iO 77 (.len (.t 76)),iE 78 .leq 77 80,iM 2 78]
 (.ret)))
def qI:SFn:=⟨1,79,A7,[.t 2]⟩
def cW:SCode :=
 sO [iV 33 .lss 32 31]
 (.seq (.cond (.t 33) (.skip)
 (.seq (.keep [0,11,12,13]) (.exit 2)))
 (.seq (.block 3 (sO [iO 34 (.ixa 7 (.t 30) (.t 32)),iK 35 7 34,iO 6 (.alloc [zI,zI,zI,zI,zI,zS,.s 1 []]),iN (.store 7 (.t 6) (.t 35))]
 (.seq (sO [iF 36 0 6,iL 37 36,iO 38 (.callr cR [.t 37,.c (.int .u8 83)]),iO 39 (.not (.t 38))]
 (.cond (.t 39) (.exit 3)
 (.skip)))
 (sO [iM 40 0,iF 41 5 6,iL 42 41,iO 43 (.callr sA [.t 40,.t 42]),iM 7 43]
 (sO [iM 44 7,iE 45 .lss 44 0,iM 46 45,iU 47 46 (.faddr 0 (.t 6)),iU 48 46 (.load none (.t 47)),iU 49 46 (.cmp .neq (.t 48) (kI 24)),iU 50 46 (.mov (.t 49)),iT 51 50 (.faddr 6 (.t 6)),iT 52 50 (.load none (.t 51)),iT 53 50 (.len (.t 52)),iT 54 50 (.mov (.t 0)),iT 55 50 (.mov (.t 7)),iT 56 50 (.ixa 4 (.t 54) (.t 55)),iT 57 50 (.faddr 1 (.t 56)),iT 58 50 (.load none (.t 57)),iT 59 50 (.cmp .neq (.t 53) (.t 58)),iU 60 46 (.pick (.t 50) (.t 59) (kB false)),iO 61 (.pick (.t 46) (kB true) (.t 60))]
 (.cond (.t 61) (sO [iO 2 (.mov (kB false))]
 (.seq (.keep [2]) .ret))
 (.skip)))))))
 (.ops [iO 62 (.ari .add (.t 32) (kI 1)),iM 32 62])))
def dL:SCode :=
 sO [iV 14 .lss 13 12]
 (.seq (.cond (.t 14) (.skip)
 (.seq (.keep []) (.exit 0)))
 (.seq (.block 1 (sO [iM 15 13,iO 16 (.ixa 4 (.t 11) (.t 13)),iK 17 4 16,iO 4 (.alloc [zS,zI,zI,.s 7 []]),iM 3 15,iN (.store 4 (.t 4) (.t 17))]
 (.seq (sO [iK 18 4 4,iO 19 (.callr jF [.t 18]),iO 20 (.not (.t 19)),iM 21 20,iU 22 21 (.mov (.t 0)),iU 23 21 (.faddr 0 (.t 4)),iU 24 21 (.load none (.t 23)),iU 25 21 (.callr sA [.t 22,.t 24]),iU 26 21 (.mov (.t 3)),iU 27 21 (.cmp .neq (.t 25) (.t 26)),iO 28 (.pick (.t 21) (kB true) (.t 27))]
 (.cond (.t 28) (sO [iO 2 (.mov (kB false))]
 (.seq (.keep [2]) .ret))
 (.skip)))
 (sO [iF 29 3 4,iL 30 29,iO 31 (.len (.t 30)),iO 32 (.mov (kI 0))]
 (.block 2 (.loop [0,11,12,13,30,31,32] cW))))))
 (.ops [iO 63 (.ari .add (.t 13) (kI 1)),iM 13 63])))
def Bv:SCode :=
 sO [iO 2 (.mov (kB false))]
 (.seq (sO [iM 8 0,iO 9 (.len (.t 8)),iE 10 .gtr 9 80]
 (.cond (.t 10) (sO [iO 2 (.mov (kB false))]
 (.ret))
 (.skip)))
 (.seq (sO [iM 11 0,iO 12 (.len (.t 11)),iO 13 (.mov (kI 0))]
 (.block 0 (.loop [0,11,12,13] dL)))
 (sO [iO 2 (.mov (kB true))]
 (.ret))))
def qU:SFn:=⟨1,64,Bv,[.t 2]⟩
def gZ:SCode :=
 sO [iV 10 .lss 9 8]
 (.seq (.cond (.t 10) (.skip)
 (.seq (.keep [3]) (.exit 0)))
 (.seq (.block 1 (sO [iO 11 (.ixa 4 (.t 7) (.t 9)),iK 12 4 11,iO 5 (.alloc [zS,zI,zI,.s 7 []]),iN (.store 4 (.t 5) (.t 12))]
 (.ops [iM 13 3,iK 14 4 5,iO 15 (.call eF [.t 14]),iO 16 (.lit 4 [.t 15]),iO 17 (.app 4 56 (.t 13) (.t 16)),iM 3 17])))
 (.ops [iO 18 (.ari .add (.t 9) (kI 1)),iM 9 18])))
def vQ:SCode :=
 sO [iO 2 (.mov (.n 4))]
 (sO [iO 6 (.lit 4 []),iM 3 6]
 (.seq (sO [iM 7 0,iO 8 (.len (.t 7)),iO 9 (.mov (kI 0))]
 (.block 0 (.loop [3,7,8,9] gZ)))
 (sO [iM 19 3,iM 2 19]
 (.ret))))
def nR:SFn:=⟨1,20,vQ,[.t 2]⟩
def mJ:SCode :=
 .seq (sO [iM 6 0,iE 7 .gtr 6 0]
 (.cond (.t 7) (.skip)
 (.seq (.keep [3]) (.exit 0))))
 (.block 1 (sO [iM 8 0,iO 9 (.ari .rem (.t 8) (kI 10)),iO 10 (.ari .add (kI 48) (.t 9)),iO 11 (.conv .u8 (.t 10)),iO 12 (.lit 1 [.t 11]),iO 13 (.sob (.t 12)),iM 14 3,iO 15 (.cat (.t 13) (.t 14)),iM 3 15]
 (.ops [iM 16 0,iO 17 (.ari .quo (.t 16) (kI 10)),iM 0 17])))
def xV:SCode :=
 sO [iO 2 (.mov (.c (.string ⟨#[]⟩)))]
 (.seq (sO [iM 4 0,iE 5 .leq 4 0]
 (.cond (.t 5) (sO [iO 2 (.mov (.c (.string ⟨#[109,48]⟩)))]
 (.ret))
 (.skip)))
 (sO [iO 3 (.mov (.c (.string ⟨#[]⟩)))]
 (.seq (.block 0 (.loop [0,3] mJ))
 (sO [iM 18 3,iO 19 (.cat (.c (.string ⟨#[109]⟩)) (.t 18)),iM 2 19]
 (.ret)))))
def pA:SFn:=⟨1,20,xV,[.t 2]⟩
def lO:SCode :=
 .seq (sO [iM 29 4,iM 30 3,iV 31 .lss 29 30]
 (.cond (.t 31) (.skip)
 (.seq (.keep [1,3]) (.exit 0))))
 (.seq (.block 1 (sO [iF 34 3 1,iL 35 34,iM 36 4,iO 37 (.ixa 7 (.t 35) (.t 36)),iK 38 7 37,iO 5 (.alloc [zI,zI,zI,zI,zI,zS,.s 1 []]),iN (.store 7 (.t 5) (.t 38))]
 (.seq (sO [iK 39 7 5,iF 40 2 1,iL 41 40,iO 42 (.callr tQ [.t 39,.t 41]),iO 43 (.not (.t 42))]
 (.cond (.t 43) (sO [iO 2 (.mov (kB false))]
 (.seq (.keep [2]) .ret))
 (.skip)))
 (sO [iF 44 3 1,iL 45 44,iF 46 4 5,iL 47 46,iO 48 (.callr iI [.t 45,.t 47]),iM 6 48]
 (sO [iF 49 0 5,iL 50 49,iE 51 .eql 50 8,iM 52 51,iT 53 52 (.mov (.t 6)),iT 54 52 (.mov (.t 4)),iT 55 52 (.cmp .neq (.t 53) (.t 54)),iT 56 52 (.mov (.t 55)),iU 57 56 (.faddr 4 (.t 5)),iU 58 56 (.load none (.t 57)),iU 59 56 (.callr dX [.t 58,.c (.int .i64 0),.c (.int .i64 900)]),iU 60 56 (.not (.t 59)),iT 61 52 (.pick (.t 56) (kB true) (.t 60)),iO 62 (.pick (.t 52) (.t 61) (kB false)),iM 63 62,iU 64 63 (.faddr 0 (.t 5)),iU 65 63 (.load none (.t 64)),iU 66 63 (.cmp .eql (.t 65) (kI 9)),iU 67 63 (.mov (.t 66)),iU 68 67 (.faddr 0 (.t 5)),iU 69 67 (.load none (.t 68)),iU 70 67 (.cmp .eql (.t 69) (kI 10)),iU 71 63 (.pick (.t 67) (kB true) (.t 70)),iU 72 63 (.mov (.t 71)),iT 73 72 (.mov (.t 6)),iT 74 72 (.cmp .lss (.t 73) (kI 0)),iU 75 63 (.pick (.t 72) (.t 74) (kB false)),iO 76 (.pick (.t 63) (kB true) (.t 75))]
 (.cond (.t 76) (sO [iO 2 (.mov (kB false))]
 (.seq (.keep [2]) .ret))
 (.skip)))))))
 (.ops [iM 32 4,iO 33 (.ari .add (.t 32) (kI 1)),iM 4 33]))
def C7:SCode :=
 sO [iO 1 (.vbox 4 (.t 0)),iO 2 (.mov (kB false))]
 (sO [iF 8 3 1,iL 9 8,iO 10 (.len (.t 9)),iM 3 10]
 (.seq (sO [iF 11 2 1,iL 12 11,iO 13 (.callr dX [.t 12,.c (.int .i64 0),.c (.int .i64 250)]),iO 14 (.not (.t 13)),iM 15 14,iU 16 15 (.faddr 1 (.t 1)),iU 17 15 (.load none (.t 16)),iU 18 15 (.faddr 2 (.t 1)),iU 19 15 (.load none (.t 18)),iU 20 15 (.callr Dy [.c (.int .i64 4),.t 19]),iU 21 15 (.callr dX [.t 17,.c (.int .i64 0),.t 20]),iU 22 15 (.not (.t 21)),iO 23 (.pick (.t 15) (kB true) (.t 22)),iM 24 23,iU 25 24 (.mov (.t 3)),iU 26 24 (.callr dX [.t 25,.c (.int .i64 1),.c (.int .i64 900)]),iU 27 24 (.not (.t 26)),iO 28 (.pick (.t 24) (kB true) (.t 27))]
 (.cond (.t 28) (sO [iO 2 (.mov (kB false))]
 (.ret))
 (.skip)))
 (.seq (sO [iO 4 (.mov (kI 0))]
 (.block 0 (.loop [1,3,4] lO)))
 (sO [iF 77 3 1,iL 78 77,iM 79 3,iO 80 (.ari .sub (.t 79) (kI 1)),iO 81 (.ixa 7 (.t 78) (.t 80)),iF 82 0 81,iL 83 82,iM 7 83]
 (sO [iM 84 7,iE 85 .eql 84 12,iM 86 85,iU 87 86 (.mov (.t 7)),iU 88 86 (.cmp .eql (.t 87) (kI 9)),iO 89 (.pick (.t 86) (kB true) (.t 88)),iM 90 89,iU 91 90 (.mov (.t 7)),iU 92 90 (.cmp .eql (.t 91) (kI 28)),iO 93 (.pick (.t 90) (kB true) (.t 92)),iM 2 93]
 (.ret))))))
def tK:SFn:=⟨1,94,C7,[.t 2]⟩
def lN:SCode :=
 sO [iV 29 .lss 28 27]
 (.seq (.cond (.t 29) (.skip)
 (.seq (.keep [1]) (.exit 0)))
 (.seq (.block 1 (sO [iM 30 28,iO 31 (.ixa 7 (.t 26) (.t 28)),iK 32 7 31,iO 4 (.alloc [zI,zI,zI,zI,zI,zS,.s 1 []]),iM 3 30,iN (.store 7 (.t 4) (.t 32))]
 (.block 2 (sO [iK 34 7 4,iF 35 2 1,iL 36 35,iO 37 (.callr Em [.t 34,.t 36]),iO 38 (.not (.t 37)),iM 33 38]
 (.cond (.t 33) (sO [iO 2 (.mov (kB false))]
 (.seq (.keep [2]) .ret))
 (sO [iF 40 0 4,iL 41 40,iE 42 .eql 41 8,iM 43 42,iT 44 43 (.faddr 4 (.t 4)),iT 45 43 (.load none (.t 44)),iT 46 43 (.callr cX [.t 45,.c (.int .i64 0),.c (.int .i64 900)]),iT 47 43 (.not (.t 46)),iT 48 43 (.mov (.t 47)),iU 49 48 (.faddr 3 (.t 1)),iU 50 48 (.load none (.t 49)),iU 51 48 (.faddr 4 (.t 4)),iU 52 48 (.load none (.t 51)),iU 53 48 (.callr jZ [.t 50,.t 52]),iU 54 48 (.mov (.t 3)),iU 55 48 (.cmp .neq (.t 53) (.t 54)),iT 56 43 (.pick (.t 48) (kB true) (.t 55)),iO 57 (.pick (.t 43) (.t 56) (kB false)),iM 39 57]
 (.cond (.t 39) (sO [iO 2 (.mov (kB false))]
 (.seq (.keep [2]) .ret))
 (sO [iF 59 0 4,iL 60 59,iE 61 .eql 60 9,iM 62 61,iU 63 62 (.faddr 0 (.t 4)),iU 64 62 (.load none (.t 63)),iU 65 62 (.cmp .eql (.t 64) (kI 10)),iO 66 (.pick (.t 62) (kB true) (.t 65)),iM 67 66,iT 68 67 (.faddr 3 (.t 1)),iT 69 67 (.load none (.t 68)),iT 70 67 (.faddr 4 (.t 4)),iT 71 67 (.load none (.t 70)),iT 72 67 (.callr jZ [.t 69,.t 71]),iT 73 67 (.cmp .lss (.t 72) (kI 0)),iO 74 (.pick (.t 67) (.t 73) (kB false)),iM 58 74]
 (.cond (.t 58) (sO [iO 2 (.mov (kB false))]
 (.seq (.keep [2]) .ret))
 (.skip))))))))))
 (.ops [iO 75 (.ari .add (.t 28) (kI 1)),iM 28 75])))
def Ds:SCode :=
 sO [iO 1 (.vbox 4 (.t 0)),iO 2 (.mov (kB false))]
 (.seq (sO [iF 5 2 1,iL 6 5,iO 7 (.callr cX [.t 6,.c (.int .i64 0),.c (.int .i64 250)]),iO 8 (.not (.t 7)),iM 9 8,iU 10 9 (.faddr 1 (.t 1)),iU 11 9 (.load none (.t 10)),iU 12 9 (.faddr 2 (.t 1)),iU 13 9 (.load none (.t 12)),iU 14 9 (.mm false (kI 4) (.t 13)),iU 15 9 (.callr cX [.t 11,.c (.int .i64 0),.t 14]),iU 16 9 (.not (.t 15)),iO 17 (.pick (.t 9) (kB true) (.t 16)),iM 18 17,iU 19 18 (.faddr 3 (.t 1)),iU 20 18 (.load none (.t 19)),iU 21 18 (.len (.t 20)),iU 22 18 (.callr cX [.t 21,.c (.int .i64 1),.c (.int .i64 900)]),iU 23 18 (.not (.t 22)),iO 24 (.pick (.t 18) (kB true) (.t 23))]
 (.cond (.t 24) (sO [iO 2 (.mov (kB false))]
 (.ret))
 (.skip)))
 (.seq (sO [iF 25 3 1,iL 26 25,iO 27 (.len (.t 26)),iO 28 (.mov (kI 0))]
 (.block 0 (.loop [1,26,27,28] lN)))
 (sO [iF 76 3 1,iL 77 76,iF 78 3 1,iL 79 78,iO 80 (.len (.t 79)),iO 81 (.ari .sub (.t 80) (kI 1)),iO 82 (.ixa 7 (.t 77) (.t 81)),iF 83 0 82,iL 84 83,iO 85 (.callr pX [.t 84]),iM 2 85]
 (.ret))))
def tJ:SFn:=⟨1,86,Ds,[.t 2]⟩
def cB:SCode :=
 sO [iO 4 (.mov (kB false))]
 (sO [iM 5 0,iM 6 1,iO 7 (.calli (.f aZ) [.t 5,.t 6]),iE 8 .geq 7 0,iM 4 8]
 (.ret))
def cC:SFn:=⟨2,9,cB,[.t 4]⟩
def bB:SCode :=
 sO [iV 9 .lss 8 7]
 (.seq (.cond (.t 9) (.skip)
 (.seq (.keep []) (.exit 0)))
 (.seq (.block 1 (sO [iM 10 8,iM 5 10]
 (sO [iM 11 1,iM 12 0,iM 13 5,iO 14 (.ixa 4 (.t 12) (.t 13)),iK 15 4 14,iO 16 (.calli (.t 11) [.t 15])]
 (.cond (.t 16) (sO [iM 17 5,iM 4 17]
 (.seq (.keep [4]) .ret))
 (.skip)))))
 (.ops [iO 18 (.ari .add (.t 8) (kI 1)),iM 8 18])))
def dT:SCode :=
 sO [iO 4 (.mov (kI 0))]
 (.seq (sO [iM 6 0,iO 7 (.len (.t 6)),iO 8 (.mov (kI 0))]
 (.block 0 (.loop [0,1,7,8] bB)))
 (sO [iO 4 (.mov (kI (-1)))]
 (.ret)))
def cI:SFn:=⟨2,19,dT,[.t 4]⟩
def yQ:SCode :=
 sO [iO 2 (.vbox 4 (.t 0)),iO 3 (.mov (kB false))]
 (sO [iF 4 0 2,iL 5 4,iL 6 1,iV 7 .eql 5 6,iM 3 7]
 (.ret))
def oV:SFn:=⟨2,8,yQ,[.t 3]⟩
def Fw:SCode :=
 sO [iO 2 (.vbox 7 (.t 0)),iO 4 (.mov (kI 0))]
 (sO [iM 5 1,iF 6 5 2,iL 7 6,iO 8 (.slen (.t 7)),iO 9 (.ari .sub (.t 5) (.t 8)),iM 1 9]
 (.seq (sO [iM 10 1,iE 11 .lss 10 0]
 (.cond (.t 11) (sO [iO 4 (.mov (kI (-1)))]
 (.ret))
 (.skip)))
 (sO [iF 12 6 2,iL 13 12,iM 14 1,iO 15 (.callr By [.t 13,.t 14]),iM 1 15]
 (.seq (sO [iM 16 1,iE 17 .lss 16 0]
 (.cond (.t 17) (sO [iO 4 (.mov (kI (-1)))]
 (.ret))
 (.skip)))
 (sO [iM 18 1,iM 4 18]
 (.ret))))))
def wY:SFn:=⟨2,19,Fw,[.t 4]⟩
def kC:SCode :=
 .seq (sO [iM 6 4,iM 7 0,iO 8 (.len (.t 7)),iV 9 .lss 6 8]
 (.cond (.t 9) (.skip)
 (.seq (.keep [3]) (.exit 0))))
 (.seq (.block 1 (.ops [iM 12 3,iM 13 0,iM 14 4,iO 15 (.ixa 7 (.t 13) (.t 14)),iK 16 7 15,iO 17 (.call rU [.t 16]),iO 18 (.lit 7 [.t 17]),iO 19 (.app 7 80 (.t 12) (.t 18)),iM 3 19]))
 (.ops [iM 10 4,iO 11 (.ari .add (.t 10) (kI 1)),iM 4 11]))
def A4:SCode :=
 sO [iO 2 (.mov (.n 7))]
 (sO [iO 5 (.lit 7 []),iM 3 5]
 (.seq (sO [iO 4 (.mov (kI 0))]
 (.block 0 (.loop [0,3,4] kC)))
 (sO [iM 20 3,iM 2 20]
 (.ret))))
def qL:SFn:=⟨1,21,A4,[.t 2]⟩
def bK:SCode :=
 .seq (sO [iM 13 5,iM 14 0,iO 15 (.len (.t 14)),iV 16 .lss 13 15]
 (.cond (.t 16) (.skip)
 (.seq (.keep [3]) (.exit 0))))
 (.seq (.block 1 (sO [iM 19 0,iM 20 5,iO 21 (.ixa 7 (.t 19) (.t 20)),iK 22 7 21,iO 6 (.alloc [zI,zI,zI,zI,zI,zS,.s 1 []]),iN (.store 7 (.t 6) (.t 22))]
 (.seq (sO [iF 23 0 6,iL 24 23,iE 25 .eql 24 8]
 (.cond (.t 25) (.ops [iO 4 (.mov (kB false))])
 (.skip)))
 (.seq (sO [iM 26 4,iO 27 (.not (.t 26))]
 (.cond (.t 27) (.ops [iM 28 3,iK 29 7 6,iO 30 (.lit 7 [.t 29]),iO 31 (.app 7 80 (.t 28) (.t 30)),iM 3 31])
 (.skip)))
 (sO [iF 32 0 6,iL 33 32,iE 34 .eql 33 9,iM 35 34,iU 36 35 (.faddr 0 (.t 6)),iU 37 35 (.load none (.t 36)),iU 38 35 (.cmp .eql (.t 37) (kI 12)),iO 39 (.pick (.t 35) (kB true) (.t 38)),iM 40 39,iU 41 40 (.faddr 0 (.t 6)),iU 42 40 (.load none (.t 41)),iU 43 40 (.cmp .eql (.t 42) (kI 28)),iO 44 (.pick (.t 40) (kB true) (.t 43))]
 (.cond (.t 44) (.ops [iO 4 (.mov (kB true))])
 (.skip)))))))
 (.ops [iM 17 5,iO 18 (.ari .add (.t 17) (kI 1)),iM 5 18]))
def bP:SCode :=
 .seq (sO [iM 46 8,iM 47 3,iO 48 (.len (.t 47)),iV 49 .lss 46 48]
 (.cond (.t 49) (.skip)
 (.seq (.keep [7]) (.exit 2))))
 (.seq (.block 3 (sO [iM 52 3,iM 53 8,iO 54 (.ixa 7 (.t 52) (.t 53)),iK 55 7 54,iO 9 (.alloc [zI,zI,zI,zI,zI,zS,.s 1 []]),iN (.store 7 (.t 9) (.t 55))]
 (.seq (sO [iF 56 0 9,iL 57 56,iE 58 .eql 57 9,iM 59 58,iT 60 59 (.mov (.t 8)),iT 61 59 (.ari .add (.t 60) (kI 1)),iT 62 59 (.mov (.t 3)),iT 63 59 (.len (.t 62)),iT 64 59 (.cmp .lss (.t 61) (.t 63)),iO 65 (.pick (.t 59) (.t 64) (kB false)),iM 66 65,iT 67 66 (.mov (.t 3)),iT 68 66 (.mov (.t 8)),iT 69 66 (.ari .add (.t 68) (kI 1)),iT 70 66 (.ixa 7 (.t 67) (.t 69)),iT 71 66 (.faddr 0 (.t 70)),iT 72 66 (.load none (.t 71)),iT 73 66 (.cmp .eql (.t 72) (kI 8)),iO 74 (.pick (.t 66) (.t 73) (kB false)),iM 75 74,iT 76 75 (.mov (.t 3)),iT 77 75 (.mov (.t 8)),iT 78 75 (.ari .add (.t 77) (kI 1)),iT 79 75 (.ixa 7 (.t 76) (.t 78)),iT 80 75 (.faddr 4 (.t 79)),iT 81 75 (.load none (.t 80)),iT 82 75 (.faddr 4 (.t 9)),iT 83 75 (.load none (.t 82)),iT 84 75 (.cmp .eql (.t 81) (.t 83)),iO 85 (.pick (.t 75) (.t 84) (kB false))]
 (.cond (.t 85) (.exit 3)
 (.skip)))
 (.ops [iM 86 7,iK 87 7 9,iO 88 (.lit 7 [.t 87]),iO 89 (.app 7 80 (.t 86) (.t 88)),iM 7 89]))))
 (.ops [iM 50 8,iO 51 (.ari .add (.t 50) (kI 1)),iM 8 51]))
def bL:SCode :=
 .seq (sO [iM 91 11,iM 92 7,iO 93 (.len (.t 92)),iV 94 .lss 91 93]
 (.cond (.t 94) (.skip)
 (.seq (.keep [10]) (.exit 4))))
 (.seq (.block 5 (sO [iM 97 7,iM 98 11,iO 99 (.ixa 7 (.t 97) (.t 98)),iF 100 0 99,iL 101 100,iE 102 .neq 101 8,iM 103 102,iU 104 103 (.mov (.t 7)),iU 105 103 (.mov (.t 7)),iU 106 103 (.mov (.t 11)),iU 107 103 (.ixa 7 (.t 105) (.t 106)),iU 108 103 (.faddr 4 (.t 107)),iU 109 103 (.load none (.t 108)),iU 110 103 (.callr w6 [.t 104,.t 109]),iO 111 (.pick (.t 103) (kB true) (.t 110))]
 (.cond (.t 111) (.ops [iM 112 10,iM 113 7,iM 114 11,iO 115 (.ixa 7 (.t 113) (.t 114)),iK 116 7 115,iO 117 (.lit 7 [.t 116]),iO 118 (.app 7 80 (.t 112) (.t 117)),iM 10 118])
 (.skip))))
 (.ops [iM 95 11,iO 96 (.ari .add (.t 95) (kI 1)),iM 11 96]))
def qH:SCode :=
 sO [iO 2 (.mov (.n 7))]
 (sO [iO 12 (.lit 7 []),iM 3 12]
 (sO [iO 4 (.mov (kB false))]
 (.seq (sO [iO 5 (.mov (kI 0))]
 (.block 0 (.loop [0,3,4,5] bK)))
 (sO [iO 45 (.lit 7 []),iM 7 45]
 (.seq (sO [iO 8 (.mov (kI 0))]
 (.block 2 (.loop [3,7,8] bP)))
 (sO [iO 90 (.lit 7 []),iM 10 90]
 (.seq (sO [iO 11 (.mov (kI 0))]
 (.block 4 (.loop [7,10,11] bL)))
 (sO [iM 119 10,iM 2 119]
 (.ret)))))))))
def rQ:SFn:=⟨1,120,qH,[.t 2]⟩
def B0:SCode :=
 sO [iO 2 (.mov (kB false))]
 (sO [iM 4 0,iO 5 (.len (.t 4)),iM 3 5]
 (sO [iM 6 3,iE 7 .gtr 6 0,iM 8 7,iT 9 8 (.mov (.t 0)),iT 10 8 (.mov (.t 3)),iT 11 8 (.ari .sub (.t 10) (kI 1)),iT 12 8 (.ixa 7 (.t 9) (.t 11)),iT 13 8 (.faddr 0 (.t 12)),iT 14 8 (.load none (.t 13)),iT 15 8 (.cmp .eql (.t 14) (kI 12)),iT 16 8 (.mov (.t 15)),iU 17 16 (.mov (.t 0)),iU 18 16 (.mov (.t 3)),iU 19 16 (.ari .sub (.t 18) (kI 1)),iU 20 16 (.ixa 7 (.t 17) (.t 19)),iU 21 16 (.faddr 0 (.t 20)),iU 22 16 (.load none (.t 21)),iU 23 16 (.cmp .eql (.t 22) (kI 9)),iT 24 8 (.pick (.t 16) (kB true) (.t 23)),iT 25 8 (.mov (.t 24)),iU 26 25 (.mov (.t 0)),iU 27 25 (.mov (.t 3)),iU 28 25 (.ari .sub (.t 27) (kI 1)),iU 29 25 (.ixa 7 (.t 26) (.t 28)),iU 30 25 (.faddr 0 (.t 29)),iU 31 25 (.load none (.t 30)),iU 32 25 (.cmp .eql (.t 31) (kI 28)),iT 33 8 (.pick (.t 25) (kB true) (.t 32)),iO 34 (.pick (.t 8) (.t 33) (kB false)),iM 2 34]
 (.ret)))
def p6:SFn:=⟨1,35,B0,[.t 2]⟩
def lT:SCode :=
 .seq (sO [iM 18 6,iM 19 3,iV 20 .lss 18 19]
 (.cond (.t 20) (.skip)
 (.seq (.keep [1,3,4,5]) (.exit 0))))
 (.seq (.block 1 (sO [iM 23 4,iF 24 2 1,iL 25 24,iO 26 (.mk 1 1 [.v (.bool false)] (.t 25)),iO 27 (.lit 1 [.t 26]),iO 28 (.app 1 24 (.t 23) (.t 27)),iM 4 28]
 (.ops [iM 29 5,iK 30 4 1,iM 31 6,iO 32 (.call wM [.t 30,.t 31]),iO 33 (.lit 1 [.t 32]),iO 34 (.app 1 24 (.t 29) (.t 33)),iM 5 34])))
 (.ops [iM 21 6,iO 22 (.ari .add (.t 21) (kI 1)),iM 6 22]))
def lR:SCode :=
 .seq (sO [iM 68 12,iF 69 2 1,iL 70 69,iV 71 .lss 68 70]
 (.cond (.t 71) (.skip)
 (.seq (.keep [1,3,4,5,7,8,9]) (.exit 8))))
 (.seq (.block 9 (sO [iM 74 11,iM 75 12,iO 76 (.ixa 1 (.t 74) (.t 75)),iL 77 76,iM 78 77,iT 79 78 (.mov (.t 4)),iT 80 78 (.mov (.t 8)),iT 81 78 (.ixa 1 (.t 79) (.t 80)),iT 82 78 (.load none (.t 81)),iT 83 78 (.mov (.t 12)),iT 84 78 (.ixa 1 (.t 82) (.t 83)),iT 85 78 (.load none (.t 84)),iT 86 78 (.not (.t 85)),iO 87 (.pick (.t 78) (.t 86) (kB false))]
 (.cond (.t 87) (sO [iM 88 4,iM 89 8,iO 90 (.ixa 1 (.t 88) (.t 89)),iL 91 90,iM 92 12,iO 93 (.ixa 1 (.t 91) (.t 92)),iN (.store 1 (.t 93) (kB true))]
 (.ops [iO 7 (.mov (kB true))]))
 (.skip))))
 (.ops [iM 72 12,iO 73 (.ari .add (.t 72) (kI 1)),iM 12 73]))
def lM:SCode :=
 .seq (sO [iM 42 9,iM 43 5,iM 44 8,iO 45 (.ixa 1 (.t 43) (.t 44)),iL 46 45,iO 47 (.len (.t 46)),iV 48 .lss 42 47]
 (.cond (.t 48) (.skip)
 (.seq (.keep [1,3,4,5,7,8]) (.exit 6))))
 (.seq (.block 7 (sO [iM 51 5,iM 52 8,iO 53 (.ixa 1 (.t 51) (.t 52)),iL 54 53,iM 55 9,iO 56 (.ixa 1 (.t 54) (.t 55)),iL 57 56,iM 10 57]
 (sO [iF 58 3 1,iL 59 58,iM 60 10,iO 61 (.ixa 7 (.t 59) (.t 60)),iK 62 7 61,iM 63 4,iM 64 10,iO 65 (.ixa 1 (.t 63) (.t 64)),iL 66 65,iO 67 (.callr Dw [.t 62,.t 66]),iM 11 67]
 (sO [iO 12 (.mov (kI 0))]
 (.block 8 (.loop [1,3,4,5,7,8,9,11,12] lR))))))
 (.ops [iM 49 9,iO 50 (.ari .add (.t 49) (kI 1)),iM 9 50]))
def lK:SCode :=
 .seq (sO [iM 38 8,iE 39 .geq 38 0]
 (.cond (.t 39) (.skip)
 (.seq (.keep [1,3,4,5,7]) (.exit 4))))
 (.seq (.block 5 (sO [iO 9 (.mov (kI 0))]
 (.block 6 (.loop [1,3,4,5,7,8,9] lM))))
 (.ops [iM 40 8,iO 41 (.ari .sub (.t 40) (kI 1)),iM 8 41]))
def eW:SCode :=
 .seq (sO [iM 35 7]
 (.cond (.t 35) (.skip)
 (.seq (.keep [4]) (.exit 2))))
 (.block 3 (sO [iO 7 (.mov (kB false))]
 (sO [iM 36 3,iO 37 (.ari .sub (.t 36) (kI 1)),iM 8 37]
 (.block 4 (.loop [1,3,4,5,7,8] lK)))))
def Dj:SCode :=
 sO [iO 1 (.vbox 4 (.t 0)),iO 2 (.mov (.n 1))]
 (sO [iF 13 3 1,iL 14 13,iO 15 (.len (.t 14)),iM 3 15]
 (sO [iO 16 (.lit 1 []),iM 4 16]
 (sO [iO 17 (.lit 1 []),iM 5 17]
 (.seq (sO [iO 6 (.mov (kI 0))]
 (.block 0 (.loop [1,3,4,5,6] lT)))
 (.seq (sO [iO 7 (.mov (kB true))]
 (.block 2 (.loop [1,3,4,5,7] eW)))
 (sO [iM 94 4,iM 2 94]
 (.ret)))))))
def tG:SFn:=⟨1,95,Dj,[.t 2]⟩
def Am:SCode :=
 sO [iO 2 (.mov (kB false))]
 (sO [iM 3 0,iO 4 (.callr dX [.t 3,.c (.int .i64 1),.c (.int .i64 7)]),iM 5 4,iU 6 5 (.mov (.t 0)),iU 7 5 (.cmp .eql (.t 6) (kI 23)),iO 8 (.pick (.t 5) (kB true) (.t 7)),iM 9 8,iU 10 9 (.mov (.t 0)),iU 11 9 (.cmp .eql (.t 10) (kI 24)),iO 12 (.pick (.t 9) (kB true) (.t 11)),iM 2 12]
 (.ret))
def rM:SFn:=⟨1,13,Am,[.t 2]⟩
def j8:SCode :=
 .seq (sO [iM 6 4,iM 7 0,iV 8 .lss 6 7]
 (.cond (.t 8) (.skip)
 (.seq (.keep [3]) (.exit 0))))
 (.seq (.block 1 (.ops [iM 11 3,iO 12 (.lit 1 [.c (.int .i64 (-1))]),iO 13 (.app 1 8 (.t 11) (.t 12)),iM 3 13]))
 (.ops [iM 9 4,iO 10 (.ari .add (.t 9) (kI 1)),iM 4 10]))
def zT:SCode :=
 sO [iO 2 (.mov (.n 1))]
 (sO [iO 5 (.lit 1 []),iM 3 5]
 (.seq (sO [iO 4 (.mov (kI 0))]
 (.block 0 (.loop [0,3,4] j8)))
 (sO [iM 14 3,iM 2 14]
 (.ret))))
def rA:SFn:=⟨1,15,zT,[.t 2]⟩
def bA:SCode :=
 .seq (sO [iM 31 6,iF 32 6 2,iL 33 32,iO 34 (.len (.t 33)),iV 35 .lss 31 34,iM 36 35,iT 37 36 (.mov (.t 5)),iT 38 36 (.ari .and (.t 37) (kI 32)),iT 39 36 (.cmp .neq (.t 38) (kI 0)),iO 40 (.pick (.t 36) (.t 39) (kB false))]
 (.cond (.t 40) (.skip)
 (.seq (.keep [2,4]) (.exit 0))))
 (.seq (.block 1 (sO [iF 43 0 2,iL 44 43,iE 45 .neq 44 19,iM 46 45,iU 47 46 (.mov (.t 6)),iU 48 46 (.ari .rem (.t 47) (kI 3)),iU 49 46 (.cmp .eql (.t 48) (kI 1)),iO 50 (.pick (.t 46) (kB true) (.t 49)),iM 51 50,iU 52 51 (.mov (.t 6)),iU 53 51 (.ari .rem (.t 52) (kI 3)),iU 54 51 (.cmp .eql (.t 53) (kI 2)),iU 55 51 (.mov (.t 54)),iT 56 55 (.faddr 6 (.t 2)),iT 57 55 (.load none (.t 56)),iT 58 55 (.mov (.t 6)),iT 59 55 (.ari .sub (.t 58) (kI 2)),iT 60 55 (.ixa 1 (.t 57) (.t 59)),iT 61 55 (.load none (.t 60)),iT 62 55 (.cmp .eql (.t 61) (kI 2)),iU 63 51 (.pick (.t 55) (.t 62) (kB false)),iO 64 (.pick (.t 51) (kB true) (.t 63))]
 (.cond (.t 64) (.ops [iF 65 6 2,iL 66 65,iM 67 6,iM 68 1,iF 69 6 2,iL 70 69,iM 71 6,iO 72 (.ixa 1 (.t 70) (.t 71)),iL 73 72,iO 74 (.callr p5 [.t 68,.t 73]),iO 75 (.ixa 1 (.t 66) (.t 67)),iN (.store 1 (.t 75) (.t 74))])
 (.skip))))
 (.ops [iM 41 6,iO 42 (.ari .add (.t 41) (kI 1)),iM 6 42]))
def x8:SCode :=
 sO [iO 2 (.box 7 (.t 0)),iO 4 (.alloc [zI,zI,zI,zI,zI,zS,.s 1 []])]
 (sO [iF 7 0 2,iL 8 7,iO 9 (.callr l7 [.t 8]),iM 5 9]
 (.seq (sO [iM 10 5,iO 11 (.ari .and (.t 10) (kI 2)),iE 12 .neq 11 0]
 (.cond (.t 12) (.ops [iM 13 1,iF 14 2 2,iL 15 14,iO 16 (.callr p5 [.t 13,.t 15]),iF 17 2 2,iN (.store 1 (.t 17) (.t 16))])
 (.skip)))
 (.seq (sO [iM 18 5,iO 19 (.ari .and (.t 18) (kI 4)),iE 20 .neq 19 0,iM 21 20,iT 22 21 (.faddr 0 (.t 2)),iT 23 21 (.load none (.t 22)),iT 24 21 (.cmp .neq (.t 23) (kI 19)),iO 25 (.pick (.t 21) (.t 24) (kB false))]
 (.cond (.t 25) (.ops [iM 26 1,iF 27 3 2,iL 28 27,iO 29 (.callr p5 [.t 26,.t 28]),iF 30 3 2,iN (.store 1 (.t 30) (.t 29))])
 (.skip)))
 (.seq (sO [iO 6 (.mov (kI 0))]
 (.block 0 (.loop [1,2,4,5,6] bA)))
 (sO [iK 76 7 2,iN (.store 7 (.t 4) (.t 76))]
 (.ret))))))
def oR:SFn:=⟨2,77,x8,[.c 4 (some 7)]⟩
def Aw:SCode :=
 sO [iO 1 (.vbox 7 (.t 0)),iO 2 (.mov (.n 1))]
 (sO [iO 4 (.lit 1 []),iM 3 4]
 (.seq (sO [iF 5 0 1,iL 6 5,iO 7 (.callr l7 [.t 6]),iO 8 (.ari .and (.t 7) (kI 1)),iE 9 .neq 8 0]
 (.cond (.t 9) (.ops [iM 10 3,iF 11 1 1,iL 12 11,iO 13 (.lit 1 [.t 12]),iO 14 (.app 1 8 (.t 10) (.t 13)),iM 3 14])
 (.skip)))
 (.seq (sO [iF 15 0 1,iL 16 15,iE 17 .eql 16 19]
 (.cond (.t 17) (.ops [iM 18 3,iF 19 3 1,iL 20 19,iO 21 (.lit 1 [.t 20]),iO 22 (.app 1 8 (.t 18) (.t 21)),iM 3 22])
 (.skip)))
 (sO [iM 23 3,iM 2 23]
 (.ret)))))
def A9:SFn:=⟨1,24,Aw,[.t 2]⟩
def pB:SCode :=
 sO [iO 3 (.vbox 7 (.t 1)),iO 4 (.alloc [zI,zI,zI,zI,zI,zS,.s 1 []]),iO 5 (.mov (kB false))]
 (.seq (sO [iF 8 0 3,iL 9 8]
 (.block 0 (sO [iE 11 .eql 9 1,iM 10 11]
 (.cond (.t 10) (sO [iM 12 0,iF 13 1 3,iL 14 13,iF 15 4 3,iL 16 15,iO 17 (.callb lE [.t 12,.t 14,.t 16] [true,false,false])]
 (sO [iK 18 7 3,iN (.store 7 (.t 4) (.t 18)),iO 5 (.mov (kB true))]
 (.ret)))
 (sO [iE 20 .eql 9 2,iM 19 20]
 (.cond (.t 19) (sO [iM 21 0,iO 22 (.nck (.t 21)),iF 23 0 22,iL 24 23,iF 25 2 3,iL 26 25,iO 27 (.ixa 1 (.t 24) (.t 26)),iL 28 27]
 (.cond (.t 28) (sO [iM 29 0,iO 30 (.nck (.t 29)),iF 31 1 30,iL 32 31,iF 33 2 3,iL 34 33,iO 35 (.ixa 1 (.t 32) (.t 34)),iL 36 35,iM 6 36]
 (sO [iM 37 0,iF 38 1 3,iL 39 38,iM 40 6,iO 41 (.callb lE [.t 37,.t 39,.t 40] [true,false,false])]
 (sO [iF 42 1 3,iL 43 42,iM 44 6,iO 45 (.build [zI,zI,zI,zI,zI,zS,.s 1 []] [(0,1,.c (.int .i64 1)),(1,1,.t 43),(4,1,.t 44)]),iN (.store 7 (.t 4) (.t 45)),iO 5 (.mov (kB true))]
 (.ret))))
 (.skip)))
 (.seq (sO [iE 47 .eql 9 3,iM 46 47]
 (.cond (.t 46) (.skip)
 (sO [iE 48 .eql 9 4,iM 46 48]
 (.cond (.t 46) (.skip)
 (sO [iE 49 .eql 9 5,iM 46 49]
 (.cond (.t 46) (.skip)
 (sO [iE 50 .eql 9 6,iM 46 50]
 (.cond (.t 46) (.skip)
 (.ops [iE 51 .eql 9 7,iM 46 51])))))))))
 (.cond (.t 46) (sO [iM 52 0,iO 53 (.nck (.t 52)),iF 54 0 53,iL 55 54,iF 56 2 3,iL 57 56,iO 58 (.ixa 1 (.t 55) (.t 57)),iL 59 58,iM 60 59,iT 61 60 (.mov (.t 0)),iT 62 60 (.nck (.t 61)),iT 63 60 (.faddr 0 (.t 62)),iT 64 60 (.load none (.t 63)),iT 65 60 (.faddr 3 (.t 3)),iT 66 60 (.load none (.t 65)),iT 67 60 (.ixa 1 (.t 64) (.t 66)),iT 68 60 (.load none (.t 67)),iO 69 (.pick (.t 60) (.t 68) (kB false))]
 (.cond (.t 69) (sO [iF 70 0 3,iL 71 70,iO 72 (.ari .add (kI 3) (.t 71)),iO 73 (.ari .sub (.t 72) (kI 3)),iM 74 0,iO 75 (.nck (.t 74)),iF 76 1 75,iL 77 76,iF 78 2 3,iL 79 78,iO 80 (.ixa 1 (.t 77) (.t 79)),iL 81 80,iM 82 0,iO 83 (.nck (.t 82)),iF 84 1 83,iL 85 84,iF 86 3 3,iL 87 86,iO 88 (.ixa 1 (.t 85) (.t 87)),iL 89 88,iO 90 (.callr zQ [.t 73,.t 81,.t 89]),iM 7 90]
 (sO [iM 91 0,iF 92 1 3,iL 93 92,iM 94 7,iO 95 (.callb lE [.t 91,.t 93,.t 94] [true,false,false])]
 (sO [iF 96 1 3,iL 97 96,iM 98 7,iO 99 (.build [zI,zI,zI,zI,zI,zS,.s 1 []] [(0,1,.c (.int .i64 1)),(1,1,.t 97),(4,1,.t 98)]),iN (.store 7 (.t 4) (.t 99)),iO 5 (.mov (kB true))]
 (.ret))))
 (.skip)))
 (sO [iE 101 .eql 9 10,iM 100 101]
 (.cond (.t 100) (sO [iM 102 0,iO 103 (.nck (.t 102)),iF 104 0 103,iL 105 104,iF 106 2 3,iL 107 106,iO 108 (.ixa 1 (.t 105) (.t 107)),iL 109 108]
 (.cond (.t 109) (.seq (.opsd [⟨iF 110 4 3,0,[]⟩,⟨iL 111 110,1,[]⟩,⟨iO 112 (.build [zI,zI,zI,zI,zI,zS,.s 1 []] [(0,1,.c (.int .i64 9)),(4,1,.t 111)]),2,[]⟩,⟨iM 113 0,3,[]⟩,⟨iO 114 (.nck (.t 113)),4,[]⟩,⟨iF 115 1 114,5,[]⟩,⟨iL 116 115,6,[]⟩,⟨iF 117 2 3,7,[]⟩,⟨iL 118 117,8,[]⟩,⟨iO 119 (.ixa 1 (.t 116) (.t 118)),9,[]⟩,⟨iL 120 119,10,[]⟩,⟨iE 121 .eql 120 0,11,[]⟩,⟨iN (.store 7 (.t 4) (.t 112)),12,[iM 113 0,iO 114 (.nck (.t 113)),iF 115 1 114,iL 116 115,iF 117 2 3,iL 118 117,iO 119 (.ixa 1 (.t 116) (.t 118)),iL 120 119,iE 121 .eql 120 0]⟩,⟨iM 5 121,13,[]⟩])
 (.ret))
 (.skip)))
 (.skip)))))))))))
 (sO [iM 122 0,iK 123 7 3,iO 124 (.callb qX [.t 122,.t 123] [true,false])]
 (sO [iK 125 7 3,iN (.store 7 (.t 4) (.t 125)),iO 5 (.mov (kB true))]
 (.ret))))
def oX:SFn:=⟨2,126,pB,[.c 4 (some 7),.t 5]⟩
def Dc:SCode :=
 sO [iO 1 (.box 7 (.t 0)),iO 2 (.alloc [zI,zI,zI,zI,zI,zS,.s 1 []])]
 (sO [iO 3 (.lit 1 []),iF 4 6 1,iL 5 4,iO 6 (.app 1 8 (.t 3) (.t 5)),iF 7 6 1,iN (.store 1 (.t 7) (.t 6))]
 (sO [iK 8 7 1,iN (.store 7 (.t 2) (.t 8))]
 (.ret)))
def tB:SFn:=⟨1,9,Dc,[.c 2 (some 7)]⟩
def Fs:SCode :=
 sO [iO 1 (.vbox 7 (.t 0)),iO 2 (.alloc [zI,zI,zI,zI,zI,zS,.s 1 []])]
 (sO [iO 3 (.alloc [zI,zI,zI,zI,zI,zS,.s 1 []])]
 (sO [iF 4 0 1,iL 5 4,iF 6 0 3,iN (.store 1 (.t 6) (.t 5))]
 (sO [iF 7 1 1,iL 8 7,iF 9 1 3,iN (.store 1 (.t 9) (.t 8))]
 (sO [iF 10 2 1,iL 11 10,iF 12 2 3,iN (.store 1 (.t 12) (.t 11))]
 (sO [iF 13 3 1,iL 14 13,iF 15 3 3,iN (.store 1 (.t 15) (.t 14))]
 (sO [iF 16 4 1,iL 17 16,iF 18 4 3,iN (.store 1 (.t 18) (.t 17))]
 (sO [iF 19 5 1,iL 20 19,iF 21 5 3,iN (.store 1 (.t 21) (.t 20))]
 (sO [iF 22 6 1,iL 23 22,iO 24 (.call An [.t 23]),iF 25 6 3,iN (.store 1 (.t 25) (.t 24))]
 (sO [iK 26 7 3,iN (.store 7 (.t 2) (.t 26))]
 (.ret))))))))))
def wO:SFn:=⟨1,27,Fs,[.c 2 (some 7)]⟩
def Br:SCode :=
 sO [iO 1 (.box 7 (.t 0)),iO 2 (.alloc [zI,zI,zI,zI,zI,zS,.s 1 []])]
 (sO [iF 3 6 1,iL 4 3,iO 5 (.call oD [.t 4]),iF 6 6 1,iN (.store 1 (.t 6) (.t 5))]
 (sO [iK 7 7 1,iN (.store 7 (.t 2) (.t 7))]
 (.ret)))
def qP:SFn:=⟨1,8,Br,[.c 2 (some 7)]⟩
def cE:SCode :=
 sO [iV 11 .lss 10 9]
 (.seq (.cond (.t 11) (.skip)
 (.seq (.keep [3]) (.exit 0)))
 (.seq (.block 1 (sO [iO 12 (.ixa 7 (.t 8) (.t 10)),iK 13 7 12,iO 5 (.alloc [zI,zI,zI,zI,zI,zS,.s 1 []]),iN (.store 7 (.t 5) (.t 13))]
 (sO [iO 14 (.fn mP [.t 5]),iM 6 14]
 (sO [iF 15 0 5,iL 16 15,iE 17 .neq 16 8,iM 18 17,iU 19 18 (.mov (.t 0)),iU 20 18 (.mov (.t 6)),iU 21 18 (.calli (.f bI) [.t 19,.t 20]),iO 22 (.pick (.t 18) (kB true) (.t 21))]
 (.cond (.t 22) (.ops [iM 23 3,iK 24 7 5,iO 25 (.lit 7 [.t 24]),iO 26 (.app 7 80 (.t 23) (.t 25)),iM 3 26])
 (.skip))))))
 (.ops [iO 27 (.ari .add (.t 10) (kI 1)),iM 10 27])))
def wX:SCode :=
 sO [iO 2 (.mov (.n 7))]
 (sO [iO 7 (.lit 7 []),iM 3 7]
 (.seq (sO [iM 8 0,iO 9 (.len (.t 8)),iO 10 (.mov (kI 0))]
 (.block 0 (.loop [0,3,8,9,10] cE)))
 (sO [iM 28 3,iM 2 28]
 (.ret))))
def wR:SFn:=⟨1,29,wX,[.t 2]⟩
def bY:SCode :=
 sO [iV 10 .lss 9 8]
 (.seq (.cond (.t 10) (.skip)
 (.seq (.keep [3]) (.exit 0)))
 (.seq (.block 1 (sO [iM 11 9,iO 12 (.ixa 7 (.t 7) (.t 9)),iK 13 7 12,iO 5 (.alloc [zI,zI,zI,zI,zI,zS,.s 1 []]),iM 4 11,iN (.store 7 (.t 5) (.t 13))]
 (.seq (sO [iF 14 0 5,iL 15 14,iE 16 .eql 15 9,iM 17 16,iT 18 17 (.mov (.t 4)),iT 19 17 (.ari .add (.t 18) (kI 1)),iT 20 17 (.mov (.t 0)),iT 21 17 (.len (.t 20)),iT 22 17 (.cmp .lss (.t 19) (.t 21)),iO 23 (.pick (.t 17) (.t 22) (kB false)),iM 24 23,iT 25 24 (.mov (.t 0)),iT 26 24 (.mov (.t 4)),iT 27 24 (.ari .add (.t 26) (kI 1)),iT 28 24 (.ixa 7 (.t 25) (.t 27)),iT 29 24 (.faddr 0 (.t 28)),iT 30 24 (.load none (.t 29)),iT 31 24 (.cmp .eql (.t 30) (kI 8)),iO 32 (.pick (.t 24) (.t 31) (kB false)),iM 33 32,iT 34 33 (.mov (.t 0)),iT 35 33 (.mov (.t 4)),iT 36 33 (.ari .add (.t 35) (kI 1)),iT 37 33 (.ixa 7 (.t 34) (.t 36)),iT 38 33 (.faddr 4 (.t 37)),iT 39 33 (.load none (.t 38)),iT 40 33 (.faddr 4 (.t 5)),iT 41 33 (.load none (.t 40)),iT 42 33 (.cmp .eql (.t 39) (.t 41)),iO 43 (.pick (.t 33) (.t 42) (kB false))]
 (.cond (.t 43) (.exit 1)
 (.skip)))
 (.ops [iM 44 3,iK 45 7 5,iO 46 (.lit 7 [.t 45]),iO 47 (.app 7 80 (.t 44) (.t 46)),iM 3 47]))))
 (.ops [iO 48 (.ari .add (.t 9) (kI 1)),iM 9 48])))
def tS:SCode :=
 sO [iO 2 (.mov (.n 7))]
 (sO [iO 6 (.lit 7 []),iM 3 6]
 (.seq (sO [iM 7 0,iO 8 (.len (.t 7)),iO 9 (.mov (kI 0))]
 (.block 0 (.loop [0,3,7,8,9] bY)))
 (sO [iM 49 3,iM 2 49]
 (.ret))))
def uC:SFn:=⟨1,50,tS,[.t 2]⟩
def dF:SCode :=
 sO [iV 11 .lss 10 9]
 (.seq (.cond (.t 11) (.skip)
 (.seq (.keep [3]) (.exit 0)))
 (.seq (.block 1 (sO [iO 12 (.ixa 7 (.t 8) (.t 10)),iK 13 7 12,iO 6 (.alloc [zI,zI,zI,zI,zI,zS,.s 1 []]),iN (.store 7 (.t 6) (.t 13))]
 (.seq (sO [iF 14 0 6,iL 15 14,iE 16 .eql 15 8]
 (.cond (.t 16) (.ops [iO 4 (.mov (kB true))])
 (.skip)))
 (.seq (sO [iM 17 4]
 (.cond (.t 17) (.ops [iM 18 3,iK 19 7 6,iO 20 (.lit 7 [.t 19]),iO 21 (.app 7 80 (.t 18) (.t 20)),iM 3 21])
 (.skip)))
 (sO [iF 22 0 6,iL 23 22,iO 24 (.callr pX [.t 23])]
 (.cond (.t 24) (.ops [iO 4 (.mov (kB false))])
 (.skip)))))))
 (.ops [iO 25 (.ari .add (.t 10) (kI 1)),iM 10 25])))
def D8:SCode :=
 sO [iO 2 (.mov (.n 7))]
 (sO [iO 7 (.lit 7 []),iM 3 7]
 (sO [iO 4 (.mov (kB true))]
 (.seq (sO [iM 8 0,iO 9 (.len (.t 8)),iO 10 (.mov (kI 0))]
 (.block 0 (.loop [3,4,8,9,10] dF)))
 (sO [iM 26 3,iM 2 26]
 (.ret)))))
def Dz:SFn:=⟨1,27,D8,[.t 2]⟩
def H5:SCode :=
 sO [iO 2 (.mov (kB false))]
 (sO [iM 3 0,iE 4 .eql 3 12,iM 5 4,iU 6 5 (.mov (.t 0)),iU 7 5 (.cmp .eql (.t 6) (kI 9)),iO 8 (.pick (.t 5) (kB true) (.t 7)),iM 9 8,iU 10 9 (.mov (.t 0)),iU 11 9 (.cmp .eql (.t 10) (kI 28)),iO 12 (.pick (.t 9) (kB true) (.t 11)),iM 2 12]
 (.ret))
def zD:SFn:=⟨1,13,H5,[.t 2]⟩
def lJ:SCode :=
 sO [iV 12 .lss 11 10]
 (.seq (.cond (.t 12) (.skip)
 (.seq (.keep [3]) (.exit 0)))
 (.seq (.block 1 (.seq (.opsd [⟨iM 13 3,0,[]⟩,⟨iM 14 3,1,[]⟩,⟨iO 15 (.nck (.t 14)),2,[]⟩,⟨iF 16 1 15,3,[]⟩,⟨iL 17 16,4,[]⟩,⟨iF 18 2 1,5,[]⟩,⟨iL 19 18,6,[]⟩,⟨iO 20 (.mk 1 1 [.v (.bool false)] (.t 19)),7,[]⟩,⟨iO 21 (.lit 1 [.t 20]),8,[iM 13 3,iM 14 3,iO 15 (.nck (.t 14)),iF 16 1 15,iL 17 16]⟩,⟨iO 22 (.app 1 24 (.t 17) (.t 21)),9,[iM 13 3]⟩,⟨iO 23 (.nck (.t 13)),10,[]⟩,⟨iF 24 1 23,11,[]⟩,⟨iN (.store 1 (.t 24) (.t 22)),12,[]⟩])
 (.opsd [⟨iM 25 3,0,[]⟩,⟨iM 26 3,1,[]⟩,⟨iO 27 (.nck (.t 26)),2,[]⟩,⟨iF 28 2 27,3,[]⟩,⟨iL 29 28,4,[]⟩,⟨iF 30 2 1,5,[]⟩,⟨iL 31 30,6,[]⟩,⟨iO 32 (.mk 1 1 [.v (.bool false)] (.t 31)),7,[]⟩,⟨iO 33 (.lit 1 [.t 32]),8,[iM 25 3,iM 26 3,iO 27 (.nck (.t 26)),iF 28 2 27,iL 29 28]⟩,⟨iO 34 (.app 1 24 (.t 29) (.t 33)),9,[iM 25 3]⟩,⟨iO 35 (.nck (.t 25)),10,[]⟩,⟨iF 36 2 35,11,[]⟩,⟨iN (.store 1 (.t 36) (.t 34)),12,[]⟩])))
 (.ops [iO 37 (.ari .add (.t 11) (kI 1)),iM 11 37])))
def lU:SCode :=
 .seq (sO [iM 38 3,iO 39 (.callb hX [.t 38] [true])]
 (.cond (.t 39) (.skip)
 (.seq (.keep [3]) (.exit 2))))
 (.block 3 (.skip))
def C2:SCode :=
 sO [iO 1 (.vbox 4 (.t 0)),iO 2 (.mov (.c (.pointer none)))]
 (sO [iF 4 3 1,iL 5 4,iO 6 (.build [.s 7 [],.s 1 [],.s 1 []] [(0,1,.t 5)]),iO 7 (.box 3 (.t 6)),iM 3 7]
 (.seq (sO [iF 8 3 1,iL 9 8,iO 10 (.len (.t 9)),iO 11 (.mov (kI 0))]
 (.block 0 (.loop [1,3,10,11] lJ)))
 (.seq (.block 2 (.loop [3] lU))
 (sO [iM 40 3,iM 2 40]
 (.seq (.keep [20002,2]) .ret)))))
def tI:SFn:=⟨1,41,C2,[.t 2]⟩
def Du:SCode :=
 sO [iO 2 (.mov (kB false))]
 (sO [iM 3 0,iO 4 (.callr cX [.t 3,.c (.int .i64 1),.c (.int .i64 7)]),iM 5 4,iU 6 5 (.mov (.t 0)),iU 7 5 (.cmp .eql (.t 6) (kI 23)),iO 8 (.pick (.t 5) (kB true) (.t 7)),iM 9 8,iU 10 9 (.mov (.t 0)),iU 11 9 (.cmp .eql (.t 10) (kI 24)),iO 12 (.pick (.t 9) (kB true) (.t 11)),iM 2 12]
 (.ret))
def sW:SFn:=⟨1,13,Du,[.t 2]⟩
def m4:SCode :=
 .clone 7 [iO 5 (.lit 7 []),iM 6 0,iO 7 (.app 7 80 (.t 5) (.t 6)),iM 2 7]
def dD:SFn:=⟨1,8,m4,[.t 2]⟩
def mL:SCode :=
 sO [iV 6 .lss 5 4]
 (.seq (.cond (.t 6) (.skip)
 (.seq (.keep []) (.exit 0)))
 (.seq (.block 1 (sO [iM 7 5,iM 2 7]
 (.ops [iM 8 0,iM 9 2,iM 10 2,iO 11 (.ixa 1 (.t 8) (.t 9)),iN (.store 1 (.t 11) (.t 10))])))
 (.ops [iO 12 (.ari .add (.t 5) (kI 1)),iM 5 12])))
def Eu:SCode :=
 sO [iM 3 0,iO 4 (.len (.t 3)),iO 5 (.mov (kI 0))]
 (.block 0 (.loop [0,4,5] mL))
def xU:SFn:=⟨1,13,Eu,[]⟩
def e9:SCode :=
 .seq (sO [iM 11 5,iO 12 (.ari .add (.t 11) (kI 2)),iF 13 6 2,iL 14 13,iO 15 (.len (.t 14)),iV 16 .lss 12 15]
 (.cond (.t 16) (.skip)
 (.seq (.keep [2,4]) (.exit 0))))
 (.seq (.block 1 (sO [iF 19 6 2,iL 20 19,iM 21 5,iO 22 (.ari .add (.t 21) (kI 1)),iM 23 1,iF 24 6 2,iL 25 24,iM 26 5,iO 27 (.ari .add (.t 26) (kI 1)),iO 28 (.ixa 1 (.t 25) (.t 27)),iL 29 28,iO 30 (.ixa 1 (.t 23) (.t 29)),iL 31 30,iO 32 (.ixa 1 (.t 20) (.t 22)),iN (.store 1 (.t 32) (.t 31))]
 (sO [iF 33 6 2,iL 34 33,iM 35 5,iO 36 (.ixa 1 (.t 34) (.t 35)),iL 37 36,iE 38 .eql 37 2]
 (.cond (.t 38) (.ops [iF 39 6 2,iL 40 39,iM 41 5,iO 42 (.ari .add (.t 41) (kI 2)),iM 43 1,iF 44 6 2,iL 45 44,iM 46 5,iO 47 (.ari .add (.t 46) (kI 2)),iO 48 (.ixa 1 (.t 45) (.t 47)),iL 49 48,iO 50 (.ixa 1 (.t 43) (.t 49)),iL 51 50,iO 52 (.ixa 1 (.t 40) (.t 42)),iN (.store 1 (.t 52) (.t 51))])
 (.skip)))))
 (.ops [iM 17 5,iO 18 (.ari .add (.t 17) (kI 3)),iM 5 18]))
def fG:SCode :=
 sO [iV 76 .lss 75 74]
 (.seq (.cond (.t 76) (.skip)
 (.seq (.keep [2,4]) (.exit 2)))
 (.seq (.block 3 (sO [iM 77 75,iO 78 (.ixa 1 (.t 73) (.t 75)),iL 79 78,iM 6 77,iM 7 79]
 (.ops [iF 80 6 2,iL 81 80,iM 82 6,iM 83 1,iM 84 7,iO 85 (.ixa 1 (.t 83) (.t 84)),iL 86 85,iO 87 (.ixa 1 (.t 81) (.t 82)),iN (.store 1 (.t 87) (.t 86))])))
 (.ops [iO 88 (.ari .add (.t 75) (kI 1)),iM 75 88])))
def yD:SCode :=
 sO [iO 2 (.box 7 (.t 0)),iO 4 (.alloc [zI,zI,zI,zI,zI,zS,.s 1 []])]
 (.seq (sO [iF 8 0 2,iL 9 8,iE 10 .eql 9 19]
 (.cond (.t 10) (.seq (sO [iO 5 (.mov (kI 0))]
 (.block 0 (.loop [1,2,4,5] e9)))
 (sO [iK 53 7 2,iN (.store 7 (.t 4) (.t 53))]
 (.ret)))
 (.skip)))
 (.seq (sO [iF 54 0 2,iL 55 54,iO 56 (.callr cR [.t 55,.c (.int .u8 65)])]
 (.cond (.t 56) (.ops [iM 57 1,iF 58 2 2,iL 59 58,iO 60 (.ixa 1 (.t 57) (.t 59)),iL 61 60,iF 62 2 2,iN (.store 1 (.t 62) (.t 61))])
 (.skip)))
 (.seq (sO [iF 63 0 2,iL 64 63,iO 65 (.callr cR [.t 64,.c (.int .u8 66)])]
 (.cond (.t 65) (.ops [iM 66 1,iF 67 3 2,iL 68 67,iO 69 (.ixa 1 (.t 66) (.t 68)),iL 70 69,iF 71 3 2,iN (.store 1 (.t 71) (.t 70))])
 (.skip)))
 (.seq (sO [iF 72 6 2,iL 73 72,iO 74 (.len (.t 73)),iO 75 (.mov (kI 0))]
 (.block 2 (.loop [1,2,4,73,74,75] fG)))
 (sO [iK 89 7 2,iN (.store 7 (.t 4) (.t 89))]
 (.ret))))))
def pE:SFn:=⟨2,90,yD,[.c 4 (some 7)]⟩
def zU:SCode :=
 sO [iO 1 (.vbox 7 (.t 0)),iO 2 (.mov (.n 1))]
 (.seq (.block 0 (sO [iF 4 0 1,iL 5 4,iE 6 .eql 5 19,iM 3 6]
 (.cond (.t 3) (sO [iF 7 1 1,iL 8 7,iF 9 3 1,iL 10 9,iO 11 (.lit 1 [.t 8,.t 10]),iM 2 11]
 (.ret))
 (sO [iF 13 0 1,iL 14 13,iO 15 (.callr cR [.t 14,.c (.int .u8 68)]),iM 12 15]
 (.cond (.t 12) (sO [iF 16 1 1,iL 17 16,iO 18 (.lit 1 [.t 17]),iM 2 18]
 (.ret))
 (.skip))))))
 (sO [iO 2 (.mov (.n 1))]
 (.ret)))
def A8:SFn:=⟨1,19,zU,[.t 2]⟩
def iC:SCode :=
 sO [iV 12 .lss 11 10]
 (.seq (.cond (.t 12) (.skip)
 (.seq (.keep []) (.exit 0)))
 (.seq (.block 1 (sO [iM 13 11,iM 4 13]
 (sO [iM 14 0,iM 15 4,iO 16 (.ixa 1 (.t 14) (.t 15)),iL 17 16,iM 18 1,iV 19 .eql 17 18]
 (.cond (.t 19) (.ops [iM 20 0,iM 21 4,iM 22 4,iO 23 (.ixa 1 (.t 20) (.t 21)),iN (.store 1 (.t 23) (.t 22))])
 (.skip)))))
 (.ops [iO 24 (.ari .add (.t 11) (kI 1)),iM 11 24])))
def Cz:SCode :=
 sO [iM 5 0,iM 6 1,iM 7 1,iO 8 (.ixa 1 (.t 5) (.t 6)),iN (.store 1 (.t 8) (.t 7))]
 (sO [iM 9 0,iO 10 (.len (.t 9)),iO 11 (.mov (kI 0))]
 (.block 0 (.loop [0,1,10,11] iC)))
def tY:SFn:=⟨2,25,Cz,[]⟩
def eR:SCode :=
 sO [iV 138 .lss 137 136]
 (.seq (.cond (.t 138) (.skip)
 (.seq (.keep [3,4]) (.exit 1)))
 (.seq (.block 2 (sO [iO 139 (.ixa 1 (.t 135) (.t 137)),iL 140 139,iM 8 140]
 (.ops [iM 141 0,iO 142 (.nck (.t 141)),iF 143 0 142,iL 144 143,iM 145 8,iO 146 (.ixa 1 (.t 144) (.t 145)),iN (.store 1 (.t 146) (kB false))])))
 (.ops [iO 147 (.ari .add (.t 137) (kI 1)),iM 137 147])))
def pK:SCode :=
 sO [iO 3 (.vbox 7 (.t 1)),iO 4 (.alloc [zI,zI,zI,zI,zI,zS,.s 1 []]),iO 5 (.mov (kB false))]
 (.seq (sO [iF 9 0 3,iL 10 9]
 (.block 0 (sO [iE 12 .eql 10 8,iM 11 12]
 (.cond (.t 11) (sO [iM 13 0,iO 14 (.nck (.t 13)),iF 15 0 14,iL 16 15,iN (.clr (.t 16))]
 (sO [iK 17 7 3,iN (.store 7 (.t 4) (.t 17)),iO 5 (.mov (kB true))]
 (.ret)))
 (sO [iE 19 .eql 10 1,iM 18 19]
 (.cond (.t 18) (sO [iM 20 0,iF 21 1 3,iL 22 21,iF 23 4 3,iL 24 23,iO 25 (.callb fH [.t 20,.t 22,.t 24] [true,false,false])]
 (sO [iK 26 7 3,iN (.store 7 (.t 4) (.t 26)),iO 5 (.mov (kB true))]
 (.ret)))
 (sO [iE 28 .eql 10 2,iM 27 28]
 (.cond (.t 27) (sO [iM 29 0,iO 30 (.nck (.t 29)),iF 31 0 30,iL 32 31,iF 33 2 3,iL 34 33,iO 35 (.ixa 1 (.t 32) (.t 34)),iL 36 35]
 (.cond (.t 36) (sO [iM 37 0,iF 38 1 3,iL 39 38,iM 40 0,iO 41 (.nck (.t 40)),iF 42 1 41,iL 43 42,iF 44 2 3,iL 45 44,iO 46 (.ixa 1 (.t 43) (.t 45)),iL 47 46,iO 48 (.callb fH [.t 37,.t 39,.t 47] [true,false,false])]
 (sO [iF 49 1 3,iL 50 49,iM 51 0,iO 52 (.nck (.t 51)),iF 53 1 52,iL 54 53,iF 55 2 3,iL 56 55,iO 57 (.ixa 1 (.t 54) (.t 56)),iL 58 57,iO 59 (.build [zI,zI,zI,zI,zI,zS,.s 1 []] [(0,1,.c (.int .i64 1)),(1,1,.t 50),(4,1,.t 58)]),iN (.store 7 (.t 4) (.t 59)),iO 5 (.mov (kB true))]
 (.ret)))
 (.skip)))
 (.seq (sO [iE 61 .eql 10 3,iM 60 61]
 (.cond (.t 60) (.skip)
 (sO [iE 62 .eql 10 4,iM 60 62]
 (.cond (.t 60) (.skip)
 (sO [iE 63 .eql 10 5,iM 60 63]
 (.cond (.t 60) (.skip)
 (sO [iE 64 .eql 10 6,iM 60 64]
 (.cond (.t 60) (.skip)
 (.ops [iE 65 .eql 10 7,iM 60 65])))))))))
 (.cond (.t 60) (sO [iM 66 0,iO 67 (.nck (.t 66)),iF 68 0 67,iL 69 68,iF 70 2 3,iL 71 70,iO 72 (.ixa 1 (.t 69) (.t 71)),iL 73 72,iM 74 73,iT 75 74 (.mov (.t 0)),iT 76 74 (.nck (.t 75)),iT 77 74 (.faddr 0 (.t 76)),iT 78 74 (.load none (.t 77)),iT 79 74 (.faddr 3 (.t 3)),iT 80 74 (.load none (.t 79)),iT 81 74 (.ixa 1 (.t 78) (.t 80)),iT 82 74 (.load none (.t 81)),iO 83 (.pick (.t 74) (.t 82) (kB false))]
 (.cond (.t 83) (sO [iF 84 0 3,iL 85 84,iM 86 0,iO 87 (.nck (.t 86)),iF 88 1 87,iL 89 88,iF 90 2 3,iL 91 90,iO 92 (.ixa 1 (.t 89) (.t 91)),iL 93 92,iM 94 0,iO 95 (.nck (.t 94)),iF 96 1 95,iL 97 96,iF 98 3 3,iL 99 98,iO 100 (.ixa 1 (.t 97) (.t 99)),iL 101 100,iO 102 (.callr wB [.t 85,.t 93,.t 101]),iM 6 102]
 (sO [iM 103 0,iF 104 1 3,iL 105 104,iM 106 6,iO 107 (.callb fH [.t 103,.t 105,.t 106] [true,false,false])]
 (sO [iF 108 1 3,iL 109 108,iM 110 6,iO 111 (.build [zI,zI,zI,zI,zI,zS,.s 1 []] [(0,1,.c (.int .i64 1)),(1,1,.t 109),(4,1,.t 110)]),iN (.store 7 (.t 4) (.t 111)),iO 5 (.mov (kB true))]
 (.ret))))
 (.skip)))
 (sO [iE 113 .eql 10 10,iM 112 113]
 (.cond (.t 112) (sO [iM 114 0,iO 115 (.nck (.t 114)),iF 116 0 115,iL 117 116,iF 118 2 3,iL 119 118,iO 120 (.ixa 1 (.t 117) (.t 119)),iL 121 120]
 (.cond (.t 121) (.seq (.opsd [⟨iF 122 4 3,0,[]⟩,⟨iL 123 122,1,[]⟩,⟨iO 124 (.build [zI,zI,zI,zI,zI,zS,.s 1 []] [(0,1,.c (.int .i64 9)),(4,1,.t 123)]),2,[]⟩,⟨iM 125 0,3,[]⟩,⟨iO 126 (.nck (.t 125)),4,[]⟩,⟨iF 127 1 126,5,[]⟩,⟨iL 128 127,6,[]⟩,⟨iF 129 2 3,7,[]⟩,⟨iL 130 129,8,[]⟩,⟨iO 131 (.ixa 1 (.t 128) (.t 130)),9,[]⟩,⟨iL 132 131,10,[]⟩,⟨iE 133 .eql 132 0,11,[]⟩,⟨iN (.store 7 (.t 4) (.t 124)),12,[iM 125 0,iO 126 (.nck (.t 125)),iF 127 1 126,iL 128 127,iF 129 2 3,iL 130 129,iO 131 (.ixa 1 (.t 128) (.t 130)),iL 132 131,iE 133 .eql 132 0]⟩,⟨iM 5 133,13,[]⟩])
 (.ret))
 (.skip)))
 (.skip)))))))))))))
 (.seq (sO [iK 134 7 3,iO 135 (.callr l5 [.t 134]),iO 136 (.len (.t 135)),iO 137 (.mov (kI 0))]
 (.block 1 (.loop [0,3,4,135,136,137] eR)))
 (sO [iK 148 7 3,iN (.store 7 (.t 4) (.t 148)),iO 5 (.mov (kB true))]
 (.ret))))
def kU:SFn:=⟨2,149,pK,[.c 4 (some 7),.t 5]⟩
def Gc:SCode :=
 sO [iO 2 (.vbox 7 (.t 0)),iO 3 (.vbox 7 (.t 1)),iO 4 (.mov (kB false))]
 (.seq (sO [iF 5 0 2,iL 6 5,iF 7 0 3,iL 8 7,iV 9 .neq 6 8]
 (.cond (.t 9) (sO [iO 4 (.mov (kB false))]
 (.ret))
 (.skip)))
 (.seq (sO [iF 10 1 2,iL 11 10,iF 12 1 3,iL 13 12,iV 14 .neq 11 13]
 (.cond (.t 14) (sO [iO 4 (.mov (kB false))]
 (.ret))
 (.skip)))
 (.seq (sO [iF 15 2 2,iL 16 15,iF 17 2 3,iL 18 17,iV 19 .neq 16 18]
 (.cond (.t 19) (sO [iO 4 (.mov (kB false))]
 (.ret))
 (.skip)))
 (.seq (sO [iF 20 3 2,iL 21 20,iF 22 3 3,iL 23 22,iV 24 .neq 21 23]
 (.cond (.t 24) (sO [iO 4 (.mov (kB false))]
 (.ret))
 (.skip)))
 (.seq (sO [iF 25 4 2,iL 26 25,iF 27 4 3,iL 28 27,iV 29 .neq 26 28]
 (.cond (.t 29) (sO [iO 4 (.mov (kB false))]
 (.ret))
 (.skip)))
 (.seq (sO [iF 30 5 2,iL 31 30,iF 32 5 3,iL 33 32,iV 34 .neq 31 33]
 (.cond (.t 34) (sO [iO 4 (.mov (kB false))]
 (.ret))
 (.skip)))
 (.seq (sO [iF 35 6 2,iL 36 35,iF 37 6 3,iL 38 37,iO 39 (.callr Ba [.t 36,.t 38]),iO 40 (.not (.t 39))]
 (.cond (.t 40) (sO [iO 4 (.mov (kB false))]
 (.ret))
 (.skip)))
 (sO [iO 4 (.mov (kB true))]
 (.ret)))))))))
def xE:SFn:=⟨2,41,Gc,[.t 4]⟩
def jC:SCode :=
 .seq (sO [iM 6 5,iM 7 0,iO 8 (.len (.t 7)),iV 9 .lss 6 8]
 (.cond (.t 9) (.skip)
 (.seq (.keep [1]) (.exit 0))))
 (.seq (.block 1 (sO [iM 12 0,iM 13 5,iM 14 1,iO 15 (.ixa 1 (.t 12) (.t 13)),iN (.store 1 (.t 15) (.t 14))]
 (.ops [iM 16 1,iO 17 (.ari .add (.t 16) (kI 1)),iM 1 17])))
 (.ops [iM 10 5,iO 11 (.ari .add (.t 10) (kI 1)),iM 5 11]))
def yK:SCode :=
 sO [iO 4 (.mov (kI 0))]
 (.seq (sO [iO 5 (.mov (kI 0))]
 (.block 0 (.loop [0,1,5] jC)))
 (sO [iM 18 1,iM 4 18]
 (.ret)))
def oZ:SFn:=⟨2,19,yK,[.t 4]⟩
def i4:SCode :=
 .seq (sO [iM 6 5,iM 7 0,iO 8 (.len (.t 7)),iV 9 .lss 6 8]
 (.cond (.t 9) (.skip)
 (.seq (.keep [1]) (.exit 0))))
 (.seq (.block 1 (.seq (sO [iM 12 0,iM 13 5,iO 14 (.ixa 1 (.t 12) (.t 13)),iL 15 14,iM 16 1,iV 17 .neq 15 16]
 (.cond (.t 17) (sO [iO 4 (.mov (kI (-1)))]
 (.seq (.keep [4]) .ret))
 (.skip)))
 (.ops [iM 18 1,iO 19 (.ari .add (.t 18) (kI 1)),iM 1 19])))
 (.ops [iM 10 5,iO 11 (.ari .add (.t 10) (kI 1)),iM 5 11]))
def xW:SCode :=
 sO [iO 4 (.mov (kI 0))]
 (.seq (sO [iO 5 (.mov (kI 0))]
 (.block 0 (.loop [0,1,5] i4)))
 (sO [iM 20 1,iM 4 20]
 (.ret)))
def oS:SFn:=⟨2,21,xW,[.t 4]⟩
def Fl:SCode :=
 sO [iO 4 (.mov (kB false))]
 (sO [iM 5 0,iO 6 (.callr Ce [.t 5]),iO 7 (.bos (.t 6)),iM 8 1,iO 9 (.callr eV [.t 7,.t 8]),iM 4 9]
 (.ret))
def vZ:SFn:=⟨2,10,Fl,[.t 4]⟩
def Ic:SCode :=
 sO [iO 6 (.mov (kB false))]
 (sO [iM 7 0,iM 8 1,iV 9 .geq 7 8,iM 10 9,iT 11 10 (.mov (.t 0)),iT 12 10 (.mov (.t 2)),iT 13 10 (.cmp .leq (.t 11) (.t 12)),iO 14 (.pick (.t 10) (.t 13) (kB false)),iM 6 14]
 (.ret))
def z6:SFn:=⟨3,15,Ic,[.t 6]⟩
def Fm:SCode :=
 sO [iO 4 (.mov (kI 0))]
 (.seq (sO [iM 5 0,iM 6 1,iV 7 .lss 5 6]
 (.cond (.t 7) (sO [iM 8 0,iM 4 8]
 (.ret))
 (.skip)))
 (sO [iM 9 1,iM 4 9]
 (.ret)))
def wK:SFn:=⟨2,10,Fm,[.t 4]⟩
def yT:SCode :=
 sO [iO 2 (.vbox 7 (.t 0)),iO 4 (.mov (kB false))]
 (sO [iF 6 0 2,iL 7 6,iO 8 (.callr l7 [.t 7]),iM 5 8]
 (.seq (sO [iF 9 0 2,iL 10 9,iO 11 (.callr dX [.t 10,.c (.int .i64 1),.c (.int .i64 28)]),iO 12 (.not (.t 11)),iM 13 12,iU 14 13 (.load (some 7) (.t 2)),iU 15 13 (.callr xM [.t 14]),iU 16 13 (.not (.t 15)),iO 17 (.pick (.t 13) (kB true) (.t 16)),iM 18 17,iU 19 18 (.load (some 7) (.t 2)),iU 20 18 (.mov (.t 1)),iU 21 18 (.callr wA [.t 19,.t 20]),iU 22 18 (.not (.t 21)),iO 23 (.pick (.t 18) (kB true) (.t 22))]
 (.cond (.t 23) (sO [iO 4 (.mov (kB false))]
 (.ret))
 (.skip)))
 (.seq (sO [iF 24 0 2,iL 25 24,iE 26 .eql 25 19,iM 27 26,iT 28 27 (.faddr 4 (.t 2)),iT 29 27 (.load none (.t 28)),iT 30 27 (.callr dX [.t 29,.c (.int .i64 0),.c (.int .i64 1)]),iT 31 27 (.not (.t 30)),iO 32 (.pick (.t 27) (.t 31) (kB false)),iM 33 32,iU 34 33 (.faddr 4 (.t 2)),iU 35 33 (.load none (.t 34)),iU 36 33 (.callr sL [.t 35]),iU 37 33 (.not (.t 36)),iO 38 (.pick (.t 33) (kB true) (.t 37))]
 (.cond (.t 38) (sO [iO 4 (.mov (kB false))]
 (.ret))
 (.skip)))
 (sO [iM 39 5,iO 40 (.ari .and (.t 39) (kI 1)),iE 41 .neq 40 0,iM 42 41,iU 43 42 (.faddr 1 (.t 2)),iU 44 42 (.load none (.t 43)),iU 45 42 (.cmp .eql (.t 44) (kI 0)),iO 46 (.pick (.t 42) (kB true) (.t 45)),iM 47 46,iT 48 47 (.mov (.t 5)),iT 49 47 (.ari .and (.t 48) (kI 2)),iT 50 47 (.cmp .neq (.t 49) (kI 0)),iT 51 47 (.mov (.t 50)),iU 52 51 (.faddr 2 (.t 2)),iU 53 51 (.load none (.t 52)),iU 54 51 (.cmp .eql (.t 53) (kI 0)),iT 55 47 (.pick (.t 51) (kB true) (.t 54)),iO 56 (.pick (.t 47) (.t 55) (kB false)),iM 57 56,iT 58 57 (.mov (.t 5)),iT 59 57 (.ari .and (.t 58) (kI 4)),iT 60 57 (.cmp .neq (.t 59) (kI 0)),iT 61 57 (.mov (.t 60)),iU 62 61 (.faddr 3 (.t 2)),iU 63 61 (.load none (.t 62)),iU 64 61 (.cmp .eql (.t 63) (kI 0)),iT 65 57 (.pick (.t 61) (kB true) (.t 64)),iO 66 (.pick (.t 57) (.t 65) (kB false)),iM 67 66,iT 68 67 (.mov (.t 5)),iT 69 67 (.ari .and (.t 68) (kI 8)),iT 70 67 (.cmp .neq (.t 69) (kI 0)),iT 71 67 (.mov (.t 70)),iU 72 71 (.faddr 4 (.t 2)),iU 73 71 (.load none (.t 72)),iU 74 71 (.cmp .eql (.t 73) (kI 0)),iT 75 67 (.pick (.t 71) (kB true) (.t 74)),iO 76 (.pick (.t 67) (.t 75) (kB false)),iM 77 76,iT 78 77 (.mov (.t 5)),iT 79 77 (.ari .and (.t 78) (kI 16)),iT 80 77 (.cmp .neq (.t 79) (kI 0)),iT 81 77 (.mov (.t 80)),iU 82 81 (.faddr 5 (.t 2)),iU 83 81 (.load none (.t 82)),iU 84 81 (.cmp .eql (.t 83) (.c (.string ⟨#[]⟩))),iT 85 77 (.pick (.t 81) (kB true) (.t 84)),iO 86 (.pick (.t 77) (.t 85) (kB false)),iM 4 86]
 (.ret)))))
def o7:SFn:=⟨2,87,yT,[.t 4]⟩
def i6:SCode :=
 .seq (sO [iM 6 5,iM 7 0,iO 8 (.len (.t 7)),iV 9 .lss 6 8]
 (.cond (.t 9) (.skip)
 (.seq (.keep []) (.exit 0))))
 (.seq (.block 1 (sO [iM 12 0,iM 13 5,iO 14 (.ixa 7 (.t 12) (.t 13)),iF 15 0 14,iL 16 15,iE 17 .eql 16 8,iM 18 17,iT 19 18 (.mov (.t 0)),iT 20 18 (.mov (.t 5)),iT 21 18 (.ixa 7 (.t 19) (.t 20)),iT 22 18 (.faddr 4 (.t 21)),iT 23 18 (.load none (.t 22)),iT 24 18 (.mov (.t 1)),iT 25 18 (.cmp .eql (.t 23) (.t 24)),iO 26 (.pick (.t 18) (.t 25) (kB false))]
 (.cond (.t 26) (sO [iM 27 5,iM 4 27]
 (.seq (.keep [4]) .ret))
 (.skip))))
 (.ops [iM 10 5,iO 11 (.ari .add (.t 10) (kI 1)),iM 5 11]))
def yS:SCode :=
 sO [iO 4 (.mov (kI 0))]
 (.seq (sO [iO 5 (.mov (kI 0))]
 (.block 0 (.loop [0,1,5] i6)))
 (sO [iO 4 (.mov (kI (-1)))]
 (.ret)))
def oW:SFn:=⟨2,28,yS,[.t 4]⟩
def Dg:SCode :=
 sO [iO 6 (.mov (kB false))]
 (sO [iM 7 0,iM 8 1,iV 9 .geq 7 8,iM 10 9,iT 11 10 (.mov (.t 0)),iT 12 10 (.mov (.t 2)),iT 13 10 (.cmp .leq (.t 11) (.t 12)),iO 14 (.pick (.t 10) (.t 13) (kB false)),iM 6 14]
 (.ret))
def tH:SFn:=⟨3,15,Dg,[.t 6]⟩
def Fu:SCode :=
 sO [iO 2 (.vbox 7 (.t 0)),iO 3 (.box 1 (.t 1)),iO 4 (.mov (kB false))]
 (.seq (sO [iF 5 0 2,iL 6 5,iO 7 (.callr Ce [.t 6]),iO 8 (.cmp .eql (.t 7) (.c (.string ⟨#[]⟩))),iM 9 8,iU 10 9 (.faddr 4 (.t 2)),iU 11 9 (.load none (.t 10)),iU 12 9 (.callr r7 [.t 11]),iU 13 9 (.not (.t 12)),iO 14 (.pick (.t 9) (kB true) (.t 13)),iM 15 14,iU 16 15 (.load (some 7) (.t 2)),iU 17 15 (.load none (.t 3)),iU 18 15 (.callr Ax [.t 16,.t 17]),iU 19 15 (.not (.t 18)),iO 20 (.pick (.t 15) (kB true) (.t 19))]
 (.cond (.t 20) (sO [iO 4 (.mov (kB false))]
 (.ret))
 (.skip)))
 (.seq (sO [iF 21 0 2,iL 22 21,iO 23 (.callr cR [.t 22,.c (.int .u8 68)]),iO 24 (.not (.t 23)),iM 25 24,iT 26 25 (.faddr 1 (.t 2)),iT 27 25 (.load none (.t 26)),iT 28 25 (.cmp .neq (.t 27) (kI 0)),iO 29 (.pick (.t 25) (.t 28) (kB false)),iM 30 29,iU 31 30 (.faddr 0 (.t 2)),iU 32 30 (.load none (.t 31)),iU 33 30 (.callr cR [.t 32,.c (.int .u8 65)]),iU 34 30 (.not (.t 33)),iU 35 30 (.mov (.t 34)),iT 36 35 (.faddr 2 (.t 2)),iT 37 35 (.load none (.t 36)),iT 38 35 (.cmp .neq (.t 37) (kI 0)),iU 39 30 (.pick (.t 35) (.t 38) (kB false)),iO 40 (.pick (.t 30) (kB true) (.t 39)),iM 41 40,iU 42 41 (.faddr 0 (.t 2)),iU 43 41 (.load none (.t 42)),iU 44 41 (.callr cR [.t 43,.c (.int .u8 66)]),iU 45 41 (.not (.t 44)),iU 46 41 (.mov (.t 45)),iT 47 46 (.faddr 3 (.t 2)),iT 48 46 (.load none (.t 47)),iT 49 46 (.cmp .neq (.t 48) (kI 0)),iU 50 41 (.pick (.t 46) (.t 49) (kB false)),iO 51 (.pick (.t 41) (kB true) (.t 50)),iM 52 51,iU 53 52 (.faddr 0 (.t 2)),iU 54 52 (.load none (.t 53)),iU 55 52 (.callr cR [.t 54,.c (.int .u8 78)]),iU 56 52 (.not (.t 55)),iU 57 52 (.mov (.t 56)),iT 58 57 (.faddr 4 (.t 2)),iT 59 57 (.load none (.t 58)),iT 60 57 (.cmp .neq (.t 59) (kI 0)),iU 61 52 (.pick (.t 57) (.t 60) (kB false)),iO 62 (.pick (.t 52) (kB true) (.t 61)),iM 63 62,iU 64 63 (.faddr 0 (.t 2)),iU 65 63 (.load none (.t 64)),iU 66 63 (.callr cR [.t 65,.c (.int .u8 83)]),iU 67 63 (.not (.t 66)),iU 68 63 (.mov (.t 67)),iT 69 68 (.faddr 5 (.t 2)),iT 70 68 (.load none (.t 69)),iT 71 68 (.cmp .neq (.t 70) (.c (.string ⟨#[]⟩))),iU 72 63 (.pick (.t 68) (.t 71) (kB false)),iO 73 (.pick (.t 63) (kB true) (.t 72))]
 (.cond (.t 73) (sO [iO 4 (.mov (kB false))]
 (.ret))
 (.skip)))
 (.seq (.opsd [⟨iK 74 7 2,0,[]⟩,⟨iK 76 7 2,2,[]⟩,⟨iO 79 (.fn gW [.t 3]),5,[]⟩,⟨iO 75 (.call l5 [.t 74]),1,[iK 76 7 2,iO 79 (.fn gW [.t 3])]⟩,⟨iO 77 (.call B8 [.t 76]),3,[iO 79 (.fn gW [.t 3])]⟩,⟨iO 78 (.app 1 8 (.t 75) (.t 77)),4,[iO 79 (.fn gW [.t 3])]⟩,⟨iO 80 (.calli (.f eA) [.t 78,.t 79]),6,[]⟩,⟨iO 81 (.not (.t 80)),7,[]⟩,⟨iM 4 81,8,[]⟩])
 (.ret))))
def w7:SFn:=⟨2,82,Fu,[.t 4]⟩
def A1:SCode :=
 sO [iO 3 (.box 1 (.t 1)),iO 4 (.mov (kI 0))]
 (sO [iM 5 0,iO 6 (.fn mV [.t 3]),iO 7 (.calli (.f aZ) [.t 5,.t 6]),iM 4 7]
 (.ret))
def qE:SFn:=⟨2,8,A1,[.t 4]⟩
def aS:SCode :=
 sO [iV 9 .lss 8 7]
 (.seq (.cond (.t 9) (.skip)
 (.seq (.keep []) (.exit 0)))
 (.seq (.block 1 (sO [iM 10 8,iM 5 10]
 (sO [iM 11 1,iM 12 0,iM 13 5,iO 14 (.ixa 7 (.t 12) (.t 13)),iK 15 7 14,iO 16 (.calli (.t 11) [.t 15])]
 (.cond (.t 16) (sO [iM 17 5,iM 4 17]
 (.seq (.keep [4]) .ret))
 (.skip)))))
 (.ops [iO 18 (.ari .add (.t 8) (kI 1)),iM 8 18])))
def bJ:SCode :=
 sO [iO 4 (.mov (kI 0))]
 (.seq (sO [iM 6 0,iO 7 (.len (.t 6)),iO 8 (.mov (kI 0))]
 (.block 0 (.loop [0,1,7,8] aS)))
 (sO [iO 4 (.mov (kI (-1)))]
 (.ret)))
def cQ:SFn:=⟨2,19,bJ,[.t 4]⟩
def Da:SCode :=
 sO [iO 4 (.mov (kI 0))]
 (sO [iM 5 1,iM 6 0,iO 7 (.len (.t 6)),iO 8 (.ari .sub (.t 5) (.t 7)),iM 1 8]
 (.seq (sO [iM 9 1,iE 10 .lss 9 0]
 (.cond (.t 10) (sO [iO 4 (.mov (kI (-1)))]
 (.ret))
 (.skip)))
 (sO [iM 11 1,iM 4 11]
 (.ret))))
def tC:SFn:=⟨2,12,Da,[.t 4]⟩
def cZ:SCode :=
 .seq (sO [iM 6 5,iM 7 0,iO 8 (.len (.t 7)),iV 9 .lss 6 8]
 (.cond (.t 9) (.skip)
 (.seq (.keep []) (.exit 0))))
 (.seq (.block 1 (sO [iM 12 0,iM 13 5,iO 14 (.ixa 7 (.t 12) (.t 13)),iF 15 0 14,iL 16 15,iE 17 .eql 16 9,iM 18 17,iU 19 18 (.mov (.t 0)),iU 20 18 (.mov (.t 5)),iU 21 18 (.ixa 7 (.t 19) (.t 20)),iU 22 18 (.faddr 0 (.t 21)),iU 23 18 (.load none (.t 22)),iU 24 18 (.cmp .eql (.t 23) (kI 10)),iO 25 (.pick (.t 18) (kB true) (.t 24)),iM 26 25,iT 27 26 (.mov (.t 0)),iT 28 26 (.mov (.t 5)),iT 29 26 (.ixa 7 (.t 27) (.t 28)),iT 30 26 (.faddr 4 (.t 29)),iT 31 26 (.load none (.t 30)),iT 32 26 (.mov (.t 1)),iT 33 26 (.cmp .eql (.t 31) (.t 32)),iO 34 (.pick (.t 26) (.t 33) (kB false))]
 (.cond (.t 34) (sO [iO 4 (.mov (kB true))]
 (.seq (.keep [4]) .ret))
 (.skip))))
 (.ops [iM 10 5,iO 11 (.ari .add (.t 10) (kI 1)),iM 5 11]))
def Bf:SCode :=
 sO [iO 4 (.mov (kB false))]
 (.seq (sO [iO 5 (.mov (kI 0))]
 (.block 0 (.loop [0,1,5] cZ)))
 (sO [iO 4 (.mov (kB false))]
 (.ret)))
def rN:SFn:=⟨2,35,Bf,[.t 4]⟩
def Bw:SCode :=
 sO [iO 2 (.vbox 4 (.t 0)),iO 4 (.mov (.n 1))]
 (sO [iF 7 3 2,iL 8 7,iM 9 1,iO 10 (.ixa 7 (.t 8) (.t 9)),iK 11 7 10,iO 5 (.alloc [zI,zI,zI,zI,zI,zS,.s 1 []]),iN (.store 7 (.t 5) (.t 11))]
 (sO [iF 12 3 2,iL 13 12,iF 14 4 5,iL 15 14,iO 16 (.callr iI [.t 13,.t 15]),iM 6 16]
 (.seq (sO [iF 17 0 5,iL 18 17]
 (.block 0 (.seq (sO [iE 20 .eql 18 12,iM 19 20]
 (.cond (.t 19) (.skip)
 (.ops [iE 21 .eql 18 28,iM 19 21])))
 (.cond (.t 19) (sO [iO 22 (.lit 1 []),iM 4 22]
 (.ret))
 (sO [iE 24 .eql 18 9,iM 23 24]
 (.cond (.t 23) (sO [iM 25 6,iO 26 (.lit 1 [.t 25]),iM 4 26]
 (.ret))
 (sO [iE 28 .eql 18 10,iM 27 28]
 (.cond (.t 27) (.seq (sO [iM 29 6,iM 30 1,iO 31 (.ari .add (.t 30) (kI 1)),iV 32 .lss 29 31]
 (.cond (.t 32) (sO [iM 33 6,iM 34 1,iO 35 (.ari .add (.t 34) (kI 1)),iO 36 (.lit 1 [.t 33,.t 35]),iM 4 36]
 (.ret))
 (.skip)))
 (sO [iM 37 6,iM 38 1,iO 39 (.ari .add (.t 38) (kI 1)),iV 40 .gtr 37 39]
 (.cond (.t 40) (sO [iM 41 1,iO 42 (.ari .add (.t 41) (kI 1)),iM 43 6,iO 44 (.lit 1 [.t 42,.t 43]),iM 4 44]
 (.ret))
 (.skip))))
 (.skip)))))))))
 (sO [iM 45 1,iO 46 (.ari .add (.t 45) (kI 1)),iO 47 (.lit 1 [.t 46]),iM 4 47]
 (.ret)))))
def p8:SFn:=⟨2,48,Bw,[.t 4]⟩
def mM:SCode :=
 .seq (sO [iM 15 7,iM 16 6,iO 17 (.len (.t 16)),iV 18 .lss 15 17]
 (.cond (.t 18) (.skip)
 (.seq (.keep [2,5]) (.exit 0))))
 (.seq (.block 1 (.ops [iM 21 5,iM 22 6,iM 23 7,iO 24 (.ixa 1 (.t 22) (.t 23)),iL 25 24,iO 26 (.ixa 1 (.t 21) (.t 25)),iN (.store 1 (.t 26) (kB false))]))
 (.ops [iM 19 7,iO 20 (.ari .add (.t 19) (kI 1)),iM 7 20]))
def mR:SCode :=
 .seq (sO [iM 29 9,iM 30 8,iO 31 (.len (.t 30)),iV 32 .lss 29 31]
 (.cond (.t 32) (.skip)
 (.seq (.keep [5]) (.exit 2))))
 (.seq (.block 3 (.ops [iM 35 5,iM 36 8,iM 37 9,iO 38 (.ixa 1 (.t 36) (.t 37)),iL 39 38,iO 40 (.ixa 1 (.t 35) (.t 39)),iN (.store 1 (.t 40) (kB true))]))
 (.ops [iM 33 9,iO 34 (.ari .add (.t 33) (kI 1)),iM 9 34]))
def Ep:SCode :=
 sO [iO 2 (.vbox 7 (.t 0)),iO 4 (.mov (.n 1))]
 (sO [iO 10 (.lit 1 []),iM 11 1,iO 12 (.app 1 1 (.t 10) (.t 11)),iM 5 12]
 (sO [iK 13 7 2,iO 14 (.callr mE [.t 13]),iM 6 14]
 (.seq (sO [iO 7 (.mov (kI 0))]
 (.block 0 (.loop [2,5,6,7] mM)))
 (sO [iK 27 7 2,iO 28 (.callr Cd [.t 27]),iM 8 28]
 (.seq (sO [iO 9 (.mov (kI 0))]
 (.block 2 (.loop [5,8,9] mR)))
 (sO [iM 41 5,iM 4 41]
 (.ret)))))))
def wU:SFn:=⟨2,42,Ep,[.t 4]⟩
def C1:SCode :=
 sO [iO 2 (.mov (kI 0))]
 (.seq (sO [iM 3 0,iO 4 (.callr dX [.t 3,.c (.int .i64 1),.c (.int .i64 28)]),iO 5 (.not (.t 4))]
 (.cond (.t 5) (sO [iO 2 (.mov (kI 0))]
 (.ret))
 (.skip)))
 (sO [iO 6 (.lit 1 [.c (.int .i64 0),.c (.int .i64 9),.c (.int .i64 3),.c (.int .i64 7),.c (.int .i64 7),.c (.int .i64 7),.c (.int .i64 7),.c (.int .i64 7),.c (.int .i64 8),.c (.int .i64 8),.c (.int .i64 10),.c (.int .i64 49),.c (.int .i64 2),.c (.int .i64 2),.c (.int .i64 48),.c (.int .i64 3),.c (.int .i64 6),.c (.int .i64 3),.c (.int .i64 2),.c (.int .i64 45),.c (.int .i64 3),.c (.int .i64 6),.c (.int .i64 39),.c (.int .i64 1),.c (.int .i64 17),.c (.int .i64 2),.c (.int .i64 6),.c (.int .i64 6),.c (.int .i64 2)]),iM 7 0,iO 8 (.ixa 1 (.t 6) (.t 7)),iL 9 8,iM 2 9]
 (.ret)))
def tT:SFn:=⟨1,10,C1,[.t 2]⟩
def F0:SCode :=
 sO [iO 4 (.mov (kI 0))]
 (.seq (sO [iM 5 0,iM 6 1,iO 7 (.ixa 1 (.t 5) (.t 6)),iL 8 7,iE 9 .geq 8 0]
 (.cond (.t 9) (sO [iM 10 0,iM 11 1,iO 12 (.ixa 1 (.t 10) (.t 11)),iL 13 12,iM 4 13]
 (.ret))
 (.skip)))
 (sO [iM 14 1,iM 4 14]
 (.ret)))
def xP:SFn:=⟨2,15,F0,[.t 4]⟩
def yF:SCode :=
 sO [iM 6 0,iO 7 (.nck (.t 6)),iF 8 0 7,iL 9 8,iM 10 1,iO 11 (.ixa 1 (.t 9) (.t 10)),iN (.store 1 (.t 11) (kB true))]
 (.ops [iM 12 0,iO 13 (.nck (.t 12)),iF 14 1 13,iL 15 14,iM 16 1,iM 17 2,iO 18 (.ixa 1 (.t 15) (.t 16)),iN (.store 1 (.t 18) (.t 17))])
def oU:SFn:=⟨3,19,yF,[]⟩
def C9:SCode :=
 sO [iO 6 (.mov (kI 0))]
 (.seq (sO [iM 7 0]
 (.block 0 (sO [iE 9 .eql 7 3,iM 8 9]
 (.cond (.t 8) (sO [iM 10 1,iM 11 2,iO 12 (.ari .add (.t 10) (.t 11)),iO 13 (.callr rH [.t 12]),iM 6 13]
 (.ret))
 (sO [iE 15 .eql 7 4,iM 14 15]
 (.cond (.t 14) (sO [iM 16 1,iM 17 2,iO 18 (.ari .sub (.t 16) (.t 17)),iO 19 (.callr rH [.t 18]),iM 6 19]
 (.ret))
 (sO [iE 21 .eql 7 5,iM 20 21]
 (.cond (.t 20) (sO [iM 22 1,iM 23 2,iO 24 (.ari .mul (.t 22) (.t 23)),iO 25 (.callr rH [.t 24]),iM 6 25]
 (.ret))
 (sO [iE 27 .eql 7 6,iM 26 27]
 (.cond (.t 26) (sO [iM 28 1,iM 29 2,iV 30 .lss 28 29,iO 31 (.callr xK [.t 30]),iM 6 31]
 (.ret))
 (.skip)))))))))))
 (sO [iM 32 1,iM 33 2,iV 34 .eql 32 33,iO 35 (.callr xK [.t 34]),iM 6 35]
 (.ret)))
def t8:SFn:=⟨3,36,C9,[.t 6]⟩
def gQ:SCode :=
 .seq (sO [iM 8 5,iM 9 4,iO 10 (.len (.t 9)),iV 11 .lss 8 10]
 (.cond (.t 11) (.skip)
 (.seq (.keep []) (.exit 0))))
 (.seq (.block 1 (.ops [iM 14 0,iO 15 (.nck (.t 14)),iF 16 0 15,iL 17 16,iM 18 4,iM 19 5,iO 20 (.ixa 1 (.t 18) (.t 19)),iL 21 20,iO 22 (.ixa 1 (.t 17) (.t 21)),iN (.store 1 (.t 22) (kB false))]))
 (.ops [iM 12 5,iO 13 (.ari .add (.t 12) (kI 1)),iM 5 13]))
def vK:SCode :=
 sO [iO 3 (.vbox 7 (.t 1))]
 (sO [iK 6 7 3,iO 7 (.callr mE [.t 6]),iM 4 7]
 (sO [iO 5 (.mov (kI 0))]
 (.block 0 (.loop [0,4,5] gQ))))
def nK:SFn:=⟨2,23,vK,[]⟩
def lL:SCode :=
 .seq (sO [iM 8 4,iM 9 0,iO 10 (.len (.t 9)),iV 11 .lss 8 10]
 (.cond (.t 11) (.skip)
 (.seq (.keep [3]) (.exit 0))))
 (.seq (.block 1 (.ops [iM 14 3,iM 15 4,iM 16 0,iM 17 4,iO 18 (.ixa 1 (.t 16) (.t 17)),iL 19 18,iO 20 (.ixa 1 (.t 14) (.t 15)),iN (.store 1 (.t 20) (.t 19))]))
 (.ops [iM 12 4,iO 13 (.ari .add (.t 12) (kI 1)),iM 4 13]))
def Dh:SCode :=
 sO [iO 2 (.mov (.n 1))]
 (sO [iM 5 0,iO 6 (.len (.t 5)),iO 7 (.mk 1 8 [zI] (.t 6)),iM 3 7]
 (.seq (sO [iO 4 (.mov (kI 0))]
 (.block 0 (.loop [0,3,4] lL)))
 (sO [iM 21 3,iM 2 21]
 (.ret))))
def t6:SFn:=⟨1,22,Dh,[.t 2]⟩
def xA:SCode :=
 .clone 1 [iO 5 (.lit 1 []),iM 6 0,iO 7 (.app 1 8 (.t 5) (.t 6)),iM 2 7]
def gP:SFn:=⟨1,8,xA,[.t 2]⟩
def y9:SCode :=
 sO [iO 2 (.vbox 7 (.t 0)),iO 3 (.mov (kB false))]
 (sO [iF 4 0 2,iL 5 4,iE 6 .eql 5 9,iM 7 6,iU 8 7 (.faddr 0 (.t 2)),iU 9 7 (.load none (.t 8)),iU 10 7 (.cmp .eql (.t 9) (kI 10)),iO 11 (.pick (.t 7) (kB true) (.t 10)),iM 12 11,iT 13 12 (.faddr 4 (.t 2)),iT 14 12 (.load none (.t 13)),iT 15 12 (.faddr 4 (.t 1)),iT 16 12 (.load none (.t 15)),iT 17 12 (.cmp .eql (.t 14) (.t 16)),iO 18 (.pick (.t 12) (.t 17) (kB false)),iM 3 18]
 (.ret))
def rF:SFn:=⟨2,19,y9,[.t 3]⟩
def d8:SCode :=
 sO [iV 44 .lss 43 42]
 (.seq (.cond (.t 44) (.skip)
 (.seq (.keep [0,3,4,29,30,31]) (.exit 4)))
 (.seq (.block 5 (sO [iM 45 43,iO 46 (.ixa 1 (.t 41) (.t 43)),iL 47 46,iM 7 45,iM 8 47]
 (.ops [iM 48 0,iO 49 (.nck (.t 48)),iF 50 2 49,iL 51 50,iM 52 4,iO 53 (.ixa 1 (.t 51) (.t 52)),iL 54 53,iM 55 7,iM 56 0,iO 57 (.nck (.t 56)),iF 58 2 57,iL 59 58,iM 60 4,iO 61 (.ixa 1 (.t 59) (.t 60)),iL 62 61,iM 63 7,iO 64 (.ixa 1 (.t 62) (.t 63)),iL 65 64,iM 66 65,iU 67 66 (.mov (.t 8)),iO 68 (.pick (.t 66) (kB true) (.t 67)),iO 69 (.ixa 1 (.t 54) (.t 55)),iN (.store 1 (.t 69) (.t 68))])))
 (.ops [iO 70 (.ari .add (.t 43) (kI 1)),iM 43 70])))
def eB:SCode :=
 sO [iV 32 .lss 31 30]
 (.seq (.cond (.t 32) (.skip)
 (.seq (.keep [0,3,4]) (.exit 2)))
 (.seq (.block 3 (sO [iO 33 (.ixa 1 (.t 29) (.t 31)),iL 34 33,iM 6 34]
 (sO [iM 35 0,iO 36 (.nck (.t 35)),iF 37 1 36,iL 38 37,iM 39 6,iO 40 (.ixa 1 (.t 38) (.t 39)),iL 41 40,iO 42 (.len (.t 41)),iO 43 (.mov (kI 0))]
 (.block 4 (.loop [0,3,4,29,30,31,41,42,43] d8)))))
 (.ops [iO 71 (.ari .add (.t 31) (kI 1)),iM 31 71])))
def d7:SCode :=
 sO [iV 90 .lss 89 88]
 (.seq (.cond (.t 90) (.skip)
 (.seq (.keep [0,3,4,9]) (.exit 6)))
 (.seq (.block 7 (sO [iO 91 (.ixa 1 (.t 87) (.t 89)),iL 92 91,iM 11 92]
 (.ops [iM 93 9,iM 94 11,iO 95 (.ixa 1 (.t 93) (.t 94)),iN (.store 1 (.t 95) (kB false))])))
 (.ops [iO 96 (.ari .add (.t 89) (kI 1)),iM 89 96])))
def d9:SCode :=
 sO [iV 107 .lss 106 105]
 (.seq (.cond (.t 107) (.skip)
 (.seq (.keep [0,3,4,9]) (.exit 8)))
 (.seq (.block 9 (sO [iO 108 (.ixa 1 (.t 104) (.t 106)),iL 109 108,iM 13 109]
 (.ops [iM 110 9,iM 111 13,iO 112 (.ixa 1 (.t 110) (.t 111)),iN (.store 1 (.t 112) (kB true))])))
 (.ops [iO 113 (.ari .add (.t 106) (kI 1)),iM 106 113])))
def cK:SCode :=
 .seq (sO [iM 20 4,iE 21 .geq 20 0]
 (.cond (.t 21) (.skip)
 (.seq (.keep [3]) (.exit 0))))
 (.seq (.block 1 (.seq (sO [iM 24 0,iO 25 (.nck (.t 24)),iF 26 0 25,iL 27 26,iM 28 4,iO 29 (.callr Gt [.t 27,.t 28]),iO 30 (.len (.t 29)),iO 31 (.mov (kI 0))]
 (.block 2 (.loop [0,3,4,29,30,31] eB)))
 (sO [iM 72 0,iO 73 (.nck (.t 72)),iF 74 2 73,iL 75 74,iM 76 4,iO 77 (.ixa 1 (.t 75) (.t 76)),iL 78 77,iO 79 (.call gN [.t 78]),iM 9 79]
 (.seq (sO [iM 80 0,iO 81 (.nck (.t 80)),iF 82 0 81,iL 83 82,iM 84 4,iO 85 (.ixa 7 (.t 83) (.t 84)),iK 86 7 85,iO 87 (.callr l5 [.t 86]),iO 88 (.len (.t 87)),iO 89 (.mov (kI 0))]
 (.block 6 (.loop [0,3,4,9,87,88,89] d7)))
 (.seq (sO [iM 97 0,iO 98 (.nck (.t 97)),iF 99 0 98,iL 100 99,iM 101 4,iO 102 (.ixa 7 (.t 100) (.t 101)),iK 103 7 102,iO 104 (.callr B8 [.t 103]),iO 105 (.len (.t 104)),iO 106 (.mov (kI 0))]
 (.block 8 (.loop [0,3,4,9,104,105,106] d9)))
 (sO [iM 114 9,iM 115 0,iO 116 (.nck (.t 115)),iF 117 1 116,iL 118 117,iM 119 4,iO 120 (.ixa 1 (.t 118) (.t 119)),iL 121 120,iO 122 (.callr iA [.t 114,.t 121]),iO 123 (.not (.t 122))]
 (.cond (.t 123) (sO [iM 124 0,iO 125 (.nck (.t 124)),iF 126 1 125,iL 127 126,iM 128 4,iM 129 9,iO 130 (.ixa 1 (.t 127) (.t 128)),iN (.store 1 (.t 130) (.t 129))]
 (.ops [iO 3 (.mov (kB true))]))
 (.skip))))))))
 (.ops [iM 22 4,iO 23 (.ari .sub (.t 22) (kI 1)),iM 4 23]))
def oO:SCode :=
 sO [iO 2 (.mov (kB false))]
 (sO [iO 3 (.mov (kB false))]
 (.seq (sO [iM 14 0,iO 15 (.nck (.t 14)),iF 16 0 15,iL 17 16,iO 18 (.len (.t 17)),iO 19 (.ari .sub (.t 18) (kI 1)),iM 4 19]
 (.block 0 (.loop [0,3,4] cK)))
 (sO [iM 131 3,iM 2 131]
 (.ret))))
def jU:SFn:=⟨1,132,oO,[.t 2]⟩
def pG:SCode :=
 sO [iM 6 0,iO 7 (.nck (.t 6)),iF 8 0 7,iL 9 8,iM 10 1,iO 11 (.ixa 1 (.t 9) (.t 10)),iN (.store 1 (.t 11) (kB true))]
 (.ops [iM 12 0,iO 13 (.nck (.t 12)),iF 14 1 13,iL 15 14,iM 16 1,iM 17 2,iO 18 (.ixa 1 (.t 15) (.t 16)),iN (.store 1 (.t 18) (.t 17))])
def kS:SFn:=⟨3,19,pG,[]⟩
def Bb:SCode :=
 sO [iO 6 (.mov (kI 0))]
 (sO [iM 8 0,iE 9 .eql 8 6,iM 10 9,iT 11 10 (.mov (.t 1)),iT 12 10 (.mov (.t 2)),iT 13 10 (.cmp .lss (.t 11) (.t 12)),iO 14 (.pick (.t 10) (.t 13) (kB false)),iM 15 14,iU 16 15 (.mov (.t 0)),iU 17 15 (.cmp .eql (.t 16) (kI 7)),iU 18 15 (.mov (.t 17)),iT 19 18 (.mov (.t 1)),iT 20 18 (.mov (.t 2)),iT 21 18 (.cmp .eql (.t 19) (.t 20)),iU 22 15 (.pick (.t 18) (.t 21) (kB false)),iO 23 (.pick (.t 15) (kB true) (.t 22)),iM 7 23]
 (.seq (.block 0 (sO [iM 25 0,iE 26 .eql 25 3,iM 24 26]
 (.cond (.t 24) (sO [iM 27 1,iM 28 2,iO 29 (.ari .add (.t 27) (.t 28)),iO 30 (.callr rJ [.t 29]),iM 6 30]
 (.ret))
 (sO [iM 32 0,iE 33 .eql 32 4,iM 31 33]
 (.cond (.t 31) (sO [iM 34 1,iM 35 2,iO 36 (.ari .sub (.t 34) (.t 35)),iO 37 (.callr rJ [.t 36]),iM 6 37]
 (.ret))
 (sO [iM 39 0,iE 40 .eql 39 5,iM 38 40]
 (.cond (.t 38) (sO [iM 41 1,iM 42 2,iO 43 (.ari .mul (.t 41) (.t 42)),iO 44 (.callr rJ [.t 43]),iM 6 44]
 (.ret))
 (sO [iM 46 7,iM 45 46]
 (.cond (.t 45) (sO [iO 6 (.mov (kI 1))]
 (.ret))
 (.skip))))))))))
 (sO [iO 6 (.mov (kI 0))]
 (.ret))))
def qG:SFn:=⟨3,47,Bb,[.t 6]⟩
def lI:SCode :=
 .seq (sO [iM 11 5,iM 12 0,iO 13 (.len (.t 12)),iV 14 .lss 11 13]
 (.cond (.t 14) (.skip)
 (.seq (.keep []) (.exit 0))))
 (.seq (.block 1 (sO [iM 17 0,iM 18 5,iO 19 (.ixa 1 (.t 17) (.t 18)),iL 20 19,iM 21 1,iM 22 5,iO 23 (.ixa 1 (.t 21) (.t 22)),iL 24 23,iV 25 .neq 20 24]
 (.cond (.t 25) (sO [iO 4 (.mov (kB false))]
 (.seq (.keep [4]) .ret))
 (.skip))))
 (.ops [iM 15 5,iO 16 (.ari .add (.t 15) (kI 1)),iM 5 16]))
def Do:SCode :=
 sO [iO 4 (.mov (kB false))]
 (.seq (sO [iM 6 0,iO 7 (.len (.t 6)),iM 8 1,iO 9 (.len (.t 8)),iV 10 .neq 7 9]
 (.cond (.t 10) (sO [iO 4 (.mov (kB false))]
 (.ret))
 (.skip)))
 (.seq (sO [iO 5 (.mov (kI 0))]
 (.block 0 (.loop [0,1,5] lI)))
 (sO [iO 4 (.mov (kB true))]
 (.ret))))
def tU:SFn:=⟨2,26,Do,[.t 4]⟩
def jB:SCode :=
 sO [iO 4 (.mov (kB false))]
 (sO [iM 5 0,iM 6 1,iO 7 (.callr gU [.t 5,.t 6]),iE 8 .geq 7 0,iM 4 8]
 (.ret))
def eC:SFn:=⟨2,9,jB,[.t 4]⟩
def Hz:SCode :=
 sO [iO 2 (.mov (.c (.string ⟨#[]⟩)))]
 (.seq (sO [iM 3 0]
 (.block 0 (sO [iE 5 .eql 3 1,iM 4 5]
 (.cond (.t 4) (sO [iO 2 (.mov (.c (.string ⟨#[68,78]⟩)))]
 (.ret))
 (.seq (sO [iE 7 .eql 3 2,iM 6 7]
 (.cond (.t 6) (.skip)
 (sO [iE 8 .eql 3 15,iM 6 8]
 (.cond (.t 6) (.skip)
 (sO [iE 9 .eql 3 17,iM 6 9]
 (.cond (.t 6) (.skip)
 (.ops [iE 10 .eql 3 20,iM 6 10])))))))
 (.cond (.t 6) (sO [iO 2 (.mov (.c (.string ⟨#[68,65]⟩)))]
 (.ret))
 (.seq (sO [iE 12 .eql 3 3,iM 11 12]
 (.cond (.t 11) (.skip)
 (sO [iE 13 .eql 3 4,iM 11 13]
 (.cond (.t 11) (.skip)
 (sO [iE 14 .eql 3 5,iM 11 14]
 (.cond (.t 11) (.skip)
 (sO [iE 15 .eql 3 6,iM 11 15]
 (.cond (.t 11) (.skip)
 (.ops [iE 16 .eql 3 7,iM 11 16])))))))))
 (.cond (.t 11) (sO [iO 2 (.mov (.c (.string ⟨#[68,65,66]⟩)))]
 (.ret))
 (.seq (sO [iE 18 .eql 3 8,iM 17 18]
 (.cond (.t 17) (.skip)
 (.ops [iE 19 .eql 3 9,iM 17 19])))
 (.cond (.t 17) (sO [iO 2 (.mov (.c (.string ⟨#[78]⟩)))]
 (.ret))
 (sO [iE 21 .eql 3 10,iM 20 21]
 (.cond (.t 20) (sO [iO 2 (.mov (.c (.string ⟨#[65,78]⟩)))]
 (.ret))
 (sO [iE 23 .eql 3 11,iM 22 23]
 (.cond (.t 22) (sO [iO 2 (.mov (.c (.string ⟨#[68,83,88]⟩)))]
 (.ret))
 (.seq (sO [iE 25 .eql 3 12,iM 24 25]
 (.cond (.t 24) (.skip)
 (sO [iE 26 .eql 3 13,iM 24 26]
 (.cond (.t 24) (.skip)
 (sO [iE 27 .eql 3 18,iM 24 27]
 (.cond (.t 24) (.skip)
 (sO [iE 28 .eql 3 25,iM 24 28]
 (.cond (.t 24) (.skip)
 (.ops [iE 29 .eql 3 28,iM 24 29])))))))))
 (.cond (.t 24) (sO [iO 2 (.mov (.c (.string ⟨#[65]⟩)))]
 (.ret))
 (sO [iE 31 .eql 3 14,iM 30 31]
 (.cond (.t 30) (sO [iO 2 (.mov (.c (.string ⟨#[83,88]⟩)))]
 (.ret))
 (.seq (sO [iE 33 .eql 3 16,iM 32 33]
 (.cond (.t 32) (.skip)
 (sO [iE 34 .eql 3 21,iM 32 34]
 (.cond (.t 32) (.skip)
 (sO [iE 35 .eql 3 26,iM 32 35]
 (.cond (.t 32) (.skip)
 (.ops [iE 36 .eql 3 27,iM 32 36])))))))
 (.cond (.t 32) (sO [iO 2 (.mov (.c (.string ⟨#[65,66]⟩)))]
 (.ret))
 (sO [iE 38 .eql 3 19,iM 37 38]
 (.cond (.t 37) (sO [iO 2 (.mov (.c (.string ⟨#[68,66,78,88]⟩)))]
 (.ret))
 (sO [iE 40 .eql 3 22,iM 39 40]
 (.cond (.t 39) (sO [iO 2 (.mov (.c (.string ⟨#[68,65,66,88]⟩)))]
 (.ret))
 (sO [iE 42 .eql 3 23,iM 41 42]
 (.cond (.t 41) (sO [iO 2 (.mov (.c (.string ⟨#[68]⟩)))]
 (.ret))
 (sO [iE 44 .eql 3 24,iM 43 44]
 (.cond (.t 43) (sO [iO 2 (.mov (.c (.string ⟨#[68,83]⟩)))]
 (.ret))
 (.skip)))))))))))))))))))))))))))))
 (sO [iO 2 (.mov (.c (.string ⟨#[]⟩)))]
 (.ret)))
def Bc:SFn:=⟨1,45,Hz,[.t 2]⟩
def j4:SCode :=
 .seq (sO [iM 12 4,iM 13 3,iV 14 .lss 12 13]
 (.cond (.t 14) (.skip)
 (.seq (.keep [3]) (.exit 1))))
 (.seq (.block 2 (sO [iF 17 6 1,iL 18 17,iM 19 4,iO 20 (.ixa 1 (.t 18) (.t 19)),iL 21 20,iO 22 (.callr dX [.t 21,.c (.int .i64 1),.c (.int .i64 2)]),iO 23 (.not (.t 22)),iM 24 23,iU 25 24 (.mov (.t 4)),iU 26 24 (.ari .add (.t 25) (kI 2)),iU 27 24 (.mov (.t 3)),iU 28 24 (.cmp .lss (.t 26) (.t 27)),iU 29 24 (.mov (.t 28)),iT 30 29 (.faddr 6 (.t 1)),iT 31 29 (.load none (.t 30)),iT 32 29 (.mov (.t 4)),iT 33 29 (.ixa 1 (.t 31) (.t 32)),iT 34 29 (.load none (.t 33)),iT 35 29 (.cmp .eql (.t 34) (kI 1)),iU 36 24 (.pick (.t 29) (.t 35) (kB false)),iU 37 24 (.mov (.t 36)),iT 38 37 (.faddr 6 (.t 1)),iT 39 37 (.load none (.t 38)),iT 40 37 (.mov (.t 4)),iT 41 37 (.ari .add (.t 40) (kI 2)),iT 42 37 (.ixa 1 (.t 39) (.t 41)),iT 43 37 (.load none (.t 42)),iT 44 37 (.cmp .neq (.t 43) (kI 0)),iU 45 24 (.pick (.t 37) (.t 44) (kB false)),iO 46 (.pick (.t 24) (kB true) (.t 45))]
 (.cond (.t 46) (sO [iO 2 (.mov (kB false))]
 (.seq (.keep [2]) .ret))
 (.skip))))
 (.ops [iM 15 4,iO 16 (.ari .add (.t 15) (kI 3)),iM 4 16]))
def zL:SCode :=
 sO [iO 1 (.vbox 7 (.t 0)),iO 2 (.mov (kB false))]
 (sO [iF 5 6 1,iL 6 5,iO 7 (.len (.t 6)),iM 3 7]
 (.seq (sO [iF 8 0 1,iL 9 8]
 (.block 0 (sO [iE 11 .eql 9 19,iM 10 11]
 (.cond (.t 10) (.seq (sO [iO 4 (.mov (kI 0))]
 (.block 1 (.loop [1,3,4] j4)))
 (sO [iM 47 3,iE 48 .eql 47 3,iM 49 48,iU 50 49 (.mov (.t 3)),iU 51 49 (.cmp .eql (.t 50) (kI 6)),iO 52 (.pick (.t 49) (kB true) (.t 51)),iM 53 52,iU 54 53 (.mov (.t 3)),iU 55 53 (.cmp .eql (.t 54) (kI 9)),iO 56 (.pick (.t 53) (kB true) (.t 55)),iM 2 56]
 (.ret)))
 (sO [iE 58 .eql 9 22,iM 57 58]
 (.cond (.t 57) (sO [iM 59 3,iE 60 .eql 59 1,iM 2 60]
 (.ret))
 (.seq (sO [iE 62 .eql 9 11,iM 61 62]
 (.cond (.t 61) (.skip)
 (.ops [iE 63 .eql 9 14,iM 61 63])))
 (.cond (.t 61) (sO [iM 64 3,iE 65 .leq 64 4,iM 2 65]
 (.ret))
 (.skip)))))))))
 (sO [iM 66 3,iE 67 .eql 66 0,iM 2 67]
 (.ret))))
def qN:SFn:=⟨1,68,zL,[.t 2]⟩
def kK:SCode :=
 .seq (sO [iM 12 6,iM 13 5,iO 14 (.len (.t 13)),iV 15 .lss 12 14]
 (.cond (.t 15) (.skip)
 (.seq (.keep []) (.exit 0))))
 (.seq (.block 1 (sO [iM 18 5,iM 19 6,iO 20 (.ixa 1 (.t 18) (.t 19)),iL 21 20,iM 22 1,iO 23 (.ari .sub (.t 22) (kI 1)),iO 24 (.callr dX [.t 21,.c (.int .i64 0),.t 23]),iO 25 (.not (.t 24))]
 (.cond (.t 25) (sO [iO 4 (.mov (kB false))]
 (.seq (.keep [4]) .ret))
 (.skip))))
 (.ops [iM 16 6,iO 17 (.ari .add (.t 16) (kI 1)),iM 6 17]))
def Bd:SCode :=
 sO [iO 2 (.vbox 7 (.t 0)),iO 4 (.mov (kB false))]
 (.seq (.opsd [⟨iK 7 7 2,0,[]⟩,⟨iK 9 7 2,2,[]⟩,⟨iO 8 (.call mE [.t 7]),1,[iK 9 7 2]⟩,⟨iO 10 (.call Cd [.t 9]),3,[]⟩,⟨iO 11 (.app 1 8 (.t 8) (.t 10)),4,[]⟩,⟨iM 5 11,5,[]⟩])
 (.seq (sO [iO 6 (.mov (kI 0))]
 (.block 0 (.loop [1,5,6] kK)))
 (sO [iO 4 (.mov (kB true))]
 (.ret))))
def qR:SFn:=⟨2,26,Bd,[.t 4]⟩
def De:SCode :=
 sO [iO 2 (.mov (kB false))]
 (sO [iM 3 0,iO 4 (.callr dX [.t 3,.c (.int .i64 (-2147483648)),.c (.int .i64 2147483647)]),iM 2 4]
 (.ret))
def s9:SFn:=⟨1,5,De,[.t 2]⟩
def iP:SCode :=
 .seq (sO [iM 31 5,iF 32 6 1,iL 33 32,iO 34 (.len (.t 33)),iV 35 .lss 31 34,iM 36 35,iT 37 36 (.mov (.t 4)),iT 38 36 (.ari .and (.t 37) (kI 32)),iT 39 36 (.cmp .neq (.t 38) (kI 0)),iO 40 (.pick (.t 36) (.t 39) (kB false))]
 (.cond (.t 40) (.skip)
 (.seq (.keep [3]) (.exit 0))))
 (.seq (.block 1 (sO [iF 43 0 1,iL 44 43,iE 45 .neq 44 19,iM 46 45,iU 47 46 (.mov (.t 5)),iU 48 46 (.ari .rem (.t 47) (kI 3)),iU 49 46 (.cmp .eql (.t 48) (kI 1)),iO 50 (.pick (.t 46) (kB true) (.t 49)),iM 51 50,iU 52 51 (.mov (.t 5)),iU 53 51 (.ari .rem (.t 52) (kI 3)),iU 54 51 (.cmp .eql (.t 53) (kI 2)),iU 55 51 (.mov (.t 54)),iT 56 55 (.faddr 6 (.t 1)),iT 57 55 (.load none (.t 56)),iT 58 55 (.mov (.t 5)),iT 59 55 (.ari .sub (.t 58) (kI 2)),iT 60 55 (.ixa 1 (.t 57) (.t 59)),iT 61 55 (.load none (.t 60)),iT 62 55 (.cmp .eql (.t 61) (kI 2)),iU 63 51 (.pick (.t 55) (.t 62) (kB false)),iO 64 (.pick (.t 51) (kB true) (.t 63))]
 (.cond (.t 64) (.ops [iM 65 3,iF 66 6 1,iL 67 66,iM 68 5,iO 69 (.ixa 1 (.t 67) (.t 68)),iL 70 69,iO 71 (.lit 1 [.t 70]),iO 72 (.app 1 8 (.t 65) (.t 71)),iM 3 72])
 (.skip))))
 (.ops [iM 41 5,iO 42 (.ari .add (.t 41) (kI 1)),iM 5 42]))
def Hv:SCode :=
 sO [iO 1 (.vbox 7 (.t 0)),iO 2 (.mov (.n 1))]
 (sO [iO 6 (.lit 1 []),iM 3 6]
 (sO [iF 7 0 1,iL 8 7,iO 9 (.callr l7 [.t 8]),iM 4 9]
 (.seq (sO [iM 10 4,iO 11 (.ari .and (.t 10) (kI 2)),iE 12 .neq 11 0]
 (.cond (.t 12) (.ops [iM 13 3,iF 14 2 1,iL 15 14,iO 16 (.lit 1 [.t 15]),iO 17 (.app 1 8 (.t 13) (.t 16)),iM 3 17])
 (.skip)))
 (.seq (sO [iM 18 4,iO 19 (.ari .and (.t 18) (kI 4)),iE 20 .neq 19 0,iM 21 20,iT 22 21 (.faddr 0 (.t 1)),iT 23 21 (.load none (.t 22)),iT 24 21 (.cmp .neq (.t 23) (kI 19)),iO 25 (.pick (.t 21) (.t 24) (kB false))]
 (.cond (.t 25) (.ops [iM 26 3,iF 27 3 1,iL 28 27,iO 29 (.lit 1 [.t 28]),iO 30 (.app 1 8 (.t 26) (.t 29)),iM 3 30])
 (.skip)))
 (.seq (sO [iO 5 (.mov (kI 0))]
 (.block 0 (.loop [1,3,4,5] iP)))
 (sO [iM 73 3,iM 2 73]
 (.ret)))))))
def A6:SFn:=⟨1,74,Hv,[.t 2]⟩
def Dq:SCode :=
 sO [iO 2 (.mov (kB false))]
 (sO [iM 3 0,iO 4 (.callr cX [.t 3,.c (.int .i64 (-2147483648)),.c (.int .i64 2147483647)]),iM 2 4]
 (.ret))
def sU:SFn:=⟨1,5,Dq,[.t 2]⟩
def lH:SCode :=
 .seq (sO [iM 10 5,iO 11 (.ari .add (.t 10) (kI 2)),iF 12 6 2,iL 13 12,iO 14 (.len (.t 13)),iV 15 .lss 11 14]
 (.cond (.t 15) (.skip)
 (.seq (.keep [2]) (.exit 1))))
 (.seq (.block 2 (sO [iF 18 6 2,iL 19 18,iM 20 5,iO 21 (.ixa 1 (.t 19) (.t 20)),iL 22 21,iO 23 (.callr cX [.t 22,.c (.int .i64 1),.c (.int .i64 2)]),iO 24 (.not (.t 23)),iM 25 24,iU 26 25 (.faddr 6 (.t 2)),iU 27 25 (.load none (.t 26)),iU 28 25 (.mov (.t 5)),iU 29 25 (.ixa 1 (.t 27) (.t 28)),iU 30 25 (.load none (.t 29)),iU 31 25 (.cmp .eql (.t 30) (kI 1)),iU 32 25 (.mov (.t 31)),iT 33 32 (.faddr 6 (.t 2)),iT 34 32 (.load none (.t 33)),iT 35 32 (.mov (.t 5)),iT 36 32 (.ari .add (.t 35) (kI 2)),iT 37 32 (.ixa 1 (.t 34) (.t 36)),iT 38 32 (.load none (.t 37)),iT 39 32 (.cmp .neq (.t 38) (kI 0)),iU 40 25 (.pick (.t 32) (.t 39) (kB false)),iO 41 (.pick (.t 25) (kB true) (.t 40))]
 (.cond (.t 41) (sO [iO 4 (.mov (kB false))]
 (.seq (.keep [4]) .ret))
 (.skip))))
 (.ops [iM 16 5,iO 17 (.ari .add (.t 16) (kI 3)),iM 5 17]))
def C0:SCode :=
 sO [iO 2 (.vbox 7 (.t 0)),iO 4 (.mov (kB false))]
 (.seq (.block 0 (sO [iF 7 0 2,iL 8 7,iE 9 .eql 8 19,iM 6 9]
 (.cond (.t 6) (.seq (sO [iO 5 (.mov (kI 0))]
 (.block 1 (.loop [2,5] lH)))
 (sO [iF 42 6 2,iL 43 42,iO 44 (.len (.t 43)),iO 45 (.ari .rem (.t 44) (kI 3)),iE 46 .eql 45 0,iM 47 46,iT 48 47 (.faddr 6 (.t 2)),iT 49 47 (.load none (.t 48)),iT 50 47 (.len (.t 49)),iT 51 47 (.callr cX [.t 50,.c (.int .i64 3),.c (.int .i64 9)]),iO 52 (.pick (.t 47) (.t 51) (kB false)),iM 53 52,iT 54 53 (.faddr 4 (.t 2)),iT 55 53 (.load none (.t 54)),iT 56 53 (.callr cX [.t 55,.c (.int .i64 0),.c (.int .i64 1)]),iO 57 (.pick (.t 53) (.t 56) (kB false)),iM 4 57]
 (.ret)))
 (sO [iF 59 0 2,iL 60 59,iE 61 .eql 60 22,iM 58 61]
 (.cond (.t 58) (sO [iF 62 6 2,iL 63 62,iO 64 (.len (.t 63)),iE 65 .eql 64 1,iM 4 65]
 (.ret))
 (sO [iF 67 0 2,iL 68 67,iO 69 (.callr cR [.t 68,.c (.int .u8 88)]),iO 70 (.not (.t 69)),iM 66 70]
 (.cond (.t 66) (sO [iF 71 6 2,iL 72 71,iO 73 (.len (.t 72)),iE 74 .eql 73 0,iM 4 74]
 (.ret))
 (.skip))))))))
 (sO [iF 75 6 2,iL 76 75,iO 77 (.len (.t 76)),iE 78 .leq 77 4,iM 4 78]
 (.ret)))
def tA:SFn:=⟨2,79,C0,[.t 4]⟩
def gL:SCode :=
 sO [iO 4 (.mov (kB false))]
 (sO [iM 5 0,iM 6 1,iO 7 (.calli (.f fP) [.t 5,.t 6]),iE 8 .geq 7 0,iM 4 8]
 (.ret))
def dS:SFn:=⟨2,9,gL,[.t 4]⟩
def nU:SCode :=
 sO [iV 14 .lss 13 12]
 (.seq (.cond (.t 14) (.skip)
 (.seq (.keep [3]) (.exit 0)))
 (.seq (.block 1 (sO [iM 15 13,iO 16 (.ixa 1 (.t 11) (.t 13)),iL 17 16,iM 4 15,iM 5 17]
 (sO [iM 18 4,iO 19 (.ari .rem (.t 18) (kI 3)),iE 20 .eql 19 1,iM 21 20,iU 22 21 (.mov (.t 4)),iU 23 21 (.ari .rem (.t 22) (kI 3)),iU 24 21 (.cmp .eql (.t 23) (kI 2)),iU 25 21 (.mov (.t 24)),iT 26 25 (.faddr 6 (.t 1)),iT 27 25 (.load none (.t 26)),iT 28 25 (.mov (.t 4)),iT 29 25 (.ari .sub (.t 28) (kI 2)),iT 30 25 (.ixa 1 (.t 27) (.t 29)),iT 31 25 (.load none (.t 30)),iT 32 25 (.cmp .eql (.t 31) (kI 2)),iU 33 21 (.pick (.t 25) (.t 32) (kB false)),iO 34 (.pick (.t 21) (kB true) (.t 33))]
 (.cond (.t 34) (.ops [iM 35 3,iM 36 5,iO 37 (.lit 1 [.t 36]),iO 38 (.app 1 8 (.t 35) (.t 37)),iM 3 38])
 (.skip)))))
 (.ops [iO 39 (.ari .add (.t 13) (kI 1)),iM 13 39])))
def Hw:SCode :=
 sO [iO 1 (.vbox 7 (.t 0)),iO 2 (.mov (.n 1))]
 (sO [iO 6 (.lit 1 []),iM 3 6]
 (.seq (sO [iF 7 0 1,iL 8 7,iE 9 .eql 8 19]
 (.cond (.t 9) (.seq (sO [iF 10 6 1,iL 11 10,iO 12 (.len (.t 11)),iO 13 (.mov (kI 0))]
 (.block 0 (.loop [1,3,11,12,13] nU)))
 (sO [iM 40 3,iM 2 40]
 (.ret)))
 (.skip)))
 (.seq (sO [iF 41 0 1,iL 42 41,iO 43 (.callr cR [.t 42,.c (.int .u8 65)])]
 (.cond (.t 43) (.ops [iM 44 3,iF 45 2 1,iL 46 45,iO 47 (.lit 1 [.t 46]),iO 48 (.app 1 8 (.t 44) (.t 47)),iM 3 48])
 (.skip)))
 (.seq (sO [iF 49 0 1,iL 50 49,iO 51 (.callr cR [.t 50,.c (.int .u8 66)])]
 (.cond (.t 51) (.ops [iM 52 3,iF 53 3 1,iL 54 53,iO 55 (.lit 1 [.t 54]),iO 56 (.app 1 8 (.t 52) (.t 55)),iM 3 56])
 (.skip)))
 (.seq (sO [iF 57 0 1,iL 58 57,iO 59 (.callr cR [.t 58,.c (.int .u8 88)])]
 (.cond (.t 59) (.ops [iM 60 3,iF 61 6 1,iL 62 61,iO 63 (.app 1 8 (.t 60) (.t 62)),iM 3 63])
 (.skip)))
 (sO [iM 64 3,iM 2 64]
 (.ret)))))))
def A3:SFn:=⟨1,65,Hw,[.t 2]⟩
def Ar:SCode :=
 sO [iO 3 (.mov (kB false))]
 (sO [iM 4 0,iL 5 1,iO 6 (.ari .sub (.t 5) (kI 1)),iO 7 (.callr cX [.t 4,.c (.int .i64 0),.t 6]),iO 8 (.not (.t 7)),iM 3 8]
 (.ret))
def qD:SFn:=⟨2,9,Ar,[.t 3]⟩
def vS:SCode :=
 sO [iO 2 (.vbox 7 (.t 0)),iO 3 (.mov (kB false))]
 (sO [iF 4 0 2,iL 5 4,iE 6 .eql 5 8,iM 7 6,iT 8 7 (.faddr 4 (.t 2)),iT 9 7 (.load none (.t 8)),iT 10 7 (.load none (.t 1)),iT 11 7 (.cmp .eql (.t 9) (.t 10)),iO 12 (.pick (.t 7) (.t 11) (kB false)),iM 3 12]
 (.ret))
def nF:SFn:=⟨2,13,vS,[.t 3]⟩
def m7:SCode :=
 .lib 1
def m8:SFn:=⟨1,11,m7,[]⟩
def lA:SCode :=
 .lib 2
def kX:SFn:=⟨1,61,lA,[.t 0]⟩
end Go.Ev.G
