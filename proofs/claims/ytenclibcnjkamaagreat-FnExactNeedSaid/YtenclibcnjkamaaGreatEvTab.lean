import Derived.Test.YtenclibcnjkamaaGreatEvRow
set_option linter.all false
namespace Go.Ev.G
abbrev mU:Nat:=3
abbrev sZ:Nat:=8
abbrev sP:Nat:=9
abbrev lS:Nat:=10
abbrev Co:Nat:=11
abbrev tH:Nat:=12
abbrev xI:Nat:=13
abbrev vU:Nat:=15
abbrev wC:Nat:=17
abbrev oC:Nat:=31
abbrev yZ:Nat:=32
abbrev yW:Nat:=33
abbrev qD:Nat:=34
abbrev sY:Nat:=35
abbrev wT:Nat:=36
abbrev v7:Nat:=42
abbrev vH:Nat:=48
abbrev xH:Nat:=56
abbrev qX:Nat:=57
abbrev lE:Nat:=60
abbrev zK:Nat:=64
abbrev cQ:Nat:=68
abbrev mZ:Nat:=69
abbrev zW:Nat:=70
abbrev zQ:Nat:=71
abbrev wL:Nat:=75
abbrev lX:Nat:=77
abbrev oL:Nat:=79
abbrev y8:Nat:=82
abbrev Cm:Nat:=87
abbrev wI:Nat:=88
abbrev oJ:Nat:=93
abbrev y9:Nat:=96
abbrev dO:Nat:=99
abbrev eK:Nat:=100
abbrev y5:Nat:=101
abbrev rI:Nat:=102
abbrev iB:Nat:=103
abbrev nV:Nat:=104
abbrev rE:Nat:=105
abbrev tT:Nat:=106
abbrev dK:Nat:=115
abbrev yX:Nat:=116
abbrev jN:Nat:=117
abbrev c7:Nat:=118
abbrev zF:Nat:=119
abbrev uC:Nat:=120
abbrev dQ:Nat:=121
abbrev t8:Nat:=122
abbrev gW:Nat:=123
abbrev dY:Nat:=124
abbrev wG:Nat:=133
abbrev tL:Nat:=135
abbrev zO:Nat:=136
abbrev nG:Nat:=137
abbrev wH:Nat:=142
abbrev gN:Nat:=145
abbrev vY:Nat:=148
abbrev eY:Nat:=149
abbrev xS:Nat:=150
abbrev tP:Nat:=151
abbrev s7:Nat:=152
abbrev qF:Nat:=153
abbrev sB:Nat:=154
abbrev p9:Nat:=157
abbrev xJ:Nat:=158
abbrev eH:Nat:=159
abbrev sL:Nat:=160
abbrev gQ:Nat:=161
abbrev lV:Nat:=162
abbrev n9:Nat:=163
abbrev iH:Nat:=164
abbrev fX:Nat:=165
abbrev eI:Nat:=166
abbrev fH:Nat:=167
abbrev i8:Nat:=168
abbrev Cf:Nat:=172
abbrev gY:Nat:=173
abbrev gU:Nat:=174
abbrev gV:Nat:=176
abbrev fI:Nat:=177
abbrev tS:Nat:=178
abbrev j5:Nat:=179
abbrev cE:Nat:=182
abbrev aT:Nat:=183
abbrev cR:Nat:=195
abbrev cC:Nat:=202
def pO:SCode :=
 sO [iO 4 (.mov (kB false))]
 (.seq (sO [iM 9 1,iO 10 (.slen (.t 9)),iE 11 .gtr 10 1048576]
 (.cond (.t 11) (sO [iO 4 (.mov (kB true))]
 (.ret))
 (.skip)))
 (sO [iO 5 (.mov (kI 1048576))]
 (sO [iM 12 0,iM 13 5,iO 14 (.callr sZ [.t 12,.t 13]),iM 5 14]
 (.seq (sO [iM 15 5,iE 16 .lss 15 0]
 (.cond (.t 16) (sO [iO 4 (.mov (kB true))]
 (.ret))
 (.skip)))
 (sO [iM 17 0,iO 18 (.callr lS [.t 17]),iM 19 1,iO 20 (.callr sP [.t 18,.t 19]),iM 6 20]
 (sO [iM 21 0,iO 22 (.callr lS [.t 21]),iM 7 22]
 (sO [iM 23 7,iM 24 1,iO 25 (.callr Co [.t 23,.t 24]),iM 8 25]
 (.seq (sO [iM 26 8,iM 27 6,iV 28 .neq 26 27]
 (.cond (.t 28) (sO [iO 4 (.mov (kB false))]
 (.ret))
 (.skip)))
 (.seq (sO [iM 29 7,iM 30 0,iO 31 (.callr lS [.t 30]),iO 32 (.callr tH [.t 29,.t 31]),iO 33 (.not (.t 32))]
 (.cond (.t 33) (sO [iO 4 (.mov (kB false))]
 (.ret))
 (.skip)))
 (sO [iO 4 (.mov (kB true))]
 (.ret)))))))))))
def kW:SFn:=⟨2,34,pO,[.t 4]⟩
def jM:SCode :=
 .seq (sO [iM 12 5,iM 13 0,iO 14 (.len (.t 13)),iV 15 .lss 12 14]
 (.cond (.t 15) (.skip)
 (.seq (.keep [1]) (.exit 0))))
 (.seq (.block 1 (sO [iM 18 0,iM 19 5,iO 20 (.ixa 4 (.t 18) (.t 19)),iK 21 4 20,iM 22 1,iO 23 (.callr xI [.t 21,.t 22]),iM 1 23]
 (sO [iM 24 1,iE 25 .lss 24 0]
 (.cond (.t 25) (sO [iO 4 (.mov (kI (-1)))]
 (.seq (.keep [4]) .ret))
 (.skip)))))
 (.ops [iM 16 5,iO 17 (.ari .add (.t 16) (kI 1)),iM 5 17]))
def vF:SCode :=
 sO [iO 4 (.mov (kI 0))]
 (sO [iM 6 1,iM 7 0,iO 8 (.len (.t 7)),iO 9 (.ari .sub (.t 6) (.t 8)),iM 1 9]
 (.seq (sO [iM 10 1,iE 11 .lss 10 0]
 (.cond (.t 11) (sO [iO 4 (.mov (kI (-1)))]
 (.ret))
 (.skip)))
 (.seq (sO [iO 5 (.mov (kI 0))]
 (.block 0 (.loop [0,1,5] jM)))
 (sO [iM 26 1,iM 4 26]
 (.ret)))))
def pF:SFn:=⟨2,27,vF,[.t 4]⟩
def m4:SCode :=
 .seq (sO [iM 19 8,iM 20 7,iO 21 (.len (.t 20)),iV 22 .lss 19 21]
 (.cond (.t 22) (.skip)
 (.seq (.keep [0,5,6]) (.exit 0))))
 (.seq (.block 1 (sO [iM 25 7,iM 26 8,iO 27 (.ixa 7 (.t 25) (.t 26)),iF 28 0 27,iL 29 28,iE 30 .eql 29 11,iM 31 30,iT 32 31 (.mov (.t 0)),iT 33 31 (.mov (.t 5)),iT 34 31 (.cutr 4 (.t 32) none (some (.t 33))),iT 35 31 (.mov (.t 7)),iT 36 31 (.mov (.t 8)),iT 37 31 (.ixa 7 (.t 35) (.t 36)),iT 38 31 (.faddr 5 (.t 37)),iT 39 31 (.load none (.t 38)),iT 40 31 (.callr oC [.t 34,.t 39]),iT 41 31 (.cmp .geq (.t 40) (kI 0)),iO 42 (.pick (.t 31) (.t 41) (kB false))]
 (.cond (.t 42) (.ops [iM 43 6,iM 44 0,iM 45 5,iO 46 (.cutr 4 (.t 44) none (some (.t 45))),iM 47 7,iM 48 8,iO 49 (.ixa 7 (.t 47) (.t 48)),iF 50 5 49,iL 51 50,iO 52 (.callr sP [.t 46,.t 51]),iO 53 (.callr yZ [.t 43,.t 52]),iM 6 53])
 (.skip))))
 (.ops [iM 23 8,iO 24 (.ari .add (.t 23) (kI 1)),iM 8 24]))
def u6:SCode :=
 sO [iO 4 (.mov (kI 0))]
 (sO [iM 9 0,iM 10 1,iO 11 (.callr oC [.t 9,.t 10]),iM 5 11]
 (.seq (sO [iM 12 5,iE 13 .lss 12 0]
 (.cond (.t 13) (sO [iO 4 (.mov (kI 0))]
 (.ret))
 (.skip)))
 (sO [iO 6 (.mov (kI 0))]
 (sO [iM 14 0,iM 15 5,iO 16 (.ixa 4 (.t 14) (.t 15)),iF 17 3 16,iL 18 17,iM 7 18]
 (.seq (sO [iO 8 (.mov (kI 0))]
 (.block 0 (.loop [0,5,6,7,8] m4)))
 (sO [iM 54 0,iM 55 5,iO 56 (.ixa 4 (.t 54) (.t 55)),iK 57 4 56,iO 58 (.callr yW [.t 57]),iO 59 (.ari .add (.t 58) (kI 2)),iM 60 6,iO 61 (.ari .add (.t 59) (.t 60)),iM 4 61]
 (.ret)))))))
def w8:SFn:=⟨2,62,u6,[.t 4]⟩
def jS:SCode :=
 .seq (sO [iM 8 4,iM 9 0,iO 10 (.len (.t 9)),iV 11 .lss 8 10]
 (.cond (.t 11) (.skip)
 (.seq (.keep [3]) (.exit 0))))
 (.seq (.block 1 (.ops [iM 14 3,iM 15 4,iM 16 0,iM 17 4,iO 18 (.ixa 4 (.t 16) (.t 17)),iK 19 4 18,iO 20 (.call vU [.t 19]),iO 21 (.ixa 4 (.t 14) (.t 15)),iN (.store 4 (.t 21) (.t 20))]))
 (.ops [iM 12 4,iO 13 (.ari .add (.t 12) (kI 1)),iM 4 13]))
def wO:SCode :=
 sO [iO 2 (.mov (.n 4))]
 (sO [iM 5 0,iO 6 (.len (.t 5)),iO 7 (.mk 4 56 [zS,zI,zI,.s 7 []] (.t 6)),iM 3 7]
 (.seq (sO [iO 4 (.mov (kI 0))]
 (.block 0 (.loop [0,3,4] jS)))
 (sO [iM 22 3,iM 2 22]
 (.ret))))
def oZ:SFn:=⟨1,23,wO,[.t 2]⟩
def Db:SCode :=
 sO [iO 4 (.mov (kI 0))]
 (sO [iM 6 0,iM 7 1,iO 8 (.callr qD [.t 6,.t 7]),iM 5 8]
 (.seq (sO [iM 9 5,iE 10 .lss 9 0]
 (.cond (.t 10) (sO [iO 4 (.mov (kI 0))]
 (.ret))
 (.skip)))
 (sO [iM 11 0,iM 12 5,iO 13 (.callr sY [.t 11,.t 12]),iM 4 13]
 (.ret))))
def xA:SFn:=⟨2,14,Db,[.t 4]⟩
def jL:SCode :=
 .seq (sO [iM 11 5,iM 12 0,iO 13 (.len (.t 12)),iV 14 .lss 11 13]
 (.cond (.t 14) (.skip)
 (.seq (.keep []) (.exit 0))))
 (.seq (.block 1 (sO [iM 17 0,iM 18 5,iO 19 (.ixa 4 (.t 17) (.t 18)),iK 20 4 19,iM 21 1,iM 22 5,iO 23 (.ixa 4 (.t 21) (.t 22)),iK 24 4 23,iO 25 (.callr wC [.t 20,.t 24]),iO 26 (.not (.t 25))]
 (.cond (.t 26) (sO [iO 4 (.mov (kB false))]
 (.seq (.keep [4]) .ret))
 (.skip))))
 (.ops [iM 15 5,iO 16 (.ari .add (.t 15) (kI 1)),iM 5 16]))
def vP:SCode :=
 sO [iO 4 (.mov (kB false))]
 (.seq (sO [iM 6 0,iO 7 (.len (.t 6)),iM 8 1,iO 9 (.len (.t 8)),iV 10 .neq 7 9]
 (.cond (.t 10) (sO [iO 4 (.mov (kB false))]
 (.ret))
 (.skip)))
 (.seq (sO [iO 5 (.mov (kI 0))]
 (.block 0 (.loop [0,1,5] jL)))
 (sO [iO 4 (.mov (kB true))]
 (.ret))))
def pS:SFn:=⟨2,27,vP,[.t 4]⟩
def yK:SCode :=
 sO [iO 2 (.vbox 4 (.t 0)),iO 4 (.mov (kI 0))]
 (sO [iM 5 1,iF 6 0 2,iL 7 6,iO 8 (.slen (.t 7)),iO 9 (.ari .sub (.t 5) (.t 8)),iM 1 9]
 (.seq (sO [iM 10 1,iE 11 .lss 10 0]
 (.cond (.t 11) (sO [iO 4 (.mov (kI (-1)))]
 (.ret))
 (.skip)))
 (sO [iF 12 3 2,iL 13 12,iM 14 1,iO 15 (.callr wT [.t 13,.t 14]),iM 1 15]
 (.seq (sO [iM 16 1,iE 17 .lss 16 0]
 (.cond (.t 17) (sO [iO 4 (.mov (kI (-1)))]
 (.ret))
 (.skip)))
 (sO [iM 18 1,iM 4 18]
 (.ret))))))
def rB:SFn:=⟨2,19,yK,[.t 4]⟩
def yF:SCode :=
 sO [iO 1 (.vbox 4 (.t 0)),iO 2 (.alloc [zS,zI,zI,.s 7 []])]
 (sO [iO 3 (.alloc [zS,zI,zI,.s 7 []])]
 (sO [iF 4 0 1,iL 5 4,iF 6 0 3,iN (.store 1 (.t 6) (.t 5))]
 (sO [iF 7 1 1,iL 8 7,iF 9 1 3,iN (.store 1 (.t 9) (.t 8))]
 (sO [iF 10 2 1,iL 11 10,iF 12 2 3,iN (.store 1 (.t 12) (.t 11))]
 (sO [iF 13 3 1,iL 14 13,iO 15 (.call v7 [.t 14]),iF 16 3 3,iN (.store 1 (.t 16) (.t 15))]
 (sO [iK 17 4 3,iN (.store 4 (.t 2) (.t 17))]
 (.ret)))))))
def qQ:SFn:=⟨1,18,yF,[.c 2 (some 4)]⟩
def yA:SCode :=
 sO [iO 2 (.vbox 4 (.t 0)),iO 3 (.vbox 4 (.t 1)),iO 4 (.mov (kB false))]
 (.seq (sO [iF 5 0 2,iL 6 5,iF 7 0 3,iL 8 7,iV 9 .neq 6 8]
 (.cond (.t 9) (sO [iO 4 (.mov (kB false))]
 (.ret))
 (.skip)))
 (.seq (sO [iF 10 1 2,iL 11 10,iF 12 1 3,iL 13 12,iV 14 .neq 11 13]
 (.cond (.t 14) (sO [iO 4 (.mov (kB false))]
 (.ret))
 (.skip)))
 (.seq (sO [iF 15 2 2,iL 16 15,iF 17 2 3,iL 18 17,iV 19 .neq 16 18]
 (.cond (.t 19) (sO [iO 4 (.mov (kB false))]
 (.ret))
 (.skip)))
 (.seq (sO [iF 20 3 2,iL 21 20,iF 22 3 3,iL 23 22,iO 24 (.callr vH [.t 21,.t 23]),iO 25 (.not (.t 24))]
 (.cond (.t 25) (sO [iO 4 (.mov (kB false))]
 (.ret))
 (.skip)))
 (sO [iO 4 (.mov (kB true))]
 (.ret))))))
def qP:SFn:=⟨2,26,yA,[.t 4]⟩
def gE:SCode :=
 .seq (sO [iM 6 5,iM 7 0,iO 8 (.len (.t 7)),iV 9 .lss 6 8]
 (.cond (.t 9) (.skip)
 (.seq (.keep []) (.exit 0))))
 (.seq (.block 1 (sO [iM 12 0,iM 13 5,iO 14 (.ixa 4 (.t 12) (.t 13)),iF 15 0 14,iL 16 15,iM 17 1,iV 18 .eql 16 17]
 (.cond (.t 18) (sO [iM 19 5,iM 4 19]
 (.seq (.keep [4]) .ret))
 (.skip))))
 (.ops [iM 10 5,iO 11 (.ari .add (.t 10) (kI 1)),iM 5 11]))
def xG:SCode :=
 sO [iO 4 (.mov (kI 0))]
 (.seq (sO [iO 5 (.mov (kI 0))]
 (.block 0 (.loop [0,1,5] gE)))
 (sO [iO 4 (.mov (kI (-1)))]
 (.ret)))
def pT:SFn:=⟨2,20,xG,[.t 4]⟩
def Bd:SCode :=
 sO [iO 4 (.mov (kI 0))]
 (.seq (sO [iM 5 0,iM 6 1,iV 7 .gtr 5 6]
 (.cond (.t 7) (sO [iM 8 0,iM 4 8]
 (.ret))
 (.skip)))
 (sO [iM 9 1,iM 4 9]
 (.ret)))
def tU:SFn:=⟨2,10,Bd,[.t 4]⟩
def As:SCode :=
 sO [iO 1 (.vbox 4 (.t 0)),iO 2 (.mov (kI 0))]
 (.seq (sO [iK 3 4 1,iO 4 (.callr xH [.t 3]),iO 5 (.not (.t 4))]
 (.cond (.t 5) (sO [iO 2 (.mov (kI 0))]
 (.ret))
 (.skip)))
 (sO [iK 6 4 1,iO 7 (.callr qX [.t 6]),iO 8 (.nck (.t 7)),iF 9 3 8,iL 10 9,iM 2 10]
 (.ret)))
def s6:SFn:=⟨1,11,As,[.t 2]⟩
def yC:SCode :=
 sO [iO 3 (.box 1 (.t 1)),iO 4 (.mov (kI 0))]
 (sO [iM 5 0,iO 6 (.fn mZ [.t 3]),iO 7 (.calli (.f cQ) [.t 5,.t 6]),iM 4 7]
 (.ret))
def rG:SFn:=⟨2,8,yC,[.t 4]⟩
def mX:SCode :=
 sO [iV 16 .lss 15 14]
 (.seq (.cond (.t 16) (.skip)
 (.seq (.keep [0,1,5]) (.exit 0)))
 (.seq (.block 1 (sO [iO 17 (.ixa 7 (.t 13) (.t 15)),iK 18 7 17,iO 7 (.alloc [zI,zI,zI,zI,zI,zS,.s 1 []]),iN (.store 7 (.t 7) (.t 18))]
 (.seq (sO [iF 19 0 7,iL 20 19,iE 21 .neq 20 11]
 (.cond (.t 21) (.exit 1)
 (.skip)))
 (sO [iM 22 0,iM 23 1,iO 24 (.cutr 4 (.t 22) none (some (.t 23))),iF 25 5 7,iL 26 25,iO 27 (.callr qD [.t 24,.t 26]),iM 8 27]
 (sO [iM 28 8,iE 29 .geq 28 0]
 (.cond (.t 29) (.ops [iM 30 5,iM 31 0,iM 32 8,iO 33 (.callr sY [.t 31,.t 32]),iO 34 (.mm true (.t 30) (.t 33)),iM 5 34])
 (.skip)))))))
 (.ops [iO 35 (.ari .add (.t 15) (kI 1)),iM 15 35])))
def Dn:SCode :=
 sO [iO 4 (.mov (kI 0))]
 (sO [iO 5 (.mov (kI 0))]
 (.seq (sO [iM 9 0,iM 10 1,iO 11 (.ixa 4 (.t 9) (.t 10)),iF 12 3 11,iL 13 12,iO 14 (.len (.t 13)),iO 15 (.mov (kI 0))]
 (.block 0 (.loop [0,1,5,13,14,15] mX)))
 (sO [iM 36 0,iM 37 1,iO 38 (.ixa 4 (.t 36) (.t 37)),iK 39 4 38,iO 40 (.callr zW [.t 39]),iO 41 (.ari .add (.t 40) (kI 2)),iM 42 5,iO 43 (.ari .add (.t 41) (.t 42)),iM 4 43]
 (.ret))))
def w5:SFn:=⟨2,44,Dn,[.t 4]⟩
def kN:SCode :=
 .seq (sO [iM 12 5,iM 13 0,iO 14 (.len (.t 13)),iV 15 .lss 12 14]
 (.cond (.t 15) (.skip)
 (.seq (.keep [1]) (.exit 0))))
 (.seq (.block 1 (sO [iM 18 0,iM 19 5,iO 20 (.ixa 7 (.t 18) (.t 19)),iK 21 7 20,iM 22 1,iO 23 (.callr zQ [.t 21,.t 22]),iM 1 23]
 (sO [iM 24 1,iE 25 .lss 24 0]
 (.cond (.t 25) (sO [iO 4 (.mov (kI (-1)))]
 (.seq (.keep [4]) .ret))
 (.skip)))))
 (.ops [iM 16 5,iO 17 (.ari .add (.t 16) (kI 1)),iM 5 17]))
def yS:SCode :=
 sO [iO 4 (.mov (kI 0))]
 (sO [iM 6 1,iM 7 0,iO 8 (.len (.t 7)),iO 9 (.ari .sub (.t 6) (.t 8)),iM 1 9]
 (.seq (sO [iM 10 1,iE 11 .lss 10 0]
 (.cond (.t 11) (sO [iO 4 (.mov (kI (-1)))]
 (.ret))
 (.skip)))
 (.seq (sO [iO 5 (.mov (kI 0))]
 (.block 0 (.loop [0,1,5] kN)))
 (sO [iM 26 1,iM 4 26]
 (.ret)))))
def rL:SFn:=⟨2,27,yS,[.t 4]⟩
def kL:SCode :=
 .seq (sO [iM 8 4,iM 9 0,iO 10 (.len (.t 9)),iV 11 .lss 8 10]
 (.cond (.t 11) (.skip)
 (.seq (.keep [3]) (.exit 0))))
 (.seq (.block 1 (.ops [iM 14 3,iM 15 4,iM 16 0,iM 17 4,iO 18 (.ixa 7 (.t 16) (.t 17)),iK 19 7 18,iO 20 (.call y8 [.t 19]),iO 21 (.ixa 7 (.t 14) (.t 15)),iN (.store 7 (.t 21) (.t 20))]))
 (.ops [iM 12 4,iO 13 (.ari .add (.t 12) (kI 1)),iM 4 13]))
def yU:SCode :=
 sO [iO 2 (.mov (.n 7))]
 (sO [iM 5 0,iO 6 (.len (.t 5)),iO 7 (.mk 7 80 [zI,zI,zI,zI,zI,zS,.s 1 []] (.t 6)),iM 3 7]
 (.seq (sO [iO 4 (.mov (kI 0))]
 (.block 0 (.loop [0,3,4] kL)))
 (sO [iM 22 3,iM 2 22]
 (.ret))))
def rT:SFn:=⟨1,23,yU,[.t 2]⟩
def kE:SCode :=
 .seq (sO [iM 11 5,iM 12 0,iO 13 (.len (.t 12)),iV 14 .lss 11 13]
 (.cond (.t 14) (.skip)
 (.seq (.keep []) (.exit 0))))
 (.seq (.block 1 (sO [iM 17 0,iM 18 5,iO 19 (.ixa 7 (.t 17) (.t 18)),iK 20 7 19,iM 21 1,iM 22 5,iO 23 (.ixa 7 (.t 21) (.t 22)),iK 24 7 23,iO 25 (.callr y9 [.t 20,.t 24]),iO 26 (.not (.t 25))]
 (.cond (.t 26) (sO [iO 4 (.mov (kB false))]
 (.seq (.keep [4]) .ret))
 (.skip))))
 (.ops [iM 15 5,iO 16 (.ari .add (.t 15) (kI 1)),iM 5 16]))
def yO:SCode :=
 sO [iO 4 (.mov (kB false))]
 (.seq (sO [iM 6 0,iO 7 (.len (.t 6)),iM 8 1,iO 9 (.len (.t 8)),iV 10 .neq 7 9]
 (.cond (.t 10) (sO [iO 4 (.mov (kB false))]
 (.ret))
 (.skip)))
 (.seq (sO [iO 5 (.mov (kI 0))]
 (.block 0 (.loop [0,1,5] kE)))
 (sO [iO 4 (.mov (kB true))]
 (.ret))))
def rC:SFn:=⟨2,27,yO,[.t 4]⟩
def kJ:SCode :=
 .seq (sO [iM 29 4,iM 30 3,iV 31 .lss 29 30]
 (.cond (.t 31) (.skip)
 (.seq (.keep [1,3]) (.exit 0))))
 (.seq (.block 1 (sO [iF 34 3 1,iL 35 34,iM 36 4,iO 37 (.ixa 7 (.t 35) (.t 36)),iK 38 7 37,iO 5 (.alloc [zI,zI,zI,zI,zI,zS,.s 1 []]),iN (.store 7 (.t 5) (.t 38))]
 (.seq (sO [iK 39 7 5,iF 40 2 1,iL 41 40,iO 42 (.callr rI [.t 39,.t 41]),iO 43 (.not (.t 42))]
 (.cond (.t 43) (sO [iO 2 (.mov (kB false))]
 (.seq (.keep [2]) .ret))
 (.skip)))
 (sO [iF 44 3 1,iL 45 44,iF 46 4 5,iL 47 46,iO 48 (.callr iB [.t 45,.t 47]),iM 6 48]
 (sO [iF 49 0 5,iL 50 49,iE 51 .eql 50 8,iM 52 51,iT 53 52 (.mov (.t 6)),iT 54 52 (.mov (.t 4)),iT 55 52 (.cmp .neq (.t 53) (.t 54)),iT 56 52 (.mov (.t 55)),iU 57 56 (.faddr 4 (.t 5)),iU 58 56 (.load none (.t 57)),iU 59 56 (.callr eK [.t 58,.c (.int .i64 0),.c (.int .i64 900)]),iU 60 56 (.not (.t 59)),iT 61 52 (.pick (.t 56) (kB true) (.t 60)),iO 62 (.pick (.t 52) (.t 61) (kB false)),iM 63 62,iU 64 63 (.faddr 0 (.t 5)),iU 65 63 (.load none (.t 64)),iU 66 63 (.cmp .eql (.t 65) (kI 9)),iU 67 63 (.mov (.t 66)),iU 68 67 (.faddr 0 (.t 5)),iU 69 67 (.load none (.t 68)),iU 70 67 (.cmp .eql (.t 69) (kI 10)),iU 71 63 (.pick (.t 67) (kB true) (.t 70)),iU 72 63 (.mov (.t 71)),iT 73 72 (.mov (.t 6)),iT 74 72 (.cmp .lss (.t 73) (kI 0)),iU 75 63 (.pick (.t 72) (.t 74) (kB false)),iO 76 (.pick (.t 63) (kB true) (.t 75))]
 (.cond (.t 76) (sO [iO 2 (.mov (kB false))]
 (.seq (.keep [2]) .ret))
 (.skip)))))))
 (.ops [iM 32 4,iO 33 (.ari .add (.t 32) (kI 1)),iM 4 33]))
def yR:SCode :=
 sO [iO 1 (.vbox 4 (.t 0)),iO 2 (.mov (kB false))]
 (sO [iF 8 3 1,iL 9 8,iO 10 (.len (.t 9)),iM 3 10]
 (.seq (sO [iF 11 2 1,iL 12 11,iO 13 (.callr eK [.t 12,.c (.int .i64 0),.c (.int .i64 250)]),iO 14 (.not (.t 13)),iM 15 14,iU 16 15 (.faddr 1 (.t 1)),iU 17 15 (.load none (.t 16)),iU 18 15 (.faddr 2 (.t 1)),iU 19 15 (.load none (.t 18)),iU 20 15 (.callr y5 [.c (.int .i64 4),.t 19]),iU 21 15 (.callr eK [.t 17,.c (.int .i64 0),.t 20]),iU 22 15 (.not (.t 21)),iO 23 (.pick (.t 15) (kB true) (.t 22)),iM 24 23,iU 25 24 (.mov (.t 3)),iU 26 24 (.callr eK [.t 25,.c (.int .i64 1),.c (.int .i64 900)]),iU 27 24 (.not (.t 26)),iO 28 (.pick (.t 24) (kB true) (.t 27))]
 (.cond (.t 28) (sO [iO 2 (.mov (kB false))]
 (.ret))
 (.skip)))
 (.seq (sO [iO 4 (.mov (kI 0))]
 (.block 0 (.loop [1,3,4] kJ)))
 (sO [iF 77 3 1,iL 78 77,iM 79 3,iO 80 (.ari .sub (.t 79) (kI 1)),iO 81 (.ixa 7 (.t 78) (.t 80)),iF 82 0 81,iL 83 82,iM 7 83]
 (sO [iM 84 7,iE 85 .eql 84 12,iM 86 85,iU 87 86 (.mov (.t 7)),iU 88 86 (.cmp .eql (.t 87) (kI 9)),iO 89 (.pick (.t 86) (kB true) (.t 88)),iM 90 89,iU 91 90 (.mov (.t 7)),iU 92 90 (.cmp .eql (.t 91) (kI 28)),iO 93 (.pick (.t 90) (kB true) (.t 92)),iM 2 93]
 (.ret))))))
def q6:SFn:=⟨1,94,yR,[.t 2]⟩
def iQ:SCode :=
 .seq (sO [iM 34 6,iF 35 1 1,iL 36 35,iV 37 .lss 34 36]
 (.cond (.t 37) (.skip)
 (.seq (.keep [1,4,5]) (.exit 0))))
 (.seq (.block 1 (.ops [iM 40 5,iO 41 (.nck (.t 40)),iF 42 2 41,iL 43 42,iM 44 6,iM 45 6,iO 46 (.ari .add (kI 10) (.t 45)),iO 47 (.ixa 1 (.t 43) (.t 44)),iN (.store 1 (.t 47) (.t 46))]))
 (.ops [iM 38 6,iO 39 (.ari .add (.t 38) (kI 1)),iM 6 39]))
def fE:SCode :=
 .seq (sO [iM 57 8,iF 58 2 1,iL 59 58,iV 60 .lss 57 59]
 (.cond (.t 60) (.skip)
 (.seq (.keep [1,4,5,7]) (.exit 4))))
 (.seq (.block 5 (.seq (sO [iM 63 5,iO 64 (.nck (.t 63)),iF 65 0 64,iL 66 65,iM 67 8,iO 68 (.ixa 1 (.t 66) (.t 67)),iL 69 68,iM 70 7,iV 71 .neq 69 70]
 (.cond (.t 71) (.exit 5)
 (.skip)))
 (sO [iO 9 (.mov (kI (-1)))]
 (.seq (sO [iM 72 4,iM 73 8,iO 74 (.ixa 1 (.t 72) (.t 73)),iL 75 74,iO 76 (.not (.t 75))]
 (.cond (.t 76) (.ops [iM 77 5,iM 78 8,iO 79 (.callb tT [.t 77,.t 78] [true,false]),iM 9 79])
 (.skip)))
 (.seq (sO [iM 80 9,iE 81 .lss 80 0]
 (.cond (.t 81) (sO [iM 82 5,iO 83 (.nck (.t 82)),iF 84 3 83,iL 85 84,iO 86 (.ari .add (kI 10) (.t 85)),iM 9 86]
 (.ops [iM 87 5,iO 88 (.nck (.t 87)),iF 89 3 88,iL 90 89,iO 91 (.ari .add (.t 90) (kI 1)),iO 92 (.nck (.t 87)),iF 93 3 92,iN (.store 1 (.t 93) (.t 91))]))
 (.skip)))
 (.ops [iM 94 5,iO 95 (.nck (.t 94)),iF 96 2 95,iL 97 96,iM 98 8,iM 99 9,iO 100 (.ixa 1 (.t 97) (.t 98)),iN (.store 1 (.t 100) (.t 99))]))))))
 (.ops [iM 61 8,iO 62 (.ari .add (.t 61) (kI 1)),iM 8 62]))
def iJ:SCode :=
 .seq (sO [iM 48 7,iF 49 3 1,iL 50 49,iO 51 (.len (.t 50)),iV 52 .lss 48 51]
 (.cond (.t 52) (.skip)
 (.seq (.keep [5]) (.exit 2))))
 (.seq (.block 3 (sO [iF 55 1 1,iL 56 55,iM 8 56]
 (.block 4 (.loop [1,4,5,7,8] fE))))
 (.ops [iM 53 7,iO 54 (.ari .add (.t 53) (kI 1)),iM 7 54]))
def uM:SCode :=
 sO [iO 1 (.vbox 4 (.t 0)),iO 2 (.mov (.c (.pointer none)))]
 (sO [iK 10 4 1,iO 11 (.callr wL [.t 10]),iM 3 11]
 (sO [iK 12 4 1,iM 13 3,iO 14 (.callr nV [.t 12,.t 13]),iM 4 14]
 (.seq (.opsd [⟨iF 15 2 1,0,[]⟩,⟨iL 16 15,1,[]⟩,⟨iF 18 1 1,3,[]⟩,⟨iL 19 18,4,[]⟩,⟨iO 17 (.call lX [.t 16]),2,[iF 18 1 1,iL 19 18]⟩,⟨iO 20 (.build [.s 1 [],.s 1 [],.s 1 [],zI] [(2,1,.t 17),(3,1,.t 19)]),5,[]⟩,⟨iO 21 (.box 4 (.t 20)),6,[]⟩,⟨iM 5 21,7,[]⟩])
 (sO [iM 23 5,iM 24 5,iK 25 4 1,iM 26 3,iO 27 (.call rE [.t 25,.t 26]),iM 22 27,iO 28 (.ext (.t 22) 0),iO 29 (.ext (.t 22) 1),iO 30 (.nck (.t 23)),iF 31 0 30,iN (.store 1 (.t 31) (.t 28)),iO 32 (.nck (.t 24)),iF 33 1 32,iN (.store 1 (.t 33) (.t 29))]
 (.seq (sO [iO 6 (.mov (kI 0))]
 (.block 0 (.loop [1,4,5,6] iQ)))
 (.seq (sO [iO 7 (.mov (kI 0))]
 (.block 2 (.loop [1,4,5,7] iJ)))
 (sO [iM 101 5,iM 2 101]
 (.seq (.keep [20002,2]) .ret))))))))
def nK:SFn:=⟨1,102,uM,[.t 2]⟩
def kM:SCode :=
 sO [iV 29 .lss 28 27]
 (.seq (.cond (.t 29) (.skip)
 (.seq (.keep [1]) (.exit 0)))
 (.seq (.block 1 (sO [iM 30 28,iO 31 (.ixa 7 (.t 26) (.t 28)),iK 32 7 31,iO 4 (.alloc [zI,zI,zI,zI,zI,zS,.s 1 []]),iM 3 30,iN (.store 7 (.t 4) (.t 32))]
 (.block 2 (sO [iK 34 7 4,iF 35 2 1,iL 36 35,iO 37 (.callr yX [.t 34,.t 36]),iO 38 (.not (.t 37)),iM 33 38]
 (.cond (.t 33) (sO [iO 2 (.mov (kB false))]
 (.seq (.keep [2]) .ret))
 (sO [iF 40 0 4,iL 41 40,iE 42 .eql 41 8,iM 43 42,iT 44 43 (.faddr 4 (.t 4)),iT 45 43 (.load none (.t 44)),iT 46 43 (.callr dK [.t 45,.c (.int .i64 0),.c (.int .i64 900)]),iT 47 43 (.not (.t 46)),iT 48 43 (.mov (.t 47)),iU 49 48 (.faddr 3 (.t 1)),iU 50 48 (.load none (.t 49)),iU 51 48 (.faddr 4 (.t 4)),iU 52 48 (.load none (.t 51)),iU 53 48 (.callr jN [.t 50,.t 52]),iU 54 48 (.mov (.t 3)),iU 55 48 (.cmp .neq (.t 53) (.t 54)),iT 56 43 (.pick (.t 48) (kB true) (.t 55)),iO 57 (.pick (.t 43) (.t 56) (kB false)),iM 39 57]
 (.cond (.t 39) (sO [iO 2 (.mov (kB false))]
 (.seq (.keep [2]) .ret))
 (sO [iF 59 0 4,iL 60 59,iE 61 .eql 60 9,iM 62 61,iU 63 62 (.faddr 0 (.t 4)),iU 64 62 (.load none (.t 63)),iU 65 62 (.cmp .eql (.t 64) (kI 10)),iO 66 (.pick (.t 62) (kB true) (.t 65)),iM 67 66,iT 68 67 (.faddr 3 (.t 1)),iT 69 67 (.load none (.t 68)),iT 70 67 (.faddr 4 (.t 4)),iT 71 67 (.load none (.t 70)),iT 72 67 (.callr jN [.t 69,.t 71]),iT 73 67 (.cmp .lss (.t 72) (kI 0)),iO 74 (.pick (.t 67) (.t 73) (kB false)),iM 58 74]
 (.cond (.t 58) (sO [iO 2 (.mov (kB false))]
 (.seq (.keep [2]) .ret))
 (.skip))))))))))
 (.ops [iO 75 (.ari .add (.t 28) (kI 1)),iM 28 75])))
def x8:SCode :=
 sO [iO 1 (.vbox 4 (.t 0)),iO 2 (.mov (kB false))]
 (.seq (sO [iF 5 2 1,iL 6 5,iO 7 (.callr dK [.t 6,.c (.int .i64 0),.c (.int .i64 250)]),iO 8 (.not (.t 7)),iM 9 8,iU 10 9 (.faddr 1 (.t 1)),iU 11 9 (.load none (.t 10)),iU 12 9 (.faddr 2 (.t 1)),iU 13 9 (.load none (.t 12)),iU 14 9 (.mm false (kI 4) (.t 13)),iU 15 9 (.callr dK [.t 11,.c (.int .i64 0),.t 14]),iU 16 9 (.not (.t 15)),iO 17 (.pick (.t 9) (kB true) (.t 16)),iM 18 17,iU 19 18 (.faddr 3 (.t 1)),iU 20 18 (.load none (.t 19)),iU 21 18 (.len (.t 20)),iU 22 18 (.callr dK [.t 21,.c (.int .i64 1),.c (.int .i64 900)]),iU 23 18 (.not (.t 22)),iO 24 (.pick (.t 18) (kB true) (.t 23))]
 (.cond (.t 24) (sO [iO 2 (.mov (kB false))]
 (.ret))
 (.skip)))
 (.seq (sO [iF 25 3 1,iL 26 25,iO 27 (.len (.t 26)),iO 28 (.mov (kI 0))]
 (.block 0 (.loop [1,26,27,28] kM)))
 (sO [iF 76 3 1,iL 77 76,iF 78 3 1,iL 79 78,iO 80 (.len (.t 79)),iO 81 (.ari .sub (.t 80) (kI 1)),iO 82 (.ixa 7 (.t 77) (.t 81)),iF 83 0 82,iL 84 83,iO 85 (.callr Cm [.t 84]),iM 2 85]
 (.ret))))
def rP:SFn:=⟨1,86,x8,[.t 2]⟩
def gI:SCode :=
 sO [iV 31 .lss 30 29]
 (.seq (.cond (.t 31) (.skip)
 (.seq (.keep [1,4,5,6,7,8]) (.exit 0)))
 (.seq (.block 1 (sO [iM 32 30,iM 9 32]
 (sO [iM 33 7,iM 34 9,iO 35 (.ixa 1 (.t 33) (.t 34)),iN (.store 1 (.t 35) (kI (-1)))]
 (sO [iM 36 9,iF 37 1 1,iL 38 37,iV 39 .lss 36 38]
 (.cond (.t 39) (.ops [iM 40 7,iM 41 9,iM 42 9,iO 43 (.ari .add (kI 10) (.t 42)),iO 44 (.ixa 1 (.t 40) (.t 41)),iN (.store 1 (.t 44) (.t 43))])
 (sO [iL 45 4,iM 46 9,iO 47 (.ixa 1 (.t 45) (.t 46)),iL 48 47,iE 49 .geq 48 0]
 (.cond (.t 49) (.ops [iM 50 8,iM 51 9,iO 52 (.lit 1 [.t 51]),iO 53 (.app 1 8 (.t 50) (.t 52)),iM 8 53])
 (.skip))))))))
 (.ops [iO 54 (.ari .add (.t 30) (kI 1)),iM 30 54])))
def lO:SCode :=
 sO [iV 73 .lss 72 71]
 (.seq (.cond (.t 73) (.skip)
 (.seq (.keep [4,5,6,7,8,10,12,13,60,61,62]) (.exit 4)))
 (.seq (.block 5 (sO [iO 74 (.ixa 1 (.t 70) (.t 72)),iL 75 74,iM 15 75]
 (sO [iM 76 7,iM 77 15,iO 78 (.ixa 1 (.t 76) (.t 77)),iL 79 78,iE 80 .lss 79 3,iM 81 80,iT 82 81 (.load none (.t 4)),iT 83 81 (.mov (.t 15)),iT 84 81 (.ixa 1 (.t 82) (.t 83)),iT 85 81 (.load none (.t 84)),iT 86 81 (.mov (.t 5)),iT 87 81 (.mov (.t 12)),iT 88 81 (.ixa 1 (.t 86) (.t 87)),iT 89 81 (.load none (.t 88)),iT 90 81 (.cmp .leq (.t 85) (.t 89)),iO 91 (.pick (.t 81) (.t 90) (kB false)),iM 92 91,iT 93 92 (.load none (.t 4)),iT 94 92 (.mov (.t 12)),iT 95 92 (.ixa 1 (.t 93) (.t 94)),iT 96 92 (.load none (.t 95)),iT 97 92 (.mov (.t 5)),iT 98 92 (.mov (.t 15)),iT 99 92 (.ixa 1 (.t 97) (.t 98)),iT 100 92 (.load none (.t 99)),iT 101 92 (.cmp .leq (.t 96) (.t 100)),iO 102 (.pick (.t 92) (.t 101) (kB false))]
 (.cond (.t 102) (.ops [iM 103 13,iM 104 7,iM 105 15,iO 106 (.ixa 1 (.t 104) (.t 105)),iL 107 106,iO 108 (.ixa 1 (.t 103) (.t 107)),iN (.store 1 (.t 108) (kB true))])
 (.skip)))))
 (.ops [iO 109 (.ari .add (.t 72) (kI 1)),iM 72 109])))
def l5:SCode :=
 sO [iV 63 .lss 62 61]
 (.seq (.cond (.t 63) (.skip)
 (.seq (.keep [7,10]) (.exit 2)))
 (.seq (.block 3 (sO [iM 64 62,iO 65 (.ixa 1 (.t 60) (.t 62)),iL 66 65,iM 11 64,iM 12 66]
 (sO [iO 67 (.mk 1 1 [.v (.bool false)] (kI 3)),iM 13 67]
 (.seq (sO [iM 68 8,iM 69 11,iO 70 (.cutr 1 (.t 68) none (some (.t 69))),iO 71 (.len (.t 70)),iO 72 (.mov (kI 0))]
 (.block 4 (.loop [4,5,6,7,8,10,12,13,60,61,62,70,71,72] lO)))
 (sO [iM 110 13,iO 111 (.callr gW [.t 110,.c (.bool false)]),iM 16 111]
 (.seq (sO [iM 112 16,iE 113 .lss 112 0,iM 114 113,iU 115 114 (.mov (.t 6)),iU 116 114 (.mov (.t 12)),iU 117 114 (.callr dY [.t 115,.t 116]),iO 118 (.pick (.t 114) (kB true) (.t 117))]
 (.cond (.t 118) (sO [iM 119 10,iO 120 (.ari .add (kI 10) (.t 119)),iM 16 120]
 (.ops [iM 121 10,iO 122 (.ari .add (.t 121) (kI 1)),iM 10 122]))
 (.skip)))
 (.ops [iM 123 7,iM 124 12,iM 125 16,iO 126 (.ixa 1 (.t 123) (.t 124)),iN (.store 1 (.t 126) (.t 125))])))))))
 (.ops [iO 127 (.ari .add (.t 62) (kI 1)),iM 62 127])))
def Bo:SCode :=
 sO [iO 1 (.vbox 4 (.t 0)),iO 2 (.mov (.n 1)),iO 3 (.mov (kI 0))]
 (sO [iK 18 4 1,iO 19 (.callr zF [.t 18]),iM 17 19,iO 20 (.ext (.t 17) 0),iO 21 (.ext (.t 17) 1),iO 4 (.alloc [.s 1 []]),iN (.store 1 (.t 4) (.t 20)),iM 5 21]
 (sO [iK 22 4 1,iO 23 (.callr uC [.t 22]),iM 6 23]
 (sO [iF 24 2 1,iL 25 24,iO 26 (.mk 1 8 [zI] (.t 25)),iM 7 26]
 (sO [iO 27 (.lit 1 []),iM 8 27]
 (.seq (sO [iF 28 2 1,iL 29 28,iO 30 (.mov (kI 0))]
 (.block 0 (.loop [1,4,5,6,7,8,29,30] gI)))
 (sO [iM 55 8,iO 56 (.fn t8 [.t 4]),iO 57 (.calli (.f dQ) [.t 55,.t 56])]
 (.seq (.keep [20008,1,4,5,6,7,8]) (sO [iF 58 1 1,iL 59 58,iM 10 59]
 (.seq (sO [iM 60 8,iO 61 (.len (.t 60)),iO 62 (.mov (kI 0))]
 (.block 2 (.loop [4,5,6,7,8,10,60,61,62] l5)))
 (sO [iM 128 7,iM 129 10,iM 2 128,iM 3 129]
 (.ret)))))))))))
def uD:SFn:=⟨1,130,Bo,[.t 2,.t 3]⟩
def bK:SCode :=
 sO [iV 9 .lss 8 7]
 (.seq (.cond (.t 9) (.skip)
 (.seq (.keep []) (.exit 0)))
 (.seq (.block 1 (sO [iM 10 8,iM 5 10]
 (sO [iM 11 1,iM 12 0,iM 13 5,iO 14 (.ixa 4 (.t 12) (.t 13)),iK 15 4 14,iO 16 (.calli (.t 11) [.t 15])]
 (.cond (.t 16) (sO [iM 17 5,iM 4 17]
 (.seq (.keep [4]) .ret))
 (.skip)))))
 (.ops [iO 18 (.ari .add (.t 8) (kI 1)),iM 8 18])))
def dU:SCode :=
 sO [iO 4 (.mov (kI 0))]
 (.seq (sO [iM 6 0,iO 7 (.len (.t 6)),iO 8 (.mov (kI 0))]
 (.block 0 (.loop [0,1,7,8] bK)))
 (sO [iO 4 (.mov (kI (-1)))]
 (.ret)))
def cH:SFn:=⟨2,19,dU,[.t 4]⟩
def uK:SCode :=
 sO [iO 2 (.vbox 4 (.t 0)),iO 3 (.mov (kB false))]
 (sO [iF 4 0 2,iL 5 4,iL 6 1,iV 7 .eql 5 6,iM 3 7]
 (.ret))
def nT:SFn:=⟨2,8,uK,[.t 3]⟩
def A0:SCode :=
 sO [iO 1 (.vbox 4 (.t 0)),iO 2 (.mov (kI 0))]
 (.seq (sO [iK 5 4 1,iO 6 (.callr lE [.t 5]),iO 7 (.not (.t 6))]
 (.cond (.t 7) (sO [iO 2 (.mov (kI 0))]
 (.ret))
 (.skip)))
 (sO [iK 9 4 1,iO 10 (.callr zK [.t 9]),iM 8 10,iO 11 (.ext (.t 8) 0),iO 12 (.ext (.t 8) 1),iM 3 11,iM 4 12]
 (sO [iM 13 4,iM 2 13]
 (.ret))))
def tI:SFn:=⟨1,14,A0,[.t 2]⟩
def Ac:SCode :=
 sO [iO 2 (.vbox 7 (.t 0)),iO 4 (.mov (kI 0))]
 (sO [iM 5 1,iF 6 5 2,iL 7 6,iO 8 (.slen (.t 7)),iO 9 (.ari .sub (.t 5) (.t 8)),iM 1 9]
 (.seq (sO [iM 10 1,iE 11 .lss 10 0]
 (.cond (.t 11) (sO [iO 4 (.mov (kI (-1)))]
 (.ret))
 (.skip)))
 (sO [iF 12 6 2,iL 13 12,iM 14 1,iO 15 (.callr wG [.t 13,.t 14]),iM 1 15]
 (.seq (sO [iM 16 1,iE 17 .lss 16 0]
 (.cond (.t 17) (sO [iO 4 (.mov (kI (-1)))]
 (.ret))
 (.skip)))
 (sO [iM 18 1,iM 4 18]
 (.ret))))))
def tM:SFn:=⟨2,19,Ac,[.t 4]⟩
def kP:SCode :=
 .seq (sO [iM 18 6,iM 19 3,iV 20 .lss 18 19]
 (.cond (.t 20) (.skip)
 (.seq (.keep [1,3,4,5]) (.exit 0))))
 (.seq (.block 1 (sO [iM 23 4,iF 24 2 1,iL 25 24,iO 26 (.mk 1 1 [.v (.bool false)] (.t 25)),iO 27 (.lit 1 [.t 26]),iO 28 (.app 1 24 (.t 23) (.t 27)),iM 4 28]
 (.ops [iM 29 5,iK 30 4 1,iM 31 6,iO 32 (.call tL [.t 30,.t 31]),iO 33 (.lit 1 [.t 32]),iO 34 (.app 1 24 (.t 29) (.t 33)),iM 5 34])))
 (.ops [iM 21 6,iO 22 (.ari .add (.t 21) (kI 1)),iM 6 22]))
def kF:SCode :=
 .seq (sO [iM 68 12,iF 69 2 1,iL 70 69,iV 71 .lss 68 70]
 (.cond (.t 71) (.skip)
 (.seq (.keep [1,3,4,5,7,8,9]) (.exit 8))))
 (.seq (.block 9 (sO [iM 74 11,iM 75 12,iO 76 (.ixa 1 (.t 74) (.t 75)),iL 77 76,iM 78 77,iT 79 78 (.mov (.t 4)),iT 80 78 (.mov (.t 8)),iT 81 78 (.ixa 1 (.t 79) (.t 80)),iT 82 78 (.load none (.t 81)),iT 83 78 (.mov (.t 12)),iT 84 78 (.ixa 1 (.t 82) (.t 83)),iT 85 78 (.load none (.t 84)),iT 86 78 (.not (.t 85)),iO 87 (.pick (.t 78) (.t 86) (kB false))]
 (.cond (.t 87) (sO [iM 88 4,iM 89 8,iO 90 (.ixa 1 (.t 88) (.t 89)),iL 91 90,iM 92 12,iO 93 (.ixa 1 (.t 91) (.t 92)),iN (.store 1 (.t 93) (kB true))]
 (.ops [iO 7 (.mov (kB true))]))
 (.skip))))
 (.ops [iM 72 12,iO 73 (.ari .add (.t 72) (kI 1)),iM 12 73]))
def kG:SCode :=
 .seq (sO [iM 42 9,iM 43 5,iM 44 8,iO 45 (.ixa 1 (.t 43) (.t 44)),iL 46 45,iO 47 (.len (.t 46)),iV 48 .lss 42 47]
 (.cond (.t 48) (.skip)
 (.seq (.keep [1,3,4,5,7,8]) (.exit 6))))
 (.seq (.block 7 (sO [iM 51 5,iM 52 8,iO 53 (.ixa 1 (.t 51) (.t 52)),iL 54 53,iM 55 9,iO 56 (.ixa 1 (.t 54) (.t 55)),iL 57 56,iM 10 57]
 (sO [iF 58 3 1,iL 59 58,iM 60 10,iO 61 (.ixa 7 (.t 59) (.t 60)),iK 62 7 61,iM 63 4,iM 64 10,iO 65 (.ixa 1 (.t 63) (.t 64)),iL 66 65,iO 67 (.callr zO [.t 62,.t 66]),iM 11 67]
 (sO [iO 12 (.mov (kI 0))]
 (.block 8 (.loop [1,3,4,5,7,8,9,11,12] kF))))))
 (.ops [iM 49 9,iO 50 (.ari .add (.t 49) (kI 1)),iM 9 50]))
def kK:SCode :=
 .seq (sO [iM 38 8,iE 39 .geq 38 0]
 (.cond (.t 39) (.skip)
 (.seq (.keep [1,3,4,5,7]) (.exit 4))))
 (.seq (.block 5 (sO [iO 9 (.mov (kI 0))]
 (.block 6 (.loop [1,3,4,5,7,8,9] kG))))
 (.ops [iM 40 8,iO 41 (.ari .sub (.t 40) (kI 1)),iM 8 41]))
def eZ:SCode :=
 .seq (sO [iM 35 7]
 (.cond (.t 35) (.skip)
 (.seq (.keep [4]) (.exit 2))))
 (.block 3 (sO [iO 7 (.mov (kB false))]
 (sO [iM 36 3,iO 37 (.ari .sub (.t 36) (kI 1)),iM 8 37]
 (.block 4 (.loop [1,3,4,5,7,8] kK)))))
def yP:SCode :=
 sO [iO 1 (.vbox 4 (.t 0)),iO 2 (.mov (.n 1))]
 (sO [iF 13 3 1,iL 14 13,iO 15 (.len (.t 14)),iM 3 15]
 (sO [iO 16 (.lit 1 []),iM 4 16]
 (sO [iO 17 (.lit 1 []),iM 5 17]
 (.seq (sO [iO 6 (.mov (kI 0))]
 (.block 0 (.loop [1,3,4,5,6] kP)))
 (.seq (sO [iO 7 (.mov (kB true))]
 (.block 2 (.loop [1,3,4,5,7] eZ)))
 (sO [iM 94 4,iM 2 94]
 (.ret)))))))
def rU:SFn:=⟨1,95,yP,[.t 2]⟩
def jJ:SCode :=
 .seq (sO [iM 6 4,iM 7 0,iV 8 .lss 6 7]
 (.cond (.t 8) (.skip)
 (.seq (.keep [3]) (.exit 0))))
 (.seq (.block 1 (.ops [iM 11 3,iO 12 (.lit 1 [.c (.int .i64 (-1))]),iO 13 (.app 1 8 (.t 11) (.t 12)),iM 3 13]))
 (.ops [iM 9 4,iO 10 (.ari .add (.t 9) (kI 1)),iM 4 10]))
def u7:SCode :=
 sO [iO 2 (.mov (.n 1))]
 (sO [iO 5 (.lit 1 []),iM 3 5]
 (.seq (sO [iO 4 (.mov (kI 0))]
 (.block 0 (.loop [0,3,4] jJ)))
 (sO [iM 14 3,iM 2 14]
 (.ret))))
def pQ:SFn:=⟨1,15,u7,[.t 2]⟩
def C8:SCode :=
 sO [iO 1 (.vbox 7 (.t 0)),iO 2 (.mov (.n 1))]
 (sO [iO 4 (.lit 1 []),iM 3 4]
 (.seq (sO [iF 5 0 1,iL 6 5,iO 7 (.callr nG [.t 6]),iO 8 (.ari .and (.t 7) (kI 1)),iE 9 .neq 8 0]
 (.cond (.t 9) (.ops [iM 10 3,iF 11 1 1,iL 12 11,iO 13 (.lit 1 [.t 12]),iO 14 (.app 1 8 (.t 10) (.t 13)),iM 3 14])
 (.skip)))
 (.seq (sO [iF 15 0 1,iL 16 15,iE 17 .eql 16 19]
 (.cond (.t 17) (.ops [iM 18 3,iF 19 3 1,iL 20 19,iO 21 (.lit 1 [.t 20]),iO 22 (.app 1 8 (.t 18) (.t 21)),iM 3 22])
 (.skip)))
 (sO [iM 23 3,iM 2 23]
 (.ret)))))
def wA:SFn:=⟨1,24,C8,[.t 2]⟩
def A6:SCode :=
 sO [iO 1 (.vbox 7 (.t 0)),iO 2 (.alloc [zI,zI,zI,zI,zI,zS,.s 1 []])]
 (sO [iO 3 (.alloc [zI,zI,zI,zI,zI,zS,.s 1 []])]
 (sO [iF 4 0 1,iL 5 4,iF 6 0 3,iN (.store 1 (.t 6) (.t 5))]
 (sO [iF 7 1 1,iL 8 7,iF 9 1 3,iN (.store 1 (.t 9) (.t 8))]
 (sO [iF 10 2 1,iL 11 10,iF 12 2 3,iN (.store 1 (.t 12) (.t 11))]
 (sO [iF 13 3 1,iL 14 13,iF 15 3 3,iN (.store 1 (.t 15) (.t 14))]
 (sO [iF 16 4 1,iL 17 16,iF 18 4 3,iN (.store 1 (.t 18) (.t 17))]
 (sO [iF 19 5 1,iL 20 19,iF 21 5 3,iN (.store 1 (.t 21) (.t 20))]
 (sO [iF 22 6 1,iL 23 22,iO 24 (.call wH [.t 23]),iF 25 6 3,iN (.store 1 (.t 25) (.t 24))]
 (sO [iK 26 7 3,iN (.store 7 (.t 2) (.t 26))]
 (.ret))))))))))
def tW:SFn:=⟨1,27,A6,[.c 2 (some 7)]⟩
def Dd:SCode :=
 sO [iO 2 (.mov (kB false))]
 (sO [iM 3 0,iE 4 .eql 3 12,iM 5 4,iU 6 5 (.mov (.t 0)),iU 7 5 (.cmp .eql (.t 6) (kI 9)),iO 8 (.pick (.t 5) (kB true) (.t 7)),iM 9 8,iU 10 9 (.mov (.t 0)),iU 11 9 (.cmp .eql (.t 10) (kI 28)),iO 12 (.pick (.t 9) (kB true) (.t 11)),iM 2 12]
 (.ret))
def vN:SFn:=⟨1,13,Dd,[.t 2]⟩
def kH:SCode :=
 sO [iV 12 .lss 11 10]
 (.seq (.cond (.t 12) (.skip)
 (.seq (.keep [3]) (.exit 0)))
 (.seq (.block 1 (.seq (.opsd [⟨iM 13 3,0,[]⟩,⟨iM 14 3,1,[]⟩,⟨iO 15 (.nck (.t 14)),2,[]⟩,⟨iF 16 1 15,3,[]⟩,⟨iL 17 16,4,[]⟩,⟨iF 18 2 1,5,[]⟩,⟨iL 19 18,6,[]⟩,⟨iO 20 (.mk 1 1 [.v (.bool false)] (.t 19)),7,[]⟩,⟨iO 21 (.lit 1 [.t 20]),8,[iM 13 3,iM 14 3,iO 15 (.nck (.t 14)),iF 16 1 15,iL 17 16]⟩,⟨iO 22 (.app 1 24 (.t 17) (.t 21)),9,[iM 13 3]⟩,⟨iO 23 (.nck (.t 13)),10,[]⟩,⟨iF 24 1 23,11,[]⟩,⟨iN (.store 1 (.t 24) (.t 22)),12,[]⟩])
 (.opsd [⟨iM 25 3,0,[]⟩,⟨iM 26 3,1,[]⟩,⟨iO 27 (.nck (.t 26)),2,[]⟩,⟨iF 28 2 27,3,[]⟩,⟨iL 29 28,4,[]⟩,⟨iF 30 2 1,5,[]⟩,⟨iL 31 30,6,[]⟩,⟨iO 32 (.mk 1 1 [.v (.bool false)] (.t 31)),7,[]⟩,⟨iO 33 (.lit 1 [.t 32]),8,[iM 25 3,iM 26 3,iO 27 (.nck (.t 26)),iF 28 2 27,iL 29 28]⟩,⟨iO 34 (.app 1 24 (.t 29) (.t 33)),9,[iM 25 3]⟩,⟨iO 35 (.nck (.t 25)),10,[]⟩,⟨iF 36 2 35,11,[]⟩,⟨iN (.store 1 (.t 36) (.t 34)),12,[]⟩])))
 (.ops [iO 37 (.ari .add (.t 11) (kI 1)),iM 11 37])))
def kT:SCode :=
 .seq (sO [iM 38 3,iO 39 (.callb gN [.t 38] [true])]
 (.cond (.t 39) (.skip)
 (.seq (.keep [3]) (.exit 2))))
 (.block 3 (.skip))
def yV:SCode :=
 sO [iO 1 (.vbox 4 (.t 0)),iO 2 (.mov (.c (.pointer none)))]
 (sO [iF 4 3 1,iL 5 4,iO 6 (.build [.s 7 [],.s 1 [],.s 1 []] [(0,1,.t 5)]),iO 7 (.box 3 (.t 6)),iM 3 7]
 (.seq (sO [iF 8 3 1,iL 9 8,iO 10 (.len (.t 9)),iO 11 (.mov (kI 0))]
 (.block 0 (.loop [1,3,10,11] kH)))
 (.seq (.block 2 (.loop [3] kT))
 (sO [iM 40 3,iM 2 40]
 (.seq (.keep [20002,2]) .ret)))))
def qT:SFn:=⟨1,41,yV,[.t 2]⟩
def C2:SCode :=
 sO [iO 1 (.vbox 7 (.t 0)),iO 2 (.mov (.n 1))]
 (.seq (.block 0 (sO [iF 4 0 1,iL 5 4,iE 6 .eql 5 19,iM 3 6]
 (.cond (.t 3) (sO [iF 7 1 1,iL 8 7,iF 9 3 1,iL 10 9,iO 11 (.lit 1 [.t 8,.t 10]),iM 2 11]
 (.ret))
 (sO [iF 13 0 1,iL 14 13,iO 15 (.callr dO [.t 14,.c (.int .u8 68)]),iM 12 15]
 (.cond (.t 12) (sO [iF 16 1 1,iL 17 16,iO 18 (.lit 1 [.t 17]),iM 2 18]
 (.ret))
 (.skip))))))
 (sO [iO 2 (.mov (.n 1))]
 (.ret)))
def wD:SFn:=⟨1,19,C2,[.t 2]⟩
def Bs:SCode :=
 sO [iO 2 (.vbox 7 (.t 0)),iO 3 (.vbox 7 (.t 1)),iO 4 (.mov (kB false))]
 (.seq (sO [iF 5 0 2,iL 6 5,iF 7 0 3,iL 8 7,iV 9 .neq 6 8]
 (.cond (.t 9) (sO [iO 4 (.mov (kB false))]
 (.ret))
 (.skip)))
 (.seq (sO [iF 10 1 2,iL 11 10,iF 12 1 3,iL 13 12,iV 14 .neq 11 13]
 (.cond (.t 14) (sO [iO 4 (.mov (kB false))]
 (.ret))
 (.skip)))
 (.seq (sO [iF 15 2 2,iL 16 15,iF 17 2 3,iL 18 17,iV 19 .neq 16 18]
 (.cond (.t 19) (sO [iO 4 (.mov (kB false))]
 (.ret))
 (.skip)))
 (.seq (sO [iF 20 3 2,iL 21 20,iF 22 3 3,iL 23 22,iV 24 .neq 21 23]
 (.cond (.t 24) (sO [iO 4 (.mov (kB false))]
 (.ret))
 (.skip)))
 (.seq (sO [iF 25 4 2,iL 26 25,iF 27 4 3,iL 28 27,iV 29 .neq 26 28]
 (.cond (.t 29) (sO [iO 4 (.mov (kB false))]
 (.ret))
 (.skip)))
 (.seq (sO [iF 30 5 2,iL 31 30,iF 32 5 3,iL 33 32,iV 34 .neq 31 33]
 (.cond (.t 34) (sO [iO 4 (.mov (kB false))]
 (.ret))
 (.skip)))
 (.seq (sO [iF 35 6 2,iL 36 35,iF 37 6 3,iL 38 37,iO 39 (.callr vY [.t 36,.t 38]),iO 40 (.not (.t 39))]
 (.cond (.t 40) (sO [iO 4 (.mov (kB false))]
 (.ret))
 (.skip)))
 (sO [iO 4 (.mov (kB true))]
 (.ret)))))))))
def s8:SFn:=⟨2,41,Bs,[.t 4]⟩
def Az:SCode :=
 sO [iO 4 (.mov (kB false))]
 (sO [iM 5 0,iO 6 (.callr xS [.t 5]),iO 7 (.bos (.t 6)),iM 8 1,iO 9 (.callr eY [.t 7,.t 8]),iM 4 9]
 (.ret))
def s5:SFn:=⟨2,10,Az,[.t 4]⟩
def Dk:SCode :=
 sO [iO 6 (.mov (kB false))]
 (sO [iM 7 0,iM 8 1,iV 9 .geq 7 8,iM 10 9,iT 11 10 (.mov (.t 0)),iT 12 10 (.mov (.t 2)),iT 13 10 (.cmp .leq (.t 11) (.t 12)),iO 14 (.pick (.t 10) (.t 13) (kB false)),iM 6 14]
 (.ret))
def vS:SFn:=⟨3,15,Dk,[.t 6]⟩
def Ax:SCode :=
 sO [iO 4 (.mov (kI 0))]
 (.seq (sO [iM 5 0,iM 6 1,iV 7 .lss 5 6]
 (.cond (.t 7) (sO [iM 8 0,iM 4 8]
 (.ret))
 (.skip)))
 (sO [iM 9 1,iM 4 9]
 (.ret)))
def tG:SFn:=⟨2,10,Ax,[.t 4]⟩
def uP:SCode :=
 sO [iO 2 (.vbox 7 (.t 0)),iO 4 (.mov (kB false))]
 (sO [iF 6 0 2,iL 7 6,iO 8 (.callr nG [.t 7]),iM 5 8]
 (.seq (sO [iF 9 0 2,iL 10 9,iO 11 (.callr eK [.t 10,.c (.int .i64 1),.c (.int .i64 28)]),iO 12 (.not (.t 11)),iM 13 12,iU 14 13 (.load (some 7) (.t 2)),iU 15 13 (.callr tP [.t 14]),iU 16 13 (.not (.t 15)),iO 17 (.pick (.t 13) (kB true) (.t 16)),iM 18 17,iU 19 18 (.load (some 7) (.t 2)),iU 20 18 (.mov (.t 1)),iU 21 18 (.callr s7 [.t 19,.t 20]),iU 22 18 (.not (.t 21)),iO 23 (.pick (.t 18) (kB true) (.t 22))]
 (.cond (.t 23) (sO [iO 4 (.mov (kB false))]
 (.ret))
 (.skip)))
 (.seq (sO [iF 24 0 2,iL 25 24,iE 26 .eql 25 19,iM 27 26,iT 28 27 (.faddr 4 (.t 2)),iT 29 27 (.load none (.t 28)),iT 30 27 (.callr eK [.t 29,.c (.int .i64 0),.c (.int .i64 1)]),iT 31 27 (.not (.t 30)),iO 32 (.pick (.t 27) (.t 31) (kB false)),iM 33 32,iU 34 33 (.faddr 4 (.t 2)),iU 35 33 (.load none (.t 34)),iU 36 33 (.callr qF [.t 35]),iU 37 33 (.not (.t 36)),iO 38 (.pick (.t 33) (kB true) (.t 37))]
 (.cond (.t 38) (sO [iO 4 (.mov (kB false))]
 (.ret))
 (.skip)))
 (sO [iM 39 5,iO 40 (.ari .and (.t 39) (kI 1)),iE 41 .neq 40 0,iM 42 41,iU 43 42 (.faddr 1 (.t 2)),iU 44 42 (.load none (.t 43)),iU 45 42 (.cmp .eql (.t 44) (kI 0)),iO 46 (.pick (.t 42) (kB true) (.t 45)),iM 47 46,iT 48 47 (.mov (.t 5)),iT 49 47 (.ari .and (.t 48) (kI 2)),iT 50 47 (.cmp .neq (.t 49) (kI 0)),iT 51 47 (.mov (.t 50)),iU 52 51 (.faddr 2 (.t 2)),iU 53 51 (.load none (.t 52)),iU 54 51 (.cmp .eql (.t 53) (kI 0)),iT 55 47 (.pick (.t 51) (kB true) (.t 54)),iO 56 (.pick (.t 47) (.t 55) (kB false)),iM 57 56,iT 58 57 (.mov (.t 5)),iT 59 57 (.ari .and (.t 58) (kI 4)),iT 60 57 (.cmp .neq (.t 59) (kI 0)),iT 61 57 (.mov (.t 60)),iU 62 61 (.faddr 3 (.t 2)),iU 63 61 (.load none (.t 62)),iU 64 61 (.cmp .eql (.t 63) (kI 0)),iT 65 57 (.pick (.t 61) (kB true) (.t 64)),iO 66 (.pick (.t 57) (.t 65) (kB false)),iM 67 66,iT 68 67 (.mov (.t 5)),iT 69 67 (.ari .and (.t 68) (kI 8)),iT 70 67 (.cmp .neq (.t 69) (kI 0)),iT 71 67 (.mov (.t 70)),iU 72 71 (.faddr 4 (.t 2)),iU 73 71 (.load none (.t 72)),iU 74 71 (.cmp .eql (.t 73) (kI 0)),iT 75 67 (.pick (.t 71) (kB true) (.t 74)),iO 76 (.pick (.t 67) (.t 75) (kB false)),iM 77 76,iT 78 77 (.mov (.t 5)),iT 79 77 (.ari .and (.t 78) (kI 16)),iT 80 77 (.cmp .neq (.t 79) (kI 0)),iT 81 77 (.mov (.t 80)),iU 82 81 (.faddr 5 (.t 2)),iU 83 81 (.load none (.t 82)),iU 84 81 (.cmp .eql (.t 83) (.c (.string ⟨#[]⟩))),iT 85 77 (.pick (.t 81) (kB true) (.t 84)),iO 86 (.pick (.t 77) (.t 85) (kB false)),iM 4 86]
 (.ret)))))
def nR:SFn:=⟨2,87,uP,[.t 4]⟩
def iZ:SCode :=
 .seq (sO [iM 6 5,iM 7 0,iO 8 (.len (.t 7)),iV 9 .lss 6 8]
 (.cond (.t 9) (.skip)
 (.seq (.keep []) (.exit 0))))
 (.seq (.block 1 (sO [iM 12 0,iM 13 5,iO 14 (.ixa 7 (.t 12) (.t 13)),iF 15 0 14,iL 16 15,iE 17 .eql 16 8,iM 18 17,iT 19 18 (.mov (.t 0)),iT 20 18 (.mov (.t 5)),iT 21 18 (.ixa 7 (.t 19) (.t 20)),iT 22 18 (.faddr 4 (.t 21)),iT 23 18 (.load none (.t 22)),iT 24 18 (.mov (.t 1)),iT 25 18 (.cmp .eql (.t 23) (.t 24)),iO 26 (.pick (.t 18) (.t 25) (kB false))]
 (.cond (.t 26) (sO [iM 27 5,iM 4 27]
 (.seq (.keep [4]) .ret))
 (.skip))))
 (.ops [iM 10 5,iO 11 (.ari .add (.t 10) (kI 1)),iM 5 11]))
def uN:SCode :=
 sO [iO 4 (.mov (kI 0))]
 (.seq (sO [iO 5 (.mov (kI 0))]
 (.block 0 (.loop [0,1,5] iZ)))
 (sO [iO 4 (.mov (kI (-1)))]
 (.ret)))
def nP:SFn:=⟨2,28,uN,[.t 4]⟩
def d8:SCode :=
 .seq (sO [iM 35 9,iF 36 2 2,iL 37 36,iV 38 .lss 35 37]
 (.cond (.t 38) (.skip)
 (.seq (.keep [1,2,5,6]) (.exit 2))))
 (.seq (.block 3 (sO [iM 41 1,iM 42 6,iO 43 (.ixa 1 (.t 41) (.t 42)),iL 44 43,iM 45 9,iO 46 (.ixa 1 (.t 44) (.t 45)),iL 47 46,iM 48 47,iT 49 48 (.mov (.t 8)),iT 50 48 (.len (.t 49)),iT 51 48 (.cmp .eql (.t 50) (kI 0)),iT 52 48 (.mov (.t 51)),iU 53 52 (.mov (.t 8)),iU 54 52 (.ixa 1 (.t 53) (kI 0)),iU 55 52 (.load none (.t 54)),iU 56 52 (.mov (.t 9)),iU 57 52 (.cmp .neq (.t 55) (.t 56)),iT 58 48 (.pick (.t 52) (kB true) (.t 57)),iO 59 (.pick (.t 48) (.t 58) (kB false))]
 (.cond (.t 59) (.ops [iM 60 5,iM 61 9,iO 62 (.ixa 1 (.t 60) (.t 61)),iN (.store 1 (.t 62) (kB true))])
 (.skip))))
 (.ops [iM 39 9,iO 40 (.ari .add (.t 39) (kI 1)),iM 9 40]))
def d6:SCode :=
 .seq (sO [iM 13 6,iF 14 3 2,iL 15 14,iO 16 (.len (.t 15)),iV 17 .lss 13 16]
 (.cond (.t 17) (.skip)
 (.seq (.keep [5]) (.exit 0))))
 (.seq (.block 1 (sO [iF 20 3 2,iL 21 20,iM 22 6,iO 23 (.ixa 7 (.t 21) (.t 22)),iK 24 7 23,iO 7 (.alloc [zI,zI,zI,zI,zI,zS,.s 1 []]),iN (.store 7 (.t 7) (.t 24))]
 (.seq (sO [iF 25 0 7,iL 26 25,iE 27 .neq 26 11,iM 28 27,iT 29 28 (.faddr 0 (.t 7)),iT 30 28 (.load none (.t 29)),iT 31 28 (.cmp .neq (.t 30) (kI 27)),iO 32 (.pick (.t 28) (.t 31) (kB false))]
 (.cond (.t 32) (.exit 1)
 (.skip)))
 (sO [iK 33 7 7,iO 34 (.callr oL [.t 33]),iM 8 34]
 (sO [iO 9 (.mov (kI 0))]
 (.block 2 (.loop [1,2,5,6,8,9] d8)))))))
 (.ops [iM 18 6,iO 19 (.ari .add (.t 18) (kI 1)),iM 6 19]))
def qI:SCode :=
 sO [iO 2 (.vbox 4 (.t 0)),iO 4 (.mov (.n 1))]
 (sO [iF 10 2 2,iL 11 10,iO 12 (.mk 1 1 [.v (.bool false)] (.t 11)),iM 5 12]
 (.seq (sO [iO 6 (.mov (kI 0))]
 (.block 0 (.loop [1,2,5,6] d6)))
 (sO [iM 63 5,iM 4 63]
 (.ret))))
def lM:SFn:=⟨2,64,qI,[.t 4]⟩
def iW:SCode :=
 .seq (sO [iM 45 11,iM 46 10,iO 47 (.len (.t 46)),iV 48 .lss 45 47]
 (.cond (.t 48) (.skip)
 (.seq (.keep [1,2,6,7,8,9]) (.exit 2))))
 (.seq (.block 3 (.ops [iM 51 9,iM 52 10,iM 53 11,iO 54 (.ixa 1 (.t 52) (.t 53)),iL 55 54,iO 56 (.ixa 1 (.t 51) (.t 55)),iN (.store 1 (.t 56) (kB true))]))
 (.ops [iM 49 11,iO 50 (.ari .add (.t 49) (kI 1)),iM 11 50]))
def fF:SCode :=
 .seq (sO [iM 57 12,iF 58 2 2,iL 59 58,iV 60 .lss 57 59]
 (.cond (.t 60) (.skip)
 (.seq (.keep [1,2,6,7,8]) (.exit 4))))
 (.seq (.block 5 (.seq (sO [iM 63 9,iM 64 12,iO 65 (.ixa 1 (.t 63) (.t 64)),iL 66 65,iO 67 (.not (.t 66))]
 (.cond (.t 67) (.exit 5)
 (.skip)))
 (.seq (sO [iM 68 6,iM 69 12,iO 70 (.ixa 1 (.t 68) (.t 69)),iL 71 70,iE 72 .lss 71 0]
 (.cond (.t 72) (.ops [iM 73 6,iM 74 12,iM 75 8,iO 76 (.ixa 1 (.t 73) (.t 74)),iN (.store 1 (.t 76) (.t 75))])
 (.skip)))
 (.ops [iM 77 7,iM 78 12,iM 79 8,iO 80 (.ixa 1 (.t 77) (.t 78)),iN (.store 1 (.t 80) (.t 79))]))))
 (.ops [iM 61 12,iO 62 (.ari .add (.t 61) (kI 1)),iM 12 62]))
def iY:SCode :=
 .seq (sO [iM 19 8,iF 20 3 2,iL 21 20,iO 22 (.len (.t 21)),iV 23 .lss 19 22]
 (.cond (.t 23) (.skip)
 (.seq (.keep [6,7]) (.exit 0))))
 (.seq (.block 1 (sO [iO 26 (.lit 1 []),iM 27 1,iM 28 8,iO 29 (.ixa 1 (.t 27) (.t 28)),iL 30 29,iO 31 (.app 1 1 (.t 26) (.t 30)),iM 9 31]
 (.seq (.opsd [⟨iF 32 3 2,0,[]⟩,⟨iL 33 32,1,[]⟩,⟨iM 34 8,2,[]⟩,⟨iO 35 (.ixa 7 (.t 33) (.t 34)),3,[]⟩,⟨iK 36 7 35,4,[]⟩,⟨iF 38 3 2,6,[]⟩,⟨iL 39 38,7,[]⟩,⟨iM 40 8,8,[]⟩,⟨iO 41 (.ixa 7 (.t 39) (.t 40)),9,[]⟩,⟨iK 42 7 41,10,[]⟩,⟨iO 37 (.call oL [.t 36]),5,[iF 38 3 2,iL 39 38,iM 40 8,iO 41 (.ixa 7 (.t 39) (.t 40)),iK 42 7 41]⟩,⟨iO 43 (.call sB [.t 42]),11,[]⟩,⟨iO 44 (.app 1 8 (.t 37) (.t 43)),12,[]⟩,⟨iM 10 44,13,[]⟩])
 (.seq (sO [iO 11 (.mov (kI 0))]
 (.block 2 (.loop [1,2,6,7,8,9,10,11] iW)))
 (sO [iO 12 (.mov (kI 0))]
 (.block 4 (.loop [1,2,6,7,8,9,12] fF)))))))
 (.ops [iM 24 8,iO 25 (.ari .add (.t 24) (kI 1)),iM 8 25]))
def uW:SCode :=
 sO [iO 2 (.vbox 4 (.t 0)),iO 4 (.mov (.n 1)),iO 5 (.mov (.n 1))]
 (.seq (.opsd [⟨iF 13 2 2,0,[]⟩,⟨iL 14 13,1,[]⟩,⟨iF 16 2 2,3,[]⟩,⟨iL 17 16,4,[]⟩,⟨iO 15 (.call lX [.t 14]),2,[iF 16 2 2,iL 17 16]⟩,⟨iO 18 (.call lX [.t 17]),5,[]⟩,⟨iM 6 15,6,[]⟩,⟨iM 7 18,7,[]⟩])
 (.seq (sO [iO 8 (.mov (kI 0))]
 (.block 0 (.loop [1,2,6,7,8] iY)))
 (sO [iM 81 6,iM 82 7,iM 4 81,iM 5 82]
 (.ret))))
def nJ:SFn:=⟨2,83,uW,[.t 4,.t 5]⟩
def jK:SCode :=
 .seq (sO [iM 12 7,iM 13 0,iO 14 (.nck (.t 13)),iF 15 2 14,iL 16 15,iO 17 (.len (.t 16)),iV 18 .lss 12 17]
 (.cond (.t 18) (.skip)
 (.seq (.keep [0,1,5,6]) (.exit 2))))
 (.seq (.block 3 (sO [iM 21 0,iO 22 (.nck (.t 21)),iF 23 2 22,iL 24 23,iM 25 7,iO 26 (.ixa 1 (.t 24) (.t 25)),iL 27 26,iM 28 5,iV 29 .eql 27 28,iM 30 29,iT 31 30 (.mov (.t 0)),iT 32 30 (.nck (.t 31)),iT 33 30 (.faddr 0 (.t 32)),iT 34 30 (.load none (.t 33)),iT 35 30 (.mov (.t 7)),iT 36 30 (.ixa 1 (.t 34) (.t 35)),iT 37 30 (.load none (.t 36)),iT 38 30 (.mov (.t 0)),iT 39 30 (.nck (.t 38)),iT 40 30 (.faddr 1 (.t 39)),iT 41 30 (.load none (.t 40)),iT 42 30 (.mov (.t 1)),iT 43 30 (.ixa 1 (.t 41) (.t 42)),iT 44 30 (.load none (.t 43)),iT 45 30 (.cmp .leq (.t 37) (.t 44)),iO 46 (.pick (.t 30) (.t 45) (kB false)),iM 47 46,iT 48 47 (.mov (.t 0)),iT 49 47 (.nck (.t 48)),iT 50 47 (.faddr 0 (.t 49)),iT 51 47 (.load none (.t 50)),iT 52 47 (.mov (.t 1)),iT 53 47 (.ixa 1 (.t 51) (.t 52)),iT 54 47 (.load none (.t 53)),iT 55 47 (.mov (.t 0)),iT 56 47 (.nck (.t 55)),iT 57 47 (.faddr 1 (.t 56)),iT 58 47 (.load none (.t 57)),iT 59 47 (.mov (.t 7)),iT 60 47 (.ixa 1 (.t 58) (.t 59)),iT 61 47 (.load none (.t 60)),iT 62 47 (.cmp .leq (.t 54) (.t 61)),iO 63 (.pick (.t 47) (.t 62) (kB false))]
 (.cond (.t 63) (.ops [iO 6 (.mov (kB false))])
 (.skip))))
 (.ops [iM 19 7,iO 20 (.ari .add (.t 19) (kI 1)),iM 7 20]))
def bO:SCode :=
 .seq (sO [iM 8 5,iE 9 .lss 8 3]
 (.cond (.t 9) (.skip)
 (.seq (.keep []) (.exit 0))))
 (.seq (.block 1 (sO [iO 6 (.mov (kB true))]
 (.seq (sO [iO 7 (.mov (kI 0))]
 (.block 2 (.loop [0,1,5,6,7] jK)))
 (sO [iM 64 6]
 (.cond (.t 64) (sO [iM 65 5,iM 4 65]
 (.seq (.keep [4]) .ret))
 (.skip))))))
 (.ops [iM 10 5,iO 11 (.ari .add (.t 10) (kI 1)),iM 5 11]))
def vW:SCode :=
 sO [iO 4 (.mov (kI 0))]
 (.seq (sO [iO 5 (.mov (kI 0))]
 (.block 0 (.loop [0,1,5] bO)))
 (sO [iO 4 (.mov (kI (-1)))]
 (.ret)))
def pR:SFn:=⟨2,66,vW,[.t 4]⟩
def yH:SCode :=
 sO [iO 6 (.mov (kB false))]
 (sO [iM 7 0,iM 8 1,iV 9 .geq 7 8,iM 10 9,iT 11 10 (.mov (.t 0)),iT 12 10 (.mov (.t 2)),iT 13 10 (.cmp .leq (.t 11) (.t 12)),iO 14 (.pick (.t 10) (.t 13) (kB false)),iM 6 14]
 (.ret))
def rH:SFn:=⟨3,15,yH,[.t 6]⟩
def A5:SCode :=
 sO [iO 2 (.vbox 7 (.t 0)),iO 3 (.box 1 (.t 1)),iO 4 (.mov (kB false))]
 (.seq (sO [iF 5 0 2,iL 6 5,iO 7 (.callr xS [.t 6]),iO 8 (.cmp .eql (.t 7) (.c (.string ⟨#[]⟩))),iM 9 8,iU 10 9 (.faddr 4 (.t 2)),iU 11 9 (.load none (.t 10)),iU 12 9 (.callr p9 [.t 11]),iU 13 9 (.not (.t 12)),iO 14 (.pick (.t 9) (kB true) (.t 13)),iM 15 14,iU 16 15 (.load (some 7) (.t 2)),iU 17 15 (.load none (.t 3)),iU 18 15 (.callr xJ [.t 16,.t 17]),iU 19 15 (.not (.t 18)),iO 20 (.pick (.t 15) (kB true) (.t 19))]
 (.cond (.t 20) (sO [iO 4 (.mov (kB false))]
 (.ret))
 (.skip)))
 (.seq (sO [iF 21 0 2,iL 22 21,iO 23 (.callr dO [.t 22,.c (.int .u8 68)]),iO 24 (.not (.t 23)),iM 25 24,iT 26 25 (.faddr 1 (.t 2)),iT 27 25 (.load none (.t 26)),iT 28 25 (.cmp .neq (.t 27) (kI 0)),iO 29 (.pick (.t 25) (.t 28) (kB false)),iM 30 29,iU 31 30 (.faddr 0 (.t 2)),iU 32 30 (.load none (.t 31)),iU 33 30 (.callr dO [.t 32,.c (.int .u8 65)]),iU 34 30 (.not (.t 33)),iU 35 30 (.mov (.t 34)),iT 36 35 (.faddr 2 (.t 2)),iT 37 35 (.load none (.t 36)),iT 38 35 (.cmp .neq (.t 37) (kI 0)),iU 39 30 (.pick (.t 35) (.t 38) (kB false)),iO 40 (.pick (.t 30) (kB true) (.t 39)),iM 41 40,iU 42 41 (.faddr 0 (.t 2)),iU 43 41 (.load none (.t 42)),iU 44 41 (.callr dO [.t 43,.c (.int .u8 66)]),iU 45 41 (.not (.t 44)),iU 46 41 (.mov (.t 45)),iT 47 46 (.faddr 3 (.t 2)),iT 48 46 (.load none (.t 47)),iT 49 46 (.cmp .neq (.t 48) (kI 0)),iU 50 41 (.pick (.t 46) (.t 49) (kB false)),iO 51 (.pick (.t 41) (kB true) (.t 50)),iM 52 51,iU 53 52 (.faddr 0 (.t 2)),iU 54 52 (.load none (.t 53)),iU 55 52 (.callr dO [.t 54,.c (.int .u8 78)]),iU 56 52 (.not (.t 55)),iU 57 52 (.mov (.t 56)),iT 58 57 (.faddr 4 (.t 2)),iT 59 57 (.load none (.t 58)),iT 60 57 (.cmp .neq (.t 59) (kI 0)),iU 61 52 (.pick (.t 57) (.t 60) (kB false)),iO 62 (.pick (.t 52) (kB true) (.t 61)),iM 63 62,iU 64 63 (.faddr 0 (.t 2)),iU 65 63 (.load none (.t 64)),iU 66 63 (.callr dO [.t 65,.c (.int .u8 83)]),iU 67 63 (.not (.t 66)),iU 68 63 (.mov (.t 67)),iT 69 68 (.faddr 5 (.t 2)),iT 70 68 (.load none (.t 69)),iT 71 68 (.cmp .neq (.t 70) (.c (.string ⟨#[]⟩))),iU 72 63 (.pick (.t 68) (.t 71) (kB false)),iO 73 (.pick (.t 63) (kB true) (.t 72))]
 (.cond (.t 73) (sO [iO 4 (.mov (kB false))]
 (.ret))
 (.skip)))
 (.seq (.opsd [⟨iK 74 7 2,0,[]⟩,⟨iK 76 7 2,2,[]⟩,⟨iO 79 (.fn gQ [.t 3]),5,[]⟩,⟨iO 75 (.call oJ [.t 74]),1,[iK 76 7 2,iO 79 (.fn gQ [.t 3])]⟩,⟨iO 77 (.call sL [.t 76]),3,[iO 79 (.fn gQ [.t 3])]⟩,⟨iO 78 (.app 1 8 (.t 75) (.t 77)),4,[iO 79 (.fn gQ [.t 3])]⟩,⟨iO 80 (.calli (.f eH) [.t 78,.t 79]),6,[]⟩,⟨iO 81 (.not (.t 80)),7,[]⟩,⟨iM 4 81,8,[]⟩])
 (.ret))))
def tN:SFn:=⟨2,82,A5,[.t 4]⟩
def xD:SCode :=
 sO [iO 3 (.box 1 (.t 1)),iO 4 (.mov (kI 0))]
 (sO [iM 5 0,iO 6 (.fn lV [.t 3]),iO 7 (.calli (.f c7) [.t 5,.t 6]),iM 4 7]
 (.ret))
def o8:SFn:=⟨2,8,xD,[.t 4]⟩
def bQ:SCode :=
 sO [iV 9 .lss 8 7]
 (.seq (.cond (.t 9) (.skip)
 (.seq (.keep []) (.exit 0)))
 (.seq (.block 1 (sO [iM 10 8,iM 5 10]
 (sO [iM 11 1,iM 12 0,iM 13 5,iO 14 (.ixa 7 (.t 12) (.t 13)),iK 15 7 14,iO 16 (.calli (.t 11) [.t 15])]
 (.cond (.t 16) (sO [iM 17 5,iM 4 17]
 (.seq (.keep [4]) .ret))
 (.skip)))))
 (.ops [iO 18 (.ari .add (.t 8) (kI 1)),iM 8 18])))
def d7:SCode :=
 sO [iO 4 (.mov (kI 0))]
 (.seq (sO [iM 6 0,iO 7 (.len (.t 6)),iO 8 (.mov (kI 0))]
 (.block 0 (.loop [0,1,7,8] bQ)))
 (sO [iO 4 (.mov (kI (-1)))]
 (.ret)))
def cP:SFn:=⟨2,19,d7,[.t 4]⟩
def l7:SCode :=
 sO [iV 24 .lss 23 22]
 (.seq (.cond (.t 24) (.skip)
 (.seq (.keep [1,4,5]) (.exit 0)))
 (.seq (.block 1 (sO [iM 25 23,iM 6 25]
 (.ops [iM 26 4,iM 27 6,iM 28 5,iM 29 6,iO 30 (.ixa 1 (.t 26) (.t 27)),iN (.store 1 (.t 30) (kI (-1))),iO 31 (.ixa 1 (.t 28) (.t 29)),iN (.store 1 (.t 31) (kI (-1)))])))
 (.ops [iO 32 (.ari .add (.t 23) (kI 1)),iM 23 32])))
def lZ:SCode :=
 sO [iV 55 .lss 54 53]
 (.seq (.cond (.t 55) (.skip)
 (.seq (.keep [4,5,7,36,37,38]) (.exit 4)))
 (.seq (.block 5 (sO [iO 56 (.ixa 1 (.t 52) (.t 54)),iL 57 56,iM 11 57]
 (.seq (sO [iM 58 4,iM 59 11,iO 60 (.ixa 1 (.t 58) (.t 59)),iL 61 60,iE 62 .lss 61 0]
 (.cond (.t 62) (.ops [iM 63 4,iM 64 11,iM 65 8,iO 66 (.ixa 1 (.t 63) (.t 64)),iN (.store 1 (.t 66) (.t 65))])
 (.skip)))
 (.ops [iM 67 5,iM 68 11,iM 69 8,iO 70 (.ixa 1 (.t 67) (.t 68)),iN (.store 1 (.t 70) (.t 69))]))))
 (.ops [iO 71 (.ari .add (.t 54) (kI 1)),iM 54 71])))
def l6:SCode :=
 sO [iV 39 .lss 38 37]
 (.seq (.cond (.t 39) (.skip)
 (.seq (.keep [4,5]) (.exit 2)))
 (.seq (.block 3 (sO [iM 40 38,iO 41 (.ixa 7 (.t 36) (.t 38)),iK 42 7 41,iO 9 (.alloc [zI,zI,zI,zI,zI,zS,.s 1 []]),iM 8 40,iN (.store 7 (.t 9) (.t 42))]
 (.seq (.opsd [⟨iK 43 7 9,0,[]⟩,⟨iO 44 (.callr oJ [.t 43]),1,[]⟩,⟨iK 45 7 9,2,[]⟩,⟨iO 46 (.callr sL [.t 45]),3,[]⟩,⟨iM 47 7,4,[]⟩,⟨iM 48 8,5,[]⟩,⟨iO 49 (.ixa 1 (.t 47) (.t 48)),6,[]⟩,⟨iL 50 49,7,[]⟩,⟨iO 54 (.mov (kI 0)),11,[]⟩,⟨iO 51 (.lit 1 [.t 44,.t 46,.t 50]),8,[iO 54 (.mov (kI 0))]⟩,⟨iO 52 (.callr iH [.t 51]),9,[]⟩,⟨iO 53 (.len (.t 52)),10,[]⟩])
 (.block 4 (.loop [4,5,7,8,36,37,38,52,53,54] lZ)))))
 (.ops [iO 72 (.ari .add (.t 38) (kI 1)),iM 38 72])))
def Bv:SCode :=
 sO [iO 1 (.vbox 4 (.t 0)),iO 2 (.mov (.n 1)),iO 3 (.mov (.n 1))]
 (.seq (sO [iK 12 4 1,iO 13 (.callr lE [.t 12]),iO 14 (.not (.t 13))]
 (.cond (.t 14) (sO [iO 2 (.mov (.n 1)),iO 3 (.mov (.n 1))]
 (.ret))
 (.skip)))
 (.seq (.opsd [⟨iF 15 2 1,0,[]⟩,⟨iL 16 15,1,[]⟩,⟨iF 18 2 1,3,[]⟩,⟨iL 19 18,4,[]⟩,⟨iO 17 (.mk 1 8 [zI] (.t 16)),2,[]⟩,⟨iM 4 17,6,[]⟩,⟨iO 20 (.mk 1 8 [zI] (.t 19)),5,[]⟩,⟨iM 5 20,7,[]⟩])
 (.seq (sO [iF 21 2 1,iL 22 21,iO 23 (.mov (kI 0))]
 (.block 0 (.loop [1,4,5,22,23] l7)))
 (sO [iK 33 4 1,iO 34 (.callr n9 [.t 33]),iM 7 34]
 (.seq (sO [iF 35 3 1,iL 36 35,iO 37 (.len (.t 36)),iO 38 (.mov (kI 0))]
 (.block 2 (.loop [4,5,7,36,37,38] l6)))
 (sO [iM 73 4,iM 74 5,iM 2 73,iM 3 74]
 (.ret)))))))
def tX:SFn:=⟨1,75,Bv,[.t 2,.t 3]⟩
def gG:SCode :=
 sO [iV 37 .lss 36 35]
 (.seq (.cond (.t 37) (.skip)
 (.seq (.keep [1,3,14,15,16]) (.exit 2)))
 (.seq (.block 3 (sO [iO 38 (.ixa 1 (.t 34) (.t 36)),iL 39 38,iM 8 39]
 (sO [iK 40 7 6,iO 41 (.callr oJ [.t 40]),iM 42 8,iO 43 (.callr dY [.t 41,.t 42]),iO 44 (.not (.t 43))]
 (.cond (.t 44) (.ops [iM 45 3,iM 46 8,iO 47 (.lit 1 [.t 46]),iO 48 (.app 1 8 (.t 45) (.t 47)),iM 3 48])
 (.skip)))))
 (.ops [iO 49 (.ari .add (.t 36) (kI 1)),iM 36 49])))
def jO:SCode :=
 sO [iV 17 .lss 16 15]
 (.seq (.cond (.t 17) (.skip)
 (.seq (.keep [3]) (.exit 0)))
 (.seq (.block 1 (sO [iM 18 16,iO 19 (.ixa 1 (.t 14) (.t 16)),iL 20 19,iM 4 18,iM 5 20]
 (sO [iF 21 3 1,iL 22 21,iM 23 4,iO 24 (.ixa 7 (.t 22) (.t 23)),iK 25 7 24,iO 6 (.alloc [zI,zI,zI,zI,zI,zS,.s 1 []]),iN (.store 7 (.t 6) (.t 25))]
 (.seq (sO [iF 26 0 6,iL 27 26,iE 28 .neq 27 11,iM 29 28,iT 30 29 (.faddr 0 (.t 6)),iT 31 29 (.load none (.t 30)),iT 32 29 (.cmp .neq (.t 31) (kI 27)),iO 33 (.pick (.t 29) (.t 32) (kB false))]
 (.cond (.t 33) (.exit 1)
 (.skip)))
 (sO [iM 34 5,iO 35 (.len (.t 34)),iO 36 (.mov (kI 0))]
 (.block 2 (.loop [1,3,6,14,15,16,34,35,36] gG)))))))
 (.ops [iO 50 (.ari .add (.t 16) (kI 1)),iM 16 50])))
def vK:SCode :=
 sO [iO 1 (.vbox 4 (.t 0)),iO 2 (.mov (.n 1))]
 (.seq (sO [iK 9 4 1,iO 10 (.callr lE [.t 9]),iO 11 (.not (.t 10))]
 (.cond (.t 11) (sO [iO 2 (.mov (.n 1))]
 (.ret))
 (.skip)))
 (sO [iO 12 (.lit 1 []),iM 3 12]
 (.seq (sO [iK 13 4 1,iO 14 (.callr n9 [.t 13]),iO 15 (.len (.t 14)),iO 16 (.mov (kI 0))]
 (.block 0 (.loop [1,3,14,15,16] jO)))
 (sO [iM 51 3,iO 52 (.callb fX [.t 51] [true])]
 (sO [iM 53 3,iO 54 (.callb eI [.t 53] [true]),iM 2 54]
 (.ret))))))
def oU:SFn:=⟨1,55,vK,[.t 2]⟩
def fV:SCode :=
 .ops [iM 4 0,iM 5 0,iO 6 (.len (.t 5)),iM 7 1,iO 8 (.calli (.f fH) [.t 4,.t 6,.t 7])]
def dL:SFn:=⟨2,9,fV,[]⟩
def wX:SCode :=
 sO [iO 5 (.mov (kI 0))]
 (sO [iL 6 2,iM 7 0,iO 8 (.ixa 1 (.t 6) (.t 7)),iL 9 8,iL 10 2,iM 11 1,iO 12 (.ixa 1 (.t 10) (.t 11)),iL 13 12,iO 14 (.ari .sub (.t 9) (.t 13)),iM 5 14]
 (.ret))
def pH:SFn:=⟨3,15,wX,[.t 5]⟩
def aU:SCode :=
 sO [iV 9 .lss 8 7]
 (.seq (.cond (.t 9) (.skip)
 (.seq (.keep []) (.exit 0)))
 (.seq (.block 1 (sO [iM 10 8,iM 5 10]
 (sO [iM 11 1,iM 12 0,iM 13 5,iO 14 (.ixa 1 (.t 12) (.t 13)),iL 15 14,iO 16 (.cmpb .eql (.t 11) (.t 15))]
 (.cond (.t 16) (sO [iM 17 5,iM 4 17]
 (.seq (.keep [4]) .ret))
 (.skip)))))
 (.ops [iO 18 (.ari .add (.t 8) (kI 1)),iM 8 18])))
def j7:SCode :=
 sO [iO 4 (.mov (kI 0))]
 (.seq (sO [iM 6 0,iO 7 (.len (.t 6)),iO 8 (.mov (kI 0))]
 (.block 0 (.loop [0,1,7,8] aU)))
 (sO [iO 4 (.mov (kI (-1)))]
 (.ret)))
def fO:SFn:=⟨2,19,j7,[.t 4]⟩
def jW:SCode :=
 sO [iO 4 (.mov (kB false))]
 (sO [iM 5 0,iM 6 1,iO 7 (.callr i8 [.t 5,.t 6]),iE 8 .geq 7 0,iM 4 8]
 (.ret))
def eX:SFn:=⟨2,9,jW,[.t 4]⟩
def x5:SCode :=
 sO [iO 4 (.mov (kI 0))]
 (sO [iM 5 1,iM 6 0,iO 7 (.len (.t 6)),iO 8 (.ari .sub (.t 5) (.t 7)),iM 1 8]
 (.seq (sO [iM 9 1,iE 10 .lss 9 0]
 (.cond (.t 10) (sO [iO 4 (.mov (kI (-1)))]
 (.ret))
 (.skip)))
 (sO [iM 11 1,iM 4 11]
 (.ret))))
def qZ:SFn:=⟨2,12,x5,[.t 4]⟩
def wB:SCode :=
 sO [iO 2 (.vbox 4 (.t 0)),iO 4 (.mov (.n 1))]
 (sO [iF 7 3 2,iL 8 7,iM 9 1,iO 10 (.ixa 7 (.t 8) (.t 9)),iK 11 7 10,iO 5 (.alloc [zI,zI,zI,zI,zI,zS,.s 1 []]),iN (.store 7 (.t 5) (.t 11))]
 (sO [iF 12 3 2,iL 13 12,iF 14 4 5,iL 15 14,iO 16 (.callr iB [.t 13,.t 15]),iM 6 16]
 (.seq (sO [iF 17 0 5,iL 18 17]
 (.block 0 (.seq (sO [iE 20 .eql 18 12,iM 19 20]
 (.cond (.t 19) (.skip)
 (.ops [iE 21 .eql 18 28,iM 19 21])))
 (.cond (.t 19) (sO [iO 22 (.lit 1 []),iM 4 22]
 (.ret))
 (sO [iE 24 .eql 18 9,iM 23 24]
 (.cond (.t 23) (sO [iM 25 6,iO 26 (.lit 1 [.t 25]),iM 4 26]
 (.ret))
 (sO [iE 28 .eql 18 10,iM 27 28]
 (.cond (.t 27) (.seq (sO [iM 29 6,iM 30 1,iO 31 (.ari .add (.t 30) (kI 1)),iV 32 .lss 29 31]
 (.cond (.t 32) (sO [iM 33 6,iM 34 1,iO 35 (.ari .add (.t 34) (kI 1)),iO 36 (.lit 1 [.t 33,.t 35]),iM 4 36]
 (.ret))
 (.skip)))
 (sO [iM 37 6,iM 38 1,iO 39 (.ari .add (.t 38) (kI 1)),iV 40 .gtr 37 39]
 (.cond (.t 40) (sO [iM 41 1,iO 42 (.ari .add (.t 41) (kI 1)),iM 43 6,iO 44 (.lit 1 [.t 42,.t 43]),iM 4 44]
 (.ret))
 (.skip))))
 (.skip)))))))))
 (sO [iM 45 1,iO 46 (.ari .add (.t 45) (kI 1)),iO 47 (.lit 1 [.t 46]),iM 4 47]
 (.ret)))))
def o7:SFn:=⟨2,48,wB,[.t 4]⟩
def lW:SCode :=
 .seq (sO [iM 15 7,iM 16 6,iO 17 (.len (.t 16)),iV 18 .lss 15 17]
 (.cond (.t 18) (.skip)
 (.seq (.keep [2,5]) (.exit 0))))
 (.seq (.block 1 (.ops [iM 21 5,iM 22 6,iM 23 7,iO 24 (.ixa 1 (.t 22) (.t 23)),iL 25 24,iO 26 (.ixa 1 (.t 21) (.t 25)),iN (.store 1 (.t 26) (kB false))]))
 (.ops [iM 19 7,iO 20 (.ari .add (.t 19) (kI 1)),iM 7 20]))
def l4:SCode :=
 .seq (sO [iM 29 9,iM 30 8,iO 31 (.len (.t 30)),iV 32 .lss 29 31]
 (.cond (.t 32) (.skip)
 (.seq (.keep [5]) (.exit 2))))
 (.seq (.block 3 (.ops [iM 35 5,iM 36 8,iM 37 9,iO 38 (.ixa 1 (.t 36) (.t 37)),iL 39 38,iO 40 (.ixa 1 (.t 35) (.t 39)),iN (.store 1 (.t 40) (kB true))]))
 (.ops [iM 33 9,iO 34 (.ari .add (.t 33) (kI 1)),iM 9 34]))
def Ba:SCode :=
 sO [iO 2 (.vbox 7 (.t 0)),iO 4 (.mov (.n 1))]
 (sO [iO 10 (.lit 1 []),iM 11 1,iO 12 (.app 1 1 (.t 10) (.t 11)),iM 5 12]
 (sO [iK 13 7 2,iO 14 (.callr oL [.t 13]),iM 6 14]
 (.seq (sO [iO 7 (.mov (kI 0))]
 (.block 0 (.loop [2,5,6,7] lW)))
 (sO [iK 27 7 2,iO 28 (.callr sB [.t 27]),iM 8 28]
 (.seq (sO [iO 9 (.mov (kI 0))]
 (.block 2 (.loop [5,8,9] l4)))
 (sO [iM 41 5,iM 4 41]
 (.ret)))))))
def uE:SFn:=⟨2,42,Ba,[.t 4]⟩
def x7:SCode :=
 sO [iO 2 (.mov (kI 0))]
 (.seq (sO [iM 3 0,iO 4 (.callr eK [.t 3,.c (.int .i64 1),.c (.int .i64 28)]),iO 5 (.not (.t 4))]
 (.cond (.t 5) (sO [iO 2 (.mov (kI 0))]
 (.ret))
 (.skip)))
 (sO [iO 6 (.lit 1 [.c (.int .i64 0),.c (.int .i64 9),.c (.int .i64 3),.c (.int .i64 7),.c (.int .i64 7),.c (.int .i64 7),.c (.int .i64 7),.c (.int .i64 7),.c (.int .i64 8),.c (.int .i64 8),.c (.int .i64 10),.c (.int .i64 49),.c (.int .i64 2),.c (.int .i64 2),.c (.int .i64 48),.c (.int .i64 3),.c (.int .i64 6),.c (.int .i64 3),.c (.int .i64 2),.c (.int .i64 45),.c (.int .i64 3),.c (.int .i64 6),.c (.int .i64 39),.c (.int .i64 1),.c (.int .i64 17),.c (.int .i64 2),.c (.int .i64 6),.c (.int .i64 6),.c (.int .i64 2)]),iM 7 0,iO 8 (.ixa 1 (.t 6) (.t 7)),iL 9 8,iM 2 9]
 (.ret)))
def rJ:SFn:=⟨1,10,x7,[.t 2]⟩
def kQ:SCode :=
 .seq (sO [iM 8 4,iM 9 0,iO 10 (.len (.t 9)),iV 11 .lss 8 10]
 (.cond (.t 11) (.skip)
 (.seq (.keep [3]) (.exit 0))))
 (.seq (.block 1 (.ops [iM 14 3,iM 15 4,iM 16 0,iM 17 4,iO 18 (.ixa 1 (.t 16) (.t 17)),iL 19 18,iO 20 (.ixa 1 (.t 14) (.t 15)),iN (.store 1 (.t 20) (.t 19))]))
 (.ops [iM 12 4,iO 13 (.ari .add (.t 12) (kI 1)),iM 4 13]))
def yB:SCode :=
 sO [iO 2 (.mov (.n 1))]
 (sO [iM 5 0,iO 6 (.len (.t 5)),iO 7 (.mk 1 8 [zI] (.t 6)),iM 3 7]
 (.seq (sO [iO 4 (.mov (kI 0))]
 (.block 0 (.loop [0,3,4] kQ)))
 (sO [iM 21 3,iM 2 21]
 (.ret))))
def q9:SFn:=⟨1,22,yB,[.t 2]⟩
def eC:SCode :=
 sO [iV 44 .lss 43 42]
 (.seq (.cond (.t 44) (.skip)
 (.seq (.keep [0,3,4,29,30,31]) (.exit 4)))
 (.seq (.block 5 (sO [iM 45 43,iO 46 (.ixa 1 (.t 41) (.t 43)),iL 47 46,iM 7 45,iM 8 47]
 (.ops [iM 48 0,iO 49 (.nck (.t 48)),iF 50 2 49,iL 51 50,iM 52 4,iO 53 (.ixa 1 (.t 51) (.t 52)),iL 54 53,iM 55 7,iM 56 0,iO 57 (.nck (.t 56)),iF 58 2 57,iL 59 58,iM 60 4,iO 61 (.ixa 1 (.t 59) (.t 60)),iL 62 61,iM 63 7,iO 64 (.ixa 1 (.t 62) (.t 63)),iL 65 64,iM 66 65,iU 67 66 (.mov (.t 8)),iO 68 (.pick (.t 66) (kB true) (.t 67)),iO 69 (.ixa 1 (.t 54) (.t 55)),iN (.store 1 (.t 69) (.t 68))])))
 (.ops [iO 70 (.ari .add (.t 43) (kI 1)),iM 43 70])))
def eB:SCode :=
 sO [iV 32 .lss 31 30]
 (.seq (.cond (.t 32) (.skip)
 (.seq (.keep [0,3,4]) (.exit 2)))
 (.seq (.block 3 (sO [iO 33 (.ixa 1 (.t 29) (.t 31)),iL 34 33,iM 6 34]
 (sO [iM 35 0,iO 36 (.nck (.t 35)),iF 37 1 36,iL 38 37,iM 39 6,iO 40 (.ixa 1 (.t 38) (.t 39)),iL 41 40,iO 42 (.len (.t 41)),iO 43 (.mov (kI 0))]
 (.block 4 (.loop [0,3,4,29,30,31,41,42,43] eC)))))
 (.ops [iO 71 (.ari .add (.t 31) (kI 1)),iM 31 71])))
def eA:SCode :=
 sO [iV 90 .lss 89 88]
 (.seq (.cond (.t 90) (.skip)
 (.seq (.keep [0,3,4,9]) (.exit 6)))
 (.seq (.block 7 (sO [iO 91 (.ixa 1 (.t 87) (.t 89)),iL 92 91,iM 11 92]
 (.ops [iM 93 9,iM 94 11,iO 95 (.ixa 1 (.t 93) (.t 94)),iN (.store 1 (.t 95) (kB false))])))
 (.ops [iO 96 (.ari .add (.t 89) (kI 1)),iM 89 96])))
def eD:SCode :=
 sO [iV 107 .lss 106 105]
 (.seq (.cond (.t 107) (.skip)
 (.seq (.keep [0,3,4,9]) (.exit 8)))
 (.seq (.block 9 (sO [iO 108 (.ixa 1 (.t 104) (.t 106)),iL 109 108,iM 13 109]
 (.ops [iM 110 9,iM 111 13,iO 112 (.ixa 1 (.t 110) (.t 111)),iN (.store 1 (.t 112) (kB true))])))
 (.ops [iO 113 (.ari .add (.t 106) (kI 1)),iM 106 113])))
def cK:SCode :=
 .seq (sO [iM 20 4,iE 21 .geq 20 0]
 (.cond (.t 21) (.skip)
 (.seq (.keep [3]) (.exit 0))))
 (.seq (.block 1 (.seq (sO [iM 24 0,iO 25 (.nck (.t 24)),iF 26 0 25,iL 27 26,iM 28 4,iO 29 (.callr Cf [.t 27,.t 28]),iO 30 (.len (.t 29)),iO 31 (.mov (kI 0))]
 (.block 2 (.loop [0,3,4,29,30,31] eB)))
 (sO [iM 72 0,iO 73 (.nck (.t 72)),iF 74 2 73,iL 75 74,iM 76 4,iO 77 (.ixa 1 (.t 75) (.t 76)),iL 78 77,iO 79 (.call gY [.t 78]),iM 9 79]
 (.seq (sO [iM 80 0,iO 81 (.nck (.t 80)),iF 82 0 81,iL 83 82,iM 84 4,iO 85 (.ixa 7 (.t 83) (.t 84)),iK 86 7 85,iO 87 (.callr oJ [.t 86]),iO 88 (.len (.t 87)),iO 89 (.mov (kI 0))]
 (.block 6 (.loop [0,3,4,9,87,88,89] eA)))
 (.seq (sO [iM 97 0,iO 98 (.nck (.t 97)),iF 99 0 98,iL 100 99,iM 101 4,iO 102 (.ixa 7 (.t 100) (.t 101)),iK 103 7 102,iO 104 (.callr sL [.t 103]),iO 105 (.len (.t 104)),iO 106 (.mov (kI 0))]
 (.block 8 (.loop [0,3,4,9,104,105,106] eD)))
 (sO [iM 114 9,iM 115 0,iO 116 (.nck (.t 115)),iF 117 1 116,iL 118 117,iM 119 4,iO 120 (.ixa 1 (.t 118) (.t 119)),iL 121 120,iO 122 (.callr gU [.t 114,.t 121]),iO 123 (.not (.t 122))]
 (.cond (.t 123) (sO [iM 124 0,iO 125 (.nck (.t 124)),iF 126 1 125,iL 127 126,iM 128 4,iM 129 9,iO 130 (.ixa 1 (.t 127) (.t 128)),iN (.store 1 (.t 130) (.t 129))]
 (.ops [iO 3 (.mov (kB true))]))
 (.skip))))))))
 (.ops [iM 22 4,iO 23 (.ari .sub (.t 22) (kI 1)),iM 4 23]))
def m8:SCode :=
 sO [iO 2 (.mov (kB false))]
 (sO [iO 3 (.mov (kB false))]
 (.seq (sO [iM 14 0,iO 15 (.nck (.t 14)),iF 16 0 15,iL 17 16,iO 18 (.len (.t 17)),iO 19 (.ari .sub (.t 18) (kI 1)),iM 4 19]
 (.block 0 (.loop [0,3,4] cK)))
 (sO [iM 131 3,iM 2 131]
 (.ret))))
def jD:SFn:=⟨1,132,m8,[.t 2]⟩
def kS:SCode :=
 .seq (sO [iM 11 5,iM 12 0,iO 13 (.len (.t 12)),iV 14 .lss 11 13]
 (.cond (.t 14) (.skip)
 (.seq (.keep []) (.exit 0))))
 (.seq (.block 1 (sO [iM 17 0,iM 18 5,iO 19 (.ixa 1 (.t 17) (.t 18)),iL 20 19,iM 21 1,iM 22 5,iO 23 (.ixa 1 (.t 21) (.t 22)),iL 24 23,iV 25 .neq 20 24]
 (.cond (.t 25) (sO [iO 4 (.mov (kB false))]
 (.seq (.keep [4]) .ret))
 (.skip))))
 (.ops [iM 15 5,iO 16 (.ari .add (.t 15) (kI 1)),iM 5 16]))
def yJ:SCode :=
 sO [iO 4 (.mov (kB false))]
 (.seq (sO [iM 6 0,iO 7 (.len (.t 6)),iM 8 1,iO 9 (.len (.t 8)),iV 10 .neq 7 9]
 (.cond (.t 10) (sO [iO 4 (.mov (kB false))]
 (.ret))
 (.skip)))
 (.seq (sO [iO 5 (.mov (kI 0))]
 (.block 0 (.loop [0,1,5] kS)))
 (sO [iO 4 (.mov (kB true))]
 (.ret))))
def qY:SFn:=⟨2,26,yJ,[.t 4]⟩
def iP:SCode :=
 sO [iO 4 (.mov (kB false))]
 (sO [iM 5 0,iM 6 1,iO 7 (.callr gV [.t 5,.t 6]),iE 8 .geq 7 0,iM 4 8]
 (.ret))
def eE:SFn:=⟨2,9,iP,[.t 4]⟩
def C7:SCode :=
 sO [iO 2 (.mov (.c (.string ⟨#[]⟩)))]
 (.seq (sO [iM 3 0]
 (.block 0 (sO [iE 5 .eql 3 1,iM 4 5]
 (.cond (.t 4) (sO [iO 2 (.mov (.c (.string ⟨#[68,78]⟩)))]
 (.ret))
 (.seq (sO [iE 7 .eql 3 2,iM 6 7]
 (.cond (.t 6) (.skip)
 (sO [iE 8 .eql 3 15,iM 6 8]
 (.cond (.t 6) (.skip)
 (sO [iE 9 .eql 3 17,iM 6 9]
 (.cond (.t 6) (.skip)
 (.ops [iE 10 .eql 3 20,iM 6 10])))))))
 (.cond (.t 6) (sO [iO 2 (.mov (.c (.string ⟨#[68,65]⟩)))]
 (.ret))
 (.seq (sO [iE 12 .eql 3 3,iM 11 12]
 (.cond (.t 11) (.skip)
 (sO [iE 13 .eql 3 4,iM 11 13]
 (.cond (.t 11) (.skip)
 (sO [iE 14 .eql 3 5,iM 11 14]
 (.cond (.t 11) (.skip)
 (sO [iE 15 .eql 3 6,iM 11 15]
 (.cond (.t 11) (.skip)
 (.ops [iE 16 .eql 3 7,iM 11 16])))))))))
 (.cond (.t 11) (sO [iO 2 (.mov (.c (.string ⟨#[68,65,66]⟩)))]
 (.ret))
 (.seq (sO [iE 18 .eql 3 8,iM 17 18]
 (.cond (.t 17) (.skip)
 (.ops [iE 19 .eql 3 9,iM 17 19])))
 (.cond (.t 17) (sO [iO 2 (.mov (.c (.string ⟨#[78]⟩)))]
 (.ret))
 (sO [iE 21 .eql 3 10,iM 20 21]
 (.cond (.t 20) (sO [iO 2 (.mov (.c (.string ⟨#[65,78]⟩)))]
 (.ret))
 (sO [iE 23 .eql 3 11,iM 22 23]
 (.cond (.t 22) (sO [iO 2 (.mov (.c (.string ⟨#[68,83,88]⟩)))]
 (.ret))
 (.seq (sO [iE 25 .eql 3 12,iM 24 25]
 (.cond (.t 24) (.skip)
 (sO [iE 26 .eql 3 13,iM 24 26]
 (.cond (.t 24) (.skip)
 (sO [iE 27 .eql 3 18,iM 24 27]
 (.cond (.t 24) (.skip)
 (sO [iE 28 .eql 3 25,iM 24 28]
 (.cond (.t 24) (.skip)
 (.ops [iE 29 .eql 3 28,iM 24 29])))))))))
 (.cond (.t 24) (sO [iO 2 (.mov (.c (.string ⟨#[65]⟩)))]
 (.ret))
 (sO [iE 31 .eql 3 14,iM 30 31]
 (.cond (.t 30) (sO [iO 2 (.mov (.c (.string ⟨#[83,88]⟩)))]
 (.ret))
 (.seq (sO [iE 33 .eql 3 16,iM 32 33]
 (.cond (.t 32) (.skip)
 (sO [iE 34 .eql 3 21,iM 32 34]
 (.cond (.t 32) (.skip)
 (sO [iE 35 .eql 3 26,iM 32 35]
 (.cond (.t 32) (.skip)
 (.ops [iE 36 .eql 3 27,iM 32 36])))))))
 (.cond (.t 32) (sO [iO 2 (.mov (.c (.string ⟨#[65,66]⟩)))]
 (.ret))
 (sO [iE 38 .eql 3 19,iM 37 38]
 (.cond (.t 37) (sO [iO 2 (.mov (.c (.string ⟨#[68,66,78,88]⟩)))]
 (.ret))
 (sO [iE 40 .eql 3 22,iM 39 40]
 (.cond (.t 39) (sO [iO 2 (.mov (.c (.string ⟨#[68,65,66,88]⟩)))]
 (.ret))
 (sO [iE 42 .eql 3 23,iM 41 42]
 (.cond (.t 41) (sO [iO 2 (.mov (.c (.string ⟨#[68]⟩)))]
 (.ret))
 (sO [iE 44 .eql 3 24,iM 43 44]
 (.cond (.t 43) (sO [iO 2 (.mov (.c (.string ⟨#[68,83]⟩)))]
 (.ret))
 (.skip)))))))))))))))))))))))))))))
 (sO [iO 2 (.mov (.c (.string ⟨#[]⟩)))]
 (.ret)))
def vD:SFn:=⟨1,45,C7,[.t 2]⟩
def jH:SCode :=
 .seq (sO [iM 12 4,iM 13 3,iV 14 .lss 12 13]
 (.cond (.t 14) (.skip)
 (.seq (.keep [3]) (.exit 1))))
 (.seq (.block 2 (sO [iF 17 6 1,iL 18 17,iM 19 4,iO 20 (.ixa 1 (.t 18) (.t 19)),iL 21 20,iO 22 (.callr eK [.t 21,.c (.int .i64 1),.c (.int .i64 2)]),iO 23 (.not (.t 22)),iM 24 23,iU 25 24 (.mov (.t 4)),iU 26 24 (.ari .add (.t 25) (kI 2)),iU 27 24 (.mov (.t 3)),iU 28 24 (.cmp .lss (.t 26) (.t 27)),iU 29 24 (.mov (.t 28)),iT 30 29 (.faddr 6 (.t 1)),iT 31 29 (.load none (.t 30)),iT 32 29 (.mov (.t 4)),iT 33 29 (.ixa 1 (.t 31) (.t 32)),iT 34 29 (.load none (.t 33)),iT 35 29 (.cmp .eql (.t 34) (kI 1)),iU 36 24 (.pick (.t 29) (.t 35) (kB false)),iU 37 24 (.mov (.t 36)),iT 38 37 (.faddr 6 (.t 1)),iT 39 37 (.load none (.t 38)),iT 40 37 (.mov (.t 4)),iT 41 37 (.ari .add (.t 40) (kI 2)),iT 42 37 (.ixa 1 (.t 39) (.t 41)),iT 43 37 (.load none (.t 42)),iT 44 37 (.cmp .neq (.t 43) (kI 0)),iU 45 24 (.pick (.t 37) (.t 44) (kB false)),iO 46 (.pick (.t 24) (kB true) (.t 45))]
 (.cond (.t 46) (sO [iO 2 (.mov (kB false))]
 (.seq (.keep [2]) .ret))
 (.skip))))
 (.ops [iM 15 4,iO 16 (.ari .add (.t 15) (kI 3)),iM 4 16]))
def xF:SCode :=
 sO [iO 1 (.vbox 7 (.t 0)),iO 2 (.mov (kB false))]
 (sO [iF 5 6 1,iL 6 5,iO 7 (.len (.t 6)),iM 3 7]
 (.seq (sO [iF 8 0 1,iL 9 8]
 (.block 0 (sO [iE 11 .eql 9 19,iM 10 11]
 (.cond (.t 10) (.seq (sO [iO 4 (.mov (kI 0))]
 (.block 1 (.loop [1,3,4] jH)))
 (sO [iM 47 3,iE 48 .eql 47 3,iM 49 48,iU 50 49 (.mov (.t 3)),iU 51 49 (.cmp .eql (.t 50) (kI 6)),iO 52 (.pick (.t 49) (kB true) (.t 51)),iM 53 52,iU 54 53 (.mov (.t 3)),iU 55 53 (.cmp .eql (.t 54) (kI 9)),iO 56 (.pick (.t 53) (kB true) (.t 55)),iM 2 56]
 (.ret)))
 (sO [iE 58 .eql 9 22,iM 57 58]
 (.cond (.t 57) (sO [iM 59 3,iE 60 .eql 59 1,iM 2 60]
 (.ret))
 (.seq (sO [iE 62 .eql 9 11,iM 61 62]
 (.cond (.t 61) (.skip)
 (.ops [iE 63 .eql 9 14,iM 61 63])))
 (.cond (.t 61) (sO [iM 64 3,iE 65 .leq 64 4,iM 2 65]
 (.ret))
 (.skip)))))))))
 (sO [iM 66 3,iE 67 .eql 66 0,iM 2 67]
 (.ret))))
def pG:SFn:=⟨1,68,xF,[.t 2]⟩
def jU:SCode :=
 .seq (sO [iM 12 6,iM 13 5,iO 14 (.len (.t 13)),iV 15 .lss 12 14]
 (.cond (.t 15) (.skip)
 (.seq (.keep []) (.exit 0))))
 (.seq (.block 1 (sO [iM 18 5,iM 19 6,iO 20 (.ixa 1 (.t 18) (.t 19)),iL 21 20,iM 22 1,iO 23 (.ari .sub (.t 22) (kI 1)),iO 24 (.callr eK [.t 21,.c (.int .i64 0),.t 23]),iO 25 (.not (.t 24))]
 (.cond (.t 25) (sO [iO 4 (.mov (kB false))]
 (.seq (.keep [4]) .ret))
 (.skip))))
 (.ops [iM 16 6,iO 17 (.ari .add (.t 16) (kI 1)),iM 6 17]))
def wQ:SCode :=
 sO [iO 2 (.vbox 7 (.t 0)),iO 4 (.mov (kB false))]
 (.seq (.opsd [⟨iK 7 7 2,0,[]⟩,⟨iK 9 7 2,2,[]⟩,⟨iO 8 (.call oL [.t 7]),1,[iK 9 7 2]⟩,⟨iO 10 (.call sB [.t 9]),3,[]⟩,⟨iO 11 (.app 1 8 (.t 8) (.t 10)),4,[]⟩,⟨iM 5 11,5,[]⟩])
 (.seq (sO [iO 6 (.mov (kI 0))]
 (.block 0 (.loop [1,5,6] jU)))
 (sO [iO 4 (.mov (kB true))]
 (.ret))))
def pP:SFn:=⟨2,26,wQ,[.t 4]⟩
def yL:SCode :=
 sO [iO 2 (.mov (kB false))]
 (sO [iM 3 0,iO 4 (.callr eK [.t 3,.c (.int .i64 (-2147483648)),.c (.int .i64 2147483647)]),iM 2 4]
 (.ret))
def rS:SFn:=⟨1,5,yL,[.t 2]⟩
def iD:SCode :=
 .seq (sO [iM 31 5,iF 32 6 1,iL 33 32,iO 34 (.len (.t 33)),iV 35 .lss 31 34,iM 36 35,iT 37 36 (.mov (.t 4)),iT 38 36 (.ari .and (.t 37) (kI 32)),iT 39 36 (.cmp .neq (.t 38) (kI 0)),iO 40 (.pick (.t 36) (.t 39) (kB false))]
 (.cond (.t 40) (.skip)
 (.seq (.keep [3]) (.exit 0))))
 (.seq (.block 1 (sO [iF 43 0 1,iL 44 43,iE 45 .neq 44 19,iM 46 45,iU 47 46 (.mov (.t 5)),iU 48 46 (.ari .rem (.t 47) (kI 3)),iU 49 46 (.cmp .eql (.t 48) (kI 1)),iO 50 (.pick (.t 46) (kB true) (.t 49)),iM 51 50,iU 52 51 (.mov (.t 5)),iU 53 51 (.ari .rem (.t 52) (kI 3)),iU 54 51 (.cmp .eql (.t 53) (kI 2)),iU 55 51 (.mov (.t 54)),iT 56 55 (.faddr 6 (.t 1)),iT 57 55 (.load none (.t 56)),iT 58 55 (.mov (.t 5)),iT 59 55 (.ari .sub (.t 58) (kI 2)),iT 60 55 (.ixa 1 (.t 57) (.t 59)),iT 61 55 (.load none (.t 60)),iT 62 55 (.cmp .eql (.t 61) (kI 2)),iU 63 51 (.pick (.t 55) (.t 62) (kB false)),iO 64 (.pick (.t 51) (kB true) (.t 63))]
 (.cond (.t 64) (.ops [iM 65 3,iF 66 6 1,iL 67 66,iM 68 5,iO 69 (.ixa 1 (.t 67) (.t 68)),iL 70 69,iO 71 (.lit 1 [.t 70]),iO 72 (.app 1 8 (.t 65) (.t 71)),iM 3 72])
 (.skip))))
 (.ops [iM 41 5,iO 42 (.ari .add (.t 41) (kI 1)),iM 5 42]))
def C3:SCode :=
 sO [iO 1 (.vbox 7 (.t 0)),iO 2 (.mov (.n 1))]
 (sO [iO 6 (.lit 1 []),iM 3 6]
 (sO [iF 7 0 1,iL 8 7,iO 9 (.callr nG [.t 8]),iM 4 9]
 (.seq (sO [iM 10 4,iO 11 (.ari .and (.t 10) (kI 2)),iE 12 .neq 11 0]
 (.cond (.t 12) (.ops [iM 13 3,iF 14 2 1,iL 15 14,iO 16 (.lit 1 [.t 15]),iO 17 (.app 1 8 (.t 13) (.t 16)),iM 3 17])
 (.skip)))
 (.seq (sO [iM 18 4,iO 19 (.ari .and (.t 18) (kI 4)),iE 20 .neq 19 0,iM 21 20,iT 22 21 (.faddr 0 (.t 1)),iT 23 21 (.load none (.t 22)),iT 24 21 (.cmp .neq (.t 23) (kI 19)),iO 25 (.pick (.t 21) (.t 24) (kB false))]
 (.cond (.t 25) (.ops [iM 26 3,iF 27 3 1,iL 28 27,iO 29 (.lit 1 [.t 28]),iO 30 (.app 1 8 (.t 26) (.t 29)),iM 3 30])
 (.skip)))
 (.seq (sO [iO 5 (.mov (kI 0))]
 (.block 0 (.loop [1,3,4,5] iD)))
 (sO [iM 73 3,iM 2 73]
 (.ret)))))))
def vV:SFn:=⟨1,74,C3,[.t 2]⟩
def yM:SCode :=
 sO [iO 2 (.mov (kB false))]
 (sO [iM 3 0,iO 4 (.callr dK [.t 3,.c (.int .i64 (-2147483648)),.c (.int .i64 2147483647)]),iM 2 4]
 (.ret))
def rM:SFn:=⟨1,5,yM,[.t 2]⟩
def kR:SCode :=
 .seq (sO [iM 10 5,iO 11 (.ari .add (.t 10) (kI 2)),iF 12 6 2,iL 13 12,iO 14 (.len (.t 13)),iV 15 .lss 11 14]
 (.cond (.t 15) (.skip)
 (.seq (.keep [2]) (.exit 1))))
 (.seq (.block 2 (sO [iF 18 6 2,iL 19 18,iM 20 5,iO 21 (.ixa 1 (.t 19) (.t 20)),iL 22 21,iO 23 (.callr dK [.t 22,.c (.int .i64 1),.c (.int .i64 2)]),iO 24 (.not (.t 23)),iM 25 24,iU 26 25 (.faddr 6 (.t 2)),iU 27 25 (.load none (.t 26)),iU 28 25 (.mov (.t 5)),iU 29 25 (.ixa 1 (.t 27) (.t 28)),iU 30 25 (.load none (.t 29)),iU 31 25 (.cmp .eql (.t 30) (kI 1)),iU 32 25 (.mov (.t 31)),iT 33 32 (.faddr 6 (.t 2)),iT 34 32 (.load none (.t 33)),iT 35 32 (.mov (.t 5)),iT 36 32 (.ari .add (.t 35) (kI 2)),iT 37 32 (.ixa 1 (.t 34) (.t 36)),iT 38 32 (.load none (.t 37)),iT 39 32 (.cmp .neq (.t 38) (kI 0)),iU 40 25 (.pick (.t 32) (.t 39) (kB false)),iO 41 (.pick (.t 25) (kB true) (.t 40))]
 (.cond (.t 41) (sO [iO 4 (.mov (kB false))]
 (.seq (.keep [4]) .ret))
 (.skip))))
 (.ops [iM 16 5,iO 17 (.ari .add (.t 16) (kI 3)),iM 5 17]))
def yT:SCode :=
 sO [iO 2 (.vbox 7 (.t 0)),iO 4 (.mov (kB false))]
 (.seq (.block 0 (sO [iF 7 0 2,iL 8 7,iE 9 .eql 8 19,iM 6 9]
 (.cond (.t 6) (.seq (sO [iO 5 (.mov (kI 0))]
 (.block 1 (.loop [2,5] kR)))
 (sO [iF 42 6 2,iL 43 42,iO 44 (.len (.t 43)),iO 45 (.ari .rem (.t 44) (kI 3)),iE 46 .eql 45 0,iM 47 46,iT 48 47 (.faddr 6 (.t 2)),iT 49 47 (.load none (.t 48)),iT 50 47 (.len (.t 49)),iT 51 47 (.callr dK [.t 50,.c (.int .i64 3),.c (.int .i64 9)]),iO 52 (.pick (.t 47) (.t 51) (kB false)),iM 53 52,iT 54 53 (.faddr 4 (.t 2)),iT 55 53 (.load none (.t 54)),iT 56 53 (.callr dK [.t 55,.c (.int .i64 0),.c (.int .i64 1)]),iO 57 (.pick (.t 53) (.t 56) (kB false)),iM 4 57]
 (.ret)))
 (sO [iF 59 0 2,iL 60 59,iE 61 .eql 60 22,iM 58 61]
 (.cond (.t 58) (sO [iF 62 6 2,iL 63 62,iO 64 (.len (.t 63)),iE 65 .eql 64 1,iM 4 65]
 (.ret))
 (sO [iF 67 0 2,iL 68 67,iO 69 (.callr dO [.t 68,.c (.int .u8 88)]),iO 70 (.not (.t 69)),iM 66 70]
 (.cond (.t 66) (sO [iF 71 6 2,iL 72 71,iO 73 (.len (.t 72)),iE 74 .eql 73 0,iM 4 74]
 (.ret))
 (.skip))))))))
 (sO [iF 75 6 2,iL 76 75,iO 77 (.len (.t 76)),iE 78 .leq 77 4,iM 4 78]
 (.ret)))
def qV:SFn:=⟨2,79,yT,[.t 4]⟩
def gM:SCode :=
 sO [iO 4 (.mov (kB false))]
 (sO [iM 5 0,iM 6 1,iO 7 (.calli (.f fI) [.t 5,.t 6]),iE 8 .geq 7 0,iM 4 8]
 (.ret))
def dV:SFn:=⟨2,9,gM,[.t 4]⟩
def mV:SCode :=
 sO [iV 14 .lss 13 12]
 (.seq (.cond (.t 14) (.skip)
 (.seq (.keep [3]) (.exit 0)))
 (.seq (.block 1 (sO [iM 15 13,iO 16 (.ixa 1 (.t 11) (.t 13)),iL 17 16,iM 4 15,iM 5 17]
 (sO [iM 18 4,iO 19 (.ari .rem (.t 18) (kI 3)),iE 20 .eql 19 1,iM 21 20,iU 22 21 (.mov (.t 4)),iU 23 21 (.ari .rem (.t 22) (kI 3)),iU 24 21 (.cmp .eql (.t 23) (kI 2)),iU 25 21 (.mov (.t 24)),iT 26 25 (.faddr 6 (.t 1)),iT 27 25 (.load none (.t 26)),iT 28 25 (.mov (.t 4)),iT 29 25 (.ari .sub (.t 28) (kI 2)),iT 30 25 (.ixa 1 (.t 27) (.t 29)),iT 31 25 (.load none (.t 30)),iT 32 25 (.cmp .eql (.t 31) (kI 2)),iU 33 21 (.pick (.t 25) (.t 32) (kB false)),iO 34 (.pick (.t 21) (kB true) (.t 33))]
 (.cond (.t 34) (.ops [iM 35 3,iM 36 5,iO 37 (.lit 1 [.t 36]),iO 38 (.app 1 8 (.t 35) (.t 37)),iM 3 38])
 (.skip)))))
 (.ops [iO 39 (.ari .add (.t 13) (kI 1)),iM 13 39])))
def C4:SCode :=
 sO [iO 1 (.vbox 7 (.t 0)),iO 2 (.mov (.n 1))]
 (sO [iO 6 (.lit 1 []),iM 3 6]
 (.seq (sO [iF 7 0 1,iL 8 7,iE 9 .eql 8 19]
 (.cond (.t 9) (.seq (sO [iF 10 6 1,iL 11 10,iO 12 (.len (.t 11)),iO 13 (.mov (kI 0))]
 (.block 0 (.loop [1,3,11,12,13] mV)))
 (sO [iM 40 3,iM 2 40]
 (.ret)))
 (.skip)))
 (.seq (sO [iF 41 0 1,iL 42 41,iO 43 (.callr dO [.t 42,.c (.int .u8 65)])]
 (.cond (.t 43) (.ops [iM 44 3,iF 45 2 1,iL 46 45,iO 47 (.lit 1 [.t 46]),iO 48 (.app 1 8 (.t 44) (.t 47)),iM 3 48])
 (.skip)))
 (.seq (sO [iF 49 0 1,iL 50 49,iO 51 (.callr dO [.t 50,.c (.int .u8 66)])]
 (.cond (.t 51) (.ops [iM 52 3,iF 53 3 1,iL 54 53,iO 55 (.lit 1 [.t 54]),iO 56 (.app 1 8 (.t 52) (.t 55)),iM 3 56])
 (.skip)))
 (.seq (sO [iF 57 0 1,iL 58 57,iO 59 (.callr dO [.t 58,.c (.int .u8 88)])]
 (.cond (.t 59) (.ops [iM 60 3,iF 61 6 1,iL 62 61,iO 63 (.app 1 8 (.t 60) (.t 62)),iM 3 63])
 (.skip)))
 (sO [iM 64 3,iM 2 64]
 (.ret)))))))
def wK:SFn:=⟨1,65,C4,[.t 2]⟩
def vM:SCode :=
 sO [iO 3 (.mov (kB false))]
 (sO [iM 4 0,iL 5 1,iO 6 (.ari .sub (.t 5) (kI 1)),iO 7 (.callr dK [.t 4,.c (.int .i64 0),.t 6]),iO 8 (.not (.t 7)),iM 3 8]
 (.ret))
def oV:SFn:=⟨2,9,vM,[.t 3]⟩
def sC:SCode :=
 sO [iO 2 (.vbox 7 (.t 0)),iO 3 (.mov (kB false))]
 (sO [iF 4 0 2,iL 5 4,iE 6 .eql 5 8,iM 7 6,iT 8 7 (.faddr 4 (.t 2)),iT 9 7 (.load none (.t 8)),iT 10 7 (.load none (.t 1)),iT 11 7 (.cmp .eql (.t 9) (.t 10)),iO 12 (.pick (.t 7) (.t 11) (kB false)),iM 3 12]
 (.ret))
def mK:SFn:=⟨2,13,sC,[.t 3]⟩
def jR:SCode :=
 sO [iV 17 .lss 16 15]
 (.seq (.cond (.t 17) (.skip)
 (.seq (.keep [3]) (.exit 0)))
 (.seq (.block 1 (sO [iO 18 (.ixa 1 (.t 14) (.t 16)),iL 19 18,iM 5 19]
 (.ops [iM 20 3,iM 21 5,iO 22 (.call tS [.t 21]),iO 23 (.lit 1 [.t 22]),iO 24 (.app 1 24 (.t 20) (.t 23)),iM 3 24])))
 (.ops [iO 25 (.ari .add (.t 16) (kI 1)),iM 16 25])))
def vR:SCode :=
 sO [iO 1 (.vbox 4 (.t 0)),iO 2 (.mov (.n 1))]
 (.seq (sO [iK 6 4 1,iO 7 (.callr lE [.t 6]),iO 8 (.not (.t 7))]
 (.cond (.t 8) (sO [iO 2 (.mov (.n 1))]
 (.ret))
 (.skip)))
 (sO [iO 9 (.lit 1 []),iM 3 9]
 (.seq (sO [iK 10 4 1,iO 11 (.callr wI [.t 10]),iO 12 (.nck (.t 11)),iF 13 2 12,iL 14 13,iO 15 (.len (.t 14)),iO 16 (.mov (kI 0))]
 (.block 0 (.loop [3,14,15,16] jR)))
 (sO [iM 26 3,iM 2 26]
 (.ret)))))
def oP:SFn:=⟨1,27,vR,[.t 2]⟩
def bA:SCode :=
 sO [iV 12 .lss 11 10]
 (.seq (.cond (.t 12) (.skip)
 (.seq (.keep [0,3]) (.exit 0)))
 (.seq (.block 1 (sO [iO 13 (.ixa 1 (.t 9) (.t 11)),iL 14 13,iM 5 14]
 (sO [iM 15 3,iM 16 5,iO 17 (.len (.t 16)),iO 18 (.ari .add (.t 15) (.t 17)),iM 3 18]
 (sO [iM 19 3,iE 20 .lss 19 0]
 (.cond (.t 20) (.stuck)
 (.skip))))))
 (.ops [iO 22 (.ari .add (.t 11) (kI 1)),iM 11 22])))
def a8:SCode :=
 sO [iV 28 .lss 27 26]
 (.seq (.cond (.t 28) (.skip)
 (.seq (.keep [6]) (.exit 2)))
 (.seq (.block 3 (sO [iO 29 (.ixa 1 (.t 25) (.t 27)),iL 30 29,iM 8 30]
 (.ops [iM 31 6,iM 32 8,iO 33 (.app 1 8 (.t 31) (.t 32)),iM 6 33])))
 (.ops [iO 34 (.ari .add (.t 27) (kI 1)),iM 27 34])))
def lC:SCode :=
 sO [iO 2 (.mov (.n 1))]
 (sO [iO 3 (.mov (kI 0))]
 (.seq (sO [iM 9 0,iO 10 (.len (.t 9)),iO 11 (.mov (kI 0))]
 (.block 0 (.loop [0,3,9,10,11] bA)))
 (sO [iM 23 3,iO 24 (.callb j5 [.n 1,.t 23] [true,false]),iM 6 24]
 (.seq (sO [iM 25 0,iO 26 (.len (.t 25)),iO 27 (.mov (kI 0))]
 (.block 2 (.loop [6,25,26,27] a8)))
 (sO [iM 35 6,iM 2 35]
 (.ret))))))
def gB:SFn:=⟨1,36,lC,[.t 2]⟩
def mG:SCode :=
 .lib 1
def mD:SFn:=⟨1,11,mG,[]⟩
def j9:SCode :=
 .lib 2
def kA:SFn:=⟨1,61,j9,[.t 0]⟩
def bZ:SCode :=
 .seq (sO [iM 11 8,iM 12 1,iV 13 .leq 11 12]
 (.cond (.t 13) (.skip)
 (.seq (.keep [0,1,2,6,7]) (.exit 0))))
 (.block 1 (sO [iM 14 0,iM 15 7,iM 16 8,iM 17 2,iO 18 (.calli (.f cE) [.t 14,.t 15,.t 16,.t 17])]
 (sO [iM 19 8,iM 7 19]
 (.ops [iM 20 8,iM 21 6,iO 22 (.ari .add (.t 20) (.t 21)),iM 8 22]))))
def b7:SCode :=
 .seq (sO [iM 33 8,iM 34 1,iV 35 .leq 33 34]
 (.cond (.t 35) (.skip)
 (.seq (.keep [0,1,2,6,7]) (.exit 4))))
 (.block 5 (sO [iM 36 0,iM 37 7,iM 38 7,iM 39 6,iO 40 (.ari .add (.t 38) (.t 39)),iM 41 8,iM 42 2,iO 43 (.calli (.f aT) [.t 36,.t 37,.t 40,.t 41,.t 42])]
 (sO [iM 44 8,iM 7 44]
 (.ops [iM 45 8,iM 46 6,iO 47 (.ari .mul (kI 2) (.t 46)),iO 48 (.ari .add (.t 45) (.t 47)),iM 8 48]))))
def bN:SCode :=
 .seq (sO [iM 28 6,iM 29 1,iV 30 .lss 28 29]
 (.cond (.t 30) (.skip)
 (.seq (.keep []) (.exit 2))))
 (.block 3 (sO [iM 31 6,iO 32 (.ari .mul (kI 2) (.t 31)),iO 7 (.mov (kI 0)),iM 8 32]
 (.seq (.block 4 (.loop [0,1,2,6,7,8] b7))
 (.seq (sO [iM 49 7,iM 50 6,iO 51 (.ari .add (.t 49) (.t 50)),iM 9 51]
 (sO [iM 52 9,iM 53 1,iV 54 .lss 52 53]
 (.cond (.t 54) (.ops [iM 55 0,iM 56 7,iM 57 9,iM 58 1,iM 59 2,iO 60 (.calli (.f aT) [.t 55,.t 56,.t 57,.t 58,.t 59])])
 (.skip))))
 (.ops [iM 61 6,iO 62 (.ari .mul (.t 61) (kI 2)),iM 6 62])))))
def jG:SCode :=
 sO [iO 6 (.mov (kI 20))]
 (sO [iM 10 6,iO 7 (.mov (kI 0)),iM 8 10]
 (.seq (.block 0 (.loop [0,1,2,6,7,8] bZ))
 (sO [iM 23 0,iM 24 7,iM 25 1,iM 26 2,iO 27 (.calli (.f cE) [.t 23,.t 24,.t 25,.t 26])]
 (.block 2 (.loop [0,1,2,6] bN)))))
def eP:SFn:=⟨3,63,jG,[]⟩
def cV:SCode :=
 sO [iV 9 .lss 8 7]
 (.seq (.cond (.t 9) (.skip)
 (.seq (.keep []) (.exit 0)))
 (.seq (.block 1 (sO [iM 10 8,iM 5 10]
 (sO [iM 11 1,iM 12 0,iM 13 5,iO 14 (.ixa 1 (.t 12) (.t 13)),iL 15 14,iV 16 .eql 11 15]
 (.cond (.t 16) (sO [iM 17 5,iM 4 17]
 (.seq (.keep [4]) .ret))
 (.skip)))))
 (.ops [iO 18 (.ari .add (.t 8) (kI 1)),iM 8 18])))
def lJ:SCode :=
 sO [iO 4 (.mov (kI 0))]
 (.seq (sO [iM 6 0,iO 7 (.len (.t 6)),iO 8 (.mov (kI 0))]
 (.block 0 (.loop [0,1,7,8] cV)))
 (sO [iO 4 (.mov (kI (-1)))]
 (.ret)))
def gR:SFn:=⟨2,19,lJ,[.t 4]⟩
def Dc:SCode :=
 sO [iO 4 (.mov (.n 1))]
 (sO [iO 7 (.lit 1 []),iM 5 7]
 (.seq (sO [iM 8 0,iM 9 1,iO 10 (.ixa 7 (.t 8) (.t 9)),iK 11 7 10,iO 6 (.alloc [zI,zI,zI,zI,zI,zS,.s 1 []]),iN (.store 7 (.t 6) (.t 11))]
 (sO [iF 12 0 6,iL 13 12]
 (.block 0 (.seq (sO [iE 20 .eql 13 12,iM 19 20]
 (.cond (.t 19) (.skip)
 (.ops [iE 21 .eql 13 28,iM 19 21])))
 (.cond (.t 19) (.skip)
 (sO [iE 23 .eql 13 9,iM 22 23]
 (.cond (.t 22) (.ops [iM 24 5,iM 25 0,iF 26 4 6,iL 27 26,iO 28 (.callr jN [.t 25,.t 27]),iO 29 (.lit 1 [.t 28]),iO 30 (.app 1 8 (.t 24) (.t 29)),iM 5 30])
 (sO [iE 32 .eql 13 10,iM 31 32]
 (.cond (.t 31) (.ops [iM 33 5,iM 34 1,iO 35 (.ari .add (.t 34) (kI 1)),iM 36 0,iF 37 4 6,iL 38 37,iO 39 (.callr jN [.t 36,.t 38]),iO 40 (.lit 1 [.t 35,.t 39]),iO 41 (.app 1 8 (.t 33) (.t 40)),iM 5 41])
 (.ops [iM 14 5,iM 15 1,iO 16 (.ari .add (.t 15) (kI 1)),iO 17 (.lit 1 [.t 16]),iO 18 (.app 1 8 (.t 14) (.t 17)),iM 5 18]))))))))))
 (sO [iM 42 5,iO 43 (.callb fX [.t 42] [true])]
 (sO [iM 44 5,iO 45 (.callb eI [.t 44] [true]),iM 4 45]
 (.ret)))))
def xM:SFn:=⟨2,46,Dc,[.t 4]⟩
def qU:SCode :=
 .clone 1 [iO 5 (.lit 1 []),iM 6 0,iO 7 (.app 1 1 (.t 5) (.t 6)),iM 2 7]
def fP:SFn:=⟨1,8,qU,[.t 2]⟩
def dF:SCode :=
 sO [iV 14 .lss 13 12]
 (.seq (.cond (.t 14) (.skip)
 (.seq (.keep []) (.exit 0)))
 (.seq (.block 1 (sO [iM 15 13,iM 5 15]
 (sO [iM 16 0,iM 17 5,iO 18 (.ixa 1 (.t 16) (.t 17)),iL 19 18,iM 20 1,iM 21 5,iO 22 (.ixa 1 (.t 20) (.t 21)),iL 23 22,iO 24 (.cmpb .neq (.t 19) (.t 23))]
 (.cond (.t 24) (sO [iO 4 (.mov (kB false))]
 (.seq (.keep [4]) .ret))
 (.skip)))))
 (.ops [iO 25 (.ari .add (.t 13) (kI 1)),iM 13 25])))
def kD:SCode :=
 sO [iO 4 (.mov (kB false))]
 (.seq (sO [iM 6 0,iO 7 (.len (.t 6)),iM 8 1,iO 9 (.len (.t 8)),iV 10 .neq 7 9]
 (.cond (.t 10) (sO [iO 4 (.mov (kB false))]
 (.ret))
 (.skip)))
 (.seq (sO [iM 11 0,iO 12 (.len (.t 11)),iO 13 (.mov (kI 0))]
 (.block 0 (.loop [0,1,12,13] dF)))
 (sO [iO 4 (.mov (kB true))]
 (.ret))))
def fM:SFn:=⟨2,26,kD,[.t 4]⟩
def dG:SCode :=
 sO [iV 9 .lss 8 7]
 (.seq (.cond (.t 9) (.skip)
 (.seq (.keep []) (.exit 0)))
 (.seq (.block 1 (sO [iM 10 8,iM 5 10]
 (sO [iM 11 1,iM 12 0,iM 13 5,iO 14 (.ixa 1 (.t 12) (.t 13)),iL 15 14,iV 16 .eql 11 15]
 (.cond (.t 16) (sO [iM 17 5,iM 4 17]
 (.seq (.keep [4]) .ret))
 (.skip)))))
 (.ops [iO 18 (.ari .add (.t 8) (kI 1)),iM 8 18])))
def kC:SCode :=
 sO [iO 4 (.mov (kI 0))]
 (.seq (sO [iM 6 0,iO 7 (.len (.t 6)),iO 8 (.mov (kI 0))]
 (.block 0 (.loop [0,1,7,8] dG)))
 (sO [iO 4 (.mov (kI (-1)))]
 (.ret)))
def fG:SFn:=⟨2,19,kC,[.t 4]⟩
def cY:SCode :=
 sO [iV 9 .lss 8 7]
 (.seq (.cond (.t 9) (.skip)
 (.seq (.keep []) (.exit 0)))
 (.seq (.block 1 (sO [iM 10 8,iM 5 10]
 (sO [iM 11 1,iM 12 0,iM 13 5,iO 14 (.ixa 1 (.t 12) (.t 13)),iL 15 14,iO 16 (.calli (.t 11) [.t 15])]
 (.cond (.t 16) (sO [iM 17 5,iM 4 17]
 (.seq (.keep [4]) .ret))
 (.skip)))))
 (.ops [iO 18 (.ari .add (.t 8) (kI 1)),iM 8 18])))
def i6:SCode :=
 sO [iO 4 (.mov (kI 0))]
 (.seq (sO [iM 6 0,iO 7 (.len (.t 6)),iO 8 (.mov (kI 0))]
 (.block 0 (.loop [0,1,7,8] cY)))
 (sO [iO 4 (.mov (kI (-1)))]
 (.ret)))
def eO:SFn:=⟨2,19,i6,[.t 4]⟩
def gH:SCode :=
 sO [iV 10 .lss 9 8]
 (.seq (.cond (.t 10) (.skip)
 (.seq (.keep [3]) (.exit 0)))
 (.seq (.block 1 (sO [iM 11 9,iO 12 (.ixa 1 (.t 7) (.t 9)),iL 13 12,iM 4 11,iM 5 13]
 (sO [iM 14 5]
 (.cond (.t 14) (.ops [iM 15 3,iM 16 4,iO 17 (.lit 1 [.t 16]),iO 18 (.app 1 8 (.t 15) (.t 17)),iM 3 18])
 (.skip)))))
 (.ops [iO 19 (.ari .add (.t 9) (kI 1)),iM 9 19])))
def vA:SCode :=
 sO [iO 2 (.mov (.n 1))]
 (sO [iO 6 (.lit 1 []),iM 3 6]
 (.seq (sO [iM 7 0,iO 8 (.len (.t 7)),iO 9 (.mov (kI 0))]
 (.block 0 (.loop [3,7,8,9] gH)))
 (sO [iM 20 3,iM 2 20]
 (.ret))))
def pL:SFn:=⟨1,21,vA,[.t 2]⟩
def mE:SCode :=
 .lib 3
def mF:SFn:=⟨2,27,mE,[.t 0]⟩
def bG:SCode :=
 .seq (sO [iM 18 9,iM 19 1,iV 20 .gtr 18 19,iM 21 20,iT 22 21 (.mov (.t 3)),iT 23 21 (.mov (.t 0)),iT 24 21 (.mov (.t 9)),iT 25 21 (.ixa 1 (.t 23) (.t 24)),iT 26 21 (.load none (.t 25)),iT 27 21 (.mov (.t 0)),iT 28 21 (.mov (.t 9)),iT 29 21 (.ari .sub (.t 28) (kI 1)),iT 30 21 (.ixa 1 (.t 27) (.t 29)),iT 31 21 (.load none (.t 30)),iT 32 21 (.calli (.t 22) [.t 26,.t 31]),iT 33 21 (.cmp .lss (.t 32) (kI 0)),iO 34 (.pick (.t 21) (.t 33) (kB false))]
 (.cond (.t 34) (.skip)
 (.seq (.keep [0,1,2,3,8]) (.exit 2))))
 (.seq (.block 3 (.opsd [⟨iM 37 0,0,[]⟩,⟨iM 38 9,1,[]⟩,⟨iM 39 0,2,[]⟩,⟨iM 40 9,3,[]⟩,⟨iO 41 (.ari .sub (.t 40) (kI 1)),4,[]⟩,⟨iM 42 0,5,[]⟩,⟨iM 43 9,6,[]⟩,⟨iO 44 (.ari .sub (.t 43) (kI 1)),7,[]⟩,⟨iO 45 (.ixa 1 (.t 42) (.t 44)),8,[]⟩,⟨iL 46 45,9,[]⟩,⟨iM 47 0,10,[]⟩,⟨iM 48 9,11,[]⟩,⟨iO 49 (.ixa 1 (.t 47) (.t 48)),12,[]⟩,⟨iL 50 49,13,[]⟩,⟨iO 51 (.ixa 1 (.t 37) (.t 38)),14,[]⟩,⟨iN (.store 1 (.t 51) (.t 46)),15,[iM 39 0,iM 40 9,iO 41 (.ari .sub (.t 40) (kI 1))]⟩,⟨iO 52 (.ixa 1 (.t 39) (.t 41)),16,[]⟩,⟨iN (.store 1 (.t 52) (.t 50)),17,[]⟩]))
 (.ops [iM 35 9,iO 36 (.ari .sub (.t 35) (kI 1)),iM 9 36]))
def aZ:SCode :=
 .seq (sO [iM 12 8,iM 13 2,iV 14 .lss 12 13]
 (.cond (.t 14) (.skip)
 (.seq (.keep []) (.exit 0))))
 (.seq (.block 1 (sO [iM 17 8,iM 9 17]
 (.block 2 (.loop [0,1,2,3,8,9] bG))))
 (.ops [iM 15 8,iO 16 (.ari .add (.t 15) (kI 1)),iM 8 16]))
def dA:SCode :=
 sO [iM 10 1,iO 11 (.ari .add (.t 10) (kI 1)),iM 8 11]
 (.block 0 (.loop [0,1,2,3,8] aZ))
def dB:SFn:=⟨4,53,dA,[]⟩
def bI:SCode :=
 .seq (sO [iM 31 10,iM 32 11,iV 33 .lss 31 32]
 (.cond (.t 33) (.skip)
 (.seq (.keep [0,1,10]) (.exit 0))))
 (.block 1 (sO [iM 34 10,iM 35 11,iO 36 (.ari .add (.t 34) (.t 35)),iO 37 (.conv .u64 (.t 36)),iO 38 (.ari .shr (.t 37) (.c (.int .u64 1))),iO 39 (.conv .i64 (.t 38)),iM 12 39]
 (sO [iM 40 4,iM 41 0,iM 42 12,iO 43 (.ixa 1 (.t 41) (.t 42)),iL 44 43,iM 45 0,iM 46 1,iO 47 (.ixa 1 (.t 45) (.t 46)),iL 48 47,iO 49 (.calli (.t 40) [.t 44,.t 48]),iE 50 .lss 49 0]
 (.cond (.t 50) (.ops [iM 51 12,iO 52 (.ari .add (.t 51) (kI 1)),iM 10 52])
 (.ops [iM 53 12,iM 11 53])))))
def cJ:SCode :=
 .seq (sO [iM 55 13,iM 56 10,iO 57 (.ari .sub (.t 56) (kI 1)),iV 58 .lss 55 57]
 (.cond (.t 58) (.skip)
 (.seq (.keep []) (.exit 2))))
 (.seq (.block 3 (.opsd [⟨iM 61 0,0,[]⟩,⟨iM 62 13,1,[]⟩,⟨iM 63 0,2,[]⟩,⟨iM 64 13,3,[]⟩,⟨iO 65 (.ari .add (.t 64) (kI 1)),4,[]⟩,⟨iM 66 0,5,[]⟩,⟨iM 67 13,6,[]⟩,⟨iO 68 (.ari .add (.t 67) (kI 1)),7,[]⟩,⟨iO 69 (.ixa 1 (.t 66) (.t 68)),8,[]⟩,⟨iL 70 69,9,[]⟩,⟨iM 71 0,10,[]⟩,⟨iM 72 13,11,[]⟩,⟨iO 73 (.ixa 1 (.t 71) (.t 72)),12,[]⟩,⟨iL 74 73,13,[]⟩,⟨iO 75 (.ixa 1 (.t 61) (.t 62)),14,[]⟩,⟨iN (.store 1 (.t 75) (.t 70)),15,[iM 63 0,iM 64 13,iO 65 (.ari .add (.t 64) (kI 1))]⟩,⟨iO 76 (.ixa 1 (.t 63) (.t 65)),16,[]⟩,⟨iN (.store 1 (.t 76) (.t 74)),17,[]⟩]))
 (.ops [iM 59 13,iO 60 (.ari .add (.t 59) (kI 1)),iM 13 60]))
def bJ:SCode :=
 .seq (sO [iM 83 14,iM 84 15,iV 85 .lss 83 84]
 (.cond (.t 85) (.skip)
 (.seq (.keep [0,2,14]) (.exit 4))))
 (.block 5 (sO [iM 86 14,iM 87 15,iO 88 (.ari .add (.t 86) (.t 87)),iO 89 (.conv .u64 (.t 88)),iO 90 (.ari .shr (.t 89) (.c (.int .u64 1))),iO 91 (.conv .i64 (.t 90)),iM 16 91]
 (sO [iM 92 4,iM 93 0,iM 94 2,iO 95 (.ixa 1 (.t 93) (.t 94)),iL 96 95,iM 97 0,iM 98 16,iO 99 (.ixa 1 (.t 97) (.t 98)),iL 100 99,iO 101 (.calli (.t 92) [.t 96,.t 100]),iE 102 .lss 101 0,iO 103 (.not (.t 102))]
 (.cond (.t 103) (.ops [iM 104 16,iO 105 (.ari .add (.t 104) (kI 1)),iM 14 105])
 (.ops [iM 106 16,iM 15 106])))))
def cI:SCode :=
 .seq (sO [iM 108 17,iM 109 14,iV 110 .gtr 108 109]
 (.cond (.t 110) (.skip)
 (.seq (.keep []) (.exit 6))))
 (.seq (.block 7 (.opsd [⟨iM 113 0,0,[]⟩,⟨iM 114 17,1,[]⟩,⟨iM 115 0,2,[]⟩,⟨iM 116 17,3,[]⟩,⟨iO 117 (.ari .sub (.t 116) (kI 1)),4,[]⟩,⟨iM 118 0,5,[]⟩,⟨iM 119 17,6,[]⟩,⟨iO 120 (.ari .sub (.t 119) (kI 1)),7,[]⟩,⟨iO 121 (.ixa 1 (.t 118) (.t 120)),8,[]⟩,⟨iL 122 121,9,[]⟩,⟨iM 123 0,10,[]⟩,⟨iM 124 17,11,[]⟩,⟨iO 125 (.ixa 1 (.t 123) (.t 124)),12,[]⟩,⟨iL 126 125,13,[]⟩,⟨iO 127 (.ixa 1 (.t 113) (.t 114)),14,[]⟩,⟨iN (.store 1 (.t 127) (.t 122)),15,[iM 115 0,iM 116 17,iO 117 (.ari .sub (.t 116) (kI 1))]⟩,⟨iO 128 (.ixa 1 (.t 115) (.t 117)),16,[]⟩,⟨iN (.store 1 (.t 128) (.t 126)),17,[]⟩]))
 (.ops [iM 111 17,iO 112 (.ari .sub (.t 111) (kI 1)),iM 17 112]))
def bC:SCode :=
 .seq (sO [iM 149 20,iM 150 21,iV 151 .lss 149 150]
 (.cond (.t 151) (.skip)
 (.seq (.keep [0,1,2,3,4,18,19,20]) (.exit 8))))
 (.block 9 (sO [iM 152 20,iM 153 21,iO 154 (.ari .add (.t 152) (.t 153)),iO 155 (.conv .u64 (.t 154)),iO 156 (.ari .shr (.t 155) (.c (.int .u64 1))),iO 157 (.conv .i64 (.t 156)),iM 23 157]
 (sO [iM 158 4,iM 159 0,iM 160 22,iM 161 23,iO 162 (.ari .sub (.t 160) (.t 161)),iO 163 (.ixa 1 (.t 159) (.t 162)),iL 164 163,iM 165 0,iM 166 23,iO 167 (.ixa 1 (.t 165) (.t 166)),iL 168 167,iO 169 (.calli (.t 158) [.t 164,.t 168]),iE 170 .lss 169 0,iO 171 (.not (.t 170))]
 (.cond (.t 171) (.ops [iM 172 23,iO 173 (.ari .add (.t 172) (kI 1)),iM 20 173])
 (.ops [iM 174 23,iM 21 174])))))
def cX:SCode :=
 .seq (sO [iM 25 2,iM 26 1,iO 27 (.ari .sub (.t 25) (.t 26)),iE 28 .eql 27 1]
 (.cond (.t 28) (sO [iM 29 2,iM 10 29]
 (sO [iM 30 3,iM 11 30]
 (.seq (.block 0 (.loop [0,1,4,10,11] bI))
 (.seq (sO [iM 54 1,iM 13 54]
 (.block 2 (.loop [0,10,13] cJ)))
 (.ret)))))
 (.skip)))
 (.seq (sO [iM 77 3,iM 78 2,iO 79 (.ari .sub (.t 77) (.t 78)),iE 80 .eql 79 1]
 (.cond (.t 80) (sO [iM 81 1,iM 14 81]
 (sO [iM 82 2,iM 15 82]
 (.seq (.block 4 (.loop [0,2,4,14,15] bJ))
 (.seq (sO [iM 107 2,iM 17 107]
 (.block 6 (.loop [0,14,17] cI)))
 (.ret)))))
 (.skip)))
 (sO [iM 129 1,iM 130 3,iO 131 (.ari .add (.t 129) (.t 130)),iO 132 (.conv .u64 (.t 131)),iO 133 (.ari .shr (.t 132) (.c (.int .u64 1))),iO 134 (.conv .i64 (.t 133)),iM 18 134]
 (sO [iM 135 18,iM 136 2,iO 137 (.ari .add (.t 135) (.t 136)),iM 19 137]
 (sO [iO 20 (.mov (kI 0)),iO 21 (.mov (kI 0))]
 (.seq (sO [iM 138 2,iM 139 18,iV 140 .gtr 138 139]
 (.cond (.t 140) (sO [iM 141 19,iM 142 3,iO 143 (.ari .sub (.t 141) (.t 142)),iM 20 143]
 (.ops [iM 144 18,iM 21 144]))
 (sO [iM 145 1,iM 20 145]
 (.ops [iM 146 2,iM 21 146]))))
 (sO [iM 147 19,iO 148 (.ari .sub (.t 147) (kI 1)),iM 22 148]
 (.seq (.block 8 (.loop [0,1,2,3,4,18,19,20,21,22] bC))
 (sO [iM 175 19,iM 176 20,iO 177 (.ari .sub (.t 175) (.t 176)),iM 24 177]
 (.seq (sO [iM 178 20,iM 179 2,iV 180 .lss 178 179,iM 181 180,iT 182 181 (.mov (.t 2)),iT 183 181 (.mov (.t 24)),iT 184 181 (.cmp .lss (.t 182) (.t 183)),iO 185 (.pick (.t 181) (.t 184) (kB false))]
 (.cond (.t 185) (.ops [iM 186 0,iM 187 20,iM 188 2,iM 189 24,iM 190 4,iO 191 (.calli (.f cR) [.t 186,.t 187,.t 188,.t 189,.t 190])])
 (.skip)))
 (.seq (sO [iM 192 1,iM 193 20,iV 194 .lss 192 193,iM 195 194,iT 196 195 (.mov (.t 20)),iT 197 195 (.mov (.t 18)),iT 198 195 (.cmp .lss (.t 196) (.t 197)),iO 199 (.pick (.t 195) (.t 198) (kB false))]
 (.cond (.t 199) (.ops [iM 200 0,iM 201 1,iM 202 20,iM 203 18,iM 204 4,iO 205 (.calli (.f aT) [.t 200,.t 201,.t 202,.t 203,.t 204])])
 (.skip)))
 (sO [iM 206 18,iM 207 24,iV 208 .lss 206 207,iM 209 208,iT 210 209 (.mov (.t 24)),iT 211 209 (.mov (.t 3)),iT 212 209 (.cmp .lss (.t 210) (.t 211)),iO 213 (.pick (.t 209) (.t 212) (kB false))]
 (.cond (.t 213) (.ops [iM 214 0,iM 215 18,iM 216 24,iM 217 3,iM 218 4,iO 219 (.calli (.f aT) [.t 214,.t 215,.t 216,.t 217,.t 218])])
 (.skip)))))))))))))
def dZ:SFn:=⟨5,220,cX,[]⟩
def b9:SCode :=
 .seq (sO [iM 18 10,iM 19 11,iV 20 .neq 18 19]
 (.cond (.t 20) (.skip)
 (.seq (.keep [0,2,4,10]) (.exit 0))))
 (.block 1 (sO [iM 21 10,iM 22 11,iV 23 .gtr 21 22]
 (.cond (.t 23) (sO [iM 24 0,iM 25 2,iM 26 10,iO 27 (.ari .sub (.t 25) (.t 26)),iM 28 2,iM 29 11,iM 30 4,iO 31 (.calli (.f cC) [.t 24,.t 27,.t 28,.t 29,.t 30])]
 (.ops [iM 32 10,iM 33 11,iO 34 (.ari .sub (.t 32) (.t 33)),iM 10 34]))
 (sO [iM 35 0,iM 36 2,iM 37 10,iO 38 (.ari .sub (.t 36) (.t 37)),iM 39 2,iM 40 11,iO 41 (.ari .add (.t 39) (.t 40)),iM 42 10,iO 43 (.ari .sub (.t 41) (.t 42)),iM 44 10,iM 45 4,iO 46 (.calli (.f cC) [.t 35,.t 38,.t 43,.t 44,.t 45])]
 (.ops [iM 47 11,iM 48 10,iO 49 (.ari .sub (.t 47) (.t 48)),iM 11 49])))))
def i5:SCode :=
 sO [iM 12 2,iM 13 1,iO 14 (.ari .sub (.t 12) (.t 13)),iM 10 14]
 (sO [iM 15 3,iM 16 2,iO 17 (.ari .sub (.t 15) (.t 16)),iM 11 17]
 (.seq (.block 0 (.loop [0,2,4,10,11] b9))
 (.ops [iM 50 0,iM 51 2,iM 52 10,iO 53 (.ari .sub (.t 51) (.t 52)),iM 54 2,iM 55 10,iM 56 4,iO 57 (.calli (.f cC) [.t 50,.t 53,.t 54,.t 55,.t 56])])))
def eT:SFn:=⟨5,58,i5,[]⟩
def cF:SCode :=
 .seq (sO [iM 11 10,iM 12 3,iV 13 .lss 11 12]
 (.cond (.t 13) (.skip)
 (.seq (.keep []) (.exit 0))))
 (.seq (.block 1 (.opsd [⟨iM 16 0,0,[]⟩,⟨iM 17 1,1,[]⟩,⟨iM 18 10,2,[]⟩,⟨iO 19 (.ari .add (.t 17) (.t 18)),3,[]⟩,⟨iM 20 0,4,[]⟩,⟨iM 21 2,5,[]⟩,⟨iM 22 10,6,[]⟩,⟨iO 23 (.ari .add (.t 21) (.t 22)),7,[]⟩,⟨iM 24 0,8,[]⟩,⟨iM 25 2,9,[]⟩,⟨iM 26 10,10,[]⟩,⟨iO 27 (.ari .add (.t 25) (.t 26)),11,[]⟩,⟨iO 28 (.ixa 1 (.t 24) (.t 27)),12,[]⟩,⟨iL 29 28,13,[]⟩,⟨iM 30 0,14,[]⟩,⟨iM 31 1,15,[]⟩,⟨iM 32 10,16,[]⟩,⟨iO 33 (.ari .add (.t 31) (.t 32)),17,[]⟩,⟨iO 34 (.ixa 1 (.t 30) (.t 33)),18,[]⟩,⟨iL 35 34,19,[]⟩,⟨iO 36 (.ixa 1 (.t 16) (.t 19)),20,[]⟩,⟨iN (.store 1 (.t 36) (.t 29)),21,[iM 20 0,iM 21 2,iM 22 10,iO 23 (.ari .add (.t 21) (.t 22))]⟩,⟨iO 37 (.ixa 1 (.t 20) (.t 23)),22,[]⟩,⟨iN (.store 1 (.t 37) (.t 35)),23,[]⟩]))
 (.ops [iM 14 10,iO 15 (.ari .add (.t 14) (kI 1)),iM 10 15]))
def gL:SCode :=
 sO [iO 10 (.mov (kI 0))]
 (.block 0 (.loop [0,1,2,3,10] cF))
def dT:SFn:=⟨5,38,gL,[]⟩
def zxn:List (Nat×SFn):=[(3,kW),(8,pF),(9,w8),(10,oZ),(11,xA),(12,pS),(13,rB),(15,qQ),(17,qP),(31,pT),(32,tU),(33,s6),(34,rG),(35,w5),(36,rL),(42,rT),(48,rC),(56,q6),(57,nK),(60,rP),(64,uD),(68,cH),(69,nT),(70,tI),(71,tM),(75,rU),(77,pQ),(79,wA),(82,tW),(87,vN),(88,qT),(93,wD),(96,s8),(99,s5),(100,vS),(101,tG),(102,nR),(103,nP),(104,lM),(105,nJ)]
def zwN:List (Nat×SFn):=[(106,pR),(115,rH),(116,tN),(117,o8),(118,cP),(119,tX),(120,oU),(121,dL),(122,pH),(123,fO),(124,eX),(133,qZ),(135,o7),(136,uE),(137,rJ),(142,q9),(145,jD),(148,qY),(149,eE),(150,vD),(151,pG),(152,pP),(153,rS),(154,vV),(157,rM),(158,qV),(159,dV),(160,wK),(161,oV),(162,mK),(163,oP),(164,gB),(167,eP),(168,gR),(172,xM),(173,fP),(174,fM),(176,fG),(177,eO),(178,pL)]
def zxP:List (Nat×SFn):=[(182,dB),(183,dZ),(195,eT),(202,dT)]
def zk8:List (Nat×SFn):=[(165,mD),(166,kA),(179,mF)]
def tabL:List (Nat×SFn):=zxn++zwN++zxP++zk8
def tab(f:Nat):Option SFn:=(tabL.find? fun p=>p.1==f).map fun p=>p.2
theorem zX:tab mU=some kW:=rfl
theorem E0:tab sZ=some pF:=rfl
theorem De:tab sP=some w8:=rfl
theorem Ht:tab lS=some oZ:=rfl
theorem Oj:tab Co=some xA:=rfl
theorem Fi:tab tH=some pS:=rfl
theorem I6:tab xI=some rB:=rfl
theorem J6:tab vU=some qQ:=rfl
theorem J1:tab wC=some qP:=rfl
theorem Gp:tab oC=some pT:=rfl
theorem L7:tab yZ=some tU:=rfl
theorem Mq:tab yW=some s6:=rfl
theorem J8:tab qD=some rG:=rfl
theorem Pt:tab sY=some w5:=rfl
theorem Ip:tab wT=some rL:=rfl
theorem Ih:tab v7=some rT:=rfl
theorem J4:tab vH=some rC:=rfl
theorem Il:tab xH=some q6:=rfl
theorem D0:tab qX=some nK:=rfl
theorem Jq:tab lE=some rP:=rfl
theorem M5:tab zK=some uD:=rfl
theorem i9:tab cQ=some cH:=rfl
theorem D1:tab mZ=some nT:=rfl
theorem Mu:tab zW=some tI:=rfl
theorem Lw:tab zQ=some tM:=rfl
theorem J9:tab wL=some rU:=rfl
theorem E8:tab lX=some pQ:=rfl
theorem Ql:tab oL=some wA:=rfl
theorem Mb:tab y8=some tW:=rfl
theorem Si:tab Cm=some vN:=rfl
theorem J3:tab wI=some qT:=rfl
theorem Ow:tab oJ=some wD:=rfl
theorem L4:tab y9=some s8:=rfl
theorem L9:tab dO=some s5:=rfl
theorem Qh:tab eK=some vS:=rfl
theorem M4:tab y5=some tG:=rfl
theorem Dy:tab rI=some nR:=rfl
theorem Ed:tab iB=some nP:=rfl
theorem Aa:tab nV=some lM:=rfl
theorem D4:tab rE=some nJ:=rfl
theorem Gh:tab tT=some pR:=rfl
theorem Iw:tab dK=some rH:=rfl
theorem Nv:tab yX=some tN:=rfl
theorem F9:tab jN=some o8:=rfl
theorem jY:tab c7=some cP:=rfl
theorem Lu:tab zF=some tX:=rfl
theorem Hl:tab uC=some oU:=rfl
theorem l8:tab dQ=some dL:=rfl
theorem Hk:tab t8=some pH:=rfl
theorem q7:tab gW=some fO:=rfl
theorem pX:tab dY=some eX:=rfl
theorem Jz:tab wG=some qZ:=rfl
theorem Hc:tab tL=some o7:=rfl
theorem Lv:tab zO=some uE:=rfl
theorem I5:tab nG=some rJ:=rfl
theorem Ik:tab wH=some q9:=rfl
theorem wU:tab gN=some jD:=rfl
theorem Ix:tab vY=some qY:=rfl
theorem oB:tab eY=some eE:=rfl
theorem Rk:tab xS=some vD:=rfl
theorem Ia:tab tP=some pG:=rfl
theorem E6:tab s7=some pP:=rfl
theorem It:tab qF=some rS:=rfl
theorem Sd:tab sB=some vV:=rfl
theorem J2:tab p9=some rM:=rfl
theorem I4:tab xJ=some qV:=rfl
theorem m5:tab eH=some dV:=rfl
theorem Oq:tab sL=some wK:=rfl
theorem Fu:tab gQ=some oV:=rfl
theorem Cc:tab lV=some mK:=rfl
theorem Hd:tab n9=some oP:=rfl
theorem sV:tab iH=some gB:=rfl
theorem uY:tab fX=some mD:=rfl
theorem rF:tab eI=some kA:=rfl
theorem oQ:tab fH=some eP:=rfl
theorem tO:tab i8=some gR:=rfl
theorem Qe:tab Cf=some xM:=rfl
theorem qW:tab gY=some fP:=rfl
theorem rK:tab gU=some fM:=rfl
theorem rR:tab gV=some fG:=rfl
theorem oN:tab fI=some eO:=rfl
theorem Fz:tab tS=some pL:=rfl
theorem uZ:tab j5=some mF:=rfl
theorem eW:tab cE=some dB:=rfl
theorem d3:tab aT=some dZ:=rfl
theorem pD:tab cR=some eT:=rfl
theorem nH:tab cC=some dT:=rfl
end Go.Ev.G
