import Derived.Test.YtenclibcnjkamaaGreatEvTab0
set_option linter.all false
namespace Go.Ev.G
def Da:SCode :=
 sO [iO 6 (.mov (kI 0))]
 (sO [iM 8 0,iO 9 (.nck (.t 8)),iF 10 1 9,iL 11 10,iM 12 1,iO 13 (.ixa 1 (.t 11) (.t 12)),iL 14 13,iM 7 14]
 (.seq (sO [iM 15 7,iE 16 .geq 15 0,iM 17 16,iT 18 17 (.mov (.t 7)),iT 19 17 (.cmp .lss (.t 18) (kI 10)),iO 20 (.pick (.t 17) (.t 19) (kB false))]
 (.cond (.t 20) (sO [iM 21 7,iM 6 21]
 (.ret))
 (.skip)))
 (.seq (sO [iM 22 7,iE 23 .lss 22 0]
 (.cond (.t 23) (.ops [iO 7 (.mov (kI 10))])
 (.skip)))
 (sO [iM 24 0,iM 25 2,iM 26 7,iO 27 (.ari .add (kI 2) (.t 26)),iO 28 (.ari .sub (.t 27) (kI 10)),iO 29 (.build [zI,zI,zI,zI,zI,zI] [(0,1,.c (.int .i64 8)),(1,1,.t 25),(2,1,.c (.int .i64 6)),(4,1,.t 28)]),iO 30 (.callb cG [.t 24,.t 29] [true,false])]
 (sO [iM 31 2,iM 6 31]
 (.ret))))))
def tF:SFn:=⟨3,32,Da,[.t 6]⟩
def Fs:SCode :=
 sO [iO 2 (.mov (kB false))]
 (sO [iM 3 0,iO 4 (.callr dT [.t 3,.c (.int .i64 (-2147483648)),.c (.int .i64 2147483647)]),iM 2 4]
 (.ret))
def v6:SFn:=⟨1,5,Fs,[.t 2]⟩
def nE:SCode :=
 .seq (sO [iM 10 5,iO 11 (.ari .add (.t 10) (kI 2)),iF 12 6 2,iL 13 12,iO 14 (.len (.t 13)),iV 15 .lss 11 14]
 (.cond (.t 15) (.skip)
 (.seq (.keep [2]) (.exit 1))))
 (.seq (.block 2 (sO [iF 18 6 2,iL 19 18,iM 20 5,iO 21 (.ixa 1 (.t 19) (.t 20)),iL 22 21,iO 23 (.callr dT [.t 22,.c (.int .i64 1),.c (.int .i64 2)]),iO 24 (.not (.t 23)),iM 25 24,iU 26 25 (.faddr 6 (.t 2)),iU 27 25 (.load none (.t 26)),iU 28 25 (.mov (.t 5)),iU 29 25 (.ixa 1 (.t 27) (.t 28)),iU 30 25 (.load none (.t 29)),iU 31 25 (.cmp .eql (.t 30) (kI 1)),iU 32 25 (.mov (.t 31)),iT 33 32 (.faddr 6 (.t 2)),iT 34 32 (.load none (.t 33)),iT 35 32 (.mov (.t 5)),iT 36 32 (.ari .add (.t 35) (kI 2)),iT 37 32 (.ixa 1 (.t 34) (.t 36)),iT 38 32 (.load none (.t 37)),iT 39 32 (.cmp .neq (.t 38) (kI 0)),iU 40 25 (.pick (.t 32) (.t 39) (kB false)),iO 41 (.pick (.t 25) (kB true) (.t 40))]
 (.cond (.t 41) (sO [iO 4 (.mov (kB false))]
 (.seq (.keep [4]) .ret))
 (.skip))))
 (.ops [iM 16 5,iO 17 (.ari .add (.t 16) (kI 3)),iM 5 17]))
def Ew:SCode :=
 sO [iO 2 (.vbox 7 (.t 0)),iO 4 (.mov (kB false))]
 (.seq (.block 0 (sO [iF 7 0 2,iL 8 7,iE 9 .eql 8 19,iM 6 9]
 (.cond (.t 6) (.seq (sO [iO 5 (.mov (kI 0))]
 (.block 1 (.loop [2,5] nE)))
 (sO [iF 42 6 2,iL 43 42,iO 44 (.len (.t 43)),iO 45 (.ari .rem (.t 44) (kI 3)),iE 46 .eql 45 0,iM 47 46,iT 48 47 (.faddr 6 (.t 2)),iT 49 47 (.load none (.t 48)),iT 50 47 (.len (.t 49)),iT 51 47 (.callr dT [.t 50,.c (.int .i64 3),.c (.int .i64 9)]),iO 52 (.pick (.t 47) (.t 51) (kB false)),iM 53 52,iT 54 53 (.faddr 4 (.t 2)),iT 55 53 (.load none (.t 54)),iT 56 53 (.callr dT [.t 55,.c (.int .i64 0),.c (.int .i64 1)]),iO 57 (.pick (.t 53) (.t 56) (kB false)),iM 4 57]
 (.ret)))
 (sO [iF 59 0 2,iL 60 59,iE 61 .eql 60 22,iM 58 61]
 (.cond (.t 58) (sO [iF 62 6 2,iL 63 62,iO 64 (.len (.t 63)),iE 65 .eql 64 1,iM 4 65]
 (.ret))
 (sO [iF 67 0 2,iL 68 67,iO 69 (.callr eA [.t 68,.c (.int .u8 88)]),iO 70 (.not (.t 69)),iM 66 70]
 (.cond (.t 66) (sO [iF 71 6 2,iL 72 71,iO 73 (.len (.t 72)),iE 74 .eql 73 0,iM 4 74]
 (.ret))
 (.skip))))))))
 (sO [iF 75 6 2,iL 76 75,iO 77 (.len (.t 76)),iE 78 .leq 77 4,iM 4 78]
 (.ret)))
def wS:SFn:=⟨2,79,Ew,[.t 4]⟩
def jH:SCode :=
 sO [iO 4 (.mov (kB false))]
 (sO [iM 5 0,iM 6 1,iO 7 (.calli (.f iA) [.t 5,.t 6]),iE 8 .geq 7 0,iM 4 8]
 (.ret))
def eK:SFn:=⟨2,9,jH,[.t 4]⟩
def p6:SCode :=
 sO [iV 14 .lss 13 12]
 (.seq (.cond (.t 14) (.skip)
 (.seq (.keep [3]) (.exit 0)))
 (.seq (.block 1 (sO [iM 15 13,iO 16 (.ixa 1 (.t 11) (.t 13)),iL 17 16,iM 4 15,iM 5 17]
 (sO [iM 18 4,iO 19 (.ari .rem (.t 18) (kI 3)),iE 20 .eql 19 1,iM 21 20,iU 22 21 (.mov (.t 4)),iU 23 21 (.ari .rem (.t 22) (kI 3)),iU 24 21 (.cmp .eql (.t 23) (kI 2)),iU 25 21 (.mov (.t 24)),iT 26 25 (.faddr 6 (.t 1)),iT 27 25 (.load none (.t 26)),iT 28 25 (.mov (.t 4)),iT 29 25 (.ari .sub (.t 28) (kI 2)),iT 30 25 (.ixa 1 (.t 27) (.t 29)),iT 31 25 (.load none (.t 30)),iT 32 25 (.cmp .eql (.t 31) (kI 2)),iU 33 21 (.pick (.t 25) (.t 32) (kB false)),iO 34 (.pick (.t 21) (kB true) (.t 33))]
 (.cond (.t 34) (.ops [iM 35 3,iM 36 5,iO 37 (.lit 1 [.t 36]),iO 38 (.app 1 8 (.t 35) (.t 37)),iM 3 38])
 (.skip)))))
 (.ops [iO 39 (.ari .add (.t 13) (kI 1)),iM 13 39])))
def Kv:SCode :=
 sO [iO 1 (.vbox 7 (.t 0)),iO 2 (.mov (.n 1))]
 (sO [iO 6 (.lit 1 []),iM 3 6]
 (.seq (sO [iF 7 0 1,iL 8 7,iE 9 .eql 8 19]
 (.cond (.t 9) (.seq (sO [iF 10 6 1,iL 11 10,iO 12 (.len (.t 11)),iO 13 (.mov (kI 0))]
 (.block 0 (.loop [1,3,11,12,13] p6)))
 (sO [iM 40 3,iM 2 40]
 (.ret)))
 (.skip)))
 (.seq (sO [iF 41 0 1,iL 42 41,iO 43 (.callr eA [.t 42,.c (.int .u8 65)])]
 (.cond (.t 43) (.ops [iM 44 3,iF 45 2 1,iL 46 45,iO 47 (.lit 1 [.t 46]),iO 48 (.app 1 8 (.t 44) (.t 47)),iM 3 48])
 (.skip)))
 (.seq (sO [iF 49 0 1,iL 50 49,iO 51 (.callr eA [.t 50,.c (.int .u8 66)])]
 (.cond (.t 51) (.ops [iM 52 3,iF 53 3 1,iL 54 53,iO 55 (.lit 1 [.t 54]),iO 56 (.app 1 8 (.t 52) (.t 55)),iM 3 56])
 (.skip)))
 (.seq (sO [iF 57 0 1,iL 58 57,iO 59 (.callr eA [.t 58,.c (.int .u8 88)])]
 (.cond (.t 59) (.ops [iM 60 3,iF 61 6 1,iL 62 61,iO 63 (.app 1 8 (.t 60) (.t 62)),iM 3 63])
 (.skip)))
 (sO [iM 64 3,iM 2 64]
 (.ret)))))))
def Bh:SFn:=⟨1,65,Kv,[.t 2]⟩
def Cs:SCode :=
 sO [iO 3 (.mov (kB false))]
 (sO [iM 4 0,iL 5 1,iO 6 (.ari .sub (.t 5) (kI 1)),iO 7 (.callr dT [.t 4,.c (.int .i64 0),.t 6]),iO 8 (.not (.t 7)),iM 3 8]
 (.ret))
def sQ:SFn:=⟨2,9,Cs,[.t 3]⟩
def xZ:SCode :=
 sO [iO 2 (.vbox 7 (.t 0)),iO 3 (.mov (kB false))]
 (sO [iF 4 0 2,iL 5 4,iE 6 .eql 5 8,iM 7 6,iT 8 7 (.faddr 4 (.t 2)),iT 9 7 (.load none (.t 8)),iT 10 7 (.load none (.t 1)),iT 11 7 (.cmp .eql (.t 9) (.t 10)),iO 12 (.pick (.t 7) (.t 11) (kB false)),iM 3 12]
 (.ret))
def pR:SFn:=⟨2,13,xZ,[.t 3]⟩
def l7:SCode :=
 sO [iV 17 .lss 16 15]
 (.seq (.cond (.t 17) (.skip)
 (.seq (.keep [3]) (.exit 0)))
 (.seq (.block 1 (sO [iO 18 (.ixa 1 (.t 14) (.t 16)),iL 19 18,iM 5 19]
 (.ops [iM 20 3,iM 21 5,iO 22 (.call zT [.t 21]),iO 23 (.lit 1 [.t 22]),iO 24 (.app 1 24 (.t 20) (.t 23)),iM 3 24])))
 (.ops [iO 25 (.ari .add (.t 16) (kI 1)),iM 16 25])))
def Ct:SCode :=
 sO [iO 1 (.vbox 4 (.t 0)),iO 2 (.mov (.n 1))]
 (.seq (sO [iK 6 4 1,iO 7 (.callr lI [.t 6]),iO 8 (.not (.t 7))]
 (.cond (.t 8) (sO [iO 2 (.mov (.n 1))]
 (.ret))
 (.skip)))
 (sO [iO 9 (.lit 1 []),iM 3 9]
 (.seq (sO [iK 10 4 1,iO 11 (.callr C8 [.t 10]),iO 12 (.nck (.t 11)),iF 13 2 12,iL 14 13,iO 15 (.len (.t 14)),iO 16 (.mov (kI 0))]
 (.block 0 (.loop [3,14,15,16] l7)))
 (sO [iM 26 3,iM 2 26]
 (.ret)))))
def sY:SFn:=⟨1,27,Ct,[.t 2]⟩
def bQ:SCode :=
 sO [iV 12 .lss 11 10]
 (.seq (.cond (.t 12) (.skip)
 (.seq (.keep [0,3]) (.exit 0)))
 (.seq (.block 1 (sO [iO 13 (.ixa 1 (.t 9) (.t 11)),iL 14 13,iM 5 14]
 (sO [iM 15 3,iM 16 5,iO 17 (.len (.t 16)),iO 18 (.ari .add (.t 15) (.t 17)),iM 3 18]
 (sO [iM 19 3,iE 20 .lss 19 0]
 (.cond (.t 20) (.stuck)
 (.skip))))))
 (.ops [iO 22 (.ari .add (.t 11) (kI 1)),iM 11 22])))
def bS:SCode :=
 sO [iV 28 .lss 27 26]
 (.seq (.cond (.t 28) (.skip)
 (.seq (.keep [6]) (.exit 2)))
 (.seq (.block 3 (sO [iO 29 (.ixa 1 (.t 25) (.t 27)),iL 30 29,iM 8 30]
 (.ops [iM 31 6,iM 32 8,iO 33 (.app 1 8 (.t 31) (.t 32)),iM 6 33])))
 (.ops [iO 34 (.ari .add (.t 27) (kI 1)),iM 27 34])))
def nY:SCode :=
 sO [iO 2 (.mov (.n 1))]
 (sO [iO 3 (.mov (kI 0))]
 (.seq (sO [iM 9 0,iO 10 (.len (.t 9)),iO 11 (.mov (kI 0))]
 (.block 0 (.loop [0,3,9,10,11] bQ)))
 (sO [iM 23 3,iO 24 (.callb mW [.n 1,.t 23] [true,false]),iM 6 24]
 (.seq (sO [iM 25 0,iO 26 (.len (.t 25)),iO 27 (.mov (kI 0))]
 (.block 2 (.loop [6,25,26,27] bS)))
 (sO [iM 35 6,iM 2 35]
 (.ret))))))
def jA:SFn:=⟨1,36,nY,[.t 2]⟩
def pC:SCode :=
 .lib 1
def pD:SFn:=⟨1,11,pC,[]⟩
def m9:SCode :=
 .lib 2
def nA:SFn:=⟨1,61,m9,[.t 0]⟩
def cS:SCode :=
 .seq (sO [iM 11 8,iM 12 1,iV 13 .leq 11 12]
 (.cond (.t 13) (.skip)
 (.seq (.keep [0,1,2,6,7]) (.exit 0))))
 (.block 1 (sO [iM 14 0,iM 15 7,iM 16 8,iM 17 2,iO 18 (.calli (.f cY) [.t 14,.t 15,.t 16,.t 17])]
 (sO [iM 19 8,iM 7 19]
 (.ops [iM 20 8,iM 21 6,iO 22 (.ari .add (.t 20) (.t 21)),iM 8 22]))))
def cT:SCode :=
 .seq (sO [iM 33 8,iM 34 1,iV 35 .leq 33 34]
 (.cond (.t 35) (.skip)
 (.seq (.keep [0,1,2,6,7]) (.exit 4))))
 (.block 5 (sO [iM 36 0,iM 37 7,iM 38 7,iM 39 6,iO 40 (.ari .add (.t 38) (.t 39)),iM 41 8,iM 42 2,iO 43 (.calli (.f bC) [.t 36,.t 37,.t 40,.t 41,.t 42])]
 (sO [iM 44 8,iM 7 44]
 (.ops [iM 45 8,iM 46 6,iO 47 (.ari .mul (kI 2) (.t 46)),iO 48 (.ari .add (.t 45) (.t 47)),iM 8 48]))))
def cE:SCode :=
 .seq (sO [iM 28 6,iM 29 1,iV 30 .lss 28 29]
 (.cond (.t 30) (.skip)
 (.seq (.keep []) (.exit 2))))
 (.block 3 (sO [iM 31 6,iO 32 (.ari .mul (kI 2) (.t 31)),iO 7 (.mov (kI 0)),iM 8 32]
 (.seq (.block 4 (.loop [0,1,2,6,7,8] cT))
 (.seq (sO [iM 49 7,iM 50 6,iO 51 (.ari .add (.t 49) (.t 50)),iM 9 51]
 (sO [iM 52 9,iM 53 1,iV 54 .lss 52 53]
 (.cond (.t 54) (.ops [iM 55 0,iM 56 7,iM 57 9,iM 58 1,iM 59 2,iO 60 (.calli (.f bC) [.t 55,.t 56,.t 57,.t 58,.t 59])])
 (.skip))))
 (.ops [iM 61 6,iO 62 (.ari .mul (.t 61) (kI 2)),iM 6 62])))))
def lW:SCode :=
 sO [iO 6 (.mov (kI 20))]
 (sO [iM 10 6,iO 7 (.mov (kI 0)),iM 8 10]
 (.seq (.block 0 (.loop [0,1,2,6,7,8] cS))
 (sO [iM 23 0,iM 24 7,iM 25 1,iM 26 2,iO 27 (.calli (.f cY) [.t 23,.t 24,.t 25,.t 26])]
 (.block 2 (.loop [0,1,2,6] cE)))))
def gC:SFn:=⟨3,63,lW,[]⟩
def dK:SCode :=
 sO [iV 9 .lss 8 7]
 (.seq (.cond (.t 9) (.skip)
 (.seq (.keep []) (.exit 0)))
 (.seq (.block 1 (sO [iM 10 8,iM 5 10]
 (sO [iM 11 1,iM 12 0,iM 13 5,iO 14 (.ixa 1 (.t 12) (.t 13)),iL 15 14,iV 16 .eql 11 15]
 (.cond (.t 16) (sO [iM 17 5,iM 4 17]
 (.seq (.keep [4]) .ret))
 (.skip)))))
 (.ops [iO 18 (.ari .add (.t 8) (kI 1)),iM 8 18])))
def oY:SCode :=
 sO [iO 4 (.mov (kI 0))]
 (.seq (sO [iM 6 0,iO 7 (.len (.t 6)),iO 8 (.mov (kI 0))]
 (.block 0 (.loop [0,1,7,8] dK)))
 (sO [iO 4 (.mov (kI (-1)))]
 (.ret)))
def jW:SFn:=⟨2,19,oY,[.t 4]⟩
def E1:SCode :=
 sO [iO 2 (.mov (.c (.string ⟨#[]⟩)))]
 (.seq (.block 0 (sO [iM 4 0,iE 5 .lss 4 0,iM 6 5,iT 7 6 (.mov (.t 0)),iT 8 6 (.cmp .gtr (.t 7) (kI (-10))),iO 9 (.pick (.t 6) (.t 8) (kB false)),iM 3 9]
 (.cond (.t 3) (sO [iM 10 0,iO 11 (.neg (.t 10)),iO 12 (.callr jK [.t 11]),iO 13 (.cat (.c (.string ⟨#[45]⟩)) (.t 12)),iM 2 13]
 (.ret))
 (sO [iM 15 0,iE 16 .lss 15 0,iM 14 16]
 (.cond (.t 14) (sO [iM 17 0,iO 18 (.ari .quo (.t 17) (kI 10)),iO 19 (.callr jK [.t 18]),iM 20 0,iO 21 (.ari .rem (.t 20) (kI 10)),iO 22 (.neg (.t 21)),iO 23 (.callr jK [.t 22]),iO 24 (.cat (.t 19) (.t 23)),iM 2 24]
 (.ret))
 (sO [iM 26 0,iE 27 .lss 26 10,iM 25 27]
 (.cond (.t 25) (sO [iM 28 0,iO 29 (.ari .add (kI 48) (.t 28)),iO 30 (.conv .i32 (.t 29)),iO 31 (.rune (.t 30)),iM 2 31]
 (.ret))
 (.skip))))))))
 (sO [iM 32 0,iO 33 (.ari .quo (.t 32) (kI 10)),iO 34 (.callr jK [.t 33]),iM 35 0,iO 36 (.ari .rem (.t 35) (kI 10)),iO 37 (.ari .add (kI 48) (.t 36)),iO 38 (.conv .i32 (.t 37)),iO 39 (.rune (.t 38)),iO 40 (.cat (.t 34) (.t 39)),iM 2 40]
 (.ret)))
def wV:SFn:=⟨1,41,E1,[.t 2]⟩
def Ks:SCode :=
 sO [iO 4 (.mov (.n 1))]
 (sO [iO 7 (.lit 1 []),iM 5 7]
 (.seq (sO [iM 8 0,iM 9 1,iO 10 (.ixa 7 (.t 8) (.t 9)),iK 11 7 10,iO 6 (.alloc [zI,zI,zI,zI,zI,zS,.s 1 []]),iN (.store 7 (.t 6) (.t 11))]
 (sO [iF 12 0 6,iL 13 12]
 (.block 0 (.seq (sO [iE 20 .eql 13 12,iM 19 20]
 (.cond (.t 19) (.skip)
 (.ops [iE 21 .eql 13 28,iM 19 21])))
 (.cond (.t 19) (.skip)
 (sO [iE 23 .eql 13 9,iM 22 23]
 (.cond (.t 22) (.ops [iM 24 5,iM 25 0,iF 26 4 6,iL 27 26,iO 28 (.callr mG [.t 25,.t 27]),iO 29 (.lit 1 [.t 28]),iO 30 (.app 1 8 (.t 24) (.t 29)),iM 5 30])
 (sO [iE 32 .eql 13 10,iM 31 32]
 (.cond (.t 31) (.ops [iM 33 5,iM 34 1,iO 35 (.ari .add (.t 34) (kI 1)),iM 36 0,iF 37 4 6,iL 38 37,iO 39 (.callr mG [.t 36,.t 38]),iO 40 (.lit 1 [.t 35,.t 39]),iO 41 (.app 1 8 (.t 33) (.t 40)),iM 5 41])
 (.ops [iM 14 5,iM 15 1,iO 16 (.ari .add (.t 15) (kI 1)),iO 17 (.lit 1 [.t 16]),iO 18 (.app 1 8 (.t 14) (.t 17)),iM 5 18]))))))))))
 (sO [iM 42 5,iO 43 (.callb iX [.t 42] [true])]
 (sO [iM 44 5,iO 45 (.callb fI [.t 44] [true]),iM 4 45]
 (.ret)))))
def Dl:SFn:=⟨2,46,Ks,[.t 4]⟩
def wN:SCode :=
 .clone 1 [iO 5 (.lit 1 []),iM 6 0,iO 7 (.app 1 1 (.t 5) (.t 6)),iM 2 7]
def iJ:SFn:=⟨1,8,wN,[.t 2]⟩
def d4:SCode :=
 sO [iV 14 .lss 13 12]
 (.seq (.cond (.t 14) (.skip)
 (.seq (.keep []) (.exit 0)))
 (.seq (.block 1 (sO [iM 15 13,iM 5 15]
 (sO [iM 16 0,iM 17 5,iO 18 (.ixa 1 (.t 16) (.t 17)),iL 19 18,iM 20 1,iM 21 5,iO 22 (.ixa 1 (.t 20) (.t 21)),iL 23 22,iO 24 (.cmpb .neq (.t 19) (.t 23))]
 (.cond (.t 24) (sO [iO 4 (.mov (kB false))]
 (.seq (.keep [4]) .ret))
 (.skip)))))
 (.ops [iO 25 (.ari .add (.t 13) (kI 1)),iM 13 25])))
def nC:SCode :=
 sO [iO 4 (.mov (kB false))]
 (.seq (sO [iM 6 0,iO 7 (.len (.t 6)),iM 8 1,iO 9 (.len (.t 8)),iV 10 .neq 7 9]
 (.cond (.t 10) (sO [iO 4 (.mov (kB false))]
 (.ret))
 (.skip)))
 (.seq (sO [iM 11 0,iO 12 (.len (.t 11)),iO 13 (.mov (kI 0))]
 (.block 0 (.loop [0,1,12,13] d4)))
 (sO [iO 4 (.mov (kB true))]
 (.ret))))
def iB:SFn:=⟨2,26,nC,[.t 4]⟩
def d5:SCode :=
 sO [iV 9 .lss 8 7]
 (.seq (.cond (.t 9) (.skip)
 (.seq (.keep []) (.exit 0)))
 (.seq (.block 1 (sO [iM 10 8,iM 5 10]
 (sO [iM 11 1,iM 12 0,iM 13 5,iO 14 (.ixa 1 (.t 12) (.t 13)),iL 15 14,iV 16 .eql 11 15]
 (.cond (.t 16) (sO [iM 17 5,iM 4 17]
 (.seq (.keep [4]) .ret))
 (.skip)))))
 (.ops [iO 18 (.ari .add (.t 8) (kI 1)),iM 8 18])))
def m4:SCode :=
 sO [iO 4 (.mov (kI 0))]
 (.seq (sO [iM 6 0,iO 7 (.len (.t 6)),iO 8 (.mov (kI 0))]
 (.block 0 (.loop [0,1,7,8] d5)))
 (sO [iO 4 (.mov (kI (-1)))]
 (.ret)))
def iC:SFn:=⟨2,19,m4,[.t 4]⟩
def dR:SCode :=
 sO [iV 9 .lss 8 7]
 (.seq (.cond (.t 9) (.skip)
 (.seq (.keep []) (.exit 0)))
 (.seq (.block 1 (sO [iM 10 8,iM 5 10]
 (sO [iM 11 1,iM 12 0,iM 13 5,iO 14 (.ixa 1 (.t 12) (.t 13)),iL 15 14,iO 16 (.calli (.t 11) [.t 15])]
 (.cond (.t 16) (sO [iM 17 5,iM 4 17]
 (.seq (.keep [4]) .ret))
 (.skip)))))
 (.ops [iO 18 (.ari .add (.t 8) (kI 1)),iM 8 18])))
def lT:SCode :=
 sO [iO 4 (.mov (kI 0))]
 (.seq (sO [iM 6 0,iO 7 (.len (.t 6)),iO 8 (.mov (kI 0))]
 (.block 0 (.loop [0,1,7,8] dR)))
 (sO [iO 4 (.mov (kI (-1)))]
 (.ret)))
def gG:SFn:=⟨2,19,lT,[.t 4]⟩
def i5:SCode :=
 sO [iV 10 .lss 9 8]
 (.seq (.cond (.t 10) (.skip)
 (.seq (.keep [3]) (.exit 0)))
 (.seq (.block 1 (sO [iM 11 9,iO 12 (.ixa 1 (.t 7) (.t 9)),iL 13 12,iM 4 11,iM 5 13]
 (sO [iM 14 5]
 (.cond (.t 14) (.ops [iM 15 3,iM 16 4,iO 17 (.lit 1 [.t 16]),iO 18 (.app 1 8 (.t 15) (.t 17)),iM 3 18])
 (.skip)))))
 (.ops [iO 19 (.ari .add (.t 9) (kI 1)),iM 9 19])))
def Bc:SCode :=
 sO [iO 2 (.mov (.n 1))]
 (sO [iO 6 (.lit 1 []),iM 3 6]
 (.seq (sO [iM 7 0,iO 8 (.len (.t 7)),iO 9 (.mov (kI 0))]
 (.block 0 (.loop [3,7,8,9] i5)))
 (sO [iM 20 3,iM 2 20]
 (.ret))))
def tO:SFn:=⟨1,21,Bc,[.t 2]⟩
def pB:SCode :=
 .lib 3
def pG:SFn:=⟨2,27,pB,[.t 0]⟩
def bZ:SCode :=
 .seq (sO [iM 18 9,iM 19 1,iV 20 .gtr 18 19,iM 21 20,iT 22 21 (.mov (.t 3)),iT 23 21 (.mov (.t 0)),iT 24 21 (.mov (.t 9)),iT 25 21 (.ixa 1 (.t 23) (.t 24)),iT 26 21 (.load none (.t 25)),iT 27 21 (.mov (.t 0)),iT 28 21 (.mov (.t 9)),iT 29 21 (.ari .sub (.t 28) (kI 1)),iT 30 21 (.ixa 1 (.t 27) (.t 29)),iT 31 21 (.load none (.t 30)),iT 32 21 (.calli (.t 22) [.t 26,.t 31]),iT 33 21 (.cmp .lss (.t 32) (kI 0)),iO 34 (.pick (.t 21) (.t 33) (kB false))]
 (.cond (.t 34) (.skip)
 (.seq (.keep [0,1,2,3,8]) (.exit 2))))
 (.seq (.block 3 (.opsd [⟨iM 37 0,0,[]⟩,⟨iM 38 9,1,[]⟩,⟨iM 39 0,2,[]⟩,⟨iM 40 9,3,[]⟩,⟨iO 41 (.ari .sub (.t 40) (kI 1)),4,[]⟩,⟨iM 42 0,5,[]⟩,⟨iM 43 9,6,[]⟩,⟨iO 44 (.ari .sub (.t 43) (kI 1)),7,[]⟩,⟨iO 45 (.ixa 1 (.t 42) (.t 44)),8,[]⟩,⟨iL 46 45,9,[]⟩,⟨iM 47 0,10,[]⟩,⟨iM 48 9,11,[]⟩,⟨iO 49 (.ixa 1 (.t 47) (.t 48)),12,[]⟩,⟨iL 50 49,13,[]⟩,⟨iO 51 (.ixa 1 (.t 37) (.t 38)),14,[]⟩,⟨iN (.store 1 (.t 51) (.t 46)),15,[iM 39 0,iM 40 9,iO 41 (.ari .sub (.t 40) (kI 1))]⟩,⟨iO 52 (.ixa 1 (.t 39) (.t 41)),16,[]⟩,⟨iN (.store 1 (.t 52) (.t 50)),17,[]⟩]))
 (.ops [iM 35 9,iO 36 (.ari .sub (.t 35) (kI 1)),iM 9 36]))
def bP:SCode :=
 .seq (sO [iM 12 8,iM 13 2,iV 14 .lss 12 13]
 (.cond (.t 14) (.skip)
 (.seq (.keep []) (.exit 0))))
 (.seq (.block 1 (sO [iM 17 8,iM 9 17]
 (.block 2 (.loop [0,1,2,3,8,9] bZ))))
 (.ops [iM 15 8,iO 16 (.ari .add (.t 15) (kI 1)),iM 8 16]))
def dV:SCode :=
 sO [iM 10 1,iO 11 (.ari .add (.t 10) (kI 1)),iM 8 11]
 (.block 0 (.loop [0,1,2,3,8] bP))
def dW:SFn:=⟨4,53,dV,[]⟩
def cA:SCode :=
 .seq (sO [iM 31 10,iM 32 11,iV 33 .lss 31 32]
 (.cond (.t 33) (.skip)
 (.seq (.keep [0,1,10]) (.exit 0))))
 (.block 1 (sO [iM 34 10,iM 35 11,iO 36 (.ari .add (.t 34) (.t 35)),iO 37 (.conv .u64 (.t 36)),iO 38 (.ari .shr (.t 37) (.c (.int .u64 1))),iO 39 (.conv .i64 (.t 38)),iM 12 39]
 (sO [iM 40 4,iM 41 0,iM 42 12,iO 43 (.ixa 1 (.t 41) (.t 42)),iL 44 43,iM 45 0,iM 46 1,iO 47 (.ixa 1 (.t 45) (.t 46)),iL 48 47,iO 49 (.calli (.t 40) [.t 44,.t 48]),iE 50 .lss 49 0]
 (.cond (.t 50) (.ops [iM 51 12,iO 52 (.ari .add (.t 51) (kI 1)),iM 10 52])
 (.ops [iM 53 12,iM 11 53])))))
def dD:SCode :=
 .seq (sO [iM 55 13,iM 56 10,iO 57 (.ari .sub (.t 56) (kI 1)),iV 58 .lss 55 57]
 (.cond (.t 58) (.skip)
 (.seq (.keep []) (.exit 2))))
 (.seq (.block 3 (.opsd [⟨iM 61 0,0,[]⟩,⟨iM 62 13,1,[]⟩,⟨iM 63 0,2,[]⟩,⟨iM 64 13,3,[]⟩,⟨iO 65 (.ari .add (.t 64) (kI 1)),4,[]⟩,⟨iM 66 0,5,[]⟩,⟨iM 67 13,6,[]⟩,⟨iO 68 (.ari .add (.t 67) (kI 1)),7,[]⟩,⟨iO 69 (.ixa 1 (.t 66) (.t 68)),8,[]⟩,⟨iL 70 69,9,[]⟩,⟨iM 71 0,10,[]⟩,⟨iM 72 13,11,[]⟩,⟨iO 73 (.ixa 1 (.t 71) (.t 72)),12,[]⟩,⟨iL 74 73,13,[]⟩,⟨iO 75 (.ixa 1 (.t 61) (.t 62)),14,[]⟩,⟨iN (.store 1 (.t 75) (.t 70)),15,[iM 63 0,iM 64 13,iO 65 (.ari .add (.t 64) (kI 1))]⟩,⟨iO 76 (.ixa 1 (.t 63) (.t 65)),16,[]⟩,⟨iN (.store 1 (.t 76) (.t 74)),17,[]⟩]))
 (.ops [iM 59 13,iO 60 (.ari .add (.t 59) (kI 1)),iM 13 60]))
def b9:SCode :=
 .seq (sO [iM 83 14,iM 84 15,iV 85 .lss 83 84]
 (.cond (.t 85) (.skip)
 (.seq (.keep [0,2,14]) (.exit 4))))
 (.block 5 (sO [iM 86 14,iM 87 15,iO 88 (.ari .add (.t 86) (.t 87)),iO 89 (.conv .u64 (.t 88)),iO 90 (.ari .shr (.t 89) (.c (.int .u64 1))),iO 91 (.conv .i64 (.t 90)),iM 16 91]
 (sO [iM 92 4,iM 93 0,iM 94 2,iO 95 (.ixa 1 (.t 93) (.t 94)),iL 96 95,iM 97 0,iM 98 16,iO 99 (.ixa 1 (.t 97) (.t 98)),iL 100 99,iO 101 (.calli (.t 92) [.t 96,.t 100]),iE 102 .lss 101 0,iO 103 (.not (.t 102))]
 (.cond (.t 103) (.ops [iM 104 16,iO 105 (.ari .add (.t 104) (kI 1)),iM 14 105])
 (.ops [iM 106 16,iM 15 106])))))
def dA:SCode :=
 .seq (sO [iM 108 17,iM 109 14,iV 110 .gtr 108 109]
 (.cond (.t 110) (.skip)
 (.seq (.keep []) (.exit 6))))
 (.seq (.block 7 (.opsd [⟨iM 113 0,0,[]⟩,⟨iM 114 17,1,[]⟩,⟨iM 115 0,2,[]⟩,⟨iM 116 17,3,[]⟩,⟨iO 117 (.ari .sub (.t 116) (kI 1)),4,[]⟩,⟨iM 118 0,5,[]⟩,⟨iM 119 17,6,[]⟩,⟨iO 120 (.ari .sub (.t 119) (kI 1)),7,[]⟩,⟨iO 121 (.ixa 1 (.t 118) (.t 120)),8,[]⟩,⟨iL 122 121,9,[]⟩,⟨iM 123 0,10,[]⟩,⟨iM 124 17,11,[]⟩,⟨iO 125 (.ixa 1 (.t 123) (.t 124)),12,[]⟩,⟨iL 126 125,13,[]⟩,⟨iO 127 (.ixa 1 (.t 113) (.t 114)),14,[]⟩,⟨iN (.store 1 (.t 127) (.t 122)),15,[iM 115 0,iM 116 17,iO 117 (.ari .sub (.t 116) (kI 1))]⟩,⟨iO 128 (.ixa 1 (.t 115) (.t 117)),16,[]⟩,⟨iN (.store 1 (.t 128) (.t 126)),17,[]⟩]))
 (.ops [iM 111 17,iO 112 (.ari .sub (.t 111) (kI 1)),iM 17 112]))
def bV:SCode :=
 .seq (sO [iM 149 20,iM 150 21,iV 151 .lss 149 150]
 (.cond (.t 151) (.skip)
 (.seq (.keep [0,1,2,3,4,18,19,20]) (.exit 8))))
 (.block 9 (sO [iM 152 20,iM 153 21,iO 154 (.ari .add (.t 152) (.t 153)),iO 155 (.conv .u64 (.t 154)),iO 156 (.ari .shr (.t 155) (.c (.int .u64 1))),iO 157 (.conv .i64 (.t 156)),iM 23 157]
 (sO [iM 158 4,iM 159 0,iM 160 22,iM 161 23,iO 162 (.ari .sub (.t 160) (.t 161)),iO 163 (.ixa 1 (.t 159) (.t 162)),iL 164 163,iM 165 0,iM 166 23,iO 167 (.ixa 1 (.t 165) (.t 166)),iL 168 167,iO 169 (.calli (.t 158) [.t 164,.t 168]),iE 170 .lss 169 0,iO 171 (.not (.t 170))]
 (.cond (.t 171) (.ops [iM 172 23,iO 173 (.ari .add (.t 172) (kI 1)),iM 20 173])
 (.ops [iM 174 23,iM 21 174])))))
def dQ:SCode :=
 .seq (sO [iM 25 2,iM 26 1,iO 27 (.ari .sub (.t 25) (.t 26)),iE 28 .eql 27 1]
 (.cond (.t 28) (sO [iM 29 2,iM 10 29]
 (sO [iM 30 3,iM 11 30]
 (.seq (.block 0 (.loop [0,1,4,10,11] cA))
 (.seq (sO [iM 54 1,iM 13 54]
 (.block 2 (.loop [0,10,13] dD)))
 (.ret)))))
 (.skip)))
 (.seq (sO [iM 77 3,iM 78 2,iO 79 (.ari .sub (.t 77) (.t 78)),iE 80 .eql 79 1]
 (.cond (.t 80) (sO [iM 81 1,iM 14 81]
 (sO [iM 82 2,iM 15 82]
 (.seq (.block 4 (.loop [0,2,4,14,15] b9))
 (.seq (sO [iM 107 2,iM 17 107]
 (.block 6 (.loop [0,14,17] dA)))
 (.ret)))))
 (.skip)))
 (sO [iM 129 1,iM 130 3,iO 131 (.ari .add (.t 129) (.t 130)),iO 132 (.conv .u64 (.t 131)),iO 133 (.ari .shr (.t 132) (.c (.int .u64 1))),iO 134 (.conv .i64 (.t 133)),iM 18 134]
 (sO [iM 135 18,iM 136 2,iO 137 (.ari .add (.t 135) (.t 136)),iM 19 137]
 (sO [iO 20 (.mov (kI 0)),iO 21 (.mov (kI 0))]
 (.seq (sO [iM 138 2,iM 139 18,iV 140 .gtr 138 139]
 (.cond (.t 140) (sO [iM 141 19,iM 142 3,iO 143 (.ari .sub (.t 141) (.t 142)),iM 20 143]
 (.ops [iM 144 18,iM 21 144]))
 (sO [iM 145 1,iM 20 145]
 (.ops [iM 146 2,iM 21 146]))))
 (sO [iM 147 19,iO 148 (.ari .sub (.t 147) (kI 1)),iM 22 148]
 (.seq (.block 8 (.loop [0,1,2,3,4,18,19,20,21,22] bV))
 (sO [iM 175 19,iM 176 20,iO 177 (.ari .sub (.t 175) (.t 176)),iM 24 177]
 (.seq (sO [iM 178 20,iM 179 2,iV 180 .lss 178 179,iM 181 180,iT 182 181 (.mov (.t 2)),iT 183 181 (.mov (.t 24)),iT 184 181 (.cmp .lss (.t 182) (.t 183)),iO 185 (.pick (.t 181) (.t 184) (kB false))]
 (.cond (.t 185) (.ops [iM 186 0,iM 187 20,iM 188 2,iM 189 24,iM 190 4,iO 191 (.calli (.f dN) [.t 186,.t 187,.t 188,.t 189,.t 190])])
 (.skip)))
 (.seq (sO [iM 192 1,iM 193 20,iV 194 .lss 192 193,iM 195 194,iT 196 195 (.mov (.t 20)),iT 197 195 (.mov (.t 18)),iT 198 195 (.cmp .lss (.t 196) (.t 197)),iO 199 (.pick (.t 195) (.t 198) (kB false))]
 (.cond (.t 199) (.ops [iM 200 0,iM 201 1,iM 202 20,iM 203 18,iM 204 4,iO 205 (.calli (.f bC) [.t 200,.t 201,.t 202,.t 203,.t 204])])
 (.skip)))
 (sO [iM 206 18,iM 207 24,iV 208 .lss 206 207,iM 209 208,iT 210 209 (.mov (.t 24)),iT 211 209 (.mov (.t 3)),iT 212 209 (.cmp .lss (.t 210) (.t 211)),iO 213 (.pick (.t 209) (.t 212) (kB false))]
 (.cond (.t 213) (.ops [iM 214 0,iM 215 18,iM 216 24,iM 217 3,iM 218 4,iO 219 (.calli (.f bC) [.t 214,.t 215,.t 216,.t 217,.t 218])])
 (.skip)))))))))))))
def eZ:SFn:=⟨5,220,dQ,[]⟩
def cR:SCode :=
 .seq (sO [iM 18 10,iM 19 11,iV 20 .neq 18 19]
 (.cond (.t 20) (.skip)
 (.seq (.keep [0,2,4,10]) (.exit 0))))
 (.block 1 (sO [iM 21 10,iM 22 11,iV 23 .gtr 21 22]
 (.cond (.t 23) (sO [iM 24 0,iM 25 2,iM 26 10,iO 27 (.ari .sub (.t 25) (.t 26)),iM 28 2,iM 29 11,iM 30 4,iO 31 (.calli (.f cV) [.t 24,.t 27,.t 28,.t 29,.t 30])]
 (.ops [iM 32 10,iM 33 11,iO 34 (.ari .sub (.t 32) (.t 33)),iM 10 34]))
 (sO [iM 35 0,iM 36 2,iM 37 10,iO 38 (.ari .sub (.t 36) (.t 37)),iM 39 2,iM 40 11,iO 41 (.ari .add (.t 39) (.t 40)),iM 42 10,iO 43 (.ari .sub (.t 41) (.t 42)),iM 44 10,iM 45 4,iO 46 (.calli (.f cV) [.t 35,.t 38,.t 43,.t 44,.t 45])]
 (.ops [iM 47 11,iM 48 10,iO 49 (.ari .sub (.t 47) (.t 48)),iM 11 49])))))
def lQ:SCode :=
 sO [iM 12 2,iM 13 1,iO 14 (.ari .sub (.t 12) (.t 13)),iM 10 14]
 (sO [iM 15 3,iM 16 2,iO 17 (.ari .sub (.t 15) (.t 16)),iM 11 17]
 (.seq (.block 0 (.loop [0,2,4,10,11] cR))
 (.ops [iM 50 0,iM 51 2,iM 52 10,iO 53 (.ari .sub (.t 51) (.t 52)),iM 54 2,iM 55 10,iM 56 4,iO 57 (.calli (.f cV) [.t 50,.t 53,.t 54,.t 55,.t 56])])))
def gE:SFn:=⟨5,58,lQ,[]⟩
def cZ:SCode :=
 .seq (sO [iM 11 10,iM 12 3,iV 13 .lss 11 12]
 (.cond (.t 13) (.skip)
 (.seq (.keep []) (.exit 0))))
 (.seq (.block 1 (.opsd [⟨iM 16 0,0,[]⟩,⟨iM 17 1,1,[]⟩,⟨iM 18 10,2,[]⟩,⟨iO 19 (.ari .add (.t 17) (.t 18)),3,[]⟩,⟨iM 20 0,4,[]⟩,⟨iM 21 2,5,[]⟩,⟨iM 22 10,6,[]⟩,⟨iO 23 (.ari .add (.t 21) (.t 22)),7,[]⟩,⟨iM 24 0,8,[]⟩,⟨iM 25 2,9,[]⟩,⟨iM 26 10,10,[]⟩,⟨iO 27 (.ari .add (.t 25) (.t 26)),11,[]⟩,⟨iO 28 (.ixa 1 (.t 24) (.t 27)),12,[]⟩,⟨iL 29 28,13,[]⟩,⟨iM 30 0,14,[]⟩,⟨iM 31 1,15,[]⟩,⟨iM 32 10,16,[]⟩,⟨iO 33 (.ari .add (.t 31) (.t 32)),17,[]⟩,⟨iO 34 (.ixa 1 (.t 30) (.t 33)),18,[]⟩,⟨iL 35 34,19,[]⟩,⟨iO 36 (.ixa 1 (.t 16) (.t 19)),20,[]⟩,⟨iN (.store 1 (.t 36) (.t 29)),21,[iM 20 0,iM 21 2,iM 22 10,iO 23 (.ari .add (.t 21) (.t 22))]⟩,⟨iO 37 (.ixa 1 (.t 20) (.t 23)),22,[]⟩,⟨iN (.store 1 (.t 37) (.t 35)),23,[]⟩]))
 (.ops [iM 14 10,iO 15 (.ari .add (.t 14) (kI 1)),iM 10 15]))
def jI:SCode :=
 sO [iO 10 (.mov (kI 0))]
 (.block 0 (.loop [0,1,2,3,10] cZ))
def eJ:SFn:=⟨5,38,jI,[]⟩
end Go.Ev.G
