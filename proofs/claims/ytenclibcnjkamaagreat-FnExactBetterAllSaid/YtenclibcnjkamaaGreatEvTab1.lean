import Derived.Test.YtenclibcnjkamaaGreatEvTab0
set_option linter.all false
namespace Go.Ev.G
def Fa:SCode :=
 sO [iO 2 (.mov (kI 0))]
 (sO [iM 4 0,iO 5 (.ari .and (.t 4) (kI 4294967295)),iM 3 5]
 (.seq (sO [iM 6 3,iE 7 .gtr 6 2147483647]
 (.cond (.t 7) (sO [iM 8 3,iO 9 (.ari .sub (.t 8) (kI 4294967296)),iM 2 9]
 (.ret))
 (.skip)))
 (sO [iM 10 3,iM 2 10]
 (.ret))))
def wZ:SFn:=⟨1,11,Fa,[.t 2]⟩
def Fn:SCode :=
 sO [iO 2 (.mov (kI 0))]
 (.seq (sO [iM 3 0]
 (.cond (.t 3) (sO [iO 2 (.mov (kI 1))]
 (.ret))
 (.skip)))
 (sO [iO 2 (.mov (kI 0))]
 (.ret)))
def v8:SFn:=⟨1,4,Fn,[.t 2]⟩
def H1:SCode :=
 sO [iO 4 (.mov (.n 1))]
 (sO [iO 7 (.lit 1 []),iM 5 7]
 (.seq (sO [iM 8 0,iM 9 1,iO 10 (.ixa 7 (.t 8) (.t 9)),iK 11 7 10,iO 6 (.alloc [zI,zI,zI,zI,zI,zS,.s 1 []]),iN (.store 7 (.t 6) (.t 11))]
 (sO [iF 12 0 6,iL 13 12]
 (.block 0 (.seq (sO [iE 20 .eql 13 12,iM 19 20]
 (.cond (.t 19) (.skip)
 (.ops [iE 21 .eql 13 28,iM 19 21])))
 (.cond (.t 19) (.skip)
 (sO [iE 23 .eql 13 9,iM 22 23]
 (.cond (.t 22) (.ops [iM 24 5,iM 25 0,iF 26 4 6,iL 27 26,iO 28 (.callr jZ [.t 25,.t 27]),iO 29 (.lit 1 [.t 28]),iO 30 (.app 1 8 (.t 24) (.t 29)),iM 5 30])
 (sO [iE 32 .eql 13 10,iM 31 32]
 (.cond (.t 31) (.ops [iM 33 5,iM 34 1,iO 35 (.ari .add (.t 34) (kI 1)),iM 36 0,iF 37 4 6,iL 38 37,iO 39 (.callr jZ [.t 36,.t 38]),iO 40 (.lit 1 [.t 35,.t 39]),iO 41 (.app 1 8 (.t 33) (.t 40)),iM 5 41])
 (.ops [iM 14 5,iM 15 1,iO 16 (.ari .add (.t 15) (kI 1)),iO 17 (.lit 1 [.t 16]),iO 18 (.app 1 8 (.t 14) (.t 17)),iM 5 18]))))))))))
 (sO [iM 42 5,iO 43 (.callb kR [.t 42] [true])]
 (sO [iM 44 5,iO 45 (.callb gT [.t 44] [true]),iM 4 45]
 (.ret)))))
def zG:SFn:=⟨2,46,H1,[.t 4]⟩
def s5:SCode :=
 .clone 1 [iO 5 (.lit 1 []),iM 6 0,iO 7 (.app 1 1 (.t 5) (.t 6)),iM 2 7]
def fK:SFn:=⟨1,8,s5,[.t 2]⟩
def dE:SCode :=
 sO [iV 14 .lss 13 12]
 (.seq (.cond (.t 14) (.skip)
 (.seq (.keep []) (.exit 0)))
 (.seq (.block 1 (sO [iM 15 13,iM 5 15]
 (sO [iM 16 0,iM 17 5,iO 18 (.ixa 1 (.t 16) (.t 17)),iL 19 18,iM 20 1,iM 21 5,iO 22 (.ixa 1 (.t 20) (.t 21)),iL 23 22,iO 24 (.cmpb .neq (.t 19) (.t 23))]
 (.cond (.t 24) (sO [iO 4 (.mov (kB false))]
 (.seq (.keep [4]) .ret))
 (.skip)))))
 (.ops [iO 25 (.ari .add (.t 13) (kI 1)),iM 13 25])))
def lB:SCode :=
 sO [iO 4 (.mov (kB false))]
 (.seq (sO [iM 6 0,iO 7 (.len (.t 6)),iM 8 1,iO 9 (.len (.t 8)),iV 10 .neq 7 9]
 (.cond (.t 10) (sO [iO 4 (.mov (kB false))]
 (.ret))
 (.skip)))
 (.seq (sO [iM 11 0,iO 12 (.len (.t 11)),iO 13 (.mov (kI 0))]
 (.block 0 (.loop [0,1,12,13] dE)))
 (sO [iO 4 (.mov (kB true))]
 (.ret))))
def fL:SFn:=⟨2,26,lB,[.t 4]⟩
def Fj:SCode :=
 sO [iO 2 (.mov (kI 0))]
 (sO [iM 3 0,iO 4 (.conv .i32 (.t 3)),iO 5 (.conv .i64 (.t 4)),iM 2 5]
 (.ret))
def v6:SFn:=⟨1,6,Fj,[.t 2]⟩
def dG:SCode :=
 sO [iV 9 .lss 8 7]
 (.seq (.cond (.t 9) (.skip)
 (.seq (.keep []) (.exit 0)))
 (.seq (.block 1 (sO [iM 10 8,iM 5 10]
 (sO [iM 11 1,iM 12 0,iM 13 5,iO 14 (.ixa 1 (.t 12) (.t 13)),iL 15 14,iV 16 .eql 11 15]
 (.cond (.t 16) (sO [iM 17 5,iM 4 17]
 (.seq (.keep [4]) .ret))
 (.skip)))))
 (.ops [iO 18 (.ari .add (.t 8) (kI 1)),iM 8 18])))
def kW:SCode :=
 sO [iO 4 (.mov (kI 0))]
 (.seq (sO [iM 6 0,iO 7 (.len (.t 6)),iO 8 (.mov (kI 0))]
 (.block 0 (.loop [0,1,7,8] dG)))
 (sO [iO 4 (.mov (kI (-1)))]
 (.ret)))
def fI:SFn:=⟨2,19,kW,[.t 4]⟩
def cU:SCode :=
 sO [iV 9 .lss 8 7]
 (.seq (.cond (.t 9) (.skip)
 (.seq (.keep []) (.exit 0)))
 (.seq (.block 1 (sO [iM 10 8,iM 5 10]
 (sO [iM 11 1,iM 12 0,iM 13 5,iO 14 (.ixa 1 (.t 12) (.t 13)),iL 15 14,iO 16 (.calli (.t 11) [.t 15])]
 (.cond (.t 16) (sO [iM 17 5,iM 4 17]
 (.seq (.keep [4]) .ret))
 (.skip)))))
 (.ops [iO 18 (.ari .add (.t 8) (kI 1)),iM 8 18])))
def jO:SCode :=
 sO [iO 4 (.mov (kI 0))]
 (.seq (sO [iM 6 0,iO 7 (.len (.t 6)),iO 8 (.mov (kI 0))]
 (.block 0 (.loop [0,1,7,8] cU)))
 (sO [iO 4 (.mov (kI (-1)))]
 (.ret)))
def eM:SFn:=⟨2,19,jO,[.t 4]⟩
end Go.Ev.G
