import Derived.Test.YtcaonmepamlclaaGreatEvTab0
set_option linter.all false
namespace Go.Ev.G
def kQ:SCode :=
 .seq (sO [iM 19 5,iF 20 3 3,iL 21 20,iO 22 (.len (.t 21)),iV 23 .lss 19 22,iM 24 23,iT 25 24 (.mov (.t 5)),iT 26 24 (.faddr 1 (.t 4)),iT 27 24 (.load none (.t 26)),iT 28 24 (.len (.t 27)),iT 29 24 (.cmp .lss (.t 25) (.t 28)),iO 30 (.pick (.t 24) (.t 29) (kB false))]
 (.cond (.t 30) (.skip)
 (.seq (.keep []) (.exit 0))))
 (.seq (.block 1 (.ops [iM 33 0,iF 34 3 3,iL 35 34,iM 36 5,iO 37 (.ixa 4 (.t 35) (.t 36)),iK 38 4 37,iF 39 1 4,iL 40 39,iM 41 5,iO 42 (.ixa 2 (.t 40) (.t 41)),iF 43 1 42,iL 44 43,iO 45 (.callb iP [.t 33,.t 38,.t 44] [true,false,false])]))
 (.ops [iM 31 5,iO 32 (.ari .add (.t 31) (kI 1)),iM 5 32]))
def Ip:SCode :=
 sO [iO 3 (.vbox 4 (.t 1))]
 (.seq (.opsd [⟨iM 6 0,0,[]⟩,⟨iO 7 (.nck (.t 6)),1,[]⟩,⟨iF 8 0 7,2,[]⟩,⟨iL 9 8,3,[]⟩,⟨iM 10 0,4,[]⟩,⟨iO 11 (.nck (.t 10)),5,[]⟩,⟨iF 12 0 11,6,[]⟩,⟨iL 13 12,7,[]⟩,⟨iF 14 1 3,8,[]⟩,⟨iL 15 14,9,[]⟩,⟨iO 16 (.callr o9 [.t 13,.t 15]),10,[]⟩,⟨iO 17 (.ixa 6 (.t 9) (.t 16)),11,[]⟩,⟨iK 18 6 17,12,[]⟩,⟨iO 4 (.alloc [zS,.s 2 [],zI,zS,zI,.s 4 []]),13,[iM 6 0,iO 7 (.nck (.t 6)),iF 8 0 7,iL 9 8,iM 10 0,iO 11 (.nck (.t 10)),iF 12 0 11,iL 13 12,iF 14 1 3,iL 15 14,iO 16 (.callr o9 [.t 13,.t 15]),iO 17 (.ixa 6 (.t 9) (.t 16)),iK 18 6 17]⟩,⟨iN (.store 6 (.t 4) (.t 18)),14,[]⟩])
 (sO [iO 5 (.mov (kI 0))]
 (.block 0 (.loop [0,3,4,5] kQ))))
def yM:SFn:=⟨2,46,Ip,[]⟩
def sT:SCode :=
 sO [iO 2 (.mov (kB false))]
 (sO [iM 3 0,iO 4 (.callr cH [.t 3,.c (.int .i64 19),.c (.int .i64 31)]),iM 2 4]
 (.ret))
def sY:SFn:=⟨1,5,sT,[.t 2]⟩
def t7:SCode :=
 .seq (sO [iM 8 1,iM 9 7,iO 10 (.ari .add (.t 8) (.t 9)),iM 11 0,iO 12 (.slen (.t 11)),iV 13 .lss 10 12,iM 14 13,iT 15 14 (.mov (.t 2)),iT 16 14 (.mov (.t 0)),iT 17 14 (.mov (.t 1)),iT 18 14 (.mov (.t 7)),iT 19 14 (.ari .add (.t 17) (.t 18)),iT 20 14 (.ixs (.t 16) (.t 19)),iT 21 14 (.calli (.t 15) [.t 20]),iO 22 (.pick (.t 14) (.t 21) (kB false))]
 (.cond (.t 22) (.skip)
 (.seq (.keep [7]) (.exit 0))))
 (.block 1 (.ops [iM 23 7,iO 24 (.ari .add (.t 23) (kI 1)),iM 7 24]))
def Vf:SCode :=
 sO [iO 6 (.mov (kI 0))]
 (sO [iO 7 (.mov (kI 0))]
 (.seq (.block 0 (.loop [0,1,2,7] t7))
 (sO [iM 25 7,iM 6 25]
 (.ret))))
def Kc:SFn:=⟨3,26,Vf,[.t 6]⟩
def Dy:SCode :=
 sO [iO 2 (.mov (kB false))]
 (sO [iM 3 0,iO 4 (.cmp .geq (.t 3) (.c (.int .u8 97))),iM 5 4,iT 6 5 (.mov (.t 0)),iT 7 5 (.cmp .leq (.t 6) (.c (.int .u8 122))),iO 8 (.pick (.t 5) (.t 7) (kB false)),iM 9 8,iU 10 9 (.mov (.t 0)),iU 11 9 (.cmp .geq (.t 10) (.c (.int .u8 65))),iU 12 9 (.mov (.t 11)),iT 13 12 (.mov (.t 0)),iT 14 12 (.cmp .leq (.t 13) (.c (.int .u8 90))),iU 15 9 (.pick (.t 12) (.t 14) (kB false)),iO 16 (.pick (.t 9) (kB true) (.t 15)),iM 2 16]
 (.ret))
def sQ:SFn:=⟨1,17,Dy,[.t 2]⟩
def Eg:SCode :=
 sO [iO 2 (.mov (kB false))]
 (sO [iO 3 (.lit 1 [.c (.string ⟨#[102,117,110,99]⟩),.c (.string ⟨#[108,101,116]⟩),.c (.string ⟨#[105,102]⟩),.c (.string ⟨#[101,108,115,101]⟩),.c (.string ⟨#[119,104,105,108,101]⟩),.c (.string ⟨#[112,114,105,110,116]⟩),.c (.string ⟨#[114,101,116,117,114,110]⟩),.c (.string ⟨#[103,111]⟩),.c (.string ⟨#[115,101,110,100]⟩),.c (.string ⟨#[114,101,99,118]⟩),.c (.string ⟨#[99,108,111,115,101]⟩),.c (.string ⟨#[115,101,108,101,99,116]⟩),.c (.string ⟨#[99,97,115,101]⟩),.c (.string ⟨#[100,101,102,97,117,108,116]⟩),.c (.string ⟨#[109,97,107,101]⟩),.c (.string ⟨#[99,104,97,110]⟩),.c (.string ⟨#[112,111,107,101]⟩),.c (.string ⟨#[110,111,116,101]⟩),.c (.string ⟨#[115,119,97,112]⟩),.c (.string ⟨#[104,97,108,116]⟩),.c (.string ⟨#[111,117,116]⟩),.c (.string ⟨#[112,101,101,107]⟩),.c (.string ⟨#[99,97,115]⟩),.c (.string ⟨#[99,111,114,101]⟩),.c (.string ⟨#[97,100,100,114]⟩)]),iM 4 0,iO 5 (.callr dS [.t 3,.t 4]),iM 2 5]
 (.ret))
def u4:SFn:=⟨1,6,Eg,[.t 2]⟩
def Dj:SCode :=
 sO [iO 3 (.box 1 (.t 1)),iO 4 (.mov (kB false))]
 (sO [iM 5 0,iO 6 (.fn oC [.t 3]),iO 7 (.calli (.f bX) [.t 5,.t 6]),iO 8 (.not (.t 7)),iM 4 8]
 (.ret))
def sX:SFn:=⟨2,9,Dj,[.t 4]⟩
def bF:SCode :=
 sO [iO 1 (.vbox 4 (.t 0)),iO 2 (.mov (kB false))]
 (sO [iF 6 1 1,iL 7 6,iO 8 (.cmp .eql (.t 7) (.c (.string ⟨#[]⟩))),iM 3 8,iO 4 (.mov (kI (-1))),iO 5 (.mov (kI 0))]
 (.seq (sO [iF 9 0 1,iL 10 9]
 (.block 0 (.seq (sO [iE 12 .eql 10 2,iM 11 12]
 (.cond (.t 11) (.skip)
 (sO [iE 13 .eql 10 3,iM 11 13]
 (.cond (.t 11) (.skip)
 (.ops [iE 14 .eql 10 10,iM 11 14])))))
 (.cond (.t 11) (.ops [iF 15 1 1,iL 16 15,iO 17 (.callr iQ [.t 16]),iM 3 17,iO 4 (.mov (kI 1))])
 (.seq (sO [iE 19 .eql 10 6,iM 18 19]
 (.cond (.t 18) (.skip)
 (sO [iE 20 .eql 10 7,iM 18 20]
 (.cond (.t 18) (.skip)
 (sO [iE 21 .eql 10 11,iM 18 21]
 (.cond (.t 18) (.skip)
 (sO [iE 22 .eql 10 16,iM 18 22]
 (.cond (.t 18) (.skip)
 (sO [iE 23 .eql 10 17,iM 18 23]
 (.cond (.t 18) (.skip)
 (.ops [iE 24 .eql 10 18,iM 18 24])))))))))))
 (.cond (.t 18) (.ops [iO 4 (.mov (kI 1))])
 (.seq (sO [iE 26 .eql 10 9,iM 25 26]
 (.cond (.t 25) (.skip)
 (sO [iE 27 .eql 10 13,iM 25 27]
 (.cond (.t 25) (.skip)
 (sO [iE 28 .eql 10 14,iM 25 28]
 (.cond (.t 25) (.skip)
 (.ops [iE 29 .eql 10 15,iM 25 29])))))))
 (.cond (.t 25) (.ops [iO 4 (.mov (kI 2))])
 (sO [iE 31 .eql 10 8,iM 30 31]
 (.cond (.t 30) (.ops [iF 32 1 1,iL 33 32,iO 34 (.callr iQ [.t 33]),iF 35 3 1,iL 36 35,iO 37 (.len (.t 36)),iM 3 34,iM 4 37])
 (sO [iE 39 .eql 10 4,iM 38 39]
 (.cond (.t 38) (sO [iO 4 (.mov (kI 1)),iO 5 (.mov (kI 1))]
 (sO [iF 40 3 1,iL 41 40,iO 42 (.len (.t 41)),iE 43 .eql 42 3]
 (.cond (.t 43) (.ops [iO 5 (.mov (kI 2))])
 (.skip))))
 (sO [iE 45 .eql 10 5,iM 44 45]
 (.cond (.t 44) (.ops [iO 4 (.mov (kI 1)),iO 5 (.mov (kI 1))])
 (sO [iE 47 .eql 10 12,iM 46 47]
 (.cond (.t 46) (sO [iM 48 3,iM 49 48,iT 50 49 (.faddr 2 (.t 1)),iT 51 49 (.load none (.t 50)),iT 52 49 (.cmp .eql (.t 51) (kI 0)),iO 53 (.pick (.t 49) (.t 52) (kB false)),iM 54 53,iT 55 54 (.faddr 3 (.t 1)),iT 56 54 (.load none (.t 55)),iT 57 54 (.calli (.f eC) [.t 56,.f xN]),iO 58 (.pick (.t 54) (.t 57) (kB false)),iM 2 58]
 (.ret))
 (.skip)))))))))))))))))
 (sO [iM 59 3,iM 60 59,iT 61 60 (.faddr 2 (.t 1)),iT 62 60 (.load none (.t 61)),iT 63 60 (.cmp .eql (.t 62) (kI 0)),iO 64 (.pick (.t 60) (.t 63) (kB false)),iM 65 64,iT 66 65 (.mov (.t 4)),iT 67 65 (.cmp .geq (.t 66) (kI 0)),iO 68 (.pick (.t 65) (.t 67) (kB false)),iM 69 68,iT 70 69 (.faddr 3 (.t 1)),iT 71 69 (.load none (.t 70)),iT 72 69 (.len (.t 71)),iT 73 69 (.mov (.t 4)),iT 74 69 (.mov (.t 5)),iT 75 69 (.ari .add (.t 73) (.t 74)),iT 76 69 (.cmp .eql (.t 72) (.t 75)),iO 77 (.pick (.t 69) (.t 76) (kB false)),iM 78 77,iT 79 78 (.faddr 3 (.t 1)),iT 80 78 (.load none (.t 79)),iT 81 78 (.mov (.t 4)),iT 82 78 (.cutr 4 (.t 80) none (some (.t 81))),iT 83 78 (.calli (.f eC) [.t 82,.f gL]),iO 84 (.pick (.t 78) (.t 83) (kB false)),iM 85 84,iT 86 85 (.faddr 3 (.t 1)),iT 87 85 (.load none (.t 86)),iT 88 85 (.mov (.t 4)),iT 89 85 (.cutr 4 (.t 87) (some (.t 88)) none),iT 90 85 (.calli (.f eC) [.t 89,.f dT]),iO 91 (.pick (.t 85) (.t 90) (kB false)),iM 2 91]
 (.ret))))
def tF:SFn:=⟨1,92,bF,[.t 2]⟩
def xR:SCode :=
 sO [iO 3 (.vbox 4 (.t 1)),iO 4 (.mov (kB false))]
 (.seq (sO [iF 6 0 3,iL 7 6,iE 8 .neq 7 20]
 (.cond (.t 8) (sO [iF 9 0 3,iL 10 9,iE 11 .eql 10 27,iM 4 11]
 (.ret))
 (.skip)))
 (sO [iM 12 0,iF 13 1 3,iL 14 13,iO 15 (.callr kH [.t 12,.t 14]),iM 5 15]
 (sO [iM 16 5,iE 17 .geq 16 0,iM 18 17,iT 19 18 (.mov (.t 0)),iT 20 18 (.mov (.t 5)),iT 21 18 (.ixa 2 (.t 19) (.t 20)),iT 22 18 (.faddr 1 (.t 21)),iT 23 18 (.load none (.t 22)),iO 24 (.pick (.t 18) (.t 23) (kB false)),iM 4 24]
 (.ret))))
def yE:SFn:=⟨2,25,xR,[.t 4]⟩
def oZ:SCode :=
 sO [iO 2 (.vbox 6 (.t 0)),iO 3 (.mov (kB false))]
 (sO [iF 4 0 2,iL 5 4,iL 6 1,iV 7 .eql 5 6,iM 3 7]
 (.ret))
def jN:SFn:=⟨2,8,oZ,[.t 3]⟩
def Az:SCode :=
 sO [iO 2 (.vbox 2 (.t 0)),iO 3 (.mov (kB false))]
 (sO [iF 4 0 2,iL 5 4,iL 6 1,iV 7 .eql 5 6,iM 3 7]
 (.ret))
def qJ:SFn:=⟨2,8,Az,[.t 3]⟩
def eN:SCode :=
 sO [iO 4 (.mov (kB false))]
 (sO [iM 5 0,iM 6 1,iO 7 (.calli (.f dO) [.t 5,.t 6]),iE 8 .geq 7 0,iM 4 8]
 (.ret))
def cQ:SFn:=⟨2,9,eN,[.t 4]⟩
def I8:SCode :=
 sO [iO 2 (.vbox 4 (.t 0)),iO 3 (.mov (kB false))]
 (sO [iK 4 4 2,iL 5 1,iO 6 (.calli (.f o7) [.t 4,.t 5]),iM 3 6]
 (.ret))
def yL:SFn:=⟨2,7,I8,[.t 3]⟩
def i8:SCode :=
 sO [iO 4 (.mov (kB false))]
 (sO [iM 5 0,iM 6 1,iO 7 (.callr gU [.t 5,.t 6]),iE 8 .geq 7 0,iM 4 8]
 (.ret))
def eP:SFn:=⟨2,9,i8,[.t 4]⟩
def cG:SCode :=
 sO [iO 3 (.vbox 4 (.t 1)),iO 4 (.alloc [zS,.s 2 [],zI,zS,zI,.s 4 []]),iO 5 (.mov (kB false))]
 (sO [iM 8 0,iO 9 (.nck (.t 8)),iF 10 0 9,iL 11 10,iO 12 (.len (.t 11)),iM 6 12]
 (.seq (sO [iF 13 0 3,iL 14 13,iE 15 .eql 14 26]
 (.cond (.t 15) (.ops [iM 16 0,iO 17 (.nck (.t 16)),iF 18 1 17,iL 19 18,iM 6 19])
 (.skip)))
 (sO [iM 20 0,iF 21 1 3,iL 22 21,iM 23 6,iO 24 (.callb jD [.t 20,.t 22,.t 23] [true,false,false]),iM 7 24]
 (.seq (sO [iM 25 7,iE 26 .lss 25 0,iM 27 26,iU 28 27 (.faddr 0 (.t 3)),iU 29 27 (.load none (.t 28)),iU 30 27 (.cmp .neq (.t 29) (kI 31)),iU 31 27 (.mov (.t 30)),iT 32 31 (.mov (.t 0)),iT 33 31 (.nck (.t 32)),iT 34 31 (.faddr 0 (.t 33)),iT 35 31 (.load none (.t 34)),iT 36 31 (.mov (.t 7)),iT 37 31 (.ixa 6 (.t 35) (.t 36)),iT 38 31 (.faddr 1 (.t 37)),iT 39 31 (.load none (.t 38)),iT 40 31 (.len (.t 39)),iT 41 31 (.faddr 3 (.t 3)),iT 42 31 (.load none (.t 41)),iT 43 31 (.len (.t 42)),iT 44 31 (.cmp .neq (.t 40) (.t 43)),iU 45 27 (.pick (.t 31) (.t 44) (kB false)),iO 46 (.pick (.t 27) (kB true) (.t 45))]
 (.cond (.t 46) (sO [iO 47 (.build [zS,.s 2 [],zI,zS,zI,.s 4 []] []),iN (.store 6 (.t 4) (.t 47)),iO 5 (.mov (kB false))]
 (.ret))
 (.skip)))
 (sO [iM 48 0,iO 49 (.nck (.t 48)),iF 50 0 49,iL 51 50,iM 52 7,iO 53 (.ixa 6 (.t 51) (.t 52)),iK 54 6 53,iN (.store 6 (.t 4) (.t 54)),iO 5 (.mov (kB true))]
 (.ret))))))
def lE:SFn:=⟨2,55,cG,[.c 4 (some 6),.t 5]⟩
def r6:SCode :=
 sO [iO 4 (.vbox 4 (.t 1)),iO 6 (.mov (kB false)),iO 7 (.mov (kB false))]
 (.seq (sO [iF 10 0 4,iL 11 10]
 (.block 0 (sO [iE 13 .eql 11 2,iM 12 13]
 (.cond (.t 12) (sO [iO 6 (.mov (kB false)),iO 7 (.mov (kB true))]
 (.ret))
 (.seq (sO [iE 15 .eql 11 9,iM 14 15]
 (.cond (.t 14) (.skip)
 (sO [iE 16 .eql 11 10,iM 14 16]
 (.cond (.t 14) (.skip)
 (sO [iE 17 .eql 11 11,iM 14 17]
 (.cond (.t 14) (.skip)
 (sO [iE 18 .eql 11 32,iM 14 18]
 (.cond (.t 14) (.skip)
 (.ops [iE 19 .eql 11 33,iM 14 19])))))))))
 (.cond (.t 14) (sO [iM 20 2,iE 21 .eql 20 0,iM 6 21,iO 7 (.mov (kB false))]
 (.ret))
 (sO [iE 23 .eql 11 3,iM 22 23]
 (.cond (.t 22) (sO [iM 24 0,iO 25 (.nck (.t 24)),iF 26 2 25,iL 27 26,iF 28 1 4,iL 29 28,iO 30 (.build [zI,zS,zI,.s 4 []] [(0,1,.c (.int .i64 20)),(1,1,.t 29)]),iO 31 (.callr mF [.t 27,.t 30]),iM 6 31,iO 7 (.mov (kB false))]
 (.ret))
 (.seq (sO [iE 33 .eql 11 26,iM 32 33]
 (.cond (.t 32) (.skip)
 (.ops [iE 34 .eql 11 8,iM 32 34])))
 (.cond (.t 32) (sO [iM 36 0,iK 37 4 4,iO 38 (.callb fV [.t 36,.t 37] [true,false]),iM 35 38,iO 39 (.ext (.t 35) 0),iO 40 (.ext (.t 35) 1),iO 8 (.alloc [zS,.s 2 [],zI,zS,zI,.s 4 []]),iN (.store 6 (.t 8) (.t 39)),iM 9 40]
 (sO [iM 41 9,iM 42 41,iT 43 42 (.faddr 1 (.t 8)),iT 44 42 (.load none (.t 43)),iT 45 42 (.mov (.t 2)),iT 46 42 (.ixa 2 (.t 44) (.t 45)),iT 47 42 (.faddr 1 (.t 46)),iT 48 42 (.load none (.t 47)),iO 49 (.pick (.t 42) (.t 48) (kB false)),iM 6 49,iO 7 (.mov (kB false))]
 (.ret)))
 (.skip)))))))))))
 (sO [iO 6 (.mov (kB false)),iO 7 (.mov (kB false))]
 (.ret)))
def mJ:SFn:=⟨3,50,r6,[.t 6,.t 7]⟩
def gZ:SCode :=
 sO [iO 3 (.vbox 4 (.t 1))]
 (sO [iF 11 0 3,iL 12 11]
 (.block 0 (sO [iE 27 .eql 12 4,iM 26 27]
 (.cond (.t 26) (.ops [iM 28 0,iK 29 4 3,iO 30 (.callb vH [.t 28,.t 29] [true,false])])
 (sO [iE 32 .eql 12 5,iM 31 32]
 (.cond (.t 31) (.ops [iM 33 0,iK 34 4 3,iO 35 (.callb rB [.t 33,.t 34] [true,false])])
 (sO [iE 37 .eql 12 12,iM 36 37]
 (.cond (.t 36) (.ops [iM 38 0,iK 39 4 3,iO 40 (.callb pN [.t 38,.t 39] [true,false])])
 (.seq (sO [iE 42 .eql 12 2,iM 41 42]
 (.cond (.t 41) (.skip)
 (.ops [iE 43 .eql 12 3,iM 41 43])))
 (.cond (.t 41) (sO [iM 44 0,iF 45 3 3,iL 46 45,iO 47 (.ixa 4 (.t 46) (kI 0)),iK 48 4 47,iO 49 (.callb cX [.t 44,.t 48] [true,false]),iM 4 49]
 (.ops [iM 50 0,iF 51 1 3,iL 52 51,iM 53 4,iO 54 (.callb pW [.t 50,.t 52,.t 53] [true,false,false])]))
 (sO [iE 56 .eql 12 8,iM 55 56]
 (.cond (.t 55) (sO [iM 57 0,iF 58 3 3,iL 59 58,iO 60 (.callb q7 [.t 57,.t 59] [true,false]),iM 5 60]
 (.ops [iM 61 0,iF 62 1 3,iL 63 62,iM 64 5,iO 65 (.build [zI,zI,zI,zI,zI,zS,.s 1 []] [(0,1,.c (.int .i64 14)),(5,1,.t 63),(6,1,.t 64)]),iO 66 (.callb bT [.t 61,.t 65] [true,true])]))
 (sO [iE 68 .eql 12 10,iM 67 68]
 (.cond (.t 67) (sO [iM 69 0,iF 70 3 3,iL 71 70,iO 72 (.ixa 4 (.t 71) (kI 0)),iK 73 4 72,iO 74 (.callb cX [.t 69,.t 73] [true,false]),iM 6 74]
 (sO [iM 75 0,iO 76 (.callb j4 [.t 75] [true]),iM 7 76]
 (sO [iM 77 0,iM 78 7,iM 79 6,iO 80 (.build [zI,zI,zI,zI,zI,zS,.s 1 []] [(0,1,.c (.int .i64 17)),(1,1,.t 78),(2,1,.t 79)]),iO 81 (.callb bT [.t 77,.t 80] [true,true])]
 (.ops [iM 82 0,iF 83 1 3,iL 84 83,iM 85 7,iO 86 (.callb pW [.t 82,.t 84,.t 85] [true,false,false])]))))
 (.seq (sO [iE 88 .eql 12 9,iM 87 88]
 (.cond (.t 87) (.skip)
 (sO [iE 89 .eql 12 13,iM 87 89]
 (.cond (.t 87) (.skip)
 (sO [iE 90 .eql 12 14,iM 87 90]
 (.cond (.t 87) (.skip)
 (.ops [iE 91 .eql 12 15,iM 87 91])))))))
 (.cond (.t 87) (sO [iM 92 0,iF 93 3 3,iL 94 93,iO 95 (.ixa 4 (.t 94) (kI 0)),iK 96 4 95,iO 97 (.callb cX [.t 92,.t 96] [true,false]),iM 8 97]
 (sO [iM 98 0,iF 99 3 3,iL 100 99,iO 101 (.ixa 4 (.t 100) (kI 1)),iK 102 4 101,iO 103 (.callb cX [.t 98,.t 102] [true,false]),iM 9 103]
 (.ops [iM 104 0,iF 105 0 3,iL 106 105,iO 107 (.callr Es [.t 106]),iM 108 8,iM 109 9,iO 110 (.build [zI,zI,zI,zI,zI,zS,.s 1 []] [(0,1,.t 107),(2,1,.t 108),(3,1,.t 109)]),iO 111 (.callb bT [.t 104,.t 110] [true,true])])))
 (sO [iE 113 .eql 12 18,iM 112 113]
 (.cond (.t 112) (.ops [iM 114 0,iF 115 3 3,iL 116 115,iO 117 (.ixa 4 (.t 116) (kI 0)),iK 118 4 117,iO 119 (.callb cX [.t 114,.t 118] [true,false])])
 (sO [iM 13 0,iF 14 3 3,iL 15 14,iO 16 (.ixa 4 (.t 15) (kI 0)),iK 17 4 16,iO 18 (.callb cX [.t 13,.t 17] [true,false]),iM 10 18]
 (.ops [iM 19 0,iF 20 0 3,iL 21 20,iO 22 (.callr Ff [.t 21]),iM 23 10,iO 24 (.build [zI,zI,zI,zI,zI,zS,.s 1 []] [(0,1,.t 22),(2,1,.t 23)]),iO 25 (.callb bT [.t 19,.t 24] [true,true])]))))))))))))))))))))
def v8:SFn:=⟨2,120,gZ,[]⟩
def If:SCode :=
 sO [iO 2 (.mov (kI 0))]
 (sO [iM 3 0,iO 4 (.nck (.t 3)),iF 5 0 4,iF 6 2 5,iL 7 6,iO 8 (.ari .add (.t 7) (kI 1)),iO 9 (.nck (.t 3)),iF 10 0 9,iF 11 2 10,iN (.store 1 (.t 11) (.t 8))]
 (sO [iM 12 0,iO 13 (.nck (.t 12)),iF 14 0 13,iF 15 2 14,iL 16 15,iO 17 (.ari .sub (.t 16) (kI 1)),iM 2 17]
 (.ret)))
def yP:SFn:=⟨1,18,If,[.t 2]⟩
def Ja:SCode :=
 sO [iO 2 (.mov (kI 0))]
 (.seq (sO [iM 3 0,iO 4 (.callr cH [.t 3,.c (.int .i64 1),.c (.int .i64 28)]),iO 5 (.not (.t 4))]
 (.cond (.t 5) (sO [iO 2 (.mov (kI 0))]
 (.ret))
 (.skip)))
 (sO [iO 6 (.lit 1 [.c (.int .i64 0),.c (.int .i64 9),.c (.int .i64 3),.c (.int .i64 7),.c (.int .i64 7),.c (.int .i64 7),.c (.int .i64 7),.c (.int .i64 7),.c (.int .i64 8),.c (.int .i64 8),.c (.int .i64 10),.c (.int .i64 49),.c (.int .i64 2),.c (.int .i64 2),.c (.int .i64 48),.c (.int .i64 3),.c (.int .i64 6),.c (.int .i64 3),.c (.int .i64 2),.c (.int .i64 45),.c (.int .i64 3),.c (.int .i64 6),.c (.int .i64 39),.c (.int .i64 1),.c (.int .i64 17),.c (.int .i64 2),.c (.int .i64 6),.c (.int .i64 6),.c (.int .i64 2)]),iM 7 0,iO 8 (.ixa 1 (.t 6) (.t 7)),iL 9 8,iM 2 9]
 (.ret)))
def xV:SFn:=⟨1,10,Ja,[.t 2]⟩
def m5:SCode :=
 .seq (sO [iM 12 4,iM 13 3,iV 14 .lss 12 13]
 (.cond (.t 14) (.skip)
 (.seq (.keep [3]) (.exit 1))))
 (.seq (.block 2 (sO [iF 17 6 1,iL 18 17,iM 19 4,iO 20 (.ixa 1 (.t 18) (.t 19)),iL 21 20,iO 22 (.callr cH [.t 21,.c (.int .i64 1),.c (.int .i64 2)]),iO 23 (.not (.t 22)),iM 24 23,iU 25 24 (.mov (.t 4)),iU 26 24 (.ari .add (.t 25) (kI 2)),iU 27 24 (.mov (.t 3)),iU 28 24 (.cmp .lss (.t 26) (.t 27)),iU 29 24 (.mov (.t 28)),iT 30 29 (.faddr 6 (.t 1)),iT 31 29 (.load none (.t 30)),iT 32 29 (.mov (.t 4)),iT 33 29 (.ixa 1 (.t 31) (.t 32)),iT 34 29 (.load none (.t 33)),iT 35 29 (.cmp .eql (.t 34) (kI 1)),iU 36 24 (.pick (.t 29) (.t 35) (kB false)),iU 37 24 (.mov (.t 36)),iT 38 37 (.faddr 6 (.t 1)),iT 39 37 (.load none (.t 38)),iT 40 37 (.mov (.t 4)),iT 41 37 (.ari .add (.t 40) (kI 2)),iT 42 37 (.ixa 1 (.t 39) (.t 41)),iT 43 37 (.load none (.t 42)),iT 44 37 (.cmp .neq (.t 43) (kI 0)),iU 45 24 (.pick (.t 37) (.t 44) (kB false)),iO 46 (.pick (.t 24) (kB true) (.t 45))]
 (.cond (.t 46) (sO [iO 2 (.mov (kB false))]
 (.seq (.keep [2]) .ret))
 (.skip))))
 (.ops [iM 15 4,iO 16 (.ari .add (.t 15) (kI 3)),iM 4 16]))
def Ey:SCode :=
 sO [iO 1 (.vbox 7 (.t 0)),iO 2 (.mov (kB false))]
 (sO [iF 5 6 1,iL 6 5,iO 7 (.len (.t 6)),iM 3 7]
 (.seq (sO [iF 8 0 1,iL 9 8]
 (.block 0 (sO [iE 11 .eql 9 19,iM 10 11]
 (.cond (.t 10) (.seq (sO [iO 4 (.mov (kI 0))]
 (.block 1 (.loop [1,3,4] m5)))
 (sO [iM 47 3,iE 48 .eql 47 3,iM 49 48,iU 50 49 (.mov (.t 3)),iU 51 49 (.cmp .eql (.t 50) (kI 6)),iO 52 (.pick (.t 49) (kB true) (.t 51)),iM 53 52,iU 54 53 (.mov (.t 3)),iU 55 53 (.cmp .eql (.t 54) (kI 9)),iO 56 (.pick (.t 53) (kB true) (.t 55)),iM 2 56]
 (.ret)))
 (sO [iE 58 .eql 9 22,iM 57 58]
 (.cond (.t 57) (sO [iM 59 3,iE 60 .eql 59 1,iM 2 60]
 (.ret))
 (.seq (sO [iE 62 .eql 9 11,iM 61 62]
 (.cond (.t 61) (.skip)
 (.ops [iE 63 .eql 9 14,iM 61 63])))
 (.cond (.t 61) (sO [iM 64 3,iE 65 .leq 64 4,iM 2 65]
 (.ret))
 (.skip)))))))))
 (sO [iM 66 3,iE 67 .eql 66 0,iM 2 67]
 (.ret))))
def vO:SFn:=⟨1,68,Ey,[.t 2]⟩
def mS:SCode :=
 .seq (sO [iM 12 6,iM 13 5,iO 14 (.len (.t 13)),iV 15 .lss 12 14]
 (.cond (.t 15) (.skip)
 (.seq (.keep []) (.exit 0))))
 (.seq (.block 1 (sO [iM 18 5,iM 19 6,iO 20 (.ixa 1 (.t 18) (.t 19)),iL 21 20,iM 22 1,iO 23 (.ari .sub (.t 22) (kI 1)),iO 24 (.callr cH [.t 21,.c (.int .i64 0),.t 23]),iO 25 (.not (.t 24))]
 (.cond (.t 25) (sO [iO 4 (.mov (kB false))]
 (.seq (.keep [4]) .ret))
 (.skip))))
 (.ops [iM 16 6,iO 17 (.ari .add (.t 16) (kI 1)),iM 6 17]))
def F1:SCode :=
 sO [iO 2 (.vbox 7 (.t 0)),iO 4 (.mov (kB false))]
 (.seq (.opsd [⟨iK 7 7 2,0,[]⟩,⟨iK 9 7 2,2,[]⟩,⟨iO 8 (.call Mv [.t 7]),1,[iK 9 7 2]⟩,⟨iO 10 (.call Na [.t 9]),3,[]⟩,⟨iO 11 (.app 1 8 (.t 8) (.t 10)),4,[]⟩,⟨iM 5 11,5,[]⟩])
 (.seq (sO [iO 6 (.mov (kI 0))]
 (.block 0 (.loop [1,5,6] mS)))
 (sO [iO 4 (.mov (kB true))]
 (.ret))))
def uU:SFn:=⟨2,26,F1,[.t 4]⟩
def lD:SCode :=
 sO [iO 3 (.vbox 4 (.t 1))]
 (sO [iM 7 0,iF 8 3 3,iL 9 8,iO 10 (.ixa 4 (.t 9) (kI 0)),iK 11 4 10,iO 12 (.callb fJ [.t 7,.t 11] [true,false]),iM 4 12]
 (sO [iM 13 0,iO 14 (.callb dB [.t 13] [true]),iM 5 14]
 (sO [iM 15 0,iM 16 4,iM 17 5,iO 18 (.build [zI,zI,zI,zI,zI,zS,.s 1 []] [(0,1,.c (.int .i64 10)),(2,1,.t 16),(4,1,.t 17)]),iO 19 (.callb aZ [.t 15,.t 18] [true,true])]
 (sO [iM 20 0,iF 21 3 3,iL 22 21,iO 23 (.ixa 4 (.t 22) (kI 1)),iK 24 4 23,iO 25 (.callb d3 [.t 20,.t 24] [true,false])]
 (.seq (sO [iF 26 3 3,iL 27 26,iO 28 (.len (.t 27)),iE 29 .eql 28 2]
 (.cond (.t 29) (sO [iM 30 0,iM 31 5,iO 32 (.build [zI,zI,zI,zI,zI,zS,.s 1 []] [(0,1,.c (.int .i64 8)),(4,1,.t 31)]),iO 33 (.callb aZ [.t 30,.t 32] [true,true])]
 (.ret))
 (.skip)))
 (sO [iM 34 0,iO 35 (.callb dB [.t 34] [true]),iM 6 35]
 (sO [iM 36 0,iM 37 6,iO 38 (.build [zI,zI,zI,zI,zI,zS,.s 1 []] [(0,1,.c (.int .i64 9)),(4,1,.t 37)]),iO 39 (.callb aZ [.t 36,.t 38] [true,true])]
 (sO [iM 40 0,iM 41 5,iO 42 (.build [zI,zI,zI,zI,zI,zS,.s 1 []] [(0,1,.c (.int .i64 8)),(4,1,.t 41)]),iO 43 (.callb aZ [.t 40,.t 42] [true,true])]
 (sO [iM 44 0,iF 45 3 3,iL 46 45,iO 47 (.ixa 4 (.t 46) (kI 2)),iK 48 4 47,iO 49 (.callb d3 [.t 44,.t 48] [true,false])]
 (.ops [iM 50 0,iM 51 6,iO 52 (.build [zI,zI,zI,zI,zI,zS,.s 1 []] [(0,1,.c (.int .i64 8)),(4,1,.t 51)]),iO 53 (.callb aZ [.t 50,.t 52] [true,true])]))))))))))
def lF:SFn:=⟨2,54,lD,[]⟩
def tK:SCode :=
 sO [iO 3 (.vbox 4 (.t 1))]
 (sO [iM 7 0,iO 8 (.callb dB [.t 7] [true]),iM 4 8]
 (sO [iM 9 0,iM 10 4,iO 11 (.build [zI,zI,zI,zI,zI,zS,.s 1 []] [(0,1,.c (.int .i64 8)),(4,1,.t 10)]),iO 12 (.callb aZ [.t 9,.t 11] [true,true])]
 (sO [iM 13 0,iF 14 3 3,iL 15 14,iO 16 (.ixa 4 (.t 15) (kI 0)),iK 17 4 16,iO 18 (.callb fJ [.t 13,.t 17] [true,false]),iM 5 18]
 (sO [iM 19 0,iO 20 (.callb dB [.t 19] [true]),iM 6 20]
 (sO [iM 21 0,iM 22 5,iM 23 6,iO 24 (.build [zI,zI,zI,zI,zI,zS,.s 1 []] [(0,1,.c (.int .i64 10)),(2,1,.t 22),(4,1,.t 23)]),iO 25 (.callb aZ [.t 21,.t 24] [true,true])]
 (sO [iM 26 0,iF 27 3 3,iL 28 27,iO 29 (.ixa 4 (.t 28) (kI 1)),iK 30 4 29,iO 31 (.callb d3 [.t 26,.t 30] [true,false])]
 (sO [iM 32 0,iM 33 4,iO 34 (.build [zI,zI,zI,zI,zI,zS,.s 1 []] [(0,1,.c (.int .i64 9)),(4,1,.t 33)]),iO 35 (.callb aZ [.t 32,.t 34] [true,true])]
 (.ops [iM 36 0,iM 37 6,iO 38 (.build [zI,zI,zI,zI,zI,zS,.s 1 []] [(0,1,.c (.int .i64 8)),(4,1,.t 37)]),iO 39 (.callb aZ [.t 36,.t 38] [true,true])]))))))))
def nV:SFn:=⟨2,40,tK,[]⟩
def cZ:SCode :=
 sO [iV 20 .lss 19 18]
 (.seq (.cond (.t 20) (.skip)
 (.seq (.keep [0,3,4]) (.exit 0)))
 (.seq (.block 1 (sO [iO 21 (.ixa 4 (.t 17) (.t 19)),iK 22 4 21,iO 6 (.alloc [zI,zS,zI,.s 4 []]),iN (.store 4 (.t 6) (.t 22))]
 (sO [iF 23 0 6,iL 24 23]
 (.block 2 (sO [iE 27 .eql 24 32,iM 26 27]
 (.cond (.t 26) (sO [iM 28 0,iF 29 3 6,iL 30 29,iO 31 (.ixa 4 (.t 30) (kI 0)),iK 32 4 31,iO 33 (.callb fJ [.t 28,.t 32] [true,false]),iM 7 33]
 (.ops [iF 34 6 4,iL 35 34,iM 36 7,iO 37 (.lit 1 [.c (.int .i64 1),.t 36,.c (.int .i64 0)]),iO 38 (.app 1 8 (.t 35) (.t 37)),iF 39 6 4,iN (.store 1 (.t 39) (.t 38))]))
 (sO [iE 41 .eql 24 33,iM 40 41]
 (.cond (.t 40) (sO [iM 42 0,iF 43 3 6,iL 44 43,iO 45 (.cutr 4 (.t 44) none (some (kI 2))),iO 46 (.callb gY [.t 42,.t 45] [true,false]),iM 8 46]
 (.opsd [⟨iF 47 6 4,0,[]⟩,⟨iL 48 47,1,[]⟩,⟨iM 49 8,2,[]⟩,⟨iO 50 (.ixa 1 (.t 49) (kI 0)),3,[]⟩,⟨iL 51 50,4,[]⟩,⟨iM 52 8,5,[]⟩,⟨iO 53 (.ixa 1 (.t 52) (kI 1)),6,[]⟩,⟨iL 54 53,7,[]⟩,⟨iO 55 (.lit 1 [.c (.int .i64 2),.t 51,.t 54]),8,[iF 47 6 4,iL 48 47]⟩,⟨iO 56 (.app 1 8 (.t 48) (.t 55)),9,[]⟩,⟨iF 57 6 4,10,[]⟩,⟨iN (.store 1 (.t 57) (.t 56)),11,[]⟩]))
 (.ops [iF 25 4 4,iN (.store 1 (.t 25) (kI 1))])))))))))
 (.ops [iO 58 (.ari .add (.t 19) (kI 1)),iM 19 58])))
def cY:SCode :=
 sO [iV 74 .lss 73 72]
 (.seq (.cond (.t 74) (.skip)
 (.seq (.keep [0,9]) (.exit 3)))
 (.seq (.block 4 (sO [iM 75 73,iO 76 (.ixa 4 (.t 71) (.t 73)),iK 77 4 76,iO 11 (.alloc [zI,zS,zI,.s 4 []]),iM 10 75,iN (.store 4 (.t 11) (.t 77))]
 (sO [iM 78 0,iM 79 10,iO 80 (.build [zI,zI,zI,zI,zI,zS,.s 1 []] [(0,1,.c (.int .i64 1)),(4,1,.t 79)]),iO 81 (.callb bN [.t 78,.t 80] [true,true]),iM 12 81]
 (sO [iM 82 0,iF 83 1 4,iL 84 83,iM 85 12,iO 86 (.build [zI,zI,zI,zI,zI,zS,.s 1 []] [(0,1,.c (.int .i64 7)),(2,1,.t 84),(3,1,.t 85)]),iO 87 (.callb bN [.t 82,.t 86] [true,true]),iM 13 87]
 (sO [iM 88 0,iO 89 (.callb dB [.t 88] [true]),iM 14 89]
 (sO [iM 90 0,iM 91 13,iM 92 14,iO 93 (.build [zI,zI,zI,zI,zI,zS,.s 1 []] [(0,1,.c (.int .i64 10)),(2,1,.t 91),(4,1,.t 92)]),iO 94 (.callb aZ [.t 90,.t 93] [true,true])]
 (.seq (sO [iF 95 0 11,iL 96 95,iE 97 .eql 96 32]
 (.cond (.t 97) (.ops [iM 98 0,iF 99 1 11,iL 100 99,iF 101 3 4,iL 102 101,iO 103 (.callb fU [.t 98,.t 100,.t 102] [true,false,false])])
 (.skip)))
 (sO [iM 104 0,iF 105 3 11,iL 106 105,iF 107 3 11,iL 108 107,iO 109 (.len (.t 108)),iO 110 (.ari .sub (.t 109) (kI 1)),iO 111 (.ixa 4 (.t 106) (.t 110)),iK 112 4 111,iO 113 (.callb d3 [.t 104,.t 112] [true,false])]
 (sO [iM 114 0,iM 115 9,iO 116 (.build [zI,zI,zI,zI,zI,zS,.s 1 []] [(0,1,.c (.int .i64 9)),(4,1,.t 115)]),iO 117 (.callb aZ [.t 114,.t 116] [true,true])]
 (.ops [iM 118 0,iM 119 14,iO 120 (.build [zI,zI,zI,zI,zI,zS,.s 1 []] [(0,1,.c (.int .i64 8)),(4,1,.t 119)]),iO 121 (.callb aZ [.t 118,.t 120] [true,true])]))))))))))
 (.ops [iO 122 (.ari .add (.t 73) (kI 1)),iM 73 122])))
def qF:SCode :=
 sO [iO 3 (.vbox 4 (.t 1))]
 (sO [iO 15 (.build [zI,zI,zI,zI,zI,zS,.s 1 []] [(0,1,.c (.int .i64 19))]),iO 4 (.alloc [zI,zI,zI,zI,zI,zS,.s 1 []]),iN (.store 7 (.t 4) (.t 15))]
 (.seq (sO [iF 16 3 3,iL 17 16,iO 18 (.len (.t 17)),iO 19 (.mov (kI 0))]
 (.block 0 (.loop [0,3,4,17,18,19] cZ)))
 (sO [iM 59 0,iO 60 (.callb jQ [.t 59] [true]),iF 61 1 4,iN (.store 1 (.t 61) (.t 60))]
 (sO [iM 62 0,iO 63 (.callb jQ [.t 62] [true]),iF 64 3 4,iN (.store 1 (.t 64) (.t 63))]
 (sO [iM 65 0,iK 66 7 4,iO 67 (.callb aZ [.t 65,.t 66] [true,true])]
 (sO [iM 68 0,iO 69 (.callb dB [.t 68] [true]),iM 9 69]
 (.seq (sO [iF 70 3 3,iL 71 70,iO 72 (.len (.t 71)),iO 73 (.mov (kI 0))]
 (.block 3 (.loop [0,4,9,71,72,73] cY)))
 (.ops [iM 123 0,iM 124 9,iO 125 (.build [zI,zI,zI,zI,zI,zS,.s 1 []] [(0,1,.c (.int .i64 8)),(4,1,.t 124)]),iO 126 (.callb aZ [.t 123,.t 125] [true,true])]))))))))
def lA:SFn:=⟨2,127,qF,[]⟩
def gF:SCode :=
 sO [iV 13 .lss 12 11]
 (.seq (.cond (.t 13) (.skip)
 (.seq (.keep [5]) (.exit 0)))
 (.seq (.block 1 (sO [iO 14 (.ixa 4 (.t 10) (.t 12)),iK 15 4 14,iO 7 (.alloc [zI,zS,zI,.s 4 []]),iN (.store 4 (.t 7) (.t 15))]
 (sO [iM 16 0,iK 17 4 7,iO 18 (.callb fJ [.t 16,.t 17] [true,false]),iM 8 18]
 (.ops [iM 19 5,iM 20 8,iO 21 (.lit 1 [.t 20]),iO 22 (.app 1 8 (.t 19) (.t 21)),iM 5 22]))))
 (.ops [iO 23 (.ari .add (.t 12) (kI 1)),iM 12 23])))
def rI:SCode :=
 sO [iO 4 (.mov (.n 1))]
 (sO [iO 9 (.lit 1 []),iM 5 9]
 (.seq (sO [iM 10 1,iO 11 (.len (.t 10)),iO 12 (.mov (kI 0))]
 (.block 0 (.loop [0,5,10,11,12] gF)))
 (sO [iM 24 5,iM 4 24]
 (.ret))))
def l6:SFn:=⟨2,25,rI,[.t 4]⟩
def qG:SCode :=
 .ops [iM 6 0,iM 7 0,iO 8 (.nck (.t 7)),iF 9 0 8,iL 10 9,iM 11 1,iO 12 (.callr kH [.t 10,.t 11]),iM 13 2,iO 14 (.build [zI,zI,zI,zI,zI,zS,.s 1 []] [(0,1,.c (.int .i64 2)),(1,1,.t 12),(2,1,.t 13)]),iO 15 (.callb aZ [.t 6,.t 14] [true,true])]
def lC:SFn:=⟨3,16,qG,[]⟩
def G2:SCode :=
 sO [iO 2 (.mov (kI 0))]
 (.seq (sO [iM 3 0]
 (.block 0 (sO [iE 5 .eql 3 6,iM 4 5]
 (.cond (.t 4) (sO [iO 2 (.mov (kI 13))]
 (.ret))
 (sO [iE 7 .eql 3 7,iM 6 7]
 (.cond (.t 6) (sO [iO 2 (.mov (kI 12))]
 (.ret))
 (sO [iE 9 .eql 3 9,iM 8 9]
 (.cond (.t 8) (sO [iO 2 (.mov (kI 16))]
 (.ret))
 (sO [iE 11 .eql 3 11,iM 10 11]
 (.cond (.t 10) (sO [iO 2 (.mov (kI 18))]
 (.ret))
 (sO [iE 13 .eql 3 13,iM 12 13]
 (.cond (.t 12) (sO [iO 2 (.mov (kI 21))]
 (.ret))
 (sO [iE 15 .eql 3 14,iM 14 15]
 (.cond (.t 14) (sO [iO 2 (.mov (kI 26))]
 (.ret))
 (sO [iE 17 .eql 3 15,iM 16 17]
 (.cond (.t 16) (sO [iO 2 (.mov (kI 27))]
 (.ret))
 (sO [iE 19 .eql 3 16,iM 18 19]
 (.cond (.t 18) (sO [iO 2 (.mov (kI 28))]
 (.ret))
 (sO [iE 21 .eql 3 17,iM 20 21]
 (.cond (.t 20) (sO [iO 2 (.mov (kI 25))]
 (.ret))
 (.skip)))))))))))))))))))))
 (sO [iO 2 (.mov (kI 0))]
 (.ret)))
def vI:SFn:=⟨1,22,G2,[.t 2]⟩
def eH:SCode :=
 sO [iV 9 .lss 8 7]
 (.seq (.cond (.t 9) (.skip)
 (.seq (.keep []) (.exit 0)))
 (.seq (.block 1 (sO [iM 10 8,iM 5 10]
 (sO [iM 11 1,iM 12 0,iM 13 5,iO 14 (.ixa 1 (.t 12) (.t 13)),iL 15 14,iV 16 .eql 11 15]
 (.cond (.t 16) (sO [iM 17 5,iM 4 17]
 (.seq (.keep [4]) .ret))
 (.skip)))))
 (.ops [iO 18 (.ari .add (.t 8) (kI 1)),iM 8 18])))
def nY:SCode :=
 sO [iO 4 (.mov (kI 0))]
 (.seq (sO [iM 6 0,iO 7 (.len (.t 6)),iO 8 (.mov (kI 0))]
 (.block 0 (.loop [0,1,7,8] eH)))
 (sO [iO 4 (.mov (kI (-1)))]
 (.ret)))
def iZ:SFn:=⟨2,19,nY,[.t 4]⟩
def mY:SCode :=
 .seq (sO [iM 4 3,iF 5 3 1,iL 6 5,iO 7 (.len (.t 6)),iV 8 .lss 4 7]
 (.cond (.t 8) (.skip)
 (.seq (.keep []) (.exit 0))))
 (.seq (.block 1 (sO [iF 11 3 1,iL 12 11,iM 13 3,iO 14 (.ixa 4 (.t 12) (.t 13)),iF 15 0 14,iL 16 15,iO 17 (.callr cH [.t 16,.c (.int .i64 2),.c (.int .i64 18)]),iO 18 (.not (.t 17)),iM 19 18,iU 20 19 (.faddr 3 (.t 1)),iU 21 19 (.load none (.t 20)),iU 22 19 (.mov (.t 3)),iU 23 19 (.ixa 4 (.t 21) (.t 22)),iU 24 19 (.load (some 4) (.t 23)),iU 25 19 (.callr cN [.t 24]),iU 26 19 (.not (.t 25)),iO 27 (.pick (.t 19) (kB true) (.t 26))]
 (.cond (.t 27) (sO [iO 2 (.mov (kB false))]
 (.seq (.keep [2]) .ret))
 (.skip))))
 (.ops [iM 9 3,iO 10 (.ari .add (.t 9) (kI 1)),iM 3 10]))
def Fu:SCode :=
 sO [iO 1 (.vbox 4 (.t 0)),iO 2 (.mov (kB false))]
 (.seq (sO [iO 3 (.mov (kI 0))]
 (.block 0 (.loop [1,3] mY)))
 (sO [iO 2 (.mov (kB true))]
 (.ret)))
def wG:SFn:=⟨1,28,Fu,[.t 2]⟩
def jR:SCode :=
 .seq (sO [iM 11 5,iM 12 1,iV 13 .lss 11 12]
 (.cond (.t 13) (.skip)
 (.seq (.keep []) (.exit 0))))
 (.seq (.block 1 (sO [iF 16 3 2,iL 17 16,iM 18 5,iO 19 (.ixa 4 (.t 17) (.t 18)),iF 20 0 19,iL 21 20,iO 22 (.callr nZ [.t 21]),iO 23 (.not (.t 22)),iM 24 23,iU 25 24 (.faddr 3 (.t 2)),iU 26 24 (.load none (.t 25)),iU 27 24 (.mov (.t 5)),iU 28 24 (.ixa 4 (.t 26) (.t 27)),iU 29 24 (.load (some 4) (.t 28)),iU 30 24 (.callr cN [.t 29]),iU 31 24 (.not (.t 30)),iO 32 (.pick (.t 24) (kB true) (.t 31))]
 (.cond (.t 32) (sO [iO 4 (.mov (kB false))]
 (.seq (.keep [4]) .ret))
 (.skip))))
 (.ops [iM 14 5,iO 15 (.ari .add (.t 14) (kI 1)),iM 5 15]))
def Fs:SCode :=
 sO [iO 2 (.vbox 4 (.t 0)),iO 4 (.mov (kB false))]
 (.seq (sO [iF 6 3 2,iL 7 6,iO 8 (.len (.t 7)),iM 9 1,iV 10 .lss 8 9]
 (.cond (.t 10) (sO [iO 4 (.mov (kB false))]
 (.ret))
 (.skip)))
 (.seq (sO [iO 5 (.mov (kI 0))]
 (.block 0 (.loop [1,2,5] jR)))
 (sO [iO 4 (.mov (kB true))]
 (.ret))))
def uS:SFn:=⟨2,33,Fs,[.t 4]⟩
def lU:SCode :=
 .seq (sO [iM 7 5,iF 8 3 2,iL 9 8,iO 10 (.len (.t 9)),iV 11 .lss 7 10]
 (.cond (.t 11) (.skip)
 (.seq (.keep []) (.exit 0))))
 (.seq (.block 1 (sO [iF 14 3 2,iL 15 14,iM 16 5,iO 17 (.ixa 4 (.t 15) (.t 16)),iF 18 0 17,iL 19 18,iE 20 .neq 19 1,iM 21 20,iU 22 21 (.faddr 3 (.t 2)),iU 23 21 (.load none (.t 22)),iU 24 21 (.mov (.t 5)),iU 25 21 (.ixa 4 (.t 23) (.t 24)),iU 26 21 (.load (some 4) (.t 25)),iU 27 21 (.callr cN [.t 26]),iU 28 21 (.not (.t 27)),iO 29 (.pick (.t 21) (kB true) (.t 28))]
 (.cond (.t 29) (sO [iO 4 (.mov (kB false))]
 (.seq (.keep [4]) .ret))
 (.skip))))
 (.ops [iM 12 5,iO 13 (.ari .add (.t 12) (kI 1)),iM 5 13]))
def C2:SCode :=
 sO [iO 2 (.vbox 4 (.t 0)),iO 4 (.mov (kB false))]
 (.seq (sO [iM 6 1,iM 5 6]
 (.block 0 (.loop [2,5] lU)))
 (sO [iO 4 (.mov (kB true))]
 (.ret)))
def tA:SFn:=⟨2,30,C2,[.t 4]⟩
def m9:SCode :=
 .seq (sO [iM 5 3,iF 6 3 1,iL 7 6,iO 8 (.len (.t 7)),iV 9 .lss 5 8]
 (.cond (.t 9) (.skip)
 (.seq (.keep []) (.exit 0))))
 (.seq (.block 1 (sO [iF 12 3 1,iL 13 12,iM 14 3,iO 15 (.ixa 4 (.t 13) (.t 14)),iK 16 4 15,iO 4 (.alloc [zI,zS,zI,.s 4 []]),iN (.store 4 (.t 4) (.t 16))]
 (sO [iF 17 0 4,iL 18 17,iO 19 (.callr cH [.t 18,.c (.int .i64 32),.c (.int .i64 34)]),iO 20 (.not (.t 19)),iM 21 20,iU 22 21 (.faddr 0 (.t 4)),iU 23 21 (.load none (.t 22)),iU 24 21 (.cmp .eql (.t 23) (kI 34)),iU 25 21 (.mov (.t 24)),iT 26 25 (.mov (.t 3)),iT 27 25 (.faddr 3 (.t 1)),iT 28 25 (.load none (.t 27)),iT 29 25 (.len (.t 28)),iT 30 25 (.ari .sub (.t 29) (kI 1)),iT 31 25 (.cmp .lss (.t 26) (.t 30)),iU 32 21 (.pick (.t 25) (.t 31) (kB false)),iO 33 (.pick (.t 21) (kB true) (.t 32)),iM 34 33,iU 35 34 (.load (some 4) (.t 4)),iU 36 34 (.callr cN [.t 35]),iU 37 34 (.not (.t 36)),iO 38 (.pick (.t 34) (kB true) (.t 37))]
 (.cond (.t 38) (sO [iO 2 (.mov (kB false))]
 (.seq (.keep [2]) .ret))
 (.skip)))))
 (.ops [iM 10 3,iO 11 (.ari .add (.t 10) (kI 1)),iM 3 11]))
def Em:SCode :=
 sO [iO 1 (.vbox 4 (.t 0)),iO 2 (.mov (kB false))]
 (.seq (sO [iO 3 (.mov (kI 0))]
 (.block 0 (.loop [1,3] m9)))
 (sO [iO 2 (.mov (kB true))]
 (.ret)))
def u6:SFn:=⟨1,39,Em,[.t 2]⟩
def w8:SCode :=
 sO [iO 2 (.vbox 4 (.t 0)),iO 3 (.mov (kB false))]
 (sO [iL 4 1,iK 5 4 2,iO 6 (.calli (.t 4) [.t 5]),iO 7 (.not (.t 6)),iM 3 7]
 (.ret))
def pU:SFn:=⟨2,8,w8,[.t 3]⟩
def Ds:SCode :=
 sO [iO 1 (.vbox 4 (.t 0)),iO 2 (.mov (kB false))]
 (sO [iF 5 1 1,iL 6 5,iO 7 (.cmp .eql (.t 6) (.c (.string ⟨#[]⟩))),iM 3 7,iO 4 (.mov (kI 0))]
 (.seq (sO [iF 8 0 1,iL 9 8]
 (.block 0 (sO [iE 11 .eql 9 32,iM 10 11]
 (.cond (.t 10) (.ops [iF 12 1 1,iL 13 12,iO 14 (.callr iQ [.t 13]),iM 3 14,iO 4 (.mov (kI 1))])
 (sO [iE 16 .eql 9 33,iM 15 16]
 (.cond (.t 15) (.ops [iO 4 (.mov (kI 2))])
 (sO [iE 18 .eql 9 34,iM 17 18]
 (.cond (.t 17) (.skip)
 (sO [iO 2 (.mov (kB false))]
 (.ret))))))))))
 (sO [iM 19 3,iM 20 19,iT 21 20 (.faddr 2 (.t 1)),iT 22 20 (.load none (.t 21)),iT 23 20 (.cmp .eql (.t 22) (kI 0)),iO 24 (.pick (.t 20) (.t 23) (kB false)),iM 25 24,iT 26 25 (.faddr 3 (.t 1)),iT 27 25 (.load none (.t 26)),iT 28 25 (.len (.t 27)),iT 29 25 (.mov (.t 4)),iT 30 25 (.ari .add (.t 29) (kI 1)),iT 31 25 (.cmp .eql (.t 28) (.t 30)),iO 32 (.pick (.t 25) (.t 31) (kB false)),iM 33 32,iT 34 33 (.faddr 3 (.t 1)),iT 35 33 (.load none (.t 34)),iT 36 33 (.mov (.t 4)),iT 37 33 (.cutr 4 (.t 35) none (some (.t 36))),iT 38 33 (.calli (.f eC) [.t 37,.f gL]),iO 39 (.pick (.t 33) (.t 38) (kB false)),iM 40 39,iT 41 40 (.faddr 3 (.t 1)),iT 42 40 (.load none (.t 41)),iT 43 40 (.mov (.t 4)),iT 44 40 (.ixa 4 (.t 42) (.t 43)),iT 45 40 (.load (some 4) (.t 44)),iT 46 40 (.callr dT [.t 45]),iO 47 (.pick (.t 40) (.t 46) (kB false)),iM 2 47]
 (.ret))))
def sB:SFn:=⟨1,48,Ds,[.t 2]⟩
def Do:SCode :=
 sO [iO 1 (.vbox 4 (.t 0)),iO 2 (.mov (kB false))]
 (sO [iF 6 1 1,iL 7 6,iO 8 (.cmp .eql (.t 7) (.c (.string ⟨#[]⟩))),iO 3 (.mov (kI (-1))),iM 4 8]
 (sO [iF 9 2 1,iL 10 9,iE 11 .eql 10 0,iM 5 11]
 (.seq (sO [iF 12 0 1,iL 13 12]
 (.block 0 (sO [iE 15 .eql 13 19,iM 14 15]
 (.cond (.t 14) (.ops [iF 16 2 1,iL 17 16,iO 18 (.callr cM [.t 17,.c (.int .i64 (-2147483647)),.c (.int .i64 2147483647)]),iO 3 (.mov (kI 0)),iM 5 18])
 (.seq (sO [iE 20 .eql 13 20,iM 19 20]
 (.cond (.t 19) (.skip)
 (.ops [iE 21 .eql 13 31,iM 19 21])))
 (.cond (.t 19) (.ops [iF 22 1 1,iL 23 22,iO 24 (.callr iQ [.t 23]),iO 3 (.mov (kI 0)),iM 4 24])
 (.seq (sO [iE 26 .eql 13 21,iM 25 26]
 (.cond (.t 25) (.skip)
 (sO [iE 27 .eql 13 22,iM 25 27]
 (.cond (.t 25) (.skip)
 (sO [iE 28 .eql 13 23,iM 25 28]
 (.cond (.t 25) (.skip)
 (sO [iE 29 .eql 13 24,iM 25 29]
 (.cond (.t 25) (.skip)
 (.ops [iE 30 .eql 13 25,iM 25 30])))))))))
 (.cond (.t 25) (.ops [iO 3 (.mov (kI 2))])
 (sO [iE 32 .eql 13 26,iM 31 32]
 (.cond (.t 31) (.ops [iF 33 3 1,iL 34 33,iO 35 (.len (.t 34)),iF 36 1 1,iL 37 36,iO 38 (.callr iQ [.t 37]),iM 3 35,iM 4 38])
 (.seq (sO [iE 40 .eql 13 27,iM 39 40]
 (.cond (.t 39) (.skip)
 (.ops [iE 41 .eql 13 28,iM 39 41])))
 (.cond (.t 39) (.ops [iO 3 (.mov (kI 1))])
 (sO [iE 43 .eql 13 29,iM 42 43]
 (.cond (.t 42) (.ops [iO 3 (.mov (kI 3))])
 (sO [iE 45 .eql 13 30,iM 44 45]
 (.cond (.t 44) (.ops [iO 3 (.mov (kI 0))])
 (.skip)))))))))))))))))
 (sO [iM 46 4,iM 47 46,iT 48 47 (.mov (.t 5)),iO 49 (.pick (.t 47) (.t 48) (kB false)),iM 50 49,iT 51 50 (.faddr 3 (.t 1)),iT 52 50 (.load none (.t 51)),iT 53 50 (.len (.t 52)),iT 54 50 (.mov (.t 3)),iT 55 50 (.cmp .eql (.t 53) (.t 54)),iO 56 (.pick (.t 50) (.t 55) (kB false)),iM 57 56,iT 58 57 (.faddr 3 (.t 1)),iT 59 57 (.load none (.t 58)),iT 60 57 (.calli (.f eC) [.t 59,.f gL]),iO 61 (.pick (.t 57) (.t 60) (kB false)),iM 2 61]
 (.ret)))))
def tD:SFn:=⟨1,62,Do,[.t 2]⟩
def bV:SCode :=
 sO [iV 9 .lss 8 7]
 (.seq (.cond (.t 9) (.skip)
 (.seq (.keep []) (.exit 0)))
 (.seq (.block 1 (sO [iM 10 8,iM 5 10]
 (sO [iM 11 1,iM 12 0,iM 13 5,iO 14 (.ixa 4 (.t 12) (.t 13)),iK 15 4 14,iO 16 (.calli (.t 11) [.t 15])]
 (.cond (.t 16) (sO [iM 17 5,iM 4 17]
 (.seq (.keep [4]) .ret))
 (.skip)))))
 (.ops [iO 18 (.ari .add (.t 8) (kI 1)),iM 8 18])))
def fI:SCode :=
 sO [iO 4 (.mov (kI 0))]
 (.seq (sO [iM 6 0,iO 7 (.len (.t 6)),iO 8 (.mov (kI 0))]
 (.block 0 (.loop [0,1,7,8] bV)))
 (sO [iO 4 (.mov (kI (-1)))]
 (.ret)))
def dD:SFn:=⟨2,19,fI,[.t 4]⟩
def dI:SCode :=
 sO [iV 9 .lss 8 7]
 (.seq (.cond (.t 9) (.skip)
 (.seq (.keep []) (.exit 0)))
 (.seq (.block 1 (sO [iM 10 8,iM 5 10]
 (sO [iM 11 1,iM 12 0,iM 13 5,iO 14 (.ixa 1 (.t 12) (.t 13)),iL 15 14,iV 16 .eql 11 15]
 (.cond (.t 16) (sO [iM 17 5,iM 4 17]
 (.seq (.keep [4]) .ret))
 (.skip)))))
 (.ops [iO 18 (.ari .add (.t 8) (kI 1)),iM 8 18])))
def kS:SCode :=
 sO [iO 4 (.mov (kI 0))]
 (.seq (sO [iM 6 0,iO 7 (.len (.t 6)),iO 8 (.mov (kI 0))]
 (.block 0 (.loop [0,1,7,8] dI)))
 (sO [iO 4 (.mov (kI (-1)))]
 (.ret)))
def fP:SFn:=⟨2,19,kS,[.t 4]⟩
def Cs:SCode :=
 sO [iO 3 (.vbox 4 (.t 1))]
 (sO [iM 7 0,iF 8 3 3,iL 9 8,iO 10 (.ixa 4 (.t 9) (kI 0)),iK 11 4 10,iO 12 (.callb cX [.t 7,.t 11] [true,false]),iM 4 12]
 (sO [iM 13 0,iO 14 (.callb gN [.t 13] [true]),iM 5 14]
 (sO [iM 15 0,iM 16 4,iM 17 5,iO 18 (.build [zI,zI,zI,zI,zI,zS,.s 1 []] [(0,1,.c (.int .i64 10)),(2,1,.t 16),(4,1,.t 17)]),iO 19 (.callb bT [.t 15,.t 18] [true,true])]
 (sO [iM 20 0,iF 21 3 3,iL 22 21,iO 23 (.ixa 4 (.t 22) (kI 1)),iK 24 4 23,iO 25 (.callb i6 [.t 20,.t 24] [true,false])]
 (.seq (sO [iF 26 3 3,iL 27 26,iO 28 (.len (.t 27)),iE 29 .eql 28 2]
 (.cond (.t 29) (sO [iM 30 0,iM 31 5,iO 32 (.callb gE [.t 30,.t 31] [true,false])]
 (.ret))
 (.skip)))
 (sO [iM 33 0,iO 34 (.callb gN [.t 33] [true]),iM 6 34]
 (sO [iM 35 0,iM 36 6,iO 37 (.build [zI,zI,zI,zI,zI,zS,.s 1 []] [(0,1,.c (.int .i64 9)),(4,1,.t 36)]),iO 38 (.callb bT [.t 35,.t 37] [true,true])]
 (sO [iM 39 0,iM 40 5,iO 41 (.callb gE [.t 39,.t 40] [true,false])]
 (sO [iM 42 0,iF 43 3 3,iL 44 43,iO 45 (.ixa 4 (.t 44) (kI 2)),iK 46 4 45,iO 47 (.callb i6 [.t 42,.t 46] [true,false])]
 (.ops [iM 48 0,iM 49 6,iO 50 (.callb gE [.t 48,.t 49] [true,false])]))))))))))
def B3:SFn:=⟨2,51,Cs,[]⟩
def Dz:SCode :=
 sO [iO 3 (.vbox 4 (.t 1))]
 (sO [iM 7 0,iO 8 (.callb gN [.t 7] [true]),iM 4 8]
 (sO [iM 9 0,iO 10 (.callb gN [.t 9] [true]),iM 5 10]
 (sO [iM 11 0,iM 12 4,iO 13 (.callb gE [.t 11,.t 12] [true,false])]
 (sO [iM 14 0,iF 15 3 3,iL 16 15,iO 17 (.ixa 4 (.t 16) (kI 0)),iK 18 4 17,iO 19 (.callb cX [.t 14,.t 18] [true,false]),iM 6 19]
 (sO [iM 20 0,iM 21 6,iM 22 5,iO 23 (.build [zI,zI,zI,zI,zI,zS,.s 1 []] [(0,1,.c (.int .i64 10)),(2,1,.t 21),(4,1,.t 22)]),iO 24 (.callb bT [.t 20,.t 23] [true,true])]
 (sO [iM 25 0,iF 26 3 3,iL 27 26,iO 28 (.ixa 4 (.t 27) (kI 1)),iK 29 4 28,iO 30 (.callb i6 [.t 25,.t 29] [true,false])]
 (sO [iM 31 0,iM 32 4,iO 33 (.build [zI,zI,zI,zI,zI,zS,.s 1 []] [(0,1,.c (.int .i64 9)),(4,1,.t 32)]),iO 34 (.callb bT [.t 31,.t 33] [true,true])]
 (.ops [iM 35 0,iM 36 5,iO 37 (.callb gE [.t 35,.t 36] [true,false])]))))))))
def sA:SFn:=⟨2,38,Dz,[]⟩
def eY:SCode :=
 .seq (sO [iM 16 5,iF 17 3 3,iL 18 17,iO 19 (.len (.t 18)),iV 20 .lss 16 19]
 (.cond (.t 20) (.skip)
 (.seq (.keep [0,3,4]) (.exit 0))))
 (.seq (.block 1 (sO [iF 23 3 3,iL 24 23,iM 25 5,iO 26 (.ixa 4 (.t 24) (.t 25)),iK 27 4 26,iO 6 (.alloc [zI,zS,zI,.s 4 []]),iN (.store 4 (.t 6) (.t 27))]
 (sO [iF 28 0 6,iL 29 28]
 (.block 2 (sO [iE 32 .eql 29 32,iM 31 32]
 (.cond (.t 31) (.opsd [⟨iF 33 6 4,0,[]⟩,⟨iL 34 33,1,[]⟩,⟨iM 35 0,2,[]⟩,⟨iF 36 3 6,3,[]⟩,⟨iL 37 36,4,[]⟩,⟨iO 38 (.ixa 4 (.t 37) (kI 0)),5,[]⟩,⟨iK 39 4 38,6,[]⟩,⟨iO 40 (.callb cX [.t 35,.t 39] [true,false]),7,[iF 33 6 4,iL 34 33]⟩,⟨iO 41 (.lit 1 [.c (.int .i64 1),.t 40,.c (.int .i64 0)]),8,[iF 33 6 4,iL 34 33]⟩,⟨iO 42 (.app 1 8 (.t 34) (.t 41)),9,[]⟩,⟨iF 43 6 4,10,[]⟩,⟨iN (.store 1 (.t 43) (.t 42)),11,[]⟩])
 (sO [iE 45 .eql 29 33,iM 44 45]
 (.cond (.t 44) (sO [iM 46 0,iF 47 3 6,iL 48 47,iO 49 (.ixa 4 (.t 48) (kI 0)),iK 50 4 49,iO 51 (.callb cX [.t 46,.t 50] [true,false]),iM 7 51]
 (sO [iM 52 0,iF 53 3 6,iL 54 53,iO 55 (.ixa 4 (.t 54) (kI 1)),iK 56 4 55,iO 57 (.callb cX [.t 52,.t 56] [true,false]),iM 8 57]
 (.ops [iF 58 6 4,iL 59 58,iM 60 7,iM 61 8,iO 62 (.lit 1 [.c (.int .i64 2),.t 60,.t 61]),iO 63 (.app 1 8 (.t 59) (.t 62)),iF 64 6 4,iN (.store 1 (.t 64) (.t 63))])))
 (.ops [iF 30 4 4,iN (.store 1 (.t 30) (kI 1))])))))))))
 (.ops [iM 21 5,iO 22 (.ari .add (.t 21) (kI 1)),iM 5 22]))
def e9:SCode :=
 .seq (sO [iM 76 10,iF 77 3 3,iL 78 77,iO 79 (.len (.t 78)),iV 80 .lss 76 79]
 (.cond (.t 80) (.skip)
 (.seq (.keep [0,9]) (.exit 3))))
 (.seq (.block 4 (sO [iF 83 3 3,iL 84 83,iM 85 10,iO 86 (.ixa 4 (.t 84) (.t 85)),iK 87 4 86,iO 11 (.alloc [zI,zS,zI,.s 4 []]),iN (.store 4 (.t 11) (.t 87))]
 (sO [iM 88 0,iM 89 10,iO 90 (.callb rZ [.t 88,.t 89] [true,false]),iM 12 90]
 (sO [iM 91 0,iO 92 (.callb j4 [.t 91] [true]),iM 13 92]
 (sO [iM 93 0,iM 94 13,iF 95 1 4,iL 96 95,iM 97 12,iO 98 (.build [zI,zI,zI,zI,zI,zS,.s 1 []] [(0,1,.c (.int .i64 7)),(1,1,.t 94),(2,1,.t 96),(3,1,.t 97)]),iO 99 (.callb bT [.t 93,.t 98] [true,true])]
 (sO [iM 100 0,iO 101 (.callb gN [.t 100] [true]),iM 14 101]
 (sO [iM 102 0,iM 103 13,iM 104 14,iO 105 (.build [zI,zI,zI,zI,zI,zS,.s 1 []] [(0,1,.c (.int .i64 10)),(2,1,.t 103),(4,1,.t 104)]),iO 106 (.callb bT [.t 102,.t 105] [true,true])]
 (.seq (sO [iF 107 0 11,iL 108 107,iE 109 .eql 108 32]
 (.cond (.t 109) (.ops [iM 110 0,iF 111 1 11,iL 112 111,iF 113 3 4,iL 114 113,iO 115 (.callb pW [.t 110,.t 112,.t 114] [true,false,false])])
 (.skip)))
 (sO [iM 116 0,iF 117 3 11,iL 118 117,iF 119 3 11,iL 120 119,iO 121 (.len (.t 120)),iO 122 (.ari .sub (.t 121) (kI 1)),iO 123 (.ixa 4 (.t 118) (.t 122)),iK 124 4 123,iO 125 (.callb i6 [.t 116,.t 124] [true,false])]
 (sO [iM 126 0,iM 127 9,iO 128 (.build [zI,zI,zI,zI,zI,zS,.s 1 []] [(0,1,.c (.int .i64 9)),(4,1,.t 127)]),iO 129 (.callb bT [.t 126,.t 128] [true,true])]
 (.ops [iM 130 0,iM 131 14,iO 132 (.callb gE [.t 130,.t 131] [true,false])])))))))))))
 (.ops [iM 81 10,iO 82 (.ari .add (.t 81) (kI 1)),iM 10 82]))
def Ak:SCode :=
 sO [iO 3 (.vbox 4 (.t 1))]
 (sO [iO 15 (.build [zI,zI,zI,zI,zI,zS,.s 1 []] [(0,1,.c (.int .i64 19))]),iO 4 (.alloc [zI,zI,zI,zI,zI,zS,.s 1 []]),iN (.store 7 (.t 4) (.t 15))]
 (.seq (sO [iO 5 (.mov (kI 0))]
 (.block 0 (.loop [0,3,4,5] eY)))
 (sO [iM 65 0,iO 66 (.callb j4 [.t 65] [true]),iF 67 1 4,iN (.store 1 (.t 67) (.t 66))]
 (sO [iM 68 0,iO 69 (.callb j4 [.t 68] [true]),iF 70 3 4,iN (.store 1 (.t 70) (.t 69))]
 (sO [iM 71 0,iK 72 7 4,iO 73 (.callb bT [.t 71,.t 72] [true,true])]
 (sO [iM 74 0,iO 75 (.callb gN [.t 74] [true]),iM 9 75]
 (.seq (sO [iO 10 (.mov (kI 0))]
 (.block 3 (.loop [0,3,4,9,10] e9)))
 (.ops [iM 133 0,iM 134 9,iO 135 (.callb gE [.t 133,.t 134] [true,false])]))))))))
def qN:SFn:=⟨2,136,Ak,[]⟩
def pO:SCode :=
 sO [iO 3 (.vbox 4 (.t 1)),iO 4 (.mov (kI 0))]
 (.seq (sO [iF 8 0 3,iL 9 8,iE 10 .eql 9 20]
 (.cond (.t 10) (sO [iM 11 0,iO 12 (.nck (.t 11)),iF 13 4 12,iL 14 13,iF 15 1 3,iL 16 15,iO 17 (.callr iI [.t 14,.t 16]),iM 4 17]
 (.ret))
 (.skip)))
 (.seq (sO [iF 18 0 3,iL 19 18,iE 20 .eql 19 19]
 (.cond (.t 20) (sO [iM 21 0,iF 22 2 3,iL 23 22,iO 24 (.callb rZ [.t 21,.t 23] [true,false]),iM 4 24]
 (.ret))
 (.skip)))
 (sO [iM 25 0,iF 26 3 3,iL 27 26,iO 28 (.callb q7 [.t 25,.t 27] [true,false]),iM 5 28]
 (sO [iM 29 0,iO 30 (.callb j4 [.t 29] [true]),iM 6 30]
 (sO [iM 31 6,iO 32 (.build [zI,zI,zI,zI,zI,zS,.s 1 []] [(1,1,.t 31)]),iO 7 (.alloc [zI,zI,zI,zI,zI,zS,.s 1 []]),iN (.store 7 (.t 7) (.t 32))]
 (.seq (sO [iF 33 0 3,iL 34 33]
 (.block 0 (sO [iE 49 .eql 34 26,iM 48 49]
 (.cond (.t 48) (sO [iF 50 0 7,iN (.store 1 (.t 50) (kI 11))]
 (sO [iF 51 1 3,iL 52 51,iF 53 5 7,iN (.store 1 (.t 53) (.t 52))]
 (.ops [iM 54 5,iF 55 6 7,iN (.store 1 (.t 55) (.t 54))])))
 (sO [iE 57 .eql 34 27,iM 56 57]
 (.cond (.t 56) (sO [iF 58 0 7,iN (.store 1 (.t 58) (kI 15))]
 (.ops [iM 59 5,iO 60 (.ixa 1 (.t 59) (kI 0)),iL 61 60,iF 62 2 7,iN (.store 1 (.t 62) (.t 61))]))
 (sO [iE 64 .eql 34 28,iM 63 64]
 (.cond (.t 63) (sO [iF 65 0 7,iN (.store 1 (.t 65) (kI 20))]
 (.ops [iM 66 5,iO 67 (.ixa 1 (.t 66) (kI 0)),iL 68 67,iF 69 2 7,iN (.store 1 (.t 69) (.t 68))]))
 (sO [iE 71 .eql 34 29,iM 70 71]
 (.cond (.t 70) (sO [iF 72 0 7,iN (.store 1 (.t 72) (kI 22))]
 (sO [iM 73 5,iO 74 (.ixa 1 (.t 73) (kI 0)),iL 75 74,iF 76 2 7,iN (.store 1 (.t 76) (.t 75))]
 (sO [iM 77 5,iO 78 (.ixa 1 (.t 77) (kI 1)),iL 79 78,iF 80 3 7,iN (.store 1 (.t 80) (.t 79))]
 (.ops [iM 81 5,iO 82 (.ixa 1 (.t 81) (kI 2)),iL 83 82,iO 84 (.lit 1 [.t 83]),iF 85 6 7,iN (.store 1 (.t 85) (.t 84))]))))
 (sO [iE 87 .eql 34 30,iM 86 87]
 (.cond (.t 86) (.ops [iF 88 0 7,iN (.store 1 (.t 88) (kI 23))])
 (sO [iE 90 .eql 34 31,iM 89 90]
 (.cond (.t 89) (sO [iF 91 0 7,iN (.store 1 (.t 91) (kI 24))]
 (.ops [iF 92 1 3,iL 93 92,iF 94 5 7,iN (.store 1 (.t 94) (.t 93))]))
 (sO [iF 35 0 3,iL 36 35,iO 37 (.ari .add (kI 3) (.t 36)),iO 38 (.ari .sub (.t 37) (kI 21)),iF 39 0 7,iN (.store 1 (.t 39) (.t 38))]
 (sO [iM 40 5,iO 41 (.ixa 1 (.t 40) (kI 0)),iL 42 41,iF 43 2 7,iN (.store 1 (.t 43) (.t 42))]
 (.ops [iM 44 5,iO 45 (.ixa 1 (.t 44) (kI 1)),iL 46 45,iF 47 3 7,iN (.store 1 (.t 47) (.t 46))])))))))))))))))))
 (sO [iM 95 0,iK 96 7 7,iO 97 (.callb bT [.t 95,.t 96] [true,true])]
 (sO [iM 98 6,iM 4 98]
 (.ret)))))))))
def vU:SFn:=⟨2,99,pO,[.t 4]⟩
def Eo:SCode :=
 .ops [iM 6 0,iM 7 0,iO 8 (.nck (.t 7)),iF 9 4 8,iL 10 9,iM 11 1,iO 12 (.callr iI [.t 10,.t 11]),iM 13 2,iO 14 (.build [zI,zI,zI,zI,zI,zS,.s 1 []] [(0,1,.c (.int .i64 2)),(1,1,.t 12),(2,1,.t 13)]),iO 15 (.callb bT [.t 6,.t 14] [true,true])]
def vT:SFn:=⟨3,16,Eo,[]⟩
def lO:SCode :=
 .seq (sO [iM 8 6,iM 9 1,iO 10 (.len (.t 9)),iV 11 .lss 8 10]
 (.cond (.t 11) (.skip)
 (.seq (.keep [5]) (.exit 0))))
 (.seq (.block 1 (.ops [iM 14 5,iM 15 0,iM 16 1,iM 17 6,iO 18 (.ixa 4 (.t 16) (.t 17)),iK 19 4 18,iO 20 (.callb cX [.t 15,.t 19] [true,false]),iO 21 (.lit 1 [.t 20]),iO 22 (.app 1 8 (.t 14) (.t 21)),iM 5 22]))
 (.ops [iM 12 6,iO 13 (.ari .add (.t 12) (kI 1)),iM 6 13]))
def C6:SCode :=
 sO [iO 4 (.mov (.n 1))]
 (sO [iO 7 (.lit 1 []),iM 5 7]
 (.seq (sO [iO 6 (.mov (kI 0))]
 (.block 0 (.loop [0,1,5,6] lO)))
 (sO [iM 23 5,iM 4 23]
 (.ret))))
def sV:SFn:=⟨2,24,C6,[.t 4]⟩
def I0:SCode :=
 sO [iO 2 (.mov (kI 0))]
 (.seq (sO [iM 3 0]
 (.block 0 (sO [iE 5 .eql 3 9,iM 4 5]
 (.cond (.t 4) (sO [iO 2 (.mov (kI 16))]
 (.ret))
 (sO [iE 7 .eql 3 13,iM 6 7]
 (.cond (.t 6) (sO [iO 2 (.mov (kI 21))]
 (.ret))
 (sO [iE 9 .eql 3 14,iM 8 9]
 (.cond (.t 8) (sO [iO 2 (.mov (kI 26))]
 (.ret))
 (.skip)))))))))
 (sO [iO 2 (.mov (kI 27))]
 (.ret)))
def zB:SFn:=⟨1,10,I0,[.t 2]⟩
def Jb:SCode :=
 sO [iO 2 (.mov (kI 0))]
 (.seq (sO [iM 3 0]
 (.block 0 (sO [iE 5 .eql 3 6,iM 4 5]
 (.cond (.t 4) (sO [iO 2 (.mov (kI 13))]
 (.ret))
 (sO [iE 7 .eql 3 7,iM 6 7]
 (.cond (.t 6) (sO [iO 2 (.mov (kI 12))]
 (.ret))
 (sO [iE 9 .eql 3 11,iM 8 9]
 (.cond (.t 8) (sO [iO 2 (.mov (kI 18))]
 (.ret))
 (sO [iE 11 .eql 3 16,iM 10 11]
 (.cond (.t 10) (sO [iO 2 (.mov (kI 28))]
 (.ret))
 (.skip)))))))))))
 (sO [iO 2 (.mov (kI 25))]
 (.ret)))
def yY:SFn:=⟨1,12,Jb,[.t 2]⟩
def Ol:SCode :=
 sO [iO 1 (.vbox 7 (.t 0)),iO 2 (.mov (.n 1))]
 (sO [iO 4 (.lit 1 []),iM 3 4]
 (.seq (sO [iF 5 0 1,iL 6 5,iO 7 (.callr r8 [.t 6]),iO 8 (.ari .and (.t 7) (kI 1)),iE 9 .neq 8 0]
 (.cond (.t 9) (.ops [iM 10 3,iF 11 1 1,iL 12 11,iO 13 (.lit 1 [.t 12]),iO 14 (.app 1 8 (.t 10) (.t 13)),iM 3 14])
 (.skip)))
 (.seq (sO [iF 15 0 1,iL 16 15,iE 17 .eql 16 19]
 (.cond (.t 17) (.ops [iM 18 3,iF 19 3 1,iL 20 19,iO 21 (.lit 1 [.t 20]),iO 22 (.app 1 8 (.t 18) (.t 21)),iM 3 22])
 (.skip)))
 (sO [iM 23 3,iM 2 23]
 (.ret)))))
def Fb:SFn:=⟨1,24,Ol,[.t 2]⟩
def kX:SCode :=
 .seq (sO [iM 31 5,iF 32 6 1,iL 33 32,iO 34 (.len (.t 33)),iV 35 .lss 31 34,iM 36 35,iT 37 36 (.mov (.t 4)),iT 38 36 (.ari .and (.t 37) (kI 32)),iT 39 36 (.cmp .neq (.t 38) (kI 0)),iO 40 (.pick (.t 36) (.t 39) (kB false))]
 (.cond (.t 40) (.skip)
 (.seq (.keep [3]) (.exit 0))))
 (.seq (.block 1 (sO [iF 43 0 1,iL 44 43,iE 45 .neq 44 19,iM 46 45,iU 47 46 (.mov (.t 5)),iU 48 46 (.ari .rem (.t 47) (kI 3)),iU 49 46 (.cmp .eql (.t 48) (kI 1)),iO 50 (.pick (.t 46) (kB true) (.t 49)),iM 51 50,iU 52 51 (.mov (.t 5)),iU 53 51 (.ari .rem (.t 52) (kI 3)),iU 54 51 (.cmp .eql (.t 53) (kI 2)),iU 55 51 (.mov (.t 54)),iT 56 55 (.faddr 6 (.t 1)),iT 57 55 (.load none (.t 56)),iT 58 55 (.mov (.t 5)),iT 59 55 (.ari .sub (.t 58) (kI 2)),iT 60 55 (.ixa 1 (.t 57) (.t 59)),iT 61 55 (.load none (.t 60)),iT 62 55 (.cmp .eql (.t 61) (kI 2)),iU 63 51 (.pick (.t 55) (.t 62) (kB false)),iO 64 (.pick (.t 51) (kB true) (.t 63))]
 (.cond (.t 64) (.ops [iM 65 3,iF 66 6 1,iL 67 66,iM 68 5,iO 69 (.ixa 1 (.t 67) (.t 68)),iL 70 69,iO 71 (.lit 1 [.t 70]),iO 72 (.app 1 8 (.t 65) (.t 71)),iM 3 72])
 (.skip))))
 (.ops [iM 41 5,iO 42 (.ari .add (.t 41) (kI 1)),iM 5 42]))
def O0:SCode :=
 sO [iO 1 (.vbox 7 (.t 0)),iO 2 (.mov (.n 1))]
 (sO [iO 6 (.lit 1 []),iM 3 6]
 (sO [iF 7 0 1,iL 8 7,iO 9 (.callr r8 [.t 8]),iM 4 9]
 (.seq (sO [iM 10 4,iO 11 (.ari .and (.t 10) (kI 2)),iE 12 .neq 11 0]
 (.cond (.t 12) (.ops [iM 13 3,iF 14 2 1,iL 15 14,iO 16 (.lit 1 [.t 15]),iO 17 (.app 1 8 (.t 13) (.t 16)),iM 3 17])
 (.skip)))
 (.seq (sO [iM 18 4,iO 19 (.ari .and (.t 18) (kI 4)),iE 20 .neq 19 0,iM 21 20,iT 22 21 (.faddr 0 (.t 1)),iT 23 21 (.load none (.t 22)),iT 24 21 (.cmp .neq (.t 23) (kI 19)),iO 25 (.pick (.t 21) (.t 24) (kB false))]
 (.cond (.t 25) (.ops [iM 26 3,iF 27 3 1,iL 28 27,iO 29 (.lit 1 [.t 28]),iO 30 (.app 1 8 (.t 26) (.t 29)),iM 3 30])
 (.skip)))
 (.seq (sO [iO 5 (.mov (kI 0))]
 (.block 0 (.loop [1,3,4,5] kX)))
 (sO [iM 73 3,iM 2 73]
 (.ret)))))))
def Gi:SFn:=⟨1,74,O0,[.t 2]⟩
def nT:SCode :=
 sO [iO 3 (.vbox 4 (.t 1)),iO 4 (.mov (kI 0))]
 (.seq (sO [iF 6 0 3,iL 7 6,iE 8 .eql 7 20]
 (.cond (.t 8) (sO [iM 9 0,iO 10 (.nck (.t 9)),iF 11 0 10,iL 12 11,iF 13 1 3,iL 14 13,iO 15 (.callr kH [.t 12,.t 14]),iM 4 15]
 (.ret))
 (.skip)))
 (sO [iM 16 0,iF 17 3 3,iL 18 17,iO 19 (.callb gY [.t 16,.t 18] [true,false]),iM 5 19]
 (.seq (sO [iF 20 0 3,iL 21 20]
 (.block 0 (sO [iE 23 .eql 21 19,iM 22 23]
 (.cond (.t 22) (sO [iM 24 0,iF 25 2 3,iL 26 25,iO 27 (.build [zI,zI,zI,zI,zI,zS,.s 1 []] [(0,1,.c (.int .i64 1)),(4,1,.t 26)]),iO 28 (.callb bN [.t 24,.t 27] [true,true]),iM 4 28]
 (.ret))
 (sO [iE 30 .eql 21 26,iM 29 30]
 (.cond (.t 29) (sO [iM 31 0,iF 32 1 3,iL 33 32,iM 34 5,iO 35 (.build [zI,zI,zI,zI,zI,zS,.s 1 []] [(0,1,.c (.int .i64 11)),(5,1,.t 33),(6,1,.t 34)]),iO 36 (.callb bN [.t 31,.t 35] [true,true]),iM 4 36]
 (.ret))
 (sO [iE 38 .eql 21 27,iM 37 38]
 (.cond (.t 37) (sO [iM 39 0,iM 40 5,iO 41 (.ixa 1 (.t 40) (kI 0)),iL 42 41,iO 43 (.build [zI,zI,zI,zI,zI,zS,.s 1 []] [(0,1,.c (.int .i64 15)),(2,1,.t 42)]),iO 44 (.callb bN [.t 39,.t 43] [true,true]),iM 4 44]
 (.ret))
 (sO [iE 46 .eql 21 28,iM 45 46]
 (.cond (.t 45) (sO [iM 47 0,iM 48 5,iO 49 (.ixa 1 (.t 48) (kI 0)),iL 50 49,iO 51 (.build [zI,zI,zI,zI,zI,zS,.s 1 []] [(0,1,.c (.int .i64 20)),(2,1,.t 50)]),iO 52 (.callb bN [.t 47,.t 51] [true,true]),iM 4 52]
 (.ret))
 (sO [iE 54 .eql 21 29,iM 53 54]
 (.cond (.t 53) (.seq (.opsd [⟨iM 56 5,1,[]⟩,⟨iO 57 (.ixa 1 (.t 56) (kI 0)),2,[]⟩,⟨iL 58 57,3,[]⟩,⟨iM 59 5,4,[]⟩,⟨iO 60 (.ixa 1 (.t 59) (kI 1)),5,[]⟩,⟨iL 61 60,6,[]⟩,⟨iM 62 5,7,[]⟩,⟨iO 63 (.cutm 1 (.t 62) (some (kI 2)) none),8,[]⟩,⟨iM 55 0,0,[]⟩,⟨iO 64 (.build [zI,zI,zI,zI,zI,zS,.s 1 []] [(0,1,.c (.int .i64 22)),(2,1,.t 58),(3,1,.t 61),(6,1,.t 63)]),9,[]⟩,⟨iO 65 (.callb bN [.t 55,.t 64] [true,true]),10,[]⟩,⟨iM 4 65,11,[]⟩])
 (.ret))
 (sO [iE 67 .eql 21 30,iM 66 67]
 (.cond (.t 66) (sO [iM 68 0,iO 69 (.build [zI,zI,zI,zI,zI,zS,.s 1 []] [(0,1,.c (.int .i64 23))]),iO 70 (.callb bN [.t 68,.t 69] [true,true]),iM 4 70]
 (.ret))
 (sO [iE 72 .eql 21 31,iM 71 72]
 (.cond (.t 71) (sO [iM 73 0,iF 74 1 3,iL 75 74,iO 76 (.build [zI,zI,zI,zI,zI,zS,.s 1 []] [(0,1,.c (.int .i64 24)),(5,1,.t 75)]),iO 77 (.callb bN [.t 73,.t 76] [true,true]),iM 4 77]
 (.ret))
 (.skip)))))))))))))))))
 (sO [iM 78 0,iF 79 0 3,iL 80 79,iO 81 (.ari .sub (.t 80) (kI 21)),iO 82 (.ari .add (.t 81) (kI 3)),iM 83 5,iO 84 (.ixa 1 (.t 83) (kI 0)),iL 85 84,iM 86 5,iO 87 (.ixa 1 (.t 86) (kI 1)),iL 88 87,iO 89 (.build [zI,zI,zI,zI,zI,zS,.s 1 []] [(0,1,.t 82),(2,1,.t 85),(3,1,.t 88)]),iO 90 (.callb bN [.t 78,.t 89] [true,true]),iM 4 90]
 (.ret)))))
def nP:SFn:=⟨2,91,nT,[.t 4]⟩
def rO:SCode :=
 sO [iO 2 (.mov (kI 0))]
 (sO [iM 3 0,iO 4 (.nck (.t 3)),iF 5 3 4,iL 6 5,iO 7 (.ari .add (.t 6) (kI 1)),iO 8 (.nck (.t 3)),iF 9 3 8,iN (.store 1 (.t 9) (.t 7))]
 (sO [iM 10 0,iO 11 (.nck (.t 10)),iF 12 3 11,iL 13 12,iO 14 (.ari .sub (.t 13) (kI 1)),iM 2 14]
 (.ret)))
def mH:SFn:=⟨1,15,rO,[.t 2]⟩
def Dx:SCode :=
 sO [iO 2 (.mov (kI 0))]
 (sO [iM 3 0,iO 4 (.nck (.t 3)),iF 5 5 4,iL 6 5,iO 7 (.ari .add (.t 6) (kI 1)),iO 8 (.nck (.t 3)),iF 9 5 8,iN (.store 1 (.t 9) (.t 7))]
 (sO [iM 10 0,iO 11 (.nck (.t 10)),iF 12 5 11,iL 13 12,iO 14 (.ari .sub (.t 13) (kI 1)),iM 2 14]
 (.ret)))
def sS:SFn:=⟨1,15,Dx,[.t 2]⟩
def El:SCode :=
 .ops [iM 4 0,iM 5 1,iO 6 (.build [zI,zI,zI,zI,zI,zS,.s 1 []] [(0,1,.c (.int .i64 8)),(4,1,.t 5)]),iO 7 (.callb bT [.t 4,.t 6] [true,true])]
def v9:SFn:=⟨2,8,El,[]⟩
end Go.Ev.G
