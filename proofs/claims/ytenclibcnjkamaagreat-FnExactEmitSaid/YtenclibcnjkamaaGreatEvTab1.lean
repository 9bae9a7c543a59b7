import Derived.Test.YtenclibcnjkamaaGreatEvTab0
set_option linter.all false
namespace Go.Ev.G
def dZ:SCode :=
 sO [iV 9 .lss 8 7]
 (.seq (.cond (.t 9) (.skip)
 (.seq (.keep []) (.exit 0)))
 (.seq (.block 1 (sO [iM 10 8,iM 5 10]
 (sO [iM 11 1,iM 12 0,iM 13 5,iO 14 (.ixa 1 (.t 12) (.t 13)),iL 15 14,iV 16 .eql 11 15]
 (.cond (.t 16) (sO [iM 17 5,iM 4 17]
 (.seq (.keep [4]) .ret))
 (.skip)))))
 (.ops [iO 18 (.ari .add (.t 8) (kI 1)),iM 8 18])))
def mF:SCode :=
 sO [iO 4 (.mov (kI 0))]
 (.seq (sO [iM 6 0,iO 7 (.len (.t 6)),iO 8 (.mov (kI 0))]
 (.block 0 (.loop [0,1,7,8] dZ)))
 (sO [iO 4 (.mov (kI (-1)))]
 (.ret)))
def hX:SFn:=⟨2,19,mF,[.t 4]⟩
def dK:SCode :=
 sO [iV 9 .lss 8 7]
 (.seq (.cond (.t 9) (.skip)
 (.seq (.keep []) (.exit 0)))
 (.seq (.block 1 (sO [iM 10 8,iM 5 10]
 (sO [iM 11 1,iM 12 0,iM 13 5,iO 14 (.ixa 1 (.t 12) (.t 13)),iL 15 14,iO 16 (.calli (.t 11) [.t 15])]
 (.cond (.t 16) (sO [iM 17 5,iM 4 17]
 (.seq (.keep [4]) .ret))
 (.skip)))))
 (.ops [iO 18 (.ari .add (.t 8) (kI 1)),iM 8 18])))
def kW:SCode :=
 sO [iO 4 (.mov (kI 0))]
 (.seq (sO [iM 6 0,iO 7 (.len (.t 6)),iO 8 (.mov (kI 0))]
 (.block 0 (.loop [0,1,7,8] dK)))
 (sO [iO 4 (.mov (kI (-1)))]
 (.ret)))
def fP:SFn:=⟨2,19,kW,[.t 4]⟩
def iR:SCode :=
 sO [iV 10 .lss 9 8]
 (.seq (.cond (.t 10) (.skip)
 (.seq (.keep [3]) (.exit 0)))
 (.seq (.block 1 (sO [iM 11 9,iO 12 (.ixa 1 (.t 7) (.t 9)),iL 13 12,iM 4 11,iM 5 13]
 (sO [iM 14 5]
 (.cond (.t 14) (.ops [iM 15 3,iM 16 4,iO 17 (.lit 1 [.t 16]),iO 18 (.app 1 8 (.t 15) (.t 17)),iM 3 18])
 (.skip)))))
 (.ops [iO 19 (.ari .add (.t 9) (kI 1)),iM 9 19])))
def zE:SCode :=
 sO [iO 2 (.mov (.n 1))]
 (sO [iO 6 (.lit 1 []),iM 3 6]
 (.seq (sO [iM 7 0,iO 8 (.len (.t 7)),iO 9 (.mov (kI 0))]
 (.block 0 (.loop [3,7,8,9] iR)))
 (sO [iM 20 3,iM 2 20]
 (.ret))))
def sA:SFn:=⟨1,21,zE,[.t 2]⟩
def oI:SCode :=
 .lib 3
def oH:SFn:=⟨2,27,oI,[.t 0]⟩
def bX:SCode :=
 .seq (sO [iM 18 9,iM 19 1,iV 20 .gtr 18 19,iM 21 20,iT 22 21 (.mov (.t 3)),iT 23 21 (.mov (.t 0)),iT 24 21 (.mov (.t 9)),iT 25 21 (.ixa 1 (.t 23) (.t 24)),iT 26 21 (.load none (.t 25)),iT 27 21 (.mov (.t 0)),iT 28 21 (.mov (.t 9)),iT 29 21 (.ari .sub (.t 28) (kI 1)),iT 30 21 (.ixa 1 (.t 27) (.t 29)),iT 31 21 (.load none (.t 30)),iT 32 21 (.calli (.t 22) [.t 26,.t 31]),iT 33 21 (.cmp .lss (.t 32) (kI 0)),iO 34 (.pick (.t 21) (.t 33) (kB false))]
 (.cond (.t 34) (.skip)
 (.seq (.keep [0,1,2,3,8]) (.exit 2))))
 (.seq (.block 3 (.opsd [⟨iM 37 0,0,[]⟩,⟨iM 38 9,1,[]⟩,⟨iM 39 0,2,[]⟩,⟨iM 40 9,3,[]⟩,⟨iO 41 (.ari .sub (.t 40) (kI 1)),4,[]⟩,⟨iM 42 0,5,[]⟩,⟨iM 43 9,6,[]⟩,⟨iO 44 (.ari .sub (.t 43) (kI 1)),7,[]⟩,⟨iO 45 (.ixa 1 (.t 42) (.t 44)),8,[]⟩,⟨iL 46 45,9,[]⟩,⟨iM 47 0,10,[]⟩,⟨iM 48 9,11,[]⟩,⟨iO 49 (.ixa 1 (.t 47) (.t 48)),12,[]⟩,⟨iL 50 49,13,[]⟩,⟨iO 51 (.ixa 1 (.t 37) (.t 38)),14,[]⟩,⟨iN (.store 1 (.t 51) (.t 46)),15,[iM 39 0,iM 40 9,iO 41 (.ari .sub (.t 40) (kI 1))]⟩,⟨iO 52 (.ixa 1 (.t 39) (.t 41)),16,[]⟩,⟨iN (.store 1 (.t 52) (.t 50)),17,[]⟩]))
 (.ops [iM 35 9,iO 36 (.ari .sub (.t 35) (kI 1)),iM 9 36]))
def bP:SCode :=
 .seq (sO [iM 12 8,iM 13 2,iV 14 .lss 12 13]
 (.cond (.t 14) (.skip)
 (.seq (.keep []) (.exit 0))))
 (.seq (.block 1 (sO [iM 17 8,iM 9 17]
 (.block 2 (.loop [0,1,2,3,8,9] bX))))
 (.ops [iM 15 8,iO 16 (.ari .add (.t 15) (kI 1)),iM 8 16]))
def dR:SCode :=
 sO [iM 10 1,iO 11 (.ari .add (.t 10) (kI 1)),iM 8 11]
 (.block 0 (.loop [0,1,2,3,8] bP))
def dS:SFn:=⟨4,53,dR,[]⟩
def bZ:SCode :=
 .seq (sO [iM 31 10,iM 32 11,iV 33 .lss 31 32]
 (.cond (.t 33) (.skip)
 (.seq (.keep [0,1,10]) (.exit 0))))
 (.block 1 (sO [iM 34 10,iM 35 11,iO 36 (.ari .add (.t 34) (.t 35)),iO 37 (.conv .u64 (.t 36)),iO 38 (.ari .shr (.t 37) (.c (.int .u64 1))),iO 39 (.conv .i64 (.t 38)),iM 12 39]
 (sO [iM 40 4,iM 41 0,iM 42 12,iO 43 (.ixa 1 (.t 41) (.t 42)),iL 44 43,iM 45 0,iM 46 1,iO 47 (.ixa 1 (.t 45) (.t 46)),iL 48 47,iO 49 (.calli (.t 40) [.t 44,.t 48]),iE 50 .lss 49 0]
 (.cond (.t 50) (.ops [iM 51 12,iO 52 (.ari .add (.t 51) (kI 1)),iM 10 52])
 (.ops [iM 53 12,iM 11 53])))))
def c7:SCode :=
 .seq (sO [iM 55 13,iM 56 10,iO 57 (.ari .sub (.t 56) (kI 1)),iV 58 .lss 55 57]
 (.cond (.t 58) (.skip)
 (.seq (.keep []) (.exit 2))))
 (.seq (.block 3 (.opsd [⟨iM 61 0,0,[]⟩,⟨iM 62 13,1,[]⟩,⟨iM 63 0,2,[]⟩,⟨iM 64 13,3,[]⟩,⟨iO 65 (.ari .add (.t 64) (kI 1)),4,[]⟩,⟨iM 66 0,5,[]⟩,⟨iM 67 13,6,[]⟩,⟨iO 68 (.ari .add (.t 67) (kI 1)),7,[]⟩,⟨iO 69 (.ixa 1 (.t 66) (.t 68)),8,[]⟩,⟨iL 70 69,9,[]⟩,⟨iM 71 0,10,[]⟩,⟨iM 72 13,11,[]⟩,⟨iO 73 (.ixa 1 (.t 71) (.t 72)),12,[]⟩,⟨iL 74 73,13,[]⟩,⟨iO 75 (.ixa 1 (.t 61) (.t 62)),14,[]⟩,⟨iN (.store 1 (.t 75) (.t 70)),15,[iM 63 0,iM 64 13,iO 65 (.ari .add (.t 64) (kI 1))]⟩,⟨iO 76 (.ixa 1 (.t 63) (.t 65)),16,[]⟩,⟨iN (.store 1 (.t 76) (.t 74)),17,[]⟩]))
 (.ops [iM 59 13,iO 60 (.ari .add (.t 59) (kI 1)),iM 13 60]))
def b7:SCode :=
 .seq (sO [iM 83 14,iM 84 15,iV 85 .lss 83 84]
 (.cond (.t 85) (.skip)
 (.seq (.keep [0,2,14]) (.exit 4))))
 (.block 5 (sO [iM 86 14,iM 87 15,iO 88 (.ari .add (.t 86) (.t 87)),iO 89 (.conv .u64 (.t 88)),iO 90 (.ari .shr (.t 89) (.c (.int .u64 1))),iO 91 (.conv .i64 (.t 90)),iM 16 91]
 (sO [iM 92 4,iM 93 0,iM 94 2,iO 95 (.ixa 1 (.t 93) (.t 94)),iL 96 95,iM 97 0,iM 98 16,iO 99 (.ixa 1 (.t 97) (.t 98)),iL 100 99,iO 101 (.calli (.t 92) [.t 96,.t 100]),iE 102 .lss 101 0,iO 103 (.not (.t 102))]
 (.cond (.t 103) (.ops [iM 104 16,iO 105 (.ari .add (.t 104) (kI 1)),iM 14 105])
 (.ops [iM 106 16,iM 15 106])))))
def c9:SCode :=
 .seq (sO [iM 108 17,iM 109 14,iV 110 .gtr 108 109]
 (.cond (.t 110) (.skip)
 (.seq (.keep []) (.exit 6))))
 (.seq (.block 7 (.opsd [⟨iM 113 0,0,[]⟩,⟨iM 114 17,1,[]⟩,⟨iM 115 0,2,[]⟩,⟨iM 116 17,3,[]⟩,⟨iO 117 (.ari .sub (.t 116) (kI 1)),4,[]⟩,⟨iM 118 0,5,[]⟩,⟨iM 119 17,6,[]⟩,⟨iO 120 (.ari .sub (.t 119) (kI 1)),7,[]⟩,⟨iO 121 (.ixa 1 (.t 118) (.t 120)),8,[]⟩,⟨iL 122 121,9,[]⟩,⟨iM 123 0,10,[]⟩,⟨iM 124 17,11,[]⟩,⟨iO 125 (.ixa 1 (.t 123) (.t 124)),12,[]⟩,⟨iL 126 125,13,[]⟩,⟨iO 127 (.ixa 1 (.t 113) (.t 114)),14,[]⟩,⟨iN (.store 1 (.t 127) (.t 122)),15,[iM 115 0,iM 116 17,iO 117 (.ari .sub (.t 116) (kI 1))]⟩,⟨iO 128 (.ixa 1 (.t 115) (.t 117)),16,[]⟩,⟨iN (.store 1 (.t 128) (.t 126)),17,[]⟩]))
 (.ops [iM 111 17,iO 112 (.ari .sub (.t 111) (kI 1)),iM 17 112]))
def bU:SCode :=
 .seq (sO [iM 149 20,iM 150 21,iV 151 .lss 149 150]
 (.cond (.t 151) (.skip)
 (.seq (.keep [0,1,2,3,4,18,19,20]) (.exit 8))))
 (.block 9 (sO [iM 152 20,iM 153 21,iO 154 (.ari .add (.t 152) (.t 153)),iO 155 (.conv .u64 (.t 154)),iO 156 (.ari .shr (.t 155) (.c (.int .u64 1))),iO 157 (.conv .i64 (.t 156)),iM 23 157]
 (sO [iM 158 4,iM 159 0,iM 160 22,iM 161 23,iO 162 (.ari .sub (.t 160) (.t 161)),iO 163 (.ixa 1 (.t 159) (.t 162)),iL 164 163,iM 165 0,iM 166 23,iO 167 (.ixa 1 (.t 165) (.t 166)),iL 168 167,iO 169 (.calli (.t 158) [.t 164,.t 168]),iE 170 .lss 169 0,iO 171 (.not (.t 170))]
 (.cond (.t 171) (.ops [iM 172 23,iO 173 (.ari .add (.t 172) (kI 1)),iM 20 173])
 (.ops [iM 174 23,iM 21 174])))))
def dM:SCode :=
 .seq (sO [iM 25 2,iM 26 1,iO 27 (.ari .sub (.t 25) (.t 26)),iE 28 .eql 27 1]
 (.cond (.t 28) (sO [iM 29 2,iM 10 29]
 (sO [iM 30 3,iM 11 30]
 (.seq (.block 0 (.loop [0,1,4,10,11] bZ))
 (.seq (sO [iM 54 1,iM 13 54]
 (.block 2 (.loop [0,10,13] c7)))
 (.ret)))))
 (.skip)))
 (.seq (sO [iM 77 3,iM 78 2,iO 79 (.ari .sub (.t 77) (.t 78)),iE 80 .eql 79 1]
 (.cond (.t 80) (sO [iM 81 1,iM 14 81]
 (sO [iM 82 2,iM 15 82]
 (.seq (.block 4 (.loop [0,2,4,14,15] b7))
 (.seq (sO [iM 107 2,iM 17 107]
 (.block 6 (.loop [0,14,17] c9)))
 (.ret)))))
 (.skip)))
 (sO [iM 129 1,iM 130 3,iO 131 (.ari .add (.t 129) (.t 130)),iO 132 (.conv .u64 (.t 131)),iO 133 (.ari .shr (.t 132) (.c (.int .u64 1))),iO 134 (.conv .i64 (.t 133)),iM 18 134]
 (sO [iM 135 18,iM 136 2,iO 137 (.ari .add (.t 135) (.t 136)),iM 19 137]
 (sO [iO 20 (.mov (kI 0)),iO 21 (.mov (kI 0))]
 (.seq (sO [iM 138 2,iM 139 18,iV 140 .gtr 138 139]
 (.cond (.t 140) (sO [iM 141 19,iM 142 3,iO 143 (.ari .sub (.t 141) (.t 142)),iM 20 143]
 (.ops [iM 144 18,iM 21 144]))
 (sO [iM 145 1,iM 20 145]
 (.ops [iM 146 2,iM 21 146]))))
 (sO [iM 147 19,iO 148 (.ari .sub (.t 147) (kI 1)),iM 22 148]
 (.seq (.block 8 (.loop [0,1,2,3,4,18,19,20,21,22] bU))
 (sO [iM 175 19,iM 176 20,iO 177 (.ari .sub (.t 175) (.t 176)),iM 24 177]
 (.seq (sO [iM 178 20,iM 179 2,iV 180 .lss 178 179,iM 181 180,iT 182 181 (.mov (.t 2)),iT 183 181 (.mov (.t 24)),iT 184 181 (.cmp .lss (.t 182) (.t 183)),iO 185 (.pick (.t 181) (.t 184) (kB false))]
 (.cond (.t 185) (.ops [iM 186 0,iM 187 20,iM 188 2,iM 189 24,iM 190 4,iO 191 (.calli (.f dG) [.t 186,.t 187,.t 188,.t 189,.t 190])])
 (.skip)))
 (.seq (sO [iM 192 1,iM 193 20,iV 194 .lss 192 193,iM 195 194,iT 196 195 (.mov (.t 20)),iT 197 195 (.mov (.t 18)),iT 198 195 (.cmp .lss (.t 196) (.t 197)),iO 199 (.pick (.t 195) (.t 198) (kB false))]
 (.cond (.t 199) (.ops [iM 200 0,iM 201 1,iM 202 20,iM 203 18,iM 204 4,iO 205 (.calli (.f bB) [.t 200,.t 201,.t 202,.t 203,.t 204])])
 (.skip)))
 (sO [iM 206 18,iM 207 24,iV 208 .lss 206 207,iM 209 208,iT 210 209 (.mov (.t 24)),iT 211 209 (.mov (.t 3)),iT 212 209 (.cmp .lss (.t 210) (.t 211)),iO 213 (.pick (.t 209) (.t 212) (kB false))]
 (.cond (.t 213) (.ops [iM 214 0,iM 215 18,iM 216 24,iM 217 3,iM 218 4,iO 219 (.calli (.f bB) [.t 214,.t 215,.t 216,.t 217,.t 218])])
 (.skip)))))))))))))
def eR:SFn:=⟨5,220,dM,[]⟩
def cQ:SCode :=
 .seq (sO [iM 18 10,iM 19 11,iV 20 .neq 18 19]
 (.cond (.t 20) (.skip)
 (.seq (.keep [0,2,4,10]) (.exit 0))))
 (.block 1 (sO [iM 21 10,iM 22 11,iV 23 .gtr 21 22]
 (.cond (.t 23) (sO [iM 24 0,iM 25 2,iM 26 10,iO 27 (.ari .sub (.t 25) (.t 26)),iM 28 2,iM 29 11,iM 30 4,iO 31 (.calli (.f cR) [.t 24,.t 27,.t 28,.t 29,.t 30])]
 (.ops [iM 32 10,iM 33 11,iO 34 (.ari .sub (.t 32) (.t 33)),iM 10 34]))
 (sO [iM 35 0,iM 36 2,iM 37 10,iO 38 (.ari .sub (.t 36) (.t 37)),iM 39 2,iM 40 11,iO 41 (.ari .add (.t 39) (.t 40)),iM 42 10,iO 43 (.ari .sub (.t 41) (.t 42)),iM 44 10,iM 45 4,iO 46 (.calli (.f cR) [.t 35,.t 38,.t 43,.t 44,.t 45])]
 (.ops [iM 47 11,iM 48 10,iO 49 (.ari .sub (.t 47) (.t 48)),iM 11 49])))))
def kP:SCode :=
 sO [iM 12 2,iM 13 1,iO 14 (.ari .sub (.t 12) (.t 13)),iM 10 14]
 (sO [iM 15 3,iM 16 2,iO 17 (.ari .sub (.t 15) (.t 16)),iM 11 17]
 (.seq (.block 0 (.loop [0,2,4,10,11] cQ))
 (.ops [iM 50 0,iM 51 2,iM 52 10,iO 53 (.ari .sub (.t 51) (.t 52)),iM 54 2,iM 55 10,iM 56 4,iO 57 (.calli (.f cR) [.t 50,.t 53,.t 54,.t 55,.t 56])])))
def fT:SFn:=⟨5,58,kP,[]⟩
def cV:SCode :=
 .seq (sO [iM 11 10,iM 12 3,iV 13 .lss 11 12]
 (.cond (.t 13) (.skip)
 (.seq (.keep []) (.exit 0))))
 (.seq (.block 1 (.opsd [⟨iM 16 0,0,[]⟩,⟨iM 17 1,1,[]⟩,⟨iM 18 10,2,[]⟩,⟨iO 19 (.ari .add (.t 17) (.t 18)),3,[]⟩,⟨iM 20 0,4,[]⟩,⟨iM 21 2,5,[]⟩,⟨iM 22 10,6,[]⟩,⟨iO 23 (.ari .add (.t 21) (.t 22)),7,[]⟩,⟨iM 24 0,8,[]⟩,⟨iM 25 2,9,[]⟩,⟨iM 26 10,10,[]⟩,⟨iO 27 (.ari .add (.t 25) (.t 26)),11,[]⟩,⟨iO 28 (.ixa 1 (.t 24) (.t 27)),12,[]⟩,⟨iL 29 28,13,[]⟩,⟨iM 30 0,14,[]⟩,⟨iM 31 1,15,[]⟩,⟨iM 32 10,16,[]⟩,⟨iO 33 (.ari .add (.t 31) (.t 32)),17,[]⟩,⟨iO 34 (.ixa 1 (.t 30) (.t 33)),18,[]⟩,⟨iL 35 34,19,[]⟩,⟨iO 36 (.ixa 1 (.t 16) (.t 19)),20,[]⟩,⟨iN (.store 1 (.t 36) (.t 29)),21,[iM 20 0,iM 21 2,iM 22 10,iO 23 (.ari .add (.t 21) (.t 22))]⟩,⟨iO 37 (.ixa 1 (.t 20) (.t 23)),22,[]⟩,⟨iN (.store 1 (.t 37) (.t 35)),23,[]⟩]))
 (.ops [iM 14 10,iO 15 (.ari .add (.t 14) (kI 1)),iM 10 15]))
def i5:SCode :=
 sO [iO 10 (.mov (kI 0))]
 (.block 0 (.loop [0,1,2,3,10] cV))
def eA:SFn:=⟨5,38,i5,[]⟩
end Go.Ev.G
