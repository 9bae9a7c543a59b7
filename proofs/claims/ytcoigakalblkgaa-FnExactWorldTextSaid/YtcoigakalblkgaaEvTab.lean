/- The slim code of the functions that the statements of this cut reach: written by gen.py. Not trusted: YtcoigakalblkgaaEvChk.lean checks it against the given program. -/
import Derived.Test.YtcoigakalblkgaaEvRow
namespace Go.Ev.G
set_option linter.all false
abbrev laws_FnExactWorldText : Nat := 6
abbrev laws_szWorld : Nat := 29
abbrev spec_WorldText : Nat := 30
abbrev laws_toWorld : Nat := 31
abbrev impl_WorldText : Nat := 32
abbrev laws_eqWorld : Nat := 33
abbrev laws_szUnit : Nat := 34
abbrev laws_toUnit : Nat := 36
abbrev laws_eqUnit : Nat := 38
abbrev laws_szIntS : Nat := 58
abbrev spec_Digits : Nat := 62
abbrev spec_l28Out : Nat := 63
abbrev laws_toIntS : Nat := 64
abbrev impl_Digits : Nat := 68
abbrev impl_outText : Nat := 69
abbrev laws_eqIntS : Nat := 70
abbrev laws_szUnitS : Nat := 82
abbrev laws_szBodyS : Nat := 83
abbrev laws_szChanS : Nat := 84
abbrev spec_BodyText : Nat := 85
abbrev laws_toUnitS : Nat := 86
abbrev laws_toBodyS : Nat := 87
abbrev laws_toChanS : Nat := 88
abbrev impl_BodyText : Nat := 89
abbrev laws_eqUnitS : Nat := 90
abbrev laws_eqBodyS : Nat := 91
abbrev laws_eqChanS : Nat := 92
abbrev laws_szTacS : Nat := 93
abbrev laws_toTacS : Nat := 97
abbrev laws_eqTacS : Nat := 101
abbrev laws_szBody : Nat := 141
abbrev laws_szChan : Nat := 142
abbrev laws_toBody : Nat := 143
abbrev laws_toChan : Nat := 144
abbrev laws_eqBody : Nat := 145
abbrev laws_eqChan : Nat := 146
abbrev laws_szTac : Nat := 147
abbrev laws_toTac : Nat := 158
abbrev laws_eqTac : Nat := 167
abbrev laws_szFrameS : Nat := 188
abbrev laws_szWaitS : Nat := 189
abbrev laws_toFrameS : Nat := 190
abbrev laws_toWaitS : Nat := 191
abbrev laws_eqFrameS : Nat := 192
abbrev laws_eqWaitS : Nat := 193
abbrev laws_szFrame : Nat := 230
abbrev laws_toFrame : Nat := 231
abbrev laws_toWait : Nat := 232
abbrev laws_eqFrame : Nat := 233
abbrev laws_eqWait : Nat := 234
/-- loop.example/g00286/laws.FnExactWorldText -/
def c_laws_FnExactWorldText : SCode :=
 .seq (.ops [⟨some 1, none, .vbox 6 (.t 0)⟩, ⟨some 2, none, .mov (.c (.bool false))⟩])
 (.seq (.ops [⟨some 3, none, .mov (.c (.int .i64 1048576))⟩])
  (.seq (.ops [⟨some 7, none, .load (some 6) (.t 1)⟩, ⟨some 8, none, .mov (.t 3)⟩, ⟨some 9, none, .callr laws_szWorld [.t 7, .t 8]⟩, ⟨some 3, none, .mov (.t 9)⟩])
   (.seq (.seq (.ops [⟨some 10, none, .mov (.t 3)⟩, ⟨some 11, none, .cmp .lss (.t 10) (.c (.int .i64 0))⟩])
     (.cond (.t 11) (.seq (.ops [⟨some 2, none, .mov (.c (.bool true))⟩])
       (.ret))
      (.skip)))
    (.seq (.ops [⟨some 12, none, .load (some 6) (.t 1)⟩, ⟨some 13, none, .callr laws_toWorld [.t 12]⟩, ⟨some 14, none, .callr spec_WorldText [.t 13]⟩, ⟨some 4, none, .mov (.t 14)⟩])
     (.seq (.ops [⟨some 15, none, .load (some 6) (.t 1)⟩, ⟨some 16, none, .callr laws_toWorld [.t 15]⟩, ⟨some 5, none, .alloc [.s 4 [], .s 8 [], .s 5 [], .s 1 [], .v (.bool false), .v (.int .i64 0)]⟩, ⟨none, none, .store 6 (.t 5) (.t 16)⟩])
      (.seq (.ops [⟨some 17, none, .load (some 6) (.t 5)⟩, ⟨some 18, none, .callr impl_WorldText [.t 17]⟩, ⟨some 6, none, .mov (.t 18)⟩])
       (.seq (.seq (.ops [⟨some 19, none, .mov (.t 6)⟩, ⟨some 20, none, .mov (.t 4)⟩, ⟨some 21, none, .cmp .neq (.t 19) (.t 20)⟩])
         (.cond (.t 21) (.seq (.ops [⟨some 2, none, .mov (.c (.bool false))⟩])
           (.ret))
          (.skip)))
        (.seq (.seq (.ops [⟨some 22, none, .load (some 6) (.t 5)⟩, ⟨some 23, none, .load (some 6) (.t 1)⟩, ⟨some 24, none, .callr laws_toWorld [.t 23]⟩, ⟨some 25, none, .callr laws_eqWorld [.t 22, .t 24]⟩, ⟨some 26, none, .not (.t 25)⟩])
          (.cond (.t 26) (.seq (.ops [⟨some 2, none, .mov (.c (.bool false))⟩])
            (.ret))
           (.skip)))
         (.seq (.ops [⟨some 2, none, .mov (.c (.bool true))⟩])
          (.ret))))))))))
def s_laws_FnExactWorldText : SFn := ⟨1, 27, c_laws_FnExactWorldText, [.t 2]⟩
/-- loop.example/g00286/laws.szWorld -/
def c_laws_szWorld : SCode :=
 .seq (.ops [⟨some 2, none, .vbox 6 (.t 0)⟩, ⟨some 4, none, .mov (.c (.int .i64 0))⟩])
 (.seq (.ops [⟨some 5, none, .faddr 0 (.t 2)⟩, ⟨some 6, none, .load none (.t 5)⟩, ⟨some 7, none, .mov (.t 1)⟩, ⟨some 8, none, .callr laws_szUnitS [.t 6, .t 7]⟩, ⟨some 1, none, .mov (.t 8)⟩])
  (.seq (.seq (.ops [⟨some 9, none, .mov (.t 1)⟩, ⟨some 10, none, .cmp .lss (.t 9) (.c (.int .i64 0))⟩])
    (.cond (.t 10) (.seq (.ops [⟨some 4, none, .mov (.c (.int .i64 (-1)))⟩])
      (.ret))
     (.skip)))
   (.seq (.ops [⟨some 11, none, .faddr 1 (.t 2)⟩, ⟨some 12, none, .load none (.t 11)⟩, ⟨some 13, none, .mov (.t 1)⟩, ⟨some 14, none, .callr laws_szBodyS [.t 12, .t 13]⟩, ⟨some 1, none, .mov (.t 14)⟩])
    (.seq (.seq (.ops [⟨some 15, none, .mov (.t 1)⟩, ⟨some 16, none, .cmp .lss (.t 15) (.c (.int .i64 0))⟩])
      (.cond (.t 16) (.seq (.ops [⟨some 4, none, .mov (.c (.int .i64 (-1)))⟩])
        (.ret))
       (.skip)))
     (.seq (.ops [⟨some 17, none, .faddr 2 (.t 2)⟩, ⟨some 18, none, .load none (.t 17)⟩, ⟨some 19, none, .mov (.t 1)⟩, ⟨some 20, none, .callr laws_szChanS [.t 18, .t 19]⟩, ⟨some 1, none, .mov (.t 20)⟩])
      (.seq (.seq (.ops [⟨some 21, none, .mov (.t 1)⟩, ⟨some 22, none, .cmp .lss (.t 21) (.c (.int .i64 0))⟩])
        (.cond (.t 22) (.seq (.ops [⟨some 4, none, .mov (.c (.int .i64 (-1)))⟩])
          (.ret))
         (.skip)))
       (.seq (.ops [⟨some 23, none, .faddr 3 (.t 2)⟩, ⟨some 24, none, .load none (.t 23)⟩, ⟨some 25, none, .mov (.t 1)⟩, ⟨some 26, none, .callr laws_szIntS [.t 24, .t 25]⟩, ⟨some 1, none, .mov (.t 26)⟩])
        (.seq (.seq (.ops [⟨some 27, none, .mov (.t 1)⟩, ⟨some 28, none, .cmp .lss (.t 27) (.c (.int .i64 0))⟩])
          (.cond (.t 28) (.seq (.ops [⟨some 4, none, .mov (.c (.int .i64 (-1)))⟩])
            (.ret))
           (.skip)))
         (.seq (.ops [⟨some 29, none, .mov (.t 1)⟩, ⟨some 4, none, .mov (.t 29)⟩])
          (.ret))))))))))
def s_laws_szWorld : SFn := ⟨2, 30, c_laws_szWorld, [.t 4]⟩
def b_spec_WorldText_0 : SCode :=
 .seq (.seq (.ops [⟨some 8, none, .mov (.t 4)⟩, ⟨some 9, none, .faddr 1 (.t 1)⟩, ⟨some 10, none, .load none (.t 9)⟩, ⟨some 11, none, .len (.t 10)⟩, ⟨some 12, none, .cmp .lss (.t 8) (.t 11)⟩])
  (.cond (.t 12) (.skip)
   (.seq (.keep [1, 3]) (.exit 0))))
 (.seq (.block 1 (.ops [⟨some 15, none, .mov (.t 3)⟩, ⟨some 16, none, .mov (.t 4)⟩, ⟨some 17, none, .callr spec_Digits [.t 16]⟩, ⟨some 18, none, .cat (.t 15) (.t 17)⟩, ⟨some 19, none, .cat (.t 18) (.c (.string ⟨#[32]⟩))⟩, ⟨some 20, none, .faddr 1 (.t 1)⟩, ⟨some 21, none, .load none (.t 20)⟩, ⟨some 22, none, .mov (.t 4)⟩, ⟨some 23, none, .ixa 8 (.t 21) (.t 22)⟩, ⟨some 24, none, .load (some 8) (.t 23)⟩, ⟨some 25, none, .callr spec_BodyText [.t 24]⟩, ⟨some 26, none, .cat (.t 19) (.t 25)⟩, ⟨some 27, none, .cat (.t 26) (.c (.string ⟨#[10]⟩))⟩, ⟨some 3, none, .mov (.t 27)⟩]))
  (.ops [⟨some 13, none, .mov (.t 4)⟩, ⟨some 14, none, .ari .add (.t 13) (.c (.int .i64 1))⟩, ⟨some 4, none, .mov (.t 14)⟩]))
def b_spec_WorldText_1 : SCode :=
 .seq (.seq (.ops [⟨some 28, none, .mov (.t 5)⟩, ⟨some 29, none, .faddr 2 (.t 1)⟩, ⟨some 30, none, .load none (.t 29)⟩, ⟨some 31, none, .len (.t 30)⟩, ⟨some 32, none, .cmp .lss (.t 28) (.t 31)⟩])
  (.cond (.t 32) (.skip)
   (.seq (.keep [1, 3]) (.exit 2))))
 (.seq (.block 3 (.seq (.ops [⟨some 35, none, .faddr 2 (.t 1)⟩, ⟨some 36, none, .load none (.t 35)⟩, ⟨some 37, none, .mov (.t 5)⟩, ⟨some 38, none, .ixa 5 (.t 36) (.t 37)⟩, ⟨some 39, none, .load (some 5) (.t 38)⟩, ⟨some 6, none, .alloc [.v (.int .i64 0), .v (.bool false), .s 1 [], .s 4 [], .s 4 []]⟩, ⟨none, none, .store 5 (.t 6) (.t 39)⟩])
    (.seq (.ops [⟨some 7, none, .mov (.c (.string ⟨#[111, 112, 101, 110]⟩))⟩])
     (.seq (.seq (.ops [⟨some 40, none, .faddr 1 (.t 6)⟩, ⟨some 41, none, .load none (.t 40)⟩])
       (.cond (.t 41) (.ops [⟨some 7, none, .mov (.c (.string ⟨#[99, 108, 111, 115, 101, 100]⟩))⟩])
        (.skip)))
      (.ops [⟨some 42, none, .mov (.t 3)⟩, ⟨some 43, none, .cat (.t 42) (.c (.string ⟨#[99, 104, 97, 110, 32]⟩))⟩, ⟨some 44, none, .faddr 0 (.t 6)⟩, ⟨some 45, none, .load none (.t 44)⟩, ⟨some 46, none, .callr spec_Digits [.t 45]⟩, ⟨some 47, none, .cat (.t 43) (.t 46)⟩, ⟨some 48, none, .cat (.t 47) (.c (.string ⟨#[32]⟩))⟩, ⟨some 49, none, .faddr 2 (.t 6)⟩, ⟨some 50, none, .load none (.t 49)⟩, ⟨some 51, none, .len (.t 50)⟩, ⟨some 52, none, .callr spec_Digits [.t 51]⟩, ⟨some 53, none, .cat (.t 48) (.t 52)⟩, ⟨some 54, none, .cat (.t 53) (.c (.string ⟨#[32]⟩))⟩, ⟨some 55, none, .mov (.t 7)⟩, ⟨some 56, none, .cat (.t 54) (.t 55)⟩, ⟨some 57, none, .cat (.t 56) (.c (.string ⟨#[10]⟩))⟩, ⟨some 3, none, .mov (.t 57)⟩])))))
  (.ops [⟨some 33, none, .mov (.t 5)⟩, ⟨some 34, none, .ari .add (.t 33) (.c (.int .i64 1))⟩, ⟨some 5, none, .mov (.t 34)⟩]))
/-- loop.example/g00286/spec.WorldText -/
def c_spec_WorldText : SCode :=
 .seq (.ops [⟨some 1, none, .vbox 6 (.t 0)⟩, ⟨some 2, none, .mov (.c (.string ⟨#[]⟩))⟩])
 (.seq (.ops [⟨some 3, none, .mov (.c (.string ⟨#[]⟩))⟩])
  (.seq (.seq (.ops [⟨some 4, none, .mov (.c (.int .i64 0))⟩])
    (.block 0 (.loop [1, 3, 4] b_spec_WorldText_0)))
   (.seq (.seq (.ops [⟨some 5, none, .mov (.c (.int .i64 0))⟩])
     (.block 2 (.loop [1, 3, 5] b_spec_WorldText_1)))
    (.seq (.ops [⟨some 58, none, .mov (.t 3)⟩, ⟨some 59, none, .faddr 3 (.t 1)⟩, ⟨some 60, none, .load none (.t 59)⟩, ⟨some 61, none, .callr spec_l28Out [.t 60]⟩, ⟨some 62, none, .cat (.t 58) (.t 61)⟩, ⟨some 63, none, .cat (.t 62) (.c (.string ⟨#[10]⟩))⟩, ⟨some 3, none, .mov (.t 63)⟩])
     (.seq (.seq (.ops [⟨some 64, none, .faddr 4 (.t 1)⟩, ⟨some 65, none, .load none (.t 64)⟩])
       (.cond (.t 65) (.ops [⟨some 66, none, .mov (.t 3)⟩, ⟨some 67, none, .cat (.t 66) (.c (.string ⟨#[111, 118, 101, 114, 32]⟩))⟩, ⟨some 68, none, .faddr 5 (.t 1)⟩, ⟨some 69, none, .load none (.t 68)⟩, ⟨some 70, none, .callr spec_Digits [.t 69]⟩, ⟨some 71, none, .cat (.t 67) (.t 70)⟩, ⟨some 72, none, .cat (.t 71) (.c (.string ⟨#[10]⟩))⟩, ⟨some 3, none, .mov (.t 72)⟩])
        (.skip)))
      (.seq (.ops [⟨some 73, none, .mov (.t 3)⟩, ⟨some 2, none, .mov (.t 73)⟩])
       (.ret)))))))
def s_spec_WorldText : SFn := ⟨1, 74, c_spec_WorldText, [.t 2]⟩
/-- loop.example/g00286/laws.toWorld -/
def c_laws_toWorld : SCode :=
 .seq (.ops [⟨some 1, none, .vbox 6 (.t 0)⟩, ⟨some 2, none, .alloc [.s 4 [], .s 8 [], .s 5 [], .s 1 [], .v (.bool false), .v (.int .i64 0)]⟩])
 (.seq (.ops [⟨some 3, none, .alloc [.s 4 [], .s 8 [], .s 5 [], .s 1 [], .v (.bool false), .v (.int .i64 0)]⟩])
  (.seq (.ops [⟨some 4, none, .faddr 0 (.t 1)⟩, ⟨some 5, none, .load none (.t 4)⟩, ⟨some 6, none, .call laws_toUnitS [.t 5]⟩, ⟨some 7, none, .faddr 0 (.t 3)⟩, ⟨none, none, .store 1 (.t 7) (.t 6)⟩])
   (.seq (.ops [⟨some 8, none, .faddr 1 (.t 1)⟩, ⟨some 9, none, .load none (.t 8)⟩, ⟨some 10, none, .call laws_toBodyS [.t 9]⟩, ⟨some 11, none, .faddr 1 (.t 3)⟩, ⟨none, none, .store 1 (.t 11) (.t 10)⟩])
    (.seq (.ops [⟨some 12, none, .faddr 2 (.t 1)⟩, ⟨some 13, none, .load none (.t 12)⟩, ⟨some 14, none, .call laws_toChanS [.t 13]⟩, ⟨some 15, none, .faddr 2 (.t 3)⟩, ⟨none, none, .store 1 (.t 15) (.t 14)⟩])
     (.seq (.ops [⟨some 16, none, .faddr 3 (.t 1)⟩, ⟨some 17, none, .load none (.t 16)⟩, ⟨some 18, none, .call laws_toIntS [.t 17]⟩, ⟨some 19, none, .faddr 3 (.t 3)⟩, ⟨none, none, .store 1 (.t 19) (.t 18)⟩])
      (.seq (.ops [⟨some 20, none, .faddr 4 (.t 1)⟩, ⟨some 21, none, .load none (.t 20)⟩, ⟨some 22, none, .faddr 4 (.t 3)⟩, ⟨none, none, .store 1 (.t 22) (.t 21)⟩])
       (.seq (.ops [⟨some 23, none, .faddr 5 (.t 1)⟩, ⟨some 24, none, .load none (.t 23)⟩, ⟨some 25, none, .faddr 5 (.t 3)⟩, ⟨none, none, .store 1 (.t 25) (.t 24)⟩])
        (.seq (.ops [⟨some 26, none, .load (some 6) (.t 3)⟩, ⟨none, none, .store 6 (.t 2) (.t 26)⟩])
         (.ret)))))))))
def s_laws_toWorld : SFn := ⟨1, 27, c_laws_toWorld, [.c 2 (some 6)]⟩
def b_impl_WorldText_0 : SCode :=
 .seq (.ops [⟨some 13, none, .cmp .lss (.t 12) (.t 11)⟩])
 (.seq (.cond (.t 13) (.skip)
   (.seq (.keep [1, 3]) (.exit 0)))
  (.seq (.block 1 (.seq (.ops [⟨some 14, none, .mov (.t 12)⟩, ⟨some 15, none, .ixa 8 (.t 10) (.t 12)⟩, ⟨some 16, none, .load (some 8) (.t 15)⟩, ⟨some 5, none, .alloc [.s 4 [], .v (.bool false), .v (.bool false), .v (.int .i64 0), .v (.int .i64 0), .v (.int .i64 0), .v (.int .i64 0), .v (.int .i64 0)]⟩, ⟨some 4, none, .mov (.t 14)⟩, ⟨none, none, .store 8 (.t 5) (.t 16)⟩])
     (.ops [⟨some 17, none, .mov (.t 3)⟩, ⟨some 18, none, .mov (.t 4)⟩, ⟨some 19, none, .callr impl_Digits [.t 18]⟩, ⟨some 20, none, .cat (.t 19) (.c (.string ⟨#[32]⟩))⟩, ⟨some 21, none, .load (some 8) (.t 5)⟩, ⟨some 22, none, .callr impl_BodyText [.t 21]⟩, ⟨some 23, none, .cat (.t 20) (.t 22)⟩, ⟨some 24, none, .cat (.t 23) (.c (.string ⟨#[10]⟩))⟩, ⟨some 25, none, .cat (.t 17) (.t 24)⟩, ⟨some 3, none, .mov (.t 25)⟩])))
   (.ops [⟨some 26, none, .ari .add (.t 12) (.c (.int .i64 1))⟩, ⟨some 12, none, .mov (.t 26)⟩])))
def b_impl_WorldText_1 : SCode :=
 .seq (.ops [⟨some 31, none, .cmp .lss (.t 30) (.t 29)⟩])
 (.seq (.cond (.t 31) (.skip)
   (.seq (.keep [1, 3]) (.exit 2)))
  (.seq (.block 3 (.seq (.ops [⟨some 32, none, .ixa 5 (.t 28) (.t 30)⟩, ⟨some 33, none, .load (some 5) (.t 32)⟩, ⟨some 7, none, .alloc [.v (.int .i64 0), .v (.bool false), .s 1 [], .s 4 [], .s 4 []]⟩, ⟨none, none, .store 5 (.t 7) (.t 33)⟩])
     (.seq (.ops [⟨some 8, none, .mov (.c (.string ⟨#[111, 112, 101, 110]⟩))⟩])
      (.seq (.seq (.ops [⟨some 34, none, .faddr 1 (.t 7)⟩, ⟨some 35, none, .load none (.t 34)⟩])
        (.cond (.t 35) (.ops [⟨some 8, none, .mov (.c (.string ⟨#[99, 108, 111, 115, 101, 100]⟩))⟩])
         (.skip)))
       (.ops [⟨some 36, none, .mov (.t 3)⟩, ⟨some 37, none, .faddr 0 (.t 7)⟩, ⟨some 38, none, .load none (.t 37)⟩, ⟨some 39, none, .callr impl_Digits [.t 38]⟩, ⟨some 40, none, .cat (.c (.string ⟨#[99, 104, 97, 110, 32]⟩)) (.t 39)⟩, ⟨some 41, none, .cat (.t 40) (.c (.string ⟨#[32]⟩))⟩, ⟨some 42, none, .faddr 2 (.t 7)⟩, ⟨some 43, none, .load none (.t 42)⟩, ⟨some 44, none, .len (.t 43)⟩, ⟨some 45, none, .callr impl_Digits [.t 44]⟩, ⟨some 46, none, .cat (.t 41) (.t 45)⟩, ⟨some 47, none, .cat (.t 46) (.c (.string ⟨#[32]⟩))⟩, ⟨some 48, none, .mov (.t 8)⟩, ⟨some 49, none, .cat (.t 47) (.t 48)⟩, ⟨some 50, none, .cat (.t 49) (.c (.string ⟨#[10]⟩))⟩, ⟨some 51, none, .cat (.t 36) (.t 50)⟩, ⟨some 3, none, .mov (.t 51)⟩])))))
   (.ops [⟨some 52, none, .ari .add (.t 30) (.c (.int .i64 1))⟩, ⟨some 30, none, .mov (.t 52)⟩])))
/-- loop.example/g00286/impl.WorldText -/
def c_impl_WorldText : SCode :=
 .seq (.ops [⟨some 1, none, .vbox 6 (.t 0)⟩, ⟨some 2, none, .mov (.c (.string ⟨#[]⟩))⟩])
 (.seq (.ops [⟨some 3, none, .mov (.c (.string ⟨#[]⟩))⟩])
  (.seq (.seq (.ops [⟨some 9, none, .faddr 1 (.t 1)⟩, ⟨some 10, none, .load none (.t 9)⟩, ⟨some 11, none, .len (.t 10)⟩, ⟨some 12, none, .mov (.c (.int .i64 0))⟩])
    (.block 0 (.loop [1, 3, 10, 11, 12] b_impl_WorldText_0)))
   (.seq (.seq (.ops [⟨some 27, none, .faddr 2 (.t 1)⟩, ⟨some 28, none, .load none (.t 27)⟩, ⟨some 29, none, .len (.t 28)⟩, ⟨some 30, none, .mov (.c (.int .i64 0))⟩])
     (.block 2 (.loop [1, 3, 28, 29, 30] b_impl_WorldText_1)))
    (.seq (.ops [⟨some 53, none, .mov (.t 3)⟩, ⟨some 54, none, .faddr 3 (.t 1)⟩, ⟨some 55, none, .load none (.t 54)⟩, ⟨some 56, none, .callr impl_outText [.t 55]⟩, ⟨some 57, none, .cat (.t 56) (.c (.string ⟨#[10]⟩))⟩, ⟨some 58, none, .cat (.t 53) (.t 57)⟩, ⟨some 3, none, .mov (.t 58)⟩])
     (.seq (.seq (.ops [⟨some 59, none, .faddr 4 (.t 1)⟩, ⟨some 60, none, .load none (.t 59)⟩])
       (.cond (.t 60) (.ops [⟨some 61, none, .mov (.t 3)⟩, ⟨some 62, none, .faddr 5 (.t 1)⟩, ⟨some 63, none, .load none (.t 62)⟩, ⟨some 64, none, .callr impl_Digits [.t 63]⟩, ⟨some 65, none, .cat (.c (.string ⟨#[111, 118, 101, 114, 32]⟩)) (.t 64)⟩, ⟨some 66, none, .cat (.t 65) (.c (.string ⟨#[10]⟩))⟩, ⟨some 67, none, .cat (.t 61) (.t 66)⟩, ⟨some 3, none, .mov (.t 67)⟩])
        (.skip)))
      (.seq (.ops [⟨some 68, none, .mov (.t 3)⟩, ⟨some 2, none, .mov (.t 68)⟩])
       (.ret)))))))
def s_impl_WorldText : SFn := ⟨1, 69, c_impl_WorldText, [.t 2]⟩
/-- loop.example/g00286/laws.eqWorld -/
def c_laws_eqWorld : SCode :=
 .seq (.ops [⟨some 2, none, .vbox 6 (.t 0)⟩, ⟨some 3, none, .vbox 6 (.t 1)⟩, ⟨some 4, none, .mov (.c (.bool false))⟩])
 (.seq (.seq (.ops [⟨some 5, none, .faddr 0 (.t 2)⟩, ⟨some 6, none, .load none (.t 5)⟩, ⟨some 7, none, .faddr 0 (.t 3)⟩, ⟨some 8, none, .load none (.t 7)⟩, ⟨some 9, none, .callr laws_eqUnitS [.t 6, .t 8]⟩, ⟨some 10, none, .not (.t 9)⟩])
   (.cond (.t 10) (.seq (.ops [⟨some 4, none, .mov (.c (.bool false))⟩])
     (.ret))
    (.skip)))
  (.seq (.seq (.ops [⟨some 11, none, .faddr 1 (.t 2)⟩, ⟨some 12, none, .load none (.t 11)⟩, ⟨some 13, none, .faddr 1 (.t 3)⟩, ⟨some 14, none, .load none (.t 13)⟩, ⟨some 15, none, .callr laws_eqBodyS [.t 12, .t 14]⟩, ⟨some 16, none, .not (.t 15)⟩])
    (.cond (.t 16) (.seq (.ops [⟨some 4, none, .mov (.c (.bool false))⟩])
      (.ret))
     (.skip)))
   (.seq (.seq (.ops [⟨some 17, none, .faddr 2 (.t 2)⟩, ⟨some 18, none, .load none (.t 17)⟩, ⟨some 19, none, .faddr 2 (.t 3)⟩, ⟨some 20, none, .load none (.t 19)⟩, ⟨some 21, none, .callr laws_eqChanS [.t 18, .t 20]⟩, ⟨some 22, none, .not (.t 21)⟩])
     (.cond (.t 22) (.seq (.ops [⟨some 4, none, .mov (.c (.bool false))⟩])
       (.ret))
      (.skip)))
    (.seq (.seq (.ops [⟨some 23, none, .faddr 3 (.t 2)⟩, ⟨some 24, none, .load none (.t 23)⟩, ⟨some 25, none, .faddr 3 (.t 3)⟩, ⟨some 26, none, .load none (.t 25)⟩, ⟨some 27, none, .callr laws_eqIntS [.t 24, .t 26]⟩, ⟨some 28, none, .not (.t 27)⟩])
      (.cond (.t 28) (.seq (.ops [⟨some 4, none, .mov (.c (.bool false))⟩])
        (.ret))
       (.skip)))
     (.seq (.seq (.ops [⟨some 29, none, .faddr 4 (.t 2)⟩, ⟨some 30, none, .load none (.t 29)⟩, ⟨some 31, none, .faddr 4 (.t 3)⟩, ⟨some 32, none, .load none (.t 31)⟩, ⟨some 33, none, .cmpb .neq (.t 30) (.t 32)⟩])
       (.cond (.t 33) (.seq (.ops [⟨some 4, none, .mov (.c (.bool false))⟩])
         (.ret))
        (.skip)))
      (.seq (.seq (.ops [⟨some 34, none, .faddr 5 (.t 2)⟩, ⟨some 35, none, .load none (.t 34)⟩, ⟨some 36, none, .faddr 5 (.t 3)⟩, ⟨some 37, none, .load none (.t 36)⟩, ⟨some 38, none, .cmp .neq (.t 35) (.t 37)⟩])
        (.cond (.t 38) (.seq (.ops [⟨some 4, none, .mov (.c (.bool false))⟩])
          (.ret))
         (.skip)))
       (.seq (.ops [⟨some 4, none, .mov (.c (.bool true))⟩])
        (.ret))))))))
def s_laws_eqWorld : SFn := ⟨2, 39, c_laws_eqWorld, [.t 4]⟩
/-- loop.example/g00286/laws.szUnit -/
def c_laws_szUnit : SCode :=
 .seq (.ops [⟨some 2, none, .vbox 4 (.t 0)⟩, ⟨some 4, none, .mov (.c (.int .i64 0))⟩])
 (.seq (.ops [⟨some 5, none, .mov (.t 1)⟩, ⟨some 6, none, .faddr 0 (.t 2)⟩, ⟨some 7, none, .load none (.t 6)⟩, ⟨some 8, none, .slen (.t 7)⟩, ⟨some 9, none, .ari .sub (.t 5) (.t 8)⟩, ⟨some 1, none, .mov (.t 9)⟩])
  (.seq (.seq (.ops [⟨some 10, none, .mov (.t 1)⟩, ⟨some 11, none, .cmp .lss (.t 10) (.c (.int .i64 0))⟩])
    (.cond (.t 11) (.seq (.ops [⟨some 4, none, .mov (.c (.int .i64 (-1)))⟩])
      (.ret))
     (.skip)))
   (.seq (.ops [⟨some 12, none, .faddr 3 (.t 2)⟩, ⟨some 13, none, .load none (.t 12)⟩, ⟨some 14, none, .mov (.t 1)⟩, ⟨some 15, none, .callr laws_szTacS [.t 13, .t 14]⟩, ⟨some 1, none, .mov (.t 15)⟩])
    (.seq (.seq (.ops [⟨some 16, none, .mov (.t 1)⟩, ⟨some 17, none, .cmp .lss (.t 16) (.c (.int .i64 0))⟩])
      (.cond (.t 17) (.seq (.ops [⟨some 4, none, .mov (.c (.int .i64 (-1)))⟩])
        (.ret))
       (.skip)))
     (.seq (.ops [⟨some 18, none, .mov (.t 1)⟩, ⟨some 4, none, .mov (.t 18)⟩])
      (.ret))))))
def s_laws_szUnit : SFn := ⟨2, 19, c_laws_szUnit, [.t 4]⟩
/-- loop.example/g00286/laws.toUnit -/
def c_laws_toUnit : SCode :=
 .seq (.ops [⟨some 1, none, .vbox 4 (.t 0)⟩, ⟨some 2, none, .alloc [.v (.string ⟨#[]⟩), .v (.int .i64 0), .v (.int .i64 0), .s 7 []]⟩])
 (.seq (.ops [⟨some 3, none, .alloc [.v (.string ⟨#[]⟩), .v (.int .i64 0), .v (.int .i64 0), .s 7 []]⟩])
  (.seq (.ops [⟨some 4, none, .faddr 0 (.t 1)⟩, ⟨some 5, none, .load none (.t 4)⟩, ⟨some 6, none, .faddr 0 (.t 3)⟩, ⟨none, none, .store 1 (.t 6) (.t 5)⟩])
   (.seq (.ops [⟨some 7, none, .faddr 1 (.t 1)⟩, ⟨some 8, none, .load none (.t 7)⟩, ⟨some 9, none, .faddr 1 (.t 3)⟩, ⟨none, none, .store 1 (.t 9) (.t 8)⟩])
    (.seq (.ops [⟨some 10, none, .faddr 2 (.t 1)⟩, ⟨some 11, none, .load none (.t 10)⟩, ⟨some 12, none, .faddr 2 (.t 3)⟩, ⟨none, none, .store 1 (.t 12) (.t 11)⟩])
     (.seq (.ops [⟨some 13, none, .faddr 3 (.t 1)⟩, ⟨some 14, none, .load none (.t 13)⟩, ⟨some 15, none, .call laws_toTacS [.t 14]⟩, ⟨some 16, none, .faddr 3 (.t 3)⟩, ⟨none, none, .store 1 (.t 16) (.t 15)⟩])
      (.seq (.ops [⟨some 17, none, .load (some 4) (.t 3)⟩, ⟨none, none, .store 4 (.t 2) (.t 17)⟩])
       (.ret)))))))
def s_laws_toUnit : SFn := ⟨1, 18, c_laws_toUnit, [.c 2 (some 4)]⟩
/-- loop.example/g00286/laws.eqUnit -/
def c_laws_eqUnit : SCode :=
 .seq (.ops [⟨some 2, none, .vbox 4 (.t 0)⟩, ⟨some 3, none, .vbox 4 (.t 1)⟩, ⟨some 4, none, .mov (.c (.bool false))⟩])
 (.seq (.seq (.ops [⟨some 5, none, .faddr 0 (.t 2)⟩, ⟨some 6, none, .load none (.t 5)⟩, ⟨some 7, none, .faddr 0 (.t 3)⟩, ⟨some 8, none, .load none (.t 7)⟩, ⟨some 9, none, .cmp .neq (.t 6) (.t 8)⟩])
   (.cond (.t 9) (.seq (.ops [⟨some 4, none, .mov (.c (.bool false))⟩])
     (.ret))
    (.skip)))
  (.seq (.seq (.ops [⟨some 10, none, .faddr 1 (.t 2)⟩, ⟨some 11, none, .load none (.t 10)⟩, ⟨some 12, none, .faddr 1 (.t 3)⟩, ⟨some 13, none, .load none (.t 12)⟩, ⟨some 14, none, .cmp .neq (.t 11) (.t 13)⟩])
    (.cond (.t 14) (.seq (.ops [⟨some 4, none, .mov (.c (.bool false))⟩])
      (.ret))
     (.skip)))
   (.seq (.seq (.ops [⟨some 15, none, .faddr 2 (.t 2)⟩, ⟨some 16, none, .load none (.t 15)⟩, ⟨some 17, none, .faddr 2 (.t 3)⟩, ⟨some 18, none, .load none (.t 17)⟩, ⟨some 19, none, .cmp .neq (.t 16) (.t 18)⟩])
     (.cond (.t 19) (.seq (.ops [⟨some 4, none, .mov (.c (.bool false))⟩])
       (.ret))
      (.skip)))
    (.seq (.seq (.ops [⟨some 20, none, .faddr 3 (.t 2)⟩, ⟨some 21, none, .load none (.t 20)⟩, ⟨some 22, none, .faddr 3 (.t 3)⟩, ⟨some 23, none, .load none (.t 22)⟩, ⟨some 24, none, .callr laws_eqTacS [.t 21, .t 23]⟩, ⟨some 25, none, .not (.t 24)⟩])
      (.cond (.t 25) (.seq (.ops [⟨some 4, none, .mov (.c (.bool false))⟩])
        (.ret))
       (.skip)))
     (.seq (.ops [⟨some 4, none, .mov (.c (.bool true))⟩])
      (.ret))))))
def s_laws_eqUnit : SFn := ⟨2, 26, c_laws_eqUnit, [.t 4]⟩
/-- loop.example/g00286/laws.szIntS -/
def c_laws_szIntS : SCode :=
 .seq (.ops [⟨some 4, none, .mov (.c (.int .i64 0))⟩])
 (.seq (.ops [⟨some 5, none, .mov (.t 1)⟩, ⟨some 6, none, .mov (.t 0)⟩, ⟨some 7, none, .len (.t 6)⟩, ⟨some 8, none, .ari .sub (.t 5) (.t 7)⟩, ⟨some 1, none, .mov (.t 8)⟩])
  (.seq (.seq (.ops [⟨some 9, none, .mov (.t 1)⟩, ⟨some 10, none, .cmp .lss (.t 9) (.c (.int .i64 0))⟩])
    (.cond (.t 10) (.seq (.ops [⟨some 4, none, .mov (.c (.int .i64 (-1)))⟩])
      (.ret))
     (.skip)))
   (.seq (.ops [⟨some 11, none, .mov (.t 1)⟩, ⟨some 4, none, .mov (.t 11)⟩])
    (.ret))))
def s_laws_szIntS : SFn := ⟨2, 12, c_laws_szIntS, [.t 4]⟩
def b_spec_Digits_0 : SCode :=
 .seq (.seq (.ops [⟨some 10, none, .mov (.t 0)⟩, ⟨some 11, none, .cmp .neq (.t 10) (.c (.int .i64 0))⟩])
  (.cond (.t 11) (.skip)
   (.seq (.keep [3, 4]) (.exit 0))))
 (.block 1 (.seq (.ops [⟨some 12, none, .mov (.t 0)⟩, ⟨some 13, none, .ari .rem (.t 12) (.c (.int .i64 10))⟩, ⟨some 5, none, .mov (.t 13)⟩])
   (.seq (.seq (.ops [⟨some 14, none, .mov (.t 5)⟩, ⟨some 15, none, .cmp .lss (.t 14) (.c (.int .i64 0))⟩])
     (.cond (.t 15) (.ops [⟨some 16, none, .mov (.t 5)⟩, ⟨some 17, none, .ari .sub (.c (.int .i64 0)) (.t 16)⟩, ⟨some 5, none, .mov (.t 17)⟩])
      (.skip)))
    (.seq (.ops [⟨some 18, none, .mov (.t 5)⟩, ⟨some 19, none, .ari .add (.c (.int .i64 48)) (.t 18)⟩, ⟨some 20, none, .conv .u8 (.t 19)⟩, ⟨some 21, none, .lit 1 [.t 20]⟩, ⟨some 22, none, .sob (.t 21)⟩, ⟨some 23, none, .mov (.t 4)⟩, ⟨some 24, none, .cat (.t 22) (.t 23)⟩, ⟨some 4, none, .mov (.t 24)⟩])
     (.ops [⟨some 25, none, .mov (.t 0)⟩, ⟨some 26, none, .ari .quo (.t 25) (.c (.int .i64 10))⟩, ⟨some 0, none, .mov (.t 26)⟩])))))
/-- loop.example/g00286/spec.Digits -/
def c_spec_Digits : SCode :=
 .seq (.ops [⟨some 2, none, .mov (.c (.string ⟨#[]⟩))⟩])
 (.seq (.seq (.ops [⟨some 6, none, .mov (.t 0)⟩, ⟨some 7, none, .cmp .eql (.t 6) (.c (.int .i64 0))⟩])
   (.cond (.t 7) (.seq (.ops [⟨some 2, none, .mov (.c (.string ⟨#[48]⟩))⟩])
     (.ret))
    (.skip)))
  (.seq (.ops [⟨some 8, none, .mov (.t 0)⟩, ⟨some 9, none, .cmp .lss (.t 8) (.c (.int .i64 0))⟩, ⟨some 3, none, .mov (.t 9)⟩])
   (.seq (.ops [⟨some 4, none, .mov (.c (.string ⟨#[]⟩))⟩])
    (.seq (.block 0 (.loop [0, 3, 4] b_spec_Digits_0))
     (.seq (.seq (.ops [⟨some 27, none, .mov (.t 3)⟩])
       (.cond (.t 27) (.seq (.ops [⟨some 28, none, .mov (.t 4)⟩, ⟨some 29, none, .cat (.c (.string ⟨#[45]⟩)) (.t 28)⟩, ⟨some 2, none, .mov (.t 29)⟩])
         (.ret))
        (.skip)))
      (.seq (.ops [⟨some 30, none, .mov (.t 4)⟩, ⟨some 2, none, .mov (.t 30)⟩])
       (.ret)))))))
def s_spec_Digits : SFn := ⟨1, 31, c_spec_Digits, [.t 2]⟩
def b_spec_l28Out_0 : SCode :=
 .seq (.seq (.ops [⟨some 5, none, .mov (.t 4)⟩, ⟨some 6, none, .mov (.t 0)⟩, ⟨some 7, none, .len (.t 6)⟩, ⟨some 8, none, .cmp .lss (.t 5) (.t 7)⟩])
  (.cond (.t 8) (.skip)
   (.seq (.keep [3]) (.exit 0))))
 (.seq (.block 1 (.ops [⟨some 11, none, .mov (.t 3)⟩, ⟨some 12, none, .cat (.t 11) (.c (.string ⟨#[32]⟩))⟩, ⟨some 13, none, .mov (.t 0)⟩, ⟨some 14, none, .mov (.t 4)⟩, ⟨some 15, none, .ixa 1 (.t 13) (.t 14)⟩, ⟨some 16, none, .load none (.t 15)⟩, ⟨some 17, none, .callr spec_Digits [.t 16]⟩, ⟨some 18, none, .cat (.t 12) (.t 17)⟩, ⟨some 3, none, .mov (.t 18)⟩]))
  (.ops [⟨some 9, none, .mov (.t 4)⟩, ⟨some 10, none, .ari .add (.t 9) (.c (.int .i64 1))⟩, ⟨some 4, none, .mov (.t 10)⟩]))
/-- loop.example/g00286/spec.l28Out -/
def c_spec_l28Out : SCode :=
 .seq (.ops [⟨some 2, none, .mov (.c (.string ⟨#[]⟩))⟩])
 (.seq (.ops [⟨some 3, none, .mov (.c (.string ⟨#[111, 117, 116]⟩))⟩])
  (.seq (.seq (.ops [⟨some 4, none, .mov (.c (.int .i64 0))⟩])
    (.block 0 (.loop [0, 3, 4] b_spec_l28Out_0)))
   (.seq (.ops [⟨some 19, none, .mov (.t 3)⟩, ⟨some 2, none, .mov (.t 19)⟩])
    (.ret))))
def s_spec_l28Out : SFn := ⟨1, 20, c_spec_l28Out, [.t 2]⟩
def b_laws_toIntS_0 : SCode :=
 .seq (.seq (.ops [⟨some 8, none, .mov (.t 4)⟩, ⟨some 9, none, .mov (.t 0)⟩, ⟨some 10, none, .len (.t 9)⟩, ⟨some 11, none, .cmp .lss (.t 8) (.t 10)⟩])
  (.cond (.t 11) (.skip)
   (.seq (.keep [3]) (.exit 0))))
 (.seq (.block 1 (.ops [⟨some 14, none, .mov (.t 3)⟩, ⟨some 15, none, .mov (.t 4)⟩, ⟨some 16, none, .mov (.t 0)⟩, ⟨some 17, none, .mov (.t 4)⟩, ⟨some 18, none, .ixa 1 (.t 16) (.t 17)⟩, ⟨some 19, none, .load none (.t 18)⟩, ⟨some 20, none, .ixa 1 (.t 14) (.t 15)⟩, ⟨none, none, .store 1 (.t 20) (.t 19)⟩]))
  (.ops [⟨some 12, none, .mov (.t 4)⟩, ⟨some 13, none, .ari .add (.t 12) (.c (.int .i64 1))⟩, ⟨some 4, none, .mov (.t 13)⟩]))
/-- loop.example/g00286/laws.toIntS -/
def c_laws_toIntS : SCode :=
 .seq (.ops [⟨some 2, none, .mov (.n 1)⟩])
 (.seq (.ops [⟨some 5, none, .mov (.t 0)⟩, ⟨some 6, none, .len (.t 5)⟩, ⟨some 7, none, .mk 1 8 [.v (.int .i64 0)] (.t 6)⟩, ⟨some 3, none, .mov (.t 7)⟩])
  (.seq (.seq (.ops [⟨some 4, none, .mov (.c (.int .i64 0))⟩])
    (.block 0 (.loop [0, 3, 4] b_laws_toIntS_0)))
   (.seq (.ops [⟨some 21, none, .mov (.t 3)⟩, ⟨some 2, none, .mov (.t 21)⟩])
    (.ret))))
def s_laws_toIntS : SFn := ⟨1, 22, c_laws_toIntS, [.t 2]⟩
/-- loop.example/g00286/impl.Digits -/
def c_impl_Digits : SCode :=
 .seq (.ops [⟨some 2, none, .mov (.c (.string ⟨#[]⟩))⟩])
 (.seq (.block 0 (.seq (.ops [⟨some 4, none, .mov (.t 0)⟩, ⟨some 5, none, .cmp .lss (.t 4) (.c (.int .i64 0))⟩, ⟨some 6, none, .mov (.t 5)⟩, ⟨some 7, (some (6, true)), .mov (.t 0)⟩, ⟨some 8, (some (6, true)), .cmp .gtr (.t 7) (.c (.int .i64 (-10)))⟩, ⟨some 9, none, .pick (.t 6) (.t 8) (.c (.bool false))⟩, ⟨some 3, none, .mov (.t 9)⟩])
    (.cond (.t 3) (.seq (.ops [⟨some 10, none, .mov (.t 0)⟩, ⟨some 11, none, .neg (.t 10)⟩, ⟨some 12, none, .callr impl_Digits [.t 11]⟩, ⟨some 13, none, .cat (.c (.string ⟨#[45]⟩)) (.t 12)⟩, ⟨some 2, none, .mov (.t 13)⟩])
      (.ret))
     (.seq (.ops [⟨some 15, none, .mov (.t 0)⟩, ⟨some 16, none, .cmp .lss (.t 15) (.c (.int .i64 0))⟩, ⟨some 14, none, .mov (.t 16)⟩])
      (.cond (.t 14) (.seq (.ops [⟨some 17, none, .mov (.t 0)⟩, ⟨some 18, none, .ari .quo (.t 17) (.c (.int .i64 10))⟩, ⟨some 19, none, .callr impl_Digits [.t 18]⟩, ⟨some 20, none, .mov (.t 0)⟩, ⟨some 21, none, .ari .rem (.t 20) (.c (.int .i64 10))⟩, ⟨some 22, none, .neg (.t 21)⟩, ⟨some 23, none, .callr impl_Digits [.t 22]⟩, ⟨some 24, none, .cat (.t 19) (.t 23)⟩, ⟨some 2, none, .mov (.t 24)⟩])
        (.ret))
       (.seq (.ops [⟨some 26, none, .mov (.t 0)⟩, ⟨some 27, none, .cmp .lss (.t 26) (.c (.int .i64 10))⟩, ⟨some 25, none, .mov (.t 27)⟩])
        (.cond (.t 25) (.seq (.ops [⟨some 28, none, .mov (.t 0)⟩, ⟨some 29, none, .ari .add (.c (.int .i64 48)) (.t 28)⟩, ⟨some 30, none, .conv .i32 (.t 29)⟩, ⟨some 31, none, .rune (.t 30)⟩, ⟨some 2, none, .mov (.t 31)⟩])
          (.ret))
         (.skip))))))))
  (.seq (.ops [⟨some 32, none, .mov (.t 0)⟩, ⟨some 33, none, .ari .quo (.t 32) (.c (.int .i64 10))⟩, ⟨some 34, none, .callr impl_Digits [.t 33]⟩, ⟨some 35, none, .mov (.t 0)⟩, ⟨some 36, none, .ari .rem (.t 35) (.c (.int .i64 10))⟩, ⟨some 37, none, .ari .add (.c (.int .i64 48)) (.t 36)⟩, ⟨some 38, none, .conv .i32 (.t 37)⟩, ⟨some 39, none, .rune (.t 38)⟩, ⟨some 40, none, .cat (.t 34) (.t 39)⟩, ⟨some 2, none, .mov (.t 40)⟩])
   (.ret)))
def s_impl_Digits : SFn := ⟨1, 41, c_impl_Digits, [.t 2]⟩
def b_impl_outText_0 : SCode :=
 .seq (.ops [⟨some 9, none, .cmp .lss (.t 8) (.t 7)⟩])
 (.seq (.cond (.t 9) (.skip)
   (.seq (.keep [3]) (.exit 0)))
  (.seq (.block 1 (.seq (.ops [⟨some 10, none, .ixa 1 (.t 6) (.t 8)⟩, ⟨some 11, none, .load none (.t 10)⟩, ⟨some 5, none, .mov (.t 11)⟩])
     (.ops [⟨some 12, none, .mov (.t 3)⟩, ⟨some 13, none, .mov (.t 5)⟩, ⟨some 14, none, .callr impl_Digits [.t 13]⟩, ⟨some 15, none, .cat (.c (.string ⟨#[32]⟩)) (.t 14)⟩, ⟨some 16, none, .cat (.t 12) (.t 15)⟩, ⟨some 3, none, .mov (.t 16)⟩])))
   (.ops [⟨some 17, none, .ari .add (.t 8) (.c (.int .i64 1))⟩, ⟨some 8, none, .mov (.t 17)⟩])))
/-- loop.example/g00286/impl.outText -/
def c_impl_outText : SCode :=
 .seq (.ops [⟨some 2, none, .mov (.c (.string ⟨#[]⟩))⟩])
 (.seq (.ops [⟨some 3, none, .mov (.c (.string ⟨#[111, 117, 116]⟩))⟩])
  (.seq (.seq (.ops [⟨some 6, none, .mov (.t 0)⟩, ⟨some 7, none, .len (.t 6)⟩, ⟨some 8, none, .mov (.c (.int .i64 0))⟩])
    (.block 0 (.loop [3, 6, 7, 8] b_impl_outText_0)))
   (.seq (.ops [⟨some 18, none, .mov (.t 3)⟩, ⟨some 2, none, .mov (.t 18)⟩])
    (.ret))))
def s_impl_outText : SFn := ⟨1, 19, c_impl_outText, [.t 2]⟩
def b_laws_eqIntS_0 : SCode :=
 .seq (.seq (.ops [⟨some 11, none, .mov (.t 5)⟩, ⟨some 12, none, .mov (.t 0)⟩, ⟨some 13, none, .len (.t 12)⟩, ⟨some 14, none, .cmp .lss (.t 11) (.t 13)⟩])
  (.cond (.t 14) (.skip)
   (.seq (.keep []) (.exit 0))))
 (.seq (.block 1 (.seq (.ops [⟨some 17, none, .mov (.t 0)⟩, ⟨some 18, none, .mov (.t 5)⟩, ⟨some 19, none, .ixa 1 (.t 17) (.t 18)⟩, ⟨some 20, none, .load none (.t 19)⟩, ⟨some 21, none, .mov (.t 1)⟩, ⟨some 22, none, .mov (.t 5)⟩, ⟨some 23, none, .ixa 1 (.t 21) (.t 22)⟩, ⟨some 24, none, .load none (.t 23)⟩, ⟨some 25, none, .cmp .neq (.t 20) (.t 24)⟩])
    (.cond (.t 25) (.seq (.ops [⟨some 4, none, .mov (.c (.bool false))⟩])
      (.seq (.keep [4]) .ret))
     (.skip))))
  (.ops [⟨some 15, none, .mov (.t 5)⟩, ⟨some 16, none, .ari .add (.t 15) (.c (.int .i64 1))⟩, ⟨some 5, none, .mov (.t 16)⟩]))
/-- loop.example/g00286/laws.eqIntS -/
def c_laws_eqIntS : SCode :=
 .seq (.ops [⟨some 4, none, .mov (.c (.bool false))⟩])
 (.seq (.seq (.ops [⟨some 6, none, .mov (.t 0)⟩, ⟨some 7, none, .len (.t 6)⟩, ⟨some 8, none, .mov (.t 1)⟩, ⟨some 9, none, .len (.t 8)⟩, ⟨some 10, none, .cmp .neq (.t 7) (.t 9)⟩])
   (.cond (.t 10) (.seq (.ops [⟨some 4, none, .mov (.c (.bool false))⟩])
     (.ret))
    (.skip)))
  (.seq (.seq (.ops [⟨some 5, none, .mov (.c (.int .i64 0))⟩])
    (.block 0 (.loop [0, 1, 5] b_laws_eqIntS_0)))
   (.seq (.ops [⟨some 4, none, .mov (.c (.bool true))⟩])
    (.ret))))
def s_laws_eqIntS : SFn := ⟨2, 26, c_laws_eqIntS, [.t 4]⟩
def b_laws_szUnitS_0 : SCode :=
 .seq (.seq (.ops [⟨some 12, none, .mov (.t 5)⟩, ⟨some 13, none, .mov (.t 0)⟩, ⟨some 14, none, .len (.t 13)⟩, ⟨some 15, none, .cmp .lss (.t 12) (.t 14)⟩])
  (.cond (.t 15) (.skip)
   (.seq (.keep [1]) (.exit 0))))
 (.seq (.block 1 (.seq (.ops [⟨some 18, none, .mov (.t 0)⟩, ⟨some 19, none, .mov (.t 5)⟩, ⟨some 20, none, .ixa 4 (.t 18) (.t 19)⟩, ⟨some 21, none, .load (some 4) (.t 20)⟩, ⟨some 22, none, .mov (.t 1)⟩, ⟨some 23, none, .callr laws_szUnit [.t 21, .t 22]⟩, ⟨some 1, none, .mov (.t 23)⟩])
    (.seq (.ops [⟨some 24, none, .mov (.t 1)⟩, ⟨some 25, none, .cmp .lss (.t 24) (.c (.int .i64 0))⟩])
     (.cond (.t 25) (.seq (.ops [⟨some 4, none, .mov (.c (.int .i64 (-1)))⟩])
       (.seq (.keep [4]) .ret))
      (.skip)))))
  (.ops [⟨some 16, none, .mov (.t 5)⟩, ⟨some 17, none, .ari .add (.t 16) (.c (.int .i64 1))⟩, ⟨some 5, none, .mov (.t 17)⟩]))
/-- loop.example/g00286/laws.szUnitS -/
def c_laws_szUnitS : SCode :=
 .seq (.ops [⟨some 4, none, .mov (.c (.int .i64 0))⟩])
 (.seq (.ops [⟨some 6, none, .mov (.t 1)⟩, ⟨some 7, none, .mov (.t 0)⟩, ⟨some 8, none, .len (.t 7)⟩, ⟨some 9, none, .ari .sub (.t 6) (.t 8)⟩, ⟨some 1, none, .mov (.t 9)⟩])
  (.seq (.seq (.ops [⟨some 10, none, .mov (.t 1)⟩, ⟨some 11, none, .cmp .lss (.t 10) (.c (.int .i64 0))⟩])
    (.cond (.t 11) (.seq (.ops [⟨some 4, none, .mov (.c (.int .i64 (-1)))⟩])
      (.ret))
     (.skip)))
   (.seq (.seq (.ops [⟨some 5, none, .mov (.c (.int .i64 0))⟩])
     (.block 0 (.loop [0, 1, 5] b_laws_szUnitS_0)))
    (.seq (.ops [⟨some 26, none, .mov (.t 1)⟩, ⟨some 4, none, .mov (.t 26)⟩])
     (.ret)))))
def s_laws_szUnitS : SFn := ⟨2, 27, c_laws_szUnitS, [.t 4]⟩
def b_laws_szBodyS_0 : SCode :=
 .seq (.seq (.ops [⟨some 12, none, .mov (.t 5)⟩, ⟨some 13, none, .mov (.t 0)⟩, ⟨some 14, none, .len (.t 13)⟩, ⟨some 15, none, .cmp .lss (.t 12) (.t 14)⟩])
  (.cond (.t 15) (.skip)
   (.seq (.keep [1]) (.exit 0))))
 (.seq (.block 1 (.seq (.ops [⟨some 18, none, .mov (.t 0)⟩, ⟨some 19, none, .mov (.t 5)⟩, ⟨some 20, none, .ixa 8 (.t 18) (.t 19)⟩, ⟨some 21, none, .load (some 8) (.t 20)⟩, ⟨some 22, none, .mov (.t 1)⟩, ⟨some 23, none, .callr laws_szBody [.t 21, .t 22]⟩, ⟨some 1, none, .mov (.t 23)⟩])
    (.seq (.ops [⟨some 24, none, .mov (.t 1)⟩, ⟨some 25, none, .cmp .lss (.t 24) (.c (.int .i64 0))⟩])
     (.cond (.t 25) (.seq (.ops [⟨some 4, none, .mov (.c (.int .i64 (-1)))⟩])
       (.seq (.keep [4]) .ret))
      (.skip)))))
  (.ops [⟨some 16, none, .mov (.t 5)⟩, ⟨some 17, none, .ari .add (.t 16) (.c (.int .i64 1))⟩, ⟨some 5, none, .mov (.t 17)⟩]))
/-- loop.example/g00286/laws.szBodyS -/
def c_laws_szBodyS : SCode :=
 .seq (.ops [⟨some 4, none, .mov (.c (.int .i64 0))⟩])
 (.seq (.ops [⟨some 6, none, .mov (.t 1)⟩, ⟨some 7, none, .mov (.t 0)⟩, ⟨some 8, none, .len (.t 7)⟩, ⟨some 9, none, .ari .sub (.t 6) (.t 8)⟩, ⟨some 1, none, .mov (.t 9)⟩])
  (.seq (.seq (.ops [⟨some 10, none, .mov (.t 1)⟩, ⟨some 11, none, .cmp .lss (.t 10) (.c (.int .i64 0))⟩])
    (.cond (.t 11) (.seq (.ops [⟨some 4, none, .mov (.c (.int .i64 (-1)))⟩])
      (.ret))
     (.skip)))
   (.seq (.seq (.ops [⟨some 5, none, .mov (.c (.int .i64 0))⟩])
     (.block 0 (.loop [0, 1, 5] b_laws_szBodyS_0)))
    (.seq (.ops [⟨some 26, none, .mov (.t 1)⟩, ⟨some 4, none, .mov (.t 26)⟩])
     (.ret)))))
def s_laws_szBodyS : SFn := ⟨2, 27, c_laws_szBodyS, [.t 4]⟩
def b_laws_szChanS_0 : SCode :=
 .seq (.seq (.ops [⟨some 12, none, .mov (.t 5)⟩, ⟨some 13, none, .mov (.t 0)⟩, ⟨some 14, none, .len (.t 13)⟩, ⟨some 15, none, .cmp .lss (.t 12) (.t 14)⟩])
  (.cond (.t 15) (.skip)
   (.seq (.keep [1]) (.exit 0))))
 (.seq (.block 1 (.seq (.ops [⟨some 18, none, .mov (.t 0)⟩, ⟨some 19, none, .mov (.t 5)⟩, ⟨some 20, none, .ixa 5 (.t 18) (.t 19)⟩, ⟨some 21, none, .load (some 5) (.t 20)⟩, ⟨some 22, none, .mov (.t 1)⟩, ⟨some 23, none, .callr laws_szChan [.t 21, .t 22]⟩, ⟨some 1, none, .mov (.t 23)⟩])
    (.seq (.ops [⟨some 24, none, .mov (.t 1)⟩, ⟨some 25, none, .cmp .lss (.t 24) (.c (.int .i64 0))⟩])
     (.cond (.t 25) (.seq (.ops [⟨some 4, none, .mov (.c (.int .i64 (-1)))⟩])
       (.seq (.keep [4]) .ret))
      (.skip)))))
  (.ops [⟨some 16, none, .mov (.t 5)⟩, ⟨some 17, none, .ari .add (.t 16) (.c (.int .i64 1))⟩, ⟨some 5, none, .mov (.t 17)⟩]))
/-- loop.example/g00286/laws.szChanS -/
def c_laws_szChanS : SCode :=
 .seq (.ops [⟨some 4, none, .mov (.c (.int .i64 0))⟩])
 (.seq (.ops [⟨some 6, none, .mov (.t 1)⟩, ⟨some 7, none, .mov (.t 0)⟩, ⟨some 8, none, .len (.t 7)⟩, ⟨some 9, none, .ari .sub (.t 6) (.t 8)⟩, ⟨some 1, none, .mov (.t 9)⟩])
  (.seq (.seq (.ops [⟨some 10, none, .mov (.t 1)⟩, ⟨some 11, none, .cmp .lss (.t 10) (.c (.int .i64 0))⟩])
    (.cond (.t 11) (.seq (.ops [⟨some 4, none, .mov (.c (.int .i64 (-1)))⟩])
      (.ret))
     (.skip)))
   (.seq (.seq (.ops [⟨some 5, none, .mov (.c (.int .i64 0))⟩])
     (.block 0 (.loop [0, 1, 5] b_laws_szChanS_0)))
    (.seq (.ops [⟨some 26, none, .mov (.t 1)⟩, ⟨some 4, none, .mov (.t 26)⟩])
     (.ret)))))
def s_laws_szChanS : SFn := ⟨2, 27, c_laws_szChanS, [.t 4]⟩
def b_spec_BodyText_0 : SCode :=
 .seq (.seq (.ops [⟨some 11, none, .mov (.t 4)⟩, ⟨some 12, none, .faddr 0 (.t 1)⟩, ⟨some 13, none, .load none (.t 12)⟩, ⟨some 14, none, .len (.t 13)⟩, ⟨some 15, none, .cmp .lss (.t 11) (.t 14)⟩])
  (.cond (.t 15) (.skip)
   (.seq (.keep [3]) (.exit 1))))
 (.seq (.block 2 (.ops [⟨some 18, none, .mov (.t 3)⟩, ⟨some 19, none, .cat (.t 18) (.c (.string ⟨#[32]⟩))⟩, ⟨some 20, none, .faddr 0 (.t 1)⟩, ⟨some 21, none, .load none (.t 20)⟩, ⟨some 22, none, .mov (.t 4)⟩, ⟨some 23, none, .ixa 4 (.t 21) (.t 22)⟩, ⟨some 24, none, .faddr 0 (.t 23)⟩, ⟨some 25, none, .load none (.t 24)⟩, ⟨some 26, none, .callr spec_Digits [.t 25]⟩, ⟨some 27, none, .cat (.t 19) (.t 26)⟩, ⟨some 28, none, .cat (.t 27) (.c (.string ⟨#[58]⟩))⟩, ⟨some 29, none, .faddr 0 (.t 1)⟩, ⟨some 30, none, .load none (.t 29)⟩, ⟨some 31, none, .mov (.t 4)⟩, ⟨some 32, none, .ixa 4 (.t 30) (.t 31)⟩, ⟨some 33, none, .faddr 1 (.t 32)⟩, ⟨some 34, none, .load none (.t 33)⟩, ⟨some 35, none, .callr spec_Digits [.t 34]⟩, ⟨some 36, none, .cat (.t 28) (.t 35)⟩, ⟨some 3, none, .mov (.t 36)⟩]))
  (.ops [⟨some 16, none, .mov (.t 4)⟩, ⟨some 17, none, .ari .add (.t 16) (.c (.int .i64 1))⟩, ⟨some 4, none, .mov (.t 17)⟩]))
/-- loop.example/g00286/spec.BodyText -/
def c_spec_BodyText : SCode :=
 .seq (.ops [⟨some 1, none, .vbox 8 (.t 0)⟩, ⟨some 2, none, .mov (.c (.string ⟨#[]⟩))⟩])
 (.seq (.ops [⟨some 3, none, .mov (.c (.string ⟨#[111, 112, 101, 110]⟩))⟩])
  (.seq (.block 0 (.seq (.ops [⟨some 6, none, .faddr 1 (.t 1)⟩, ⟨some 7, none, .load none (.t 6)⟩, ⟨some 5, none, .mov (.t 7)⟩])
     (.cond (.t 5) (.ops [⟨some 3, none, .mov (.c (.string ⟨#[101, 110, 100, 101, 100]⟩))⟩])
      (.seq (.ops [⟨some 9, none, .faddr 2 (.t 1)⟩, ⟨some 10, none, .load none (.t 9)⟩, ⟨some 8, none, .mov (.t 10)⟩])
       (.cond (.t 8) (.ops [⟨some 3, none, .mov (.c (.string ⟨#[119, 97, 105, 116, 115]⟩))⟩])
        (.skip))))))
   (.seq (.seq (.ops [⟨some 4, none, .mov (.c (.int .i64 0))⟩])
     (.block 1 (.loop [1, 3, 4] b_spec_BodyText_0)))
    (.seq (.ops [⟨some 37, none, .mov (.t 3)⟩, ⟨some 2, none, .mov (.t 37)⟩])
     (.ret)))))
def s_spec_BodyText : SFn := ⟨1, 38, c_spec_BodyText, [.t 2]⟩
def b_laws_toUnitS_0 : SCode :=
 .seq (.seq (.ops [⟨some 8, none, .mov (.t 4)⟩, ⟨some 9, none, .mov (.t 0)⟩, ⟨some 10, none, .len (.t 9)⟩, ⟨some 11, none, .cmp .lss (.t 8) (.t 10)⟩])
  (.cond (.t 11) (.skip)
   (.seq (.keep [3]) (.exit 0))))
 (.seq (.block 1 (.ops [⟨some 14, none, .mov (.t 3)⟩, ⟨some 15, none, .mov (.t 4)⟩, ⟨some 16, none, .mov (.t 0)⟩, ⟨some 17, none, .mov (.t 4)⟩, ⟨some 18, none, .ixa 4 (.t 16) (.t 17)⟩, ⟨some 19, none, .load (some 4) (.t 18)⟩, ⟨some 20, none, .call laws_toUnit [.t 19]⟩, ⟨some 21, none, .ixa 4 (.t 14) (.t 15)⟩, ⟨none, none, .store 4 (.t 21) (.t 20)⟩]))
  (.ops [⟨some 12, none, .mov (.t 4)⟩, ⟨some 13, none, .ari .add (.t 12) (.c (.int .i64 1))⟩, ⟨some 4, none, .mov (.t 13)⟩]))
/-- loop.example/g00286/laws.toUnitS -/
def c_laws_toUnitS : SCode :=
 .seq (.ops [⟨some 2, none, .mov (.n 4)⟩])
 (.seq (.ops [⟨some 5, none, .mov (.t 0)⟩, ⟨some 6, none, .len (.t 5)⟩, ⟨some 7, none, .mk 4 56 [.v (.string ⟨#[]⟩), .v (.int .i64 0), .v (.int .i64 0), .s 7 []] (.t 6)⟩, ⟨some 3, none, .mov (.t 7)⟩])
  (.seq (.seq (.ops [⟨some 4, none, .mov (.c (.int .i64 0))⟩])
    (.block 0 (.loop [0, 3, 4] b_laws_toUnitS_0)))
   (.seq (.ops [⟨some 22, none, .mov (.t 3)⟩, ⟨some 2, none, .mov (.t 22)⟩])
    (.ret))))
def s_laws_toUnitS : SFn := ⟨1, 23, c_laws_toUnitS, [.t 2]⟩
def b_laws_toBodyS_0 : SCode :=
 .seq (.seq (.ops [⟨some 8, none, .mov (.t 4)⟩, ⟨some 9, none, .mov (.t 0)⟩, ⟨some 10, none, .len (.t 9)⟩, ⟨some 11, none, .cmp .lss (.t 8) (.t 10)⟩])
  (.cond (.t 11) (.skip)
   (.seq (.keep [3]) (.exit 0))))
 (.seq (.block 1 (.ops [⟨some 14, none, .mov (.t 3)⟩, ⟨some 15, none, .mov (.t 4)⟩, ⟨some 16, none, .mov (.t 0)⟩, ⟨some 17, none, .mov (.t 4)⟩, ⟨some 18, none, .ixa 8 (.t 16) (.t 17)⟩, ⟨some 19, none, .load (some 8) (.t 18)⟩, ⟨some 20, none, .call laws_toBody [.t 19]⟩, ⟨some 21, none, .ixa 8 (.t 14) (.t 15)⟩, ⟨none, none, .store 8 (.t 21) (.t 20)⟩]))
  (.ops [⟨some 12, none, .mov (.t 4)⟩, ⟨some 13, none, .ari .add (.t 12) (.c (.int .i64 1))⟩, ⟨some 4, none, .mov (.t 13)⟩]))
/-- loop.example/g00286/laws.toBodyS -/
def c_laws_toBodyS : SCode :=
 .seq (.ops [⟨some 2, none, .mov (.n 8)⟩])
 (.seq (.ops [⟨some 5, none, .mov (.t 0)⟩, ⟨some 6, none, .len (.t 5)⟩, ⟨some 7, none, .mk 8 72 [.s 4 [], .v (.bool false), .v (.bool false), .v (.int .i64 0), .v (.int .i64 0), .v (.int .i64 0), .v (.int .i64 0), .v (.int .i64 0)] (.t 6)⟩, ⟨some 3, none, .mov (.t 7)⟩])
  (.seq (.seq (.ops [⟨some 4, none, .mov (.c (.int .i64 0))⟩])
    (.block 0 (.loop [0, 3, 4] b_laws_toBodyS_0)))
   (.seq (.ops [⟨some 22, none, .mov (.t 3)⟩, ⟨some 2, none, .mov (.t 22)⟩])
    (.ret))))
def s_laws_toBodyS : SFn := ⟨1, 23, c_laws_toBodyS, [.t 2]⟩
def b_laws_toChanS_0 : SCode :=
 .seq (.seq (.ops [⟨some 8, none, .mov (.t 4)⟩, ⟨some 9, none, .mov (.t 0)⟩, ⟨some 10, none, .len (.t 9)⟩, ⟨some 11, none, .cmp .lss (.t 8) (.t 10)⟩])
  (.cond (.t 11) (.skip)
   (.seq (.keep [3]) (.exit 0))))
 (.seq (.block 1 (.ops [⟨some 14, none, .mov (.t 3)⟩, ⟨some 15, none, .mov (.t 4)⟩, ⟨some 16, none, .mov (.t 0)⟩, ⟨some 17, none, .mov (.t 4)⟩, ⟨some 18, none, .ixa 5 (.t 16) (.t 17)⟩, ⟨some 19, none, .load (some 5) (.t 18)⟩, ⟨some 20, none, .call laws_toChan [.t 19]⟩, ⟨some 21, none, .ixa 5 (.t 14) (.t 15)⟩, ⟨none, none, .store 5 (.t 21) (.t 20)⟩]))
  (.ops [⟨some 12, none, .mov (.t 4)⟩, ⟨some 13, none, .ari .add (.t 12) (.c (.int .i64 1))⟩, ⟨some 4, none, .mov (.t 13)⟩]))
/-- loop.example/g00286/laws.toChanS -/
def c_laws_toChanS : SCode :=
 .seq (.ops [⟨some 2, none, .mov (.n 5)⟩])
 (.seq (.ops [⟨some 5, none, .mov (.t 0)⟩, ⟨some 6, none, .len (.t 5)⟩, ⟨some 7, none, .mk 5 88 [.v (.int .i64 0), .v (.bool false), .s 1 [], .s 4 [], .s 4 []] (.t 6)⟩, ⟨some 3, none, .mov (.t 7)⟩])
  (.seq (.seq (.ops [⟨some 4, none, .mov (.c (.int .i64 0))⟩])
    (.block 0 (.loop [0, 3, 4] b_laws_toChanS_0)))
   (.seq (.ops [⟨some 22, none, .mov (.t 3)⟩, ⟨some 2, none, .mov (.t 22)⟩])
    (.ret))))
def s_laws_toChanS : SFn := ⟨1, 23, c_laws_toChanS, [.t 2]⟩
def b_impl_BodyText_0 : SCode :=
 .seq (.ops [⟨some 16, none, .cmp .lss (.t 15) (.t 14)⟩])
 (.seq (.cond (.t 16) (.skip)
   (.seq (.keep [3]) (.exit 1)))
  (.seq (.block 2 (.seq (.ops [⟨some 17, none, .ixa 4 (.t 13) (.t 15)⟩, ⟨some 18, none, .load (some 4) (.t 17)⟩, ⟨some 5, none, .alloc [.v (.int .i64 0), .v (.int .i64 0), .s 1 [], .v (.int .i64 0)]⟩, ⟨none, none, .store 4 (.t 5) (.t 18)⟩])
     (.ops [⟨some 19, none, .mov (.t 3)⟩, ⟨some 20, none, .faddr 0 (.t 5)⟩, ⟨some 21, none, .load none (.t 20)⟩, ⟨some 22, none, .callr impl_Digits [.t 21]⟩, ⟨some 23, none, .cat (.c (.string ⟨#[32]⟩)) (.t 22)⟩, ⟨some 24, none, .cat (.t 23) (.c (.string ⟨#[58]⟩))⟩, ⟨some 25, none, .faddr 1 (.t 5)⟩, ⟨some 26, none, .load none (.t 25)⟩, ⟨some 27, none, .callr impl_Digits [.t 26]⟩, ⟨some 28, none, .cat (.t 24) (.t 27)⟩, ⟨some 29, none, .cat (.t 19) (.t 28)⟩, ⟨some 3, none, .mov (.t 29)⟩])))
   (.ops [⟨some 30, none, .ari .add (.t 15) (.c (.int .i64 1))⟩, ⟨some 15, none, .mov (.t 30)⟩])))
/-- loop.example/g00286/impl.BodyText -/
def c_impl_BodyText : SCode :=
 .seq (.ops [⟨some 1, none, .vbox 8 (.t 0)⟩, ⟨some 2, none, .mov (.c (.string ⟨#[]⟩))⟩])
 (.seq (.ops [⟨some 3, none, .mov (.c (.string ⟨#[111, 112, 101, 110]⟩))⟩])
  (.seq (.block 0 (.seq (.ops [⟨some 7, none, .faddr 1 (.t 1)⟩, ⟨some 8, none, .load none (.t 7)⟩, ⟨some 6, none, .mov (.t 8)⟩])
     (.cond (.t 6) (.ops [⟨some 3, none, .mov (.c (.string ⟨#[101, 110, 100, 101, 100]⟩))⟩])
      (.seq (.ops [⟨some 10, none, .faddr 2 (.t 1)⟩, ⟨some 11, none, .load none (.t 10)⟩, ⟨some 9, none, .mov (.t 11)⟩])
       (.cond (.t 9) (.ops [⟨some 3, none, .mov (.c (.string ⟨#[119, 97, 105, 116, 115]⟩))⟩])
        (.skip))))))
   (.seq (.seq (.ops [⟨some 12, none, .faddr 0 (.t 1)⟩, ⟨some 13, none, .load none (.t 12)⟩, ⟨some 14, none, .len (.t 13)⟩, ⟨some 15, none, .mov (.c (.int .i64 0))⟩])
     (.block 1 (.loop [3, 13, 14, 15] b_impl_BodyText_0)))
    (.seq (.ops [⟨some 31, none, .mov (.t 3)⟩, ⟨some 2, none, .mov (.t 31)⟩])
     (.ret)))))
def s_impl_BodyText : SFn := ⟨1, 32, c_impl_BodyText, [.t 2]⟩
def b_laws_eqUnitS_0 : SCode :=
 .seq (.seq (.ops [⟨some 11, none, .mov (.t 5)⟩, ⟨some 12, none, .mov (.t 0)⟩, ⟨some 13, none, .len (.t 12)⟩, ⟨some 14, none, .cmp .lss (.t 11) (.t 13)⟩])
  (.cond (.t 14) (.skip)
   (.seq (.keep []) (.exit 0))))
 (.seq (.block 1 (.seq (.ops [⟨some 17, none, .mov (.t 0)⟩, ⟨some 18, none, .mov (.t 5)⟩, ⟨some 19, none, .ixa 4 (.t 17) (.t 18)⟩, ⟨some 20, none, .load (some 4) (.t 19)⟩, ⟨some 21, none, .mov (.t 1)⟩, ⟨some 22, none, .mov (.t 5)⟩, ⟨some 23, none, .ixa 4 (.t 21) (.t 22)⟩, ⟨some 24, none, .load (some 4) (.t 23)⟩, ⟨some 25, none, .callr laws_eqUnit [.t 20, .t 24]⟩, ⟨some 26, none, .not (.t 25)⟩])
    (.cond (.t 26) (.seq (.ops [⟨some 4, none, .mov (.c (.bool false))⟩])
      (.seq (.keep [4]) .ret))
     (.skip))))
  (.ops [⟨some 15, none, .mov (.t 5)⟩, ⟨some 16, none, .ari .add (.t 15) (.c (.int .i64 1))⟩, ⟨some 5, none, .mov (.t 16)⟩]))
/-- loop.example/g00286/laws.eqUnitS -/
def c_laws_eqUnitS : SCode :=
 .seq (.ops [⟨some 4, none, .mov (.c (.bool false))⟩])
 (.seq (.seq (.ops [⟨some 6, none, .mov (.t 0)⟩, ⟨some 7, none, .len (.t 6)⟩, ⟨some 8, none, .mov (.t 1)⟩, ⟨some 9, none, .len (.t 8)⟩, ⟨some 10, none, .cmp .neq (.t 7) (.t 9)⟩])
   (.cond (.t 10) (.seq (.ops [⟨some 4, none, .mov (.c (.bool false))⟩])
     (.ret))
    (.skip)))
  (.seq (.seq (.ops [⟨some 5, none, .mov (.c (.int .i64 0))⟩])
    (.block 0 (.loop [0, 1, 5] b_laws_eqUnitS_0)))
   (.seq (.ops [⟨some 4, none, .mov (.c (.bool true))⟩])
    (.ret))))
def s_laws_eqUnitS : SFn := ⟨2, 27, c_laws_eqUnitS, [.t 4]⟩
def b_laws_eqBodyS_0 : SCode :=
 .seq (.seq (.ops [⟨some 11, none, .mov (.t 5)⟩, ⟨some 12, none, .mov (.t 0)⟩, ⟨some 13, none, .len (.t 12)⟩, ⟨some 14, none, .cmp .lss (.t 11) (.t 13)⟩])
  (.cond (.t 14) (.skip)
   (.seq (.keep []) (.exit 0))))
 (.seq (.block 1 (.seq (.ops [⟨some 17, none, .mov (.t 0)⟩, ⟨some 18, none, .mov (.t 5)⟩, ⟨some 19, none, .ixa 8 (.t 17) (.t 18)⟩, ⟨some 20, none, .load (some 8) (.t 19)⟩, ⟨some 21, none, .mov (.t 1)⟩, ⟨some 22, none, .mov (.t 5)⟩, ⟨some 23, none, .ixa 8 (.t 21) (.t 22)⟩, ⟨some 24, none, .load (some 8) (.t 23)⟩, ⟨some 25, none, .callr laws_eqBody [.t 20, .t 24]⟩, ⟨some 26, none, .not (.t 25)⟩])
    (.cond (.t 26) (.seq (.ops [⟨some 4, none, .mov (.c (.bool false))⟩])
      (.seq (.keep [4]) .ret))
     (.skip))))
  (.ops [⟨some 15, none, .mov (.t 5)⟩, ⟨some 16, none, .ari .add (.t 15) (.c (.int .i64 1))⟩, ⟨some 5, none, .mov (.t 16)⟩]))
/-- loop.example/g00286/laws.eqBodyS -/
def c_laws_eqBodyS : SCode :=
 .seq (.ops [⟨some 4, none, .mov (.c (.bool false))⟩])
 (.seq (.seq (.ops [⟨some 6, none, .mov (.t 0)⟩, ⟨some 7, none, .len (.t 6)⟩, ⟨some 8, none, .mov (.t 1)⟩, ⟨some 9, none, .len (.t 8)⟩, ⟨some 10, none, .cmp .neq (.t 7) (.t 9)⟩])
   (.cond (.t 10) (.seq (.ops [⟨some 4, none, .mov (.c (.bool false))⟩])
     (.ret))
    (.skip)))
  (.seq (.seq (.ops [⟨some 5, none, .mov (.c (.int .i64 0))⟩])
    (.block 0 (.loop [0, 1, 5] b_laws_eqBodyS_0)))
   (.seq (.ops [⟨some 4, none, .mov (.c (.bool true))⟩])
    (.ret))))
def s_laws_eqBodyS : SFn := ⟨2, 27, c_laws_eqBodyS, [.t 4]⟩
def b_laws_eqChanS_0 : SCode :=
 .seq (.seq (.ops [⟨some 11, none, .mov (.t 5)⟩, ⟨some 12, none, .mov (.t 0)⟩, ⟨some 13, none, .len (.t 12)⟩, ⟨some 14, none, .cmp .lss (.t 11) (.t 13)⟩])
  (.cond (.t 14) (.skip)
   (.seq (.keep []) (.exit 0))))
 (.seq (.block 1 (.seq (.ops [⟨some 17, none, .mov (.t 0)⟩, ⟨some 18, none, .mov (.t 5)⟩, ⟨some 19, none, .ixa 5 (.t 17) (.t 18)⟩, ⟨some 20, none, .load (some 5) (.t 19)⟩, ⟨some 21, none, .mov (.t 1)⟩, ⟨some 22, none, .mov (.t 5)⟩, ⟨some 23, none, .ixa 5 (.t 21) (.t 22)⟩, ⟨some 24, none, .load (some 5) (.t 23)⟩, ⟨some 25, none, .callr laws_eqChan [.t 20, .t 24]⟩, ⟨some 26, none, .not (.t 25)⟩])
    (.cond (.t 26) (.seq (.ops [⟨some 4, none, .mov (.c (.bool false))⟩])
      (.seq (.keep [4]) .ret))
     (.skip))))
  (.ops [⟨some 15, none, .mov (.t 5)⟩, ⟨some 16, none, .ari .add (.t 15) (.c (.int .i64 1))⟩, ⟨some 5, none, .mov (.t 16)⟩]))
/-- loop.example/g00286/laws.eqChanS -/
def c_laws_eqChanS : SCode :=
 .seq (.ops [⟨some 4, none, .mov (.c (.bool false))⟩])
 (.seq (.seq (.ops [⟨some 6, none, .mov (.t 0)⟩, ⟨some 7, none, .len (.t 6)⟩, ⟨some 8, none, .mov (.t 1)⟩, ⟨some 9, none, .len (.t 8)⟩, ⟨some 10, none, .cmp .neq (.t 7) (.t 9)⟩])
   (.cond (.t 10) (.seq (.ops [⟨some 4, none, .mov (.c (.bool false))⟩])
     (.ret))
    (.skip)))
  (.seq (.seq (.ops [⟨some 5, none, .mov (.c (.int .i64 0))⟩])
    (.block 0 (.loop [0, 1, 5] b_laws_eqChanS_0)))
   (.seq (.ops [⟨some 4, none, .mov (.c (.bool true))⟩])
    (.ret))))
def s_laws_eqChanS : SFn := ⟨2, 27, c_laws_eqChanS, [.t 4]⟩
def b_laws_szTacS_0 : SCode :=
 .seq (.seq (.ops [⟨some 12, none, .mov (.t 5)⟩, ⟨some 13, none, .mov (.t 0)⟩, ⟨some 14, none, .len (.t 13)⟩, ⟨some 15, none, .cmp .lss (.t 12) (.t 14)⟩])
  (.cond (.t 15) (.skip)
   (.seq (.keep [1]) (.exit 0))))
 (.seq (.block 1 (.seq (.ops [⟨some 18, none, .mov (.t 0)⟩, ⟨some 19, none, .mov (.t 5)⟩, ⟨some 20, none, .ixa 7 (.t 18) (.t 19)⟩, ⟨some 21, none, .load (some 7) (.t 20)⟩, ⟨some 22, none, .mov (.t 1)⟩, ⟨some 23, none, .callr laws_szTac [.t 21, .t 22]⟩, ⟨some 1, none, .mov (.t 23)⟩])
    (.seq (.ops [⟨some 24, none, .mov (.t 1)⟩, ⟨some 25, none, .cmp .lss (.t 24) (.c (.int .i64 0))⟩])
     (.cond (.t 25) (.seq (.ops [⟨some 4, none, .mov (.c (.int .i64 (-1)))⟩])
       (.seq (.keep [4]) .ret))
      (.skip)))))
  (.ops [⟨some 16, none, .mov (.t 5)⟩, ⟨some 17, none, .ari .add (.t 16) (.c (.int .i64 1))⟩, ⟨some 5, none, .mov (.t 17)⟩]))
/-- loop.example/g00286/laws.szTacS -/
def c_laws_szTacS : SCode :=
 .seq (.ops [⟨some 4, none, .mov (.c (.int .i64 0))⟩])
 (.seq (.ops [⟨some 6, none, .mov (.t 1)⟩, ⟨some 7, none, .mov (.t 0)⟩, ⟨some 8, none, .len (.t 7)⟩, ⟨some 9, none, .ari .sub (.t 6) (.t 8)⟩, ⟨some 1, none, .mov (.t 9)⟩])
  (.seq (.seq (.ops [⟨some 10, none, .mov (.t 1)⟩, ⟨some 11, none, .cmp .lss (.t 10) (.c (.int .i64 0))⟩])
    (.cond (.t 11) (.seq (.ops [⟨some 4, none, .mov (.c (.int .i64 (-1)))⟩])
      (.ret))
     (.skip)))
   (.seq (.seq (.ops [⟨some 5, none, .mov (.c (.int .i64 0))⟩])
     (.block 0 (.loop [0, 1, 5] b_laws_szTacS_0)))
    (.seq (.ops [⟨some 26, none, .mov (.t 1)⟩, ⟨some 4, none, .mov (.t 26)⟩])
     (.ret)))))
def s_laws_szTacS : SFn := ⟨2, 27, c_laws_szTacS, [.t 4]⟩
def b_laws_toTacS_0 : SCode :=
 .seq (.seq (.ops [⟨some 8, none, .mov (.t 4)⟩, ⟨some 9, none, .mov (.t 0)⟩, ⟨some 10, none, .len (.t 9)⟩, ⟨some 11, none, .cmp .lss (.t 8) (.t 10)⟩])
  (.cond (.t 11) (.skip)
   (.seq (.keep [3]) (.exit 0))))
 (.seq (.block 1 (.ops [⟨some 14, none, .mov (.t 3)⟩, ⟨some 15, none, .mov (.t 4)⟩, ⟨some 16, none, .mov (.t 0)⟩, ⟨some 17, none, .mov (.t 4)⟩, ⟨some 18, none, .ixa 7 (.t 16) (.t 17)⟩, ⟨some 19, none, .load (some 7) (.t 18)⟩, ⟨some 20, none, .call laws_toTac [.t 19]⟩, ⟨some 21, none, .ixa 7 (.t 14) (.t 15)⟩, ⟨none, none, .store 7 (.t 21) (.t 20)⟩]))
  (.ops [⟨some 12, none, .mov (.t 4)⟩, ⟨some 13, none, .ari .add (.t 12) (.c (.int .i64 1))⟩, ⟨some 4, none, .mov (.t 13)⟩]))
/-- loop.example/g00286/laws.toTacS -/
def c_laws_toTacS : SCode :=
 .seq (.ops [⟨some 2, none, .mov (.n 7)⟩])
 (.seq (.ops [⟨some 5, none, .mov (.t 0)⟩, ⟨some 6, none, .len (.t 5)⟩, ⟨some 7, none, .mk 7 80 [.v (.int .i64 0), .v (.int .i64 0), .v (.int .i64 0), .v (.int .i64 0), .v (.int .i64 0), .v (.string ⟨#[]⟩), .s 1 []] (.t 6)⟩, ⟨some 3, none, .mov (.t 7)⟩])
  (.seq (.seq (.ops [⟨some 4, none, .mov (.c (.int .i64 0))⟩])
    (.block 0 (.loop [0, 3, 4] b_laws_toTacS_0)))
   (.seq (.ops [⟨some 22, none, .mov (.t 3)⟩, ⟨some 2, none, .mov (.t 22)⟩])
    (.ret))))
def s_laws_toTacS : SFn := ⟨1, 23, c_laws_toTacS, [.t 2]⟩
def b_laws_eqTacS_0 : SCode :=
 .seq (.seq (.ops [⟨some 11, none, .mov (.t 5)⟩, ⟨some 12, none, .mov (.t 0)⟩, ⟨some 13, none, .len (.t 12)⟩, ⟨some 14, none, .cmp .lss (.t 11) (.t 13)⟩])
  (.cond (.t 14) (.skip)
   (.seq (.keep []) (.exit 0))))
 (.seq (.block 1 (.seq (.ops [⟨some 17, none, .mov (.t 0)⟩, ⟨some 18, none, .mov (.t 5)⟩, ⟨some 19, none, .ixa 7 (.t 17) (.t 18)⟩, ⟨some 20, none, .load (some 7) (.t 19)⟩, ⟨some 21, none, .mov (.t 1)⟩, ⟨some 22, none, .mov (.t 5)⟩, ⟨some 23, none, .ixa 7 (.t 21) (.t 22)⟩, ⟨some 24, none, .load (some 7) (.t 23)⟩, ⟨some 25, none, .callr laws_eqTac [.t 20, .t 24]⟩, ⟨some 26, none, .not (.t 25)⟩])
    (.cond (.t 26) (.seq (.ops [⟨some 4, none, .mov (.c (.bool false))⟩])
      (.seq (.keep [4]) .ret))
     (.skip))))
  (.ops [⟨some 15, none, .mov (.t 5)⟩, ⟨some 16, none, .ari .add (.t 15) (.c (.int .i64 1))⟩, ⟨some 5, none, .mov (.t 16)⟩]))
/-- loop.example/g00286/laws.eqTacS -/
def c_laws_eqTacS : SCode :=
 .seq (.ops [⟨some 4, none, .mov (.c (.bool false))⟩])
 (.seq (.seq (.ops [⟨some 6, none, .mov (.t 0)⟩, ⟨some 7, none, .len (.t 6)⟩, ⟨some 8, none, .mov (.t 1)⟩, ⟨some 9, none, .len (.t 8)⟩, ⟨some 10, none, .cmp .neq (.t 7) (.t 9)⟩])
   (.cond (.t 10) (.seq (.ops [⟨some 4, none, .mov (.c (.bool false))⟩])
     (.ret))
    (.skip)))
  (.seq (.seq (.ops [⟨some 5, none, .mov (.c (.int .i64 0))⟩])
    (.block 0 (.loop [0, 1, 5] b_laws_eqTacS_0)))
   (.seq (.ops [⟨some 4, none, .mov (.c (.bool true))⟩])
    (.ret))))
def s_laws_eqTacS : SFn := ⟨2, 27, c_laws_eqTacS, [.t 4]⟩
/-- loop.example/g00286/laws.szBody -/
def c_laws_szBody : SCode :=
 .seq (.ops [⟨some 2, none, .vbox 8 (.t 0)⟩, ⟨some 4, none, .mov (.c (.int .i64 0))⟩])
 (.seq (.ops [⟨some 5, none, .faddr 0 (.t 2)⟩, ⟨some 6, none, .load none (.t 5)⟩, ⟨some 7, none, .mov (.t 1)⟩, ⟨some 8, none, .callr laws_szFrameS [.t 6, .t 7]⟩, ⟨some 1, none, .mov (.t 8)⟩])
  (.seq (.seq (.ops [⟨some 9, none, .mov (.t 1)⟩, ⟨some 10, none, .cmp .lss (.t 9) (.c (.int .i64 0))⟩])
    (.cond (.t 10) (.seq (.ops [⟨some 4, none, .mov (.c (.int .i64 (-1)))⟩])
      (.ret))
     (.skip)))
   (.seq (.ops [⟨some 11, none, .mov (.t 1)⟩, ⟨some 4, none, .mov (.t 11)⟩])
    (.ret))))
def s_laws_szBody : SFn := ⟨2, 12, c_laws_szBody, [.t 4]⟩
/-- loop.example/g00286/laws.szChan -/
def c_laws_szChan : SCode :=
 .seq (.ops [⟨some 2, none, .vbox 5 (.t 0)⟩, ⟨some 4, none, .mov (.c (.int .i64 0))⟩])
 (.seq (.ops [⟨some 5, none, .faddr 2 (.t 2)⟩, ⟨some 6, none, .load none (.t 5)⟩, ⟨some 7, none, .mov (.t 1)⟩, ⟨some 8, none, .callr laws_szIntS [.t 6, .t 7]⟩, ⟨some 1, none, .mov (.t 8)⟩])
  (.seq (.seq (.ops [⟨some 9, none, .mov (.t 1)⟩, ⟨some 10, none, .cmp .lss (.t 9) (.c (.int .i64 0))⟩])
    (.cond (.t 10) (.seq (.ops [⟨some 4, none, .mov (.c (.int .i64 (-1)))⟩])
      (.ret))
     (.skip)))
   (.seq (.ops [⟨some 11, none, .faddr 3 (.t 2)⟩, ⟨some 12, none, .load none (.t 11)⟩, ⟨some 13, none, .mov (.t 1)⟩, ⟨some 14, none, .callr laws_szWaitS [.t 12, .t 13]⟩, ⟨some 1, none, .mov (.t 14)⟩])
    (.seq (.seq (.ops [⟨some 15, none, .mov (.t 1)⟩, ⟨some 16, none, .cmp .lss (.t 15) (.c (.int .i64 0))⟩])
      (.cond (.t 16) (.seq (.ops [⟨some 4, none, .mov (.c (.int .i64 (-1)))⟩])
        (.ret))
       (.skip)))
     (.seq (.ops [⟨some 17, none, .faddr 4 (.t 2)⟩, ⟨some 18, none, .load none (.t 17)⟩, ⟨some 19, none, .mov (.t 1)⟩, ⟨some 20, none, .callr laws_szWaitS [.t 18, .t 19]⟩, ⟨some 1, none, .mov (.t 20)⟩])
      (.seq (.seq (.ops [⟨some 21, none, .mov (.t 1)⟩, ⟨some 22, none, .cmp .lss (.t 21) (.c (.int .i64 0))⟩])
        (.cond (.t 22) (.seq (.ops [⟨some 4, none, .mov (.c (.int .i64 (-1)))⟩])
          (.ret))
         (.skip)))
       (.seq (.ops [⟨some 23, none, .mov (.t 1)⟩, ⟨some 4, none, .mov (.t 23)⟩])
        (.ret))))))))
def s_laws_szChan : SFn := ⟨2, 24, c_laws_szChan, [.t 4]⟩
/-- loop.example/g00286/laws.toBody -/
def c_laws_toBody : SCode :=
 .seq (.ops [⟨some 1, none, .vbox 8 (.t 0)⟩, ⟨some 2, none, .alloc [.s 4 [], .v (.bool false), .v (.bool false), .v (.int .i64 0), .v (.int .i64 0), .v (.int .i64 0), .v (.int .i64 0), .v (.int .i64 0)]⟩])
 (.seq (.ops [⟨some 3, none, .alloc [.s 4 [], .v (.bool false), .v (.bool false), .v (.int .i64 0), .v (.int .i64 0), .v (.int .i64 0), .v (.int .i64 0), .v (.int .i64 0)]⟩])
  (.seq (.ops [⟨some 4, none, .faddr 0 (.t 1)⟩, ⟨some 5, none, .load none (.t 4)⟩, ⟨some 6, none, .call laws_toFrameS [.t 5]⟩, ⟨some 7, none, .faddr 0 (.t 3)⟩, ⟨none, none, .store 1 (.t 7) (.t 6)⟩])
   (.seq (.ops [⟨some 8, none, .faddr 1 (.t 1)⟩, ⟨some 9, none, .load none (.t 8)⟩, ⟨some 10, none, .faddr 1 (.t 3)⟩, ⟨none, none, .store 1 (.t 10) (.t 9)⟩])
    (.seq (.ops [⟨some 11, none, .faddr 2 (.t 1)⟩, ⟨some 12, none, .load none (.t 11)⟩, ⟨some 13, none, .faddr 2 (.t 3)⟩, ⟨none, none, .store 1 (.t 13) (.t 12)⟩])
     (.seq (.ops [⟨some 14, none, .faddr 3 (.t 1)⟩, ⟨some 15, none, .load none (.t 14)⟩, ⟨some 16, none, .faddr 3 (.t 3)⟩, ⟨none, none, .store 1 (.t 16) (.t 15)⟩])
      (.seq (.ops [⟨some 17, none, .faddr 4 (.t 1)⟩, ⟨some 18, none, .load none (.t 17)⟩, ⟨some 19, none, .faddr 4 (.t 3)⟩, ⟨none, none, .store 1 (.t 19) (.t 18)⟩])
       (.seq (.ops [⟨some 20, none, .faddr 5 (.t 1)⟩, ⟨some 21, none, .load none (.t 20)⟩, ⟨some 22, none, .faddr 5 (.t 3)⟩, ⟨none, none, .store 1 (.t 22) (.t 21)⟩])
        (.seq (.ops [⟨some 23, none, .faddr 6 (.t 1)⟩, ⟨some 24, none, .load none (.t 23)⟩, ⟨some 25, none, .faddr 6 (.t 3)⟩, ⟨none, none, .store 1 (.t 25) (.t 24)⟩])
         (.seq (.ops [⟨some 26, none, .faddr 7 (.t 1)⟩, ⟨some 27, none, .load none (.t 26)⟩, ⟨some 28, none, .faddr 7 (.t 3)⟩, ⟨none, none, .store 1 (.t 28) (.t 27)⟩])
          (.seq (.ops [⟨some 29, none, .load (some 8) (.t 3)⟩, ⟨none, none, .store 8 (.t 2) (.t 29)⟩])
           (.ret)))))))))))
def s_laws_toBody : SFn := ⟨1, 30, c_laws_toBody, [.c 2 (some 8)]⟩
/-- loop.example/g00286/laws.toChan -/
def c_laws_toChan : SCode :=
 .seq (.ops [⟨some 1, none, .vbox 5 (.t 0)⟩, ⟨some 2, none, .alloc [.v (.int .i64 0), .v (.bool false), .s 1 [], .s 4 [], .s 4 []]⟩])
 (.seq (.ops [⟨some 3, none, .alloc [.v (.int .i64 0), .v (.bool false), .s 1 [], .s 4 [], .s 4 []]⟩])
  (.seq (.ops [⟨some 4, none, .faddr 0 (.t 1)⟩, ⟨some 5, none, .load none (.t 4)⟩, ⟨some 6, none, .faddr 0 (.t 3)⟩, ⟨none, none, .store 1 (.t 6) (.t 5)⟩])
   (.seq (.ops [⟨some 7, none, .faddr 1 (.t 1)⟩, ⟨some 8, none, .load none (.t 7)⟩, ⟨some 9, none, .faddr 1 (.t 3)⟩, ⟨none, none, .store 1 (.t 9) (.t 8)⟩])
    (.seq (.ops [⟨some 10, none, .faddr 2 (.t 1)⟩, ⟨some 11, none, .load none (.t 10)⟩, ⟨some 12, none, .call laws_toIntS [.t 11]⟩, ⟨some 13, none, .faddr 2 (.t 3)⟩, ⟨none, none, .store 1 (.t 13) (.t 12)⟩])
     (.seq (.ops [⟨some 14, none, .faddr 3 (.t 1)⟩, ⟨some 15, none, .load none (.t 14)⟩, ⟨some 16, none, .call laws_toWaitS [.t 15]⟩, ⟨some 17, none, .faddr 3 (.t 3)⟩, ⟨none, none, .store 1 (.t 17) (.t 16)⟩])
      (.seq (.ops [⟨some 18, none, .faddr 4 (.t 1)⟩, ⟨some 19, none, .load none (.t 18)⟩, ⟨some 20, none, .call laws_toWaitS [.t 19]⟩, ⟨some 21, none, .faddr 4 (.t 3)⟩, ⟨none, none, .store 1 (.t 21) (.t 20)⟩])
       (.seq (.ops [⟨some 22, none, .load (some 5) (.t 3)⟩, ⟨none, none, .store 5 (.t 2) (.t 22)⟩])
        (.ret))))))))
def s_laws_toChan : SFn := ⟨1, 23, c_laws_toChan, [.c 2 (some 5)]⟩
/-- loop.example/g00286/laws.eqBody -/
def c_laws_eqBody : SCode :=
 .seq (.ops [⟨some 2, none, .vbox 8 (.t 0)⟩, ⟨some 3, none, .vbox 8 (.t 1)⟩, ⟨some 4, none, .mov (.c (.bool false))⟩])
 (.seq (.seq (.ops [⟨some 5, none, .faddr 0 (.t 2)⟩, ⟨some 6, none, .load none (.t 5)⟩, ⟨some 7, none, .faddr 0 (.t 3)⟩, ⟨some 8, none, .load none (.t 7)⟩, ⟨some 9, none, .callr laws_eqFrameS [.t 6, .t 8]⟩, ⟨some 10, none, .not (.t 9)⟩])
   (.cond (.t 10) (.seq (.ops [⟨some 4, none, .mov (.c (.bool false))⟩])
     (.ret))
    (.skip)))
  (.seq (.seq (.ops [⟨some 11, none, .faddr 1 (.t 2)⟩, ⟨some 12, none, .load none (.t 11)⟩, ⟨some 13, none, .faddr 1 (.t 3)⟩, ⟨some 14, none, .load none (.t 13)⟩, ⟨some 15, none, .cmpb .neq (.t 12) (.t 14)⟩])
    (.cond (.t 15) (.seq (.ops [⟨some 4, none, .mov (.c (.bool false))⟩])
      (.ret))
     (.skip)))
   (.seq (.seq (.ops [⟨some 16, none, .faddr 2 (.t 2)⟩, ⟨some 17, none, .load none (.t 16)⟩, ⟨some 18, none, .faddr 2 (.t 3)⟩, ⟨some 19, none, .load none (.t 18)⟩, ⟨some 20, none, .cmpb .neq (.t 17) (.t 19)⟩])
     (.cond (.t 20) (.seq (.ops [⟨some 4, none, .mov (.c (.bool false))⟩])
       (.ret))
      (.skip)))
    (.seq (.seq (.ops [⟨some 21, none, .faddr 3 (.t 2)⟩, ⟨some 22, none, .load none (.t 21)⟩, ⟨some 23, none, .faddr 3 (.t 3)⟩, ⟨some 24, none, .load none (.t 23)⟩, ⟨some 25, none, .cmp .neq (.t 22) (.t 24)⟩])
      (.cond (.t 25) (.seq (.ops [⟨some 4, none, .mov (.c (.bool false))⟩])
        (.ret))
       (.skip)))
     (.seq (.seq (.ops [⟨some 26, none, .faddr 4 (.t 2)⟩, ⟨some 27, none, .load none (.t 26)⟩, ⟨some 28, none, .faddr 4 (.t 3)⟩, ⟨some 29, none, .load none (.t 28)⟩, ⟨some 30, none, .cmp .neq (.t 27) (.t 29)⟩])
       (.cond (.t 30) (.seq (.ops [⟨some 4, none, .mov (.c (.bool false))⟩])
         (.ret))
        (.skip)))
      (.seq (.seq (.ops [⟨some 31, none, .faddr 5 (.t 2)⟩, ⟨some 32, none, .load none (.t 31)⟩, ⟨some 33, none, .faddr 5 (.t 3)⟩, ⟨some 34, none, .load none (.t 33)⟩, ⟨some 35, none, .cmp .neq (.t 32) (.t 34)⟩])
        (.cond (.t 35) (.seq (.ops [⟨some 4, none, .mov (.c (.bool false))⟩])
          (.ret))
         (.skip)))
       (.seq (.seq (.ops [⟨some 36, none, .faddr 6 (.t 2)⟩, ⟨some 37, none, .load none (.t 36)⟩, ⟨some 38, none, .faddr 6 (.t 3)⟩, ⟨some 39, none, .load none (.t 38)⟩, ⟨some 40, none, .cmp .neq (.t 37) (.t 39)⟩])
         (.cond (.t 40) (.seq (.ops [⟨some 4, none, .mov (.c (.bool false))⟩])
           (.ret))
          (.skip)))
        (.seq (.seq (.ops [⟨some 41, none, .faddr 7 (.t 2)⟩, ⟨some 42, none, .load none (.t 41)⟩, ⟨some 43, none, .faddr 7 (.t 3)⟩, ⟨some 44, none, .load none (.t 43)⟩, ⟨some 45, none, .cmp .neq (.t 42) (.t 44)⟩])
          (.cond (.t 45) (.seq (.ops [⟨some 4, none, .mov (.c (.bool false))⟩])
            (.ret))
           (.skip)))
         (.seq (.ops [⟨some 4, none, .mov (.c (.bool true))⟩])
          (.ret))))))))))
def s_laws_eqBody : SFn := ⟨2, 46, c_laws_eqBody, [.t 4]⟩
/-- loop.example/g00286/laws.eqChan -/
def c_laws_eqChan : SCode :=
 .seq (.ops [⟨some 2, none, .vbox 5 (.t 0)⟩, ⟨some 3, none, .vbox 5 (.t 1)⟩, ⟨some 4, none, .mov (.c (.bool false))⟩])
 (.seq (.seq (.ops [⟨some 5, none, .faddr 0 (.t 2)⟩, ⟨some 6, none, .load none (.t 5)⟩, ⟨some 7, none, .faddr 0 (.t 3)⟩, ⟨some 8, none, .load none (.t 7)⟩, ⟨some 9, none, .cmp .neq (.t 6) (.t 8)⟩])
   (.cond (.t 9) (.seq (.ops [⟨some 4, none, .mov (.c (.bool false))⟩])
     (.ret))
    (.skip)))
  (.seq (.seq (.ops [⟨some 10, none, .faddr 1 (.t 2)⟩, ⟨some 11, none, .load none (.t 10)⟩, ⟨some 12, none, .faddr 1 (.t 3)⟩, ⟨some 13, none, .load none (.t 12)⟩, ⟨some 14, none, .cmpb .neq (.t 11) (.t 13)⟩])
    (.cond (.t 14) (.seq (.ops [⟨some 4, none, .mov (.c (.bool false))⟩])
      (.ret))
     (.skip)))
   (.seq (.seq (.ops [⟨some 15, none, .faddr 2 (.t 2)⟩, ⟨some 16, none, .load none (.t 15)⟩, ⟨some 17, none, .faddr 2 (.t 3)⟩, ⟨some 18, none, .load none (.t 17)⟩, ⟨some 19, none, .callr laws_eqIntS [.t 16, .t 18]⟩, ⟨some 20, none, .not (.t 19)⟩])
     (.cond (.t 20) (.seq (.ops [⟨some 4, none, .mov (.c (.bool false))⟩])
       (.ret))
      (.skip)))
    (.seq (.seq (.ops [⟨some 21, none, .faddr 3 (.t 2)⟩, ⟨some 22, none, .load none (.t 21)⟩, ⟨some 23, none, .faddr 3 (.t 3)⟩, ⟨some 24, none, .load none (.t 23)⟩, ⟨some 25, none, .callr laws_eqWaitS [.t 22, .t 24]⟩, ⟨some 26, none, .not (.t 25)⟩])
      (.cond (.t 26) (.seq (.ops [⟨some 4, none, .mov (.c (.bool false))⟩])
        (.ret))
       (.skip)))
     (.seq (.seq (.ops [⟨some 27, none, .faddr 4 (.t 2)⟩, ⟨some 28, none, .load none (.t 27)⟩, ⟨some 29, none, .faddr 4 (.t 3)⟩, ⟨some 30, none, .load none (.t 29)⟩, ⟨some 31, none, .callr laws_eqWaitS [.t 28, .t 30]⟩, ⟨some 32, none, .not (.t 31)⟩])
       (.cond (.t 32) (.seq (.ops [⟨some 4, none, .mov (.c (.bool false))⟩])
         (.ret))
        (.skip)))
      (.seq (.ops [⟨some 4, none, .mov (.c (.bool true))⟩])
       (.ret)))))))
def s_laws_eqChan : SFn := ⟨2, 33, c_laws_eqChan, [.t 4]⟩
/-- loop.example/g00286/laws.szTac -/
def c_laws_szTac : SCode :=
 .seq (.ops [⟨some 2, none, .vbox 7 (.t 0)⟩, ⟨some 4, none, .mov (.c (.int .i64 0))⟩])
 (.seq (.ops [⟨some 5, none, .mov (.t 1)⟩, ⟨some 6, none, .faddr 5 (.t 2)⟩, ⟨some 7, none, .load none (.t 6)⟩, ⟨some 8, none, .slen (.t 7)⟩, ⟨some 9, none, .ari .sub (.t 5) (.t 8)⟩, ⟨some 1, none, .mov (.t 9)⟩])
  (.seq (.seq (.ops [⟨some 10, none, .mov (.t 1)⟩, ⟨some 11, none, .cmp .lss (.t 10) (.c (.int .i64 0))⟩])
    (.cond (.t 11) (.seq (.ops [⟨some 4, none, .mov (.c (.int .i64 (-1)))⟩])
      (.ret))
     (.skip)))
   (.seq (.ops [⟨some 12, none, .faddr 6 (.t 2)⟩, ⟨some 13, none, .load none (.t 12)⟩, ⟨some 14, none, .mov (.t 1)⟩, ⟨some 15, none, .callr laws_szIntS [.t 13, .t 14]⟩, ⟨some 1, none, .mov (.t 15)⟩])
    (.seq (.seq (.ops [⟨some 16, none, .mov (.t 1)⟩, ⟨some 17, none, .cmp .lss (.t 16) (.c (.int .i64 0))⟩])
      (.cond (.t 17) (.seq (.ops [⟨some 4, none, .mov (.c (.int .i64 (-1)))⟩])
        (.ret))
       (.skip)))
     (.seq (.ops [⟨some 18, none, .mov (.t 1)⟩, ⟨some 4, none, .mov (.t 18)⟩])
      (.ret))))))
def s_laws_szTac : SFn := ⟨2, 19, c_laws_szTac, [.t 4]⟩
/-- loop.example/g00286/laws.toTac -/
def c_laws_toTac : SCode :=
 .seq (.ops [⟨some 1, none, .vbox 7 (.t 0)⟩, ⟨some 2, none, .alloc [.v (.int .i64 0), .v (.int .i64 0), .v (.int .i64 0), .v (.int .i64 0), .v (.int .i64 0), .v (.string ⟨#[]⟩), .s 1 []]⟩])
 (.seq (.ops [⟨some 3, none, .alloc [.v (.int .i64 0), .v (.int .i64 0), .v (.int .i64 0), .v (.int .i64 0), .v (.int .i64 0), .v (.string ⟨#[]⟩), .s 1 []]⟩])
  (.seq (.ops [⟨some 4, none, .faddr 0 (.t 1)⟩, ⟨some 5, none, .load none (.t 4)⟩, ⟨some 6, none, .faddr 0 (.t 3)⟩, ⟨none, none, .store 1 (.t 6) (.t 5)⟩])
   (.seq (.ops [⟨some 7, none, .faddr 1 (.t 1)⟩, ⟨some 8, none, .load none (.t 7)⟩, ⟨some 9, none, .faddr 1 (.t 3)⟩, ⟨none, none, .store 1 (.t 9) (.t 8)⟩])
    (.seq (.ops [⟨some 10, none, .faddr 2 (.t 1)⟩, ⟨some 11, none, .load none (.t 10)⟩, ⟨some 12, none, .faddr 2 (.t 3)⟩, ⟨none, none, .store 1 (.t 12) (.t 11)⟩])
     (.seq (.ops [⟨some 13, none, .faddr 3 (.t 1)⟩, ⟨some 14, none, .load none (.t 13)⟩, ⟨some 15, none, .faddr 3 (.t 3)⟩, ⟨none, none, .store 1 (.t 15) (.t 14)⟩])
      (.seq (.ops [⟨some 16, none, .faddr 4 (.t 1)⟩, ⟨some 17, none, .load none (.t 16)⟩, ⟨some 18, none, .faddr 4 (.t 3)⟩, ⟨none, none, .store 1 (.t 18) (.t 17)⟩])
       (.seq (.ops [⟨some 19, none, .faddr 5 (.t 1)⟩, ⟨some 20, none, .load none (.t 19)⟩, ⟨some 21, none, .faddr 5 (.t 3)⟩, ⟨none, none, .store 1 (.t 21) (.t 20)⟩])
        (.seq (.ops [⟨some 22, none, .faddr 6 (.t 1)⟩, ⟨some 23, none, .load none (.t 22)⟩, ⟨some 24, none, .call laws_toIntS [.t 23]⟩, ⟨some 25, none, .faddr 6 (.t 3)⟩, ⟨none, none, .store 1 (.t 25) (.t 24)⟩])
         (.seq (.ops [⟨some 26, none, .load (some 7) (.t 3)⟩, ⟨none, none, .store 7 (.t 2) (.t 26)⟩])
          (.ret))))))))))
def s_laws_toTac : SFn := ⟨1, 27, c_laws_toTac, [.c 2 (some 7)]⟩
/-- loop.example/g00286/laws.eqTac -/
def c_laws_eqTac : SCode :=
 .seq (.ops [⟨some 2, none, .vbox 7 (.t 0)⟩, ⟨some 3, none, .vbox 7 (.t 1)⟩, ⟨some 4, none, .mov (.c (.bool false))⟩])
 (.seq (.seq (.ops [⟨some 5, none, .faddr 0 (.t 2)⟩, ⟨some 6, none, .load none (.t 5)⟩, ⟨some 7, none, .faddr 0 (.t 3)⟩, ⟨some 8, none, .load none (.t 7)⟩, ⟨some 9, none, .cmp .neq (.t 6) (.t 8)⟩])
   (.cond (.t 9) (.seq (.ops [⟨some 4, none, .mov (.c (.bool false))⟩])
     (.ret))
    (.skip)))
  (.seq (.seq (.ops [⟨some 10, none, .faddr 1 (.t 2)⟩, ⟨some 11, none, .load none (.t 10)⟩, ⟨some 12, none, .faddr 1 (.t 3)⟩, ⟨some 13, none, .load none (.t 12)⟩, ⟨some 14, none, .cmp .neq (.t 11) (.t 13)⟩])
    (.cond (.t 14) (.seq (.ops [⟨some 4, none, .mov (.c (.bool false))⟩])
      (.ret))
     (.skip)))
   (.seq (.seq (.ops [⟨some 15, none, .faddr 2 (.t 2)⟩, ⟨some 16, none, .load none (.t 15)⟩, ⟨some 17, none, .faddr 2 (.t 3)⟩, ⟨some 18, none, .load none (.t 17)⟩, ⟨some 19, none, .cmp .neq (.t 16) (.t 18)⟩])
     (.cond (.t 19) (.seq (.ops [⟨some 4, none, .mov (.c (.bool false))⟩])
       (.ret))
      (.skip)))
    (.seq (.seq (.ops [⟨some 20, none, .faddr 3 (.t 2)⟩, ⟨some 21, none, .load none (.t 20)⟩, ⟨some 22, none, .faddr 3 (.t 3)⟩, ⟨some 23, none, .load none (.t 22)⟩, ⟨some 24, none, .cmp .neq (.t 21) (.t 23)⟩])
      (.cond (.t 24) (.seq (.ops [⟨some 4, none, .mov (.c (.bool false))⟩])
        (.ret))
       (.skip)))
     (.seq (.seq (.ops [⟨some 25, none, .faddr 4 (.t 2)⟩, ⟨some 26, none, .load none (.t 25)⟩, ⟨some 27, none, .faddr 4 (.t 3)⟩, ⟨some 28, none, .load none (.t 27)⟩, ⟨some 29, none, .cmp .neq (.t 26) (.t 28)⟩])
       (.cond (.t 29) (.seq (.ops [⟨some 4, none, .mov (.c (.bool false))⟩])
         (.ret))
        (.skip)))
      (.seq (.seq (.ops [⟨some 30, none, .faddr 5 (.t 2)⟩, ⟨some 31, none, .load none (.t 30)⟩, ⟨some 32, none, .faddr 5 (.t 3)⟩, ⟨some 33, none, .load none (.t 32)⟩, ⟨some 34, none, .cmp .neq (.t 31) (.t 33)⟩])
        (.cond (.t 34) (.seq (.ops [⟨some 4, none, .mov (.c (.bool false))⟩])
          (.ret))
         (.skip)))
       (.seq (.seq (.ops [⟨some 35, none, .faddr 6 (.t 2)⟩, ⟨some 36, none, .load none (.t 35)⟩, ⟨some 37, none, .faddr 6 (.t 3)⟩, ⟨some 38, none, .load none (.t 37)⟩, ⟨some 39, none, .callr laws_eqIntS [.t 36, .t 38]⟩, ⟨some 40, none, .not (.t 39)⟩])
         (.cond (.t 40) (.seq (.ops [⟨some 4, none, .mov (.c (.bool false))⟩])
           (.ret))
          (.skip)))
        (.seq (.ops [⟨some 4, none, .mov (.c (.bool true))⟩])
         (.ret)))))))))
def s_laws_eqTac : SFn := ⟨2, 41, c_laws_eqTac, [.t 4]⟩
def b_laws_szFrameS_0 : SCode :=
 .seq (.seq (.ops [⟨some 12, none, .mov (.t 5)⟩, ⟨some 13, none, .mov (.t 0)⟩, ⟨some 14, none, .len (.t 13)⟩, ⟨some 15, none, .cmp .lss (.t 12) (.t 14)⟩])
  (.cond (.t 15) (.skip)
   (.seq (.keep [1]) (.exit 0))))
 (.seq (.block 1 (.seq (.ops [⟨some 18, none, .mov (.t 0)⟩, ⟨some 19, none, .mov (.t 5)⟩, ⟨some 20, none, .ixa 4 (.t 18) (.t 19)⟩, ⟨some 21, none, .load (some 4) (.t 20)⟩, ⟨some 22, none, .mov (.t 1)⟩, ⟨some 23, none, .callr laws_szFrame [.t 21, .t 22]⟩, ⟨some 1, none, .mov (.t 23)⟩])
    (.seq (.ops [⟨some 24, none, .mov (.t 1)⟩, ⟨some 25, none, .cmp .lss (.t 24) (.c (.int .i64 0))⟩])
     (.cond (.t 25) (.seq (.ops [⟨some 4, none, .mov (.c (.int .i64 (-1)))⟩])
       (.seq (.keep [4]) .ret))
      (.skip)))))
  (.ops [⟨some 16, none, .mov (.t 5)⟩, ⟨some 17, none, .ari .add (.t 16) (.c (.int .i64 1))⟩, ⟨some 5, none, .mov (.t 17)⟩]))
/-- loop.example/g00286/laws.szFrameS -/
def c_laws_szFrameS : SCode :=
 .seq (.ops [⟨some 4, none, .mov (.c (.int .i64 0))⟩])
 (.seq (.ops [⟨some 6, none, .mov (.t 1)⟩, ⟨some 7, none, .mov (.t 0)⟩, ⟨some 8, none, .len (.t 7)⟩, ⟨some 9, none, .ari .sub (.t 6) (.t 8)⟩, ⟨some 1, none, .mov (.t 9)⟩])
  (.seq (.seq (.ops [⟨some 10, none, .mov (.t 1)⟩, ⟨some 11, none, .cmp .lss (.t 10) (.c (.int .i64 0))⟩])
    (.cond (.t 11) (.seq (.ops [⟨some 4, none, .mov (.c (.int .i64 (-1)))⟩])
      (.ret))
     (.skip)))
   (.seq (.seq (.ops [⟨some 5, none, .mov (.c (.int .i64 0))⟩])
     (.block 0 (.loop [0, 1, 5] b_laws_szFrameS_0)))
    (.seq (.ops [⟨some 26, none, .mov (.t 1)⟩, ⟨some 4, none, .mov (.t 26)⟩])
     (.ret)))))
def s_laws_szFrameS : SFn := ⟨2, 27, c_laws_szFrameS, [.t 4]⟩
/-- loop.example/g00286/laws.szWaitS -/
def c_laws_szWaitS : SCode :=
 .seq (.ops [⟨some 4, none, .mov (.c (.int .i64 0))⟩])
 (.seq (.ops [⟨some 5, none, .mov (.t 1)⟩, ⟨some 6, none, .mov (.t 0)⟩, ⟨some 7, none, .len (.t 6)⟩, ⟨some 8, none, .ari .sub (.t 5) (.t 7)⟩, ⟨some 1, none, .mov (.t 8)⟩])
  (.seq (.seq (.ops [⟨some 9, none, .mov (.t 1)⟩, ⟨some 10, none, .cmp .lss (.t 9) (.c (.int .i64 0))⟩])
    (.cond (.t 10) (.seq (.ops [⟨some 4, none, .mov (.c (.int .i64 (-1)))⟩])
      (.ret))
     (.skip)))
   (.seq (.ops [⟨some 11, none, .mov (.t 1)⟩, ⟨some 4, none, .mov (.t 11)⟩])
    (.ret))))
def s_laws_szWaitS : SFn := ⟨2, 12, c_laws_szWaitS, [.t 4]⟩
def b_laws_toFrameS_0 : SCode :=
 .seq (.seq (.ops [⟨some 8, none, .mov (.t 4)⟩, ⟨some 9, none, .mov (.t 0)⟩, ⟨some 10, none, .len (.t 9)⟩, ⟨some 11, none, .cmp .lss (.t 8) (.t 10)⟩])
  (.cond (.t 11) (.skip)
   (.seq (.keep [3]) (.exit 0))))
 (.seq (.block 1 (.ops [⟨some 14, none, .mov (.t 3)⟩, ⟨some 15, none, .mov (.t 4)⟩, ⟨some 16, none, .mov (.t 0)⟩, ⟨some 17, none, .mov (.t 4)⟩, ⟨some 18, none, .ixa 4 (.t 16) (.t 17)⟩, ⟨some 19, none, .load (some 4) (.t 18)⟩, ⟨some 20, none, .call laws_toFrame [.t 19]⟩, ⟨some 21, none, .ixa 4 (.t 14) (.t 15)⟩, ⟨none, none, .store 4 (.t 21) (.t 20)⟩]))
  (.ops [⟨some 12, none, .mov (.t 4)⟩, ⟨some 13, none, .ari .add (.t 12) (.c (.int .i64 1))⟩, ⟨some 4, none, .mov (.t 13)⟩]))
/-- loop.example/g00286/laws.toFrameS -/
def c_laws_toFrameS : SCode :=
 .seq (.ops [⟨some 2, none, .mov (.n 4)⟩])
 (.seq (.ops [⟨some 5, none, .mov (.t 0)⟩, ⟨some 6, none, .len (.t 5)⟩, ⟨some 7, none, .mk 4 48 [.v (.int .i64 0), .v (.int .i64 0), .s 1 [], .v (.int .i64 0)] (.t 6)⟩, ⟨some 3, none, .mov (.t 7)⟩])
  (.seq (.seq (.ops [⟨some 4, none, .mov (.c (.int .i64 0))⟩])
    (.block 0 (.loop [0, 3, 4] b_laws_toFrameS_0)))
   (.seq (.ops [⟨some 22, none, .mov (.t 3)⟩, ⟨some 2, none, .mov (.t 22)⟩])
    (.ret))))
def s_laws_toFrameS : SFn := ⟨1, 23, c_laws_toFrameS, [.t 2]⟩
def b_laws_toWaitS_0 : SCode :=
 .seq (.seq (.ops [⟨some 8, none, .mov (.t 4)⟩, ⟨some 9, none, .mov (.t 0)⟩, ⟨some 10, none, .len (.t 9)⟩, ⟨some 11, none, .cmp .lss (.t 8) (.t 10)⟩])
  (.cond (.t 11) (.skip)
   (.seq (.keep [3]) (.exit 0))))
 (.seq (.block 1 (.ops [⟨some 14, none, .mov (.t 3)⟩, ⟨some 15, none, .mov (.t 4)⟩, ⟨some 16, none, .mov (.t 0)⟩, ⟨some 17, none, .mov (.t 4)⟩, ⟨some 18, none, .ixa 4 (.t 16) (.t 17)⟩, ⟨some 19, none, .load (some 4) (.t 18)⟩, ⟨some 20, none, .callr laws_toWait [.t 19]⟩, ⟨some 21, none, .ixa 4 (.t 14) (.t 15)⟩, ⟨none, none, .store 4 (.t 21) (.t 20)⟩]))
  (.ops [⟨some 12, none, .mov (.t 4)⟩, ⟨some 13, none, .ari .add (.t 12) (.c (.int .i64 1))⟩, ⟨some 4, none, .mov (.t 13)⟩]))
/-- loop.example/g00286/laws.toWaitS -/
def c_laws_toWaitS : SCode :=
 .seq (.ops [⟨some 2, none, .mov (.n 4)⟩])
 (.seq (.ops [⟨some 5, none, .mov (.t 0)⟩, ⟨some 6, none, .len (.t 5)⟩, ⟨some 7, none, .mk 4 32 [.v (.int .i64 0), .v (.int .i64 0), .v (.int .i64 0), .v (.int .i64 0)] (.t 6)⟩, ⟨some 3, none, .mov (.t 7)⟩])
  (.seq (.seq (.ops [⟨some 4, none, .mov (.c (.int .i64 0))⟩])
    (.block 0 (.loop [0, 3, 4] b_laws_toWaitS_0)))
   (.seq (.ops [⟨some 22, none, .mov (.t 3)⟩, ⟨some 2, none, .mov (.t 22)⟩])
    (.ret))))
def s_laws_toWaitS : SFn := ⟨1, 23, c_laws_toWaitS, [.t 2]⟩
def b_laws_eqFrameS_0 : SCode :=
 .seq (.seq (.ops [⟨some 11, none, .mov (.t 5)⟩, ⟨some 12, none, .mov (.t 0)⟩, ⟨some 13, none, .len (.t 12)⟩, ⟨some 14, none, .cmp .lss (.t 11) (.t 13)⟩])
  (.cond (.t 14) (.skip)
   (.seq (.keep []) (.exit 0))))
 (.seq (.block 1 (.seq (.ops [⟨some 17, none, .mov (.t 0)⟩, ⟨some 18, none, .mov (.t 5)⟩, ⟨some 19, none, .ixa 4 (.t 17) (.t 18)⟩, ⟨some 20, none, .load (some 4) (.t 19)⟩, ⟨some 21, none, .mov (.t 1)⟩, ⟨some 22, none, .mov (.t 5)⟩, ⟨some 23, none, .ixa 4 (.t 21) (.t 22)⟩, ⟨some 24, none, .load (some 4) (.t 23)⟩, ⟨some 25, none, .callr laws_eqFrame [.t 20, .t 24]⟩, ⟨some 26, none, .not (.t 25)⟩])
    (.cond (.t 26) (.seq (.ops [⟨some 4, none, .mov (.c (.bool false))⟩])
      (.seq (.keep [4]) .ret))
     (.skip))))
  (.ops [⟨some 15, none, .mov (.t 5)⟩, ⟨some 16, none, .ari .add (.t 15) (.c (.int .i64 1))⟩, ⟨some 5, none, .mov (.t 16)⟩]))
/-- loop.example/g00286/laws.eqFrameS -/
def c_laws_eqFrameS : SCode :=
 .seq (.ops [⟨some 4, none, .mov (.c (.bool false))⟩])
 (.seq (.seq (.ops [⟨some 6, none, .mov (.t 0)⟩, ⟨some 7, none, .len (.t 6)⟩, ⟨some 8, none, .mov (.t 1)⟩, ⟨some 9, none, .len (.t 8)⟩, ⟨some 10, none, .cmp .neq (.t 7) (.t 9)⟩])
   (.cond (.t 10) (.seq (.ops [⟨some 4, none, .mov (.c (.bool false))⟩])
     (.ret))
    (.skip)))
  (.seq (.seq (.ops [⟨some 5, none, .mov (.c (.int .i64 0))⟩])
    (.block 0 (.loop [0, 1, 5] b_laws_eqFrameS_0)))
   (.seq (.ops [⟨some 4, none, .mov (.c (.bool true))⟩])
    (.ret))))
def s_laws_eqFrameS : SFn := ⟨2, 27, c_laws_eqFrameS, [.t 4]⟩
def b_laws_eqWaitS_0 : SCode :=
 .seq (.seq (.ops [⟨some 11, none, .mov (.t 5)⟩, ⟨some 12, none, .mov (.t 0)⟩, ⟨some 13, none, .len (.t 12)⟩, ⟨some 14, none, .cmp .lss (.t 11) (.t 13)⟩])
  (.cond (.t 14) (.skip)
   (.seq (.keep []) (.exit 0))))
 (.seq (.block 1 (.seq (.ops [⟨some 17, none, .mov (.t 0)⟩, ⟨some 18, none, .mov (.t 5)⟩, ⟨some 19, none, .ixa 4 (.t 17) (.t 18)⟩, ⟨some 20, none, .load (some 4) (.t 19)⟩, ⟨some 21, none, .mov (.t 1)⟩, ⟨some 22, none, .mov (.t 5)⟩, ⟨some 23, none, .ixa 4 (.t 21) (.t 22)⟩, ⟨some 24, none, .load (some 4) (.t 23)⟩, ⟨some 25, none, .callr laws_eqWait [.t 20, .t 24]⟩, ⟨some 26, none, .not (.t 25)⟩])
    (.cond (.t 26) (.seq (.ops [⟨some 4, none, .mov (.c (.bool false))⟩])
      (.seq (.keep [4]) .ret))
     (.skip))))
  (.ops [⟨some 15, none, .mov (.t 5)⟩, ⟨some 16, none, .ari .add (.t 15) (.c (.int .i64 1))⟩, ⟨some 5, none, .mov (.t 16)⟩]))
/-- loop.example/g00286/laws.eqWaitS -/
def c_laws_eqWaitS : SCode :=
 .seq (.ops [⟨some 4, none, .mov (.c (.bool false))⟩])
 (.seq (.seq (.ops [⟨some 6, none, .mov (.t 0)⟩, ⟨some 7, none, .len (.t 6)⟩, ⟨some 8, none, .mov (.t 1)⟩, ⟨some 9, none, .len (.t 8)⟩, ⟨some 10, none, .cmp .neq (.t 7) (.t 9)⟩])
   (.cond (.t 10) (.seq (.ops [⟨some 4, none, .mov (.c (.bool false))⟩])
     (.ret))
    (.skip)))
  (.seq (.seq (.ops [⟨some 5, none, .mov (.c (.int .i64 0))⟩])
    (.block 0 (.loop [0, 1, 5] b_laws_eqWaitS_0)))
   (.seq (.ops [⟨some 4, none, .mov (.c (.bool true))⟩])
    (.ret))))
def s_laws_eqWaitS : SFn := ⟨2, 27, c_laws_eqWaitS, [.t 4]⟩
/-- loop.example/g00286/laws.szFrame -/
def c_laws_szFrame : SCode :=
 .seq (.ops [⟨some 2, none, .vbox 4 (.t 0)⟩, ⟨some 4, none, .mov (.c (.int .i64 0))⟩])
 (.seq (.ops [⟨some 5, none, .faddr 2 (.t 2)⟩, ⟨some 6, none, .load none (.t 5)⟩, ⟨some 7, none, .mov (.t 1)⟩, ⟨some 8, none, .callr laws_szIntS [.t 6, .t 7]⟩, ⟨some 1, none, .mov (.t 8)⟩])
  (.seq (.seq (.ops [⟨some 9, none, .mov (.t 1)⟩, ⟨some 10, none, .cmp .lss (.t 9) (.c (.int .i64 0))⟩])
    (.cond (.t 10) (.seq (.ops [⟨some 4, none, .mov (.c (.int .i64 (-1)))⟩])
      (.ret))
     (.skip)))
   (.seq (.ops [⟨some 11, none, .mov (.t 1)⟩, ⟨some 4, none, .mov (.t 11)⟩])
    (.ret))))
def s_laws_szFrame : SFn := ⟨2, 12, c_laws_szFrame, [.t 4]⟩
/-- loop.example/g00286/laws.toFrame -/
def c_laws_toFrame : SCode :=
 .seq (.ops [⟨some 1, none, .vbox 4 (.t 0)⟩, ⟨some 2, none, .alloc [.v (.int .i64 0), .v (.int .i64 0), .s 1 [], .v (.int .i64 0)]⟩])
 (.seq (.ops [⟨some 3, none, .alloc [.v (.int .i64 0), .v (.int .i64 0), .s 1 [], .v (.int .i64 0)]⟩])
  (.seq (.ops [⟨some 4, none, .faddr 0 (.t 1)⟩, ⟨some 5, none, .load none (.t 4)⟩, ⟨some 6, none, .faddr 0 (.t 3)⟩, ⟨none, none, .store 1 (.t 6) (.t 5)⟩])
   (.seq (.ops [⟨some 7, none, .faddr 1 (.t 1)⟩, ⟨some 8, none, .load none (.t 7)⟩, ⟨some 9, none, .faddr 1 (.t 3)⟩, ⟨none, none, .store 1 (.t 9) (.t 8)⟩])
    (.seq (.ops [⟨some 10, none, .faddr 2 (.t 1)⟩, ⟨some 11, none, .load none (.t 10)⟩, ⟨some 12, none, .call laws_toIntS [.t 11]⟩, ⟨some 13, none, .faddr 2 (.t 3)⟩, ⟨none, none, .store 1 (.t 13) (.t 12)⟩])
     (.seq (.ops [⟨some 14, none, .faddr 3 (.t 1)⟩, ⟨some 15, none, .load none (.t 14)⟩, ⟨some 16, none, .faddr 3 (.t 3)⟩, ⟨none, none, .store 1 (.t 16) (.t 15)⟩])
      (.seq (.ops [⟨some 17, none, .load (some 4) (.t 3)⟩, ⟨none, none, .store 4 (.t 2) (.t 17)⟩])
       (.ret)))))))
def s_laws_toFrame : SFn := ⟨1, 18, c_laws_toFrame, [.c 2 (some 4)]⟩
/-- loop.example/g00286/laws.toWait -/
def c_laws_toWait : SCode :=
 .seq (.ops [⟨some 1, none, .vbox 4 (.t 0)⟩, ⟨some 2, none, .alloc [.v (.int .i64 0), .v (.int .i64 0), .v (.int .i64 0), .v (.int .i64 0)]⟩])
 (.seq (.ops [⟨some 3, none, .alloc [.v (.int .i64 0), .v (.int .i64 0), .v (.int .i64 0), .v (.int .i64 0)]⟩])
  (.seq (.ops [⟨some 4, none, .faddr 0 (.t 1)⟩, ⟨some 5, none, .load none (.t 4)⟩, ⟨some 6, none, .faddr 0 (.t 3)⟩, ⟨none, none, .store 1 (.t 6) (.t 5)⟩])
   (.seq (.ops [⟨some 7, none, .faddr 1 (.t 1)⟩, ⟨some 8, none, .load none (.t 7)⟩, ⟨some 9, none, .faddr 1 (.t 3)⟩, ⟨none, none, .store 1 (.t 9) (.t 8)⟩])
    (.seq (.ops [⟨some 10, none, .faddr 2 (.t 1)⟩, ⟨some 11, none, .load none (.t 10)⟩, ⟨some 12, none, .faddr 2 (.t 3)⟩, ⟨none, none, .store 1 (.t 12) (.t 11)⟩])
     (.seq (.ops [⟨some 13, none, .faddr 3 (.t 1)⟩, ⟨some 14, none, .load none (.t 13)⟩, ⟨some 15, none, .faddr 3 (.t 3)⟩, ⟨none, none, .store 1 (.t 15) (.t 14)⟩])
      (.seq (.ops [⟨some 16, none, .load (some 4) (.t 3)⟩, ⟨none, none, .store 4 (.t 2) (.t 16)⟩])
       (.ret)))))))
def s_laws_toWait : SFn := ⟨1, 17, c_laws_toWait, [.c 2 (some 4)]⟩
/-- loop.example/g00286/laws.eqFrame -/
def c_laws_eqFrame : SCode :=
 .seq (.ops [⟨some 2, none, .vbox 4 (.t 0)⟩, ⟨some 3, none, .vbox 4 (.t 1)⟩, ⟨some 4, none, .mov (.c (.bool false))⟩])
 (.seq (.seq (.ops [⟨some 5, none, .faddr 0 (.t 2)⟩, ⟨some 6, none, .load none (.t 5)⟩, ⟨some 7, none, .faddr 0 (.t 3)⟩, ⟨some 8, none, .load none (.t 7)⟩, ⟨some 9, none, .cmp .neq (.t 6) (.t 8)⟩])
   (.cond (.t 9) (.seq (.ops [⟨some 4, none, .mov (.c (.bool false))⟩])
     (.ret))
    (.skip)))
  (.seq (.seq (.ops [⟨some 10, none, .faddr 1 (.t 2)⟩, ⟨some 11, none, .load none (.t 10)⟩, ⟨some 12, none, .faddr 1 (.t 3)⟩, ⟨some 13, none, .load none (.t 12)⟩, ⟨some 14, none, .cmp .neq (.t 11) (.t 13)⟩])
    (.cond (.t 14) (.seq (.ops [⟨some 4, none, .mov (.c (.bool false))⟩])
      (.ret))
     (.skip)))
   (.seq (.seq (.ops [⟨some 15, none, .faddr 2 (.t 2)⟩, ⟨some 16, none, .load none (.t 15)⟩, ⟨some 17, none, .faddr 2 (.t 3)⟩, ⟨some 18, none, .load none (.t 17)⟩, ⟨some 19, none, .callr laws_eqIntS [.t 16, .t 18]⟩, ⟨some 20, none, .not (.t 19)⟩])
     (.cond (.t 20) (.seq (.ops [⟨some 4, none, .mov (.c (.bool false))⟩])
       (.ret))
      (.skip)))
    (.seq (.seq (.ops [⟨some 21, none, .faddr 3 (.t 2)⟩, ⟨some 22, none, .load none (.t 21)⟩, ⟨some 23, none, .faddr 3 (.t 3)⟩, ⟨some 24, none, .load none (.t 23)⟩, ⟨some 25, none, .cmp .neq (.t 22) (.t 24)⟩])
      (.cond (.t 25) (.seq (.ops [⟨some 4, none, .mov (.c (.bool false))⟩])
        (.ret))
       (.skip)))
     (.seq (.ops [⟨some 4, none, .mov (.c (.bool true))⟩])
      (.ret))))))
def s_laws_eqFrame : SFn := ⟨2, 26, c_laws_eqFrame, [.t 4]⟩
/-- loop.example/g00286/laws.eqWait -/
def c_laws_eqWait : SCode :=
 .seq (.ops [⟨some 2, none, .vbox 4 (.t 0)⟩, ⟨some 3, none, .vbox 4 (.t 1)⟩, ⟨some 4, none, .mov (.c (.bool false))⟩])
 (.seq (.seq (.ops [⟨some 5, none, .faddr 0 (.t 2)⟩, ⟨some 6, none, .load none (.t 5)⟩, ⟨some 7, none, .faddr 0 (.t 3)⟩, ⟨some 8, none, .load none (.t 7)⟩, ⟨some 9, none, .cmp .neq (.t 6) (.t 8)⟩])
   (.cond (.t 9) (.seq (.ops [⟨some 4, none, .mov (.c (.bool false))⟩])
     (.ret))
    (.skip)))
  (.seq (.seq (.ops [⟨some 10, none, .faddr 1 (.t 2)⟩, ⟨some 11, none, .load none (.t 10)⟩, ⟨some 12, none, .faddr 1 (.t 3)⟩, ⟨some 13, none, .load none (.t 12)⟩, ⟨some 14, none, .cmp .neq (.t 11) (.t 13)⟩])
    (.cond (.t 14) (.seq (.ops [⟨some 4, none, .mov (.c (.bool false))⟩])
      (.ret))
     (.skip)))
   (.seq (.seq (.ops [⟨some 15, none, .faddr 2 (.t 2)⟩, ⟨some 16, none, .load none (.t 15)⟩, ⟨some 17, none, .faddr 2 (.t 3)⟩, ⟨some 18, none, .load none (.t 17)⟩, ⟨some 19, none, .cmp .neq (.t 16) (.t 18)⟩])
     (.cond (.t 19) (.seq (.ops [⟨some 4, none, .mov (.c (.bool false))⟩])
       (.ret))
      (.skip)))
    (.seq (.seq (.ops [⟨some 20, none, .faddr 3 (.t 2)⟩, ⟨some 21, none, .load none (.t 20)⟩, ⟨some 22, none, .faddr 3 (.t 3)⟩, ⟨some 23, none, .load none (.t 22)⟩, ⟨some 24, none, .cmp .neq (.t 21) (.t 23)⟩])
      (.cond (.t 24) (.seq (.ops [⟨some 4, none, .mov (.c (.bool false))⟩])
        (.ret))
       (.skip)))
     (.seq (.ops [⟨some 4, none, .mov (.c (.bool true))⟩])
      (.ret))))))
def s_laws_eqWait : SFn := ⟨2, 25, c_laws_eqWait, [.t 4]⟩
def tabL0 : List (Nat × SFn) := [(6, s_laws_FnExactWorldText), (29, s_laws_szWorld), (30, s_spec_WorldText), (31, s_laws_toWorld), (32, s_impl_WorldText), (33, s_laws_eqWorld), (34, s_laws_szUnit), (36, s_laws_toUnit), (38, s_laws_eqUnit), (58, s_laws_szIntS), (62, s_spec_Digits), (63, s_spec_l28Out), (64, s_laws_toIntS), (68, s_impl_Digits), (69, s_impl_outText), (70, s_laws_eqIntS), (82, s_laws_szUnitS), (83, s_laws_szBodyS), (84, s_laws_szChanS), (85, s_spec_BodyText), (86, s_laws_toUnitS), (87, s_laws_toBodyS), (88, s_laws_toChanS), (89, s_impl_BodyText), (90, s_laws_eqUnitS), (91, s_laws_eqBodyS), (92, s_laws_eqChanS), (93, s_laws_szTacS), (97, s_laws_toTacS), (101, s_laws_eqTacS), (141, s_laws_szBody), (142, s_laws_szChan), (143, s_laws_toBody), (144, s_laws_toChan), (145, s_laws_eqBody), (146, s_laws_eqChan), (147, s_laws_szTac), (158, s_laws_toTac), (167, s_laws_eqTac), (188, s_laws_szFrameS)]
def tabL1 : List (Nat × SFn) := [(189, s_laws_szWaitS), (190, s_laws_toFrameS), (191, s_laws_toWaitS), (192, s_laws_eqFrameS), (193, s_laws_eqWaitS), (230, s_laws_szFrame), (231, s_laws_toFrame), (232, s_laws_toWait), (233, s_laws_eqFrame), (234, s_laws_eqWait)]
def tabL : List (Nat × SFn) := tabL0 ++ tabL1
def tab (f : Nat) : Option SFn := (tabL.find? fun p => p.1 == f).map fun p => p.2
theorem t_laws_FnExactWorldText : tab laws_FnExactWorldText = some s_laws_FnExactWorldText := rfl
theorem t_laws_szWorld : tab laws_szWorld = some s_laws_szWorld := rfl
theorem t_spec_WorldText : tab spec_WorldText = some s_spec_WorldText := rfl
theorem t_laws_toWorld : tab laws_toWorld = some s_laws_toWorld := rfl
theorem t_impl_WorldText : tab impl_WorldText = some s_impl_WorldText := rfl
theorem t_laws_eqWorld : tab laws_eqWorld = some s_laws_eqWorld := rfl
theorem t_laws_szUnit : tab laws_szUnit = some s_laws_szUnit := rfl
theorem t_laws_toUnit : tab laws_toUnit = some s_laws_toUnit := rfl
theorem t_laws_eqUnit : tab laws_eqUnit = some s_laws_eqUnit := rfl
theorem t_laws_szIntS : tab laws_szIntS = some s_laws_szIntS := rfl
theorem t_spec_Digits : tab spec_Digits = some s_spec_Digits := rfl
theorem t_spec_l28Out : tab spec_l28Out = some s_spec_l28Out := rfl
theorem t_laws_toIntS : tab laws_toIntS = some s_laws_toIntS := rfl
theorem t_impl_Digits : tab impl_Digits = some s_impl_Digits := rfl
theorem t_impl_outText : tab impl_outText = some s_impl_outText := rfl
theorem t_laws_eqIntS : tab laws_eqIntS = some s_laws_eqIntS := rfl
theorem t_laws_szUnitS : tab laws_szUnitS = some s_laws_szUnitS := rfl
theorem t_laws_szBodyS : tab laws_szBodyS = some s_laws_szBodyS := rfl
theorem t_laws_szChanS : tab laws_szChanS = some s_laws_szChanS := rfl
theorem t_spec_BodyText : tab spec_BodyText = some s_spec_BodyText := rfl
theorem t_laws_toUnitS : tab laws_toUnitS = some s_laws_toUnitS := rfl
theorem t_laws_toBodyS : tab laws_toBodyS = some s_laws_toBodyS := rfl
theorem t_laws_toChanS : tab laws_toChanS = some s_laws_toChanS := rfl
theorem t_impl_BodyText : tab impl_BodyText = some s_impl_BodyText := rfl
theorem t_laws_eqUnitS : tab laws_eqUnitS = some s_laws_eqUnitS := rfl
theorem t_laws_eqBodyS : tab laws_eqBodyS = some s_laws_eqBodyS := rfl
theorem t_laws_eqChanS : tab laws_eqChanS = some s_laws_eqChanS := rfl
theorem t_laws_szTacS : tab laws_szTacS = some s_laws_szTacS := rfl
theorem t_laws_toTacS : tab laws_toTacS = some s_laws_toTacS := rfl
theorem t_laws_eqTacS : tab laws_eqTacS = some s_laws_eqTacS := rfl
theorem t_laws_szBody : tab laws_szBody = some s_laws_szBody := rfl
theorem t_laws_szChan : tab laws_szChan = some s_laws_szChan := rfl
theorem t_laws_toBody : tab laws_toBody = some s_laws_toBody := rfl
theorem t_laws_toChan : tab laws_toChan = some s_laws_toChan := rfl
theorem t_laws_eqBody : tab laws_eqBody = some s_laws_eqBody := rfl
theorem t_laws_eqChan : tab laws_eqChan = some s_laws_eqChan := rfl
theorem t_laws_szTac : tab laws_szTac = some s_laws_szTac := rfl
theorem t_laws_toTac : tab laws_toTac = some s_laws_toTac := rfl
theorem t_laws_eqTac : tab laws_eqTac = some s_laws_eqTac := rfl
theorem t_laws_szFrameS : tab laws_szFrameS = some s_laws_szFrameS := rfl
theorem t_laws_szWaitS : tab laws_szWaitS = some s_laws_szWaitS := rfl
theorem t_laws_toFrameS : tab laws_toFrameS = some s_laws_toFrameS := rfl
theorem t_laws_toWaitS : tab laws_toWaitS = some s_laws_toWaitS := rfl
theorem t_laws_eqFrameS : tab laws_eqFrameS = some s_laws_eqFrameS := rfl
theorem t_laws_eqWaitS : tab laws_eqWaitS = some s_laws_eqWaitS := rfl
theorem t_laws_szFrame : tab laws_szFrame = some s_laws_szFrame := rfl
theorem t_laws_toFrame : tab laws_toFrame = some s_laws_toFrame := rfl
theorem t_laws_toWait : tab laws_toWait = some s_laws_toWait := rfl
theorem t_laws_eqFrame : tab laws_eqFrame = some s_laws_eqFrame := rfl
theorem t_laws_eqWait : tab laws_eqWait = some s_laws_eqWait := rfl
end Go.Ev.G
