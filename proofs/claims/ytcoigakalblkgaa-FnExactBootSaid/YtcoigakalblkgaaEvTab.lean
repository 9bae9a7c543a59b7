/- The slim code of the functions that the statements of this cut reach: written by gen.py. Not trusted: YtcoigakalblkgaaEvChk.lean checks it against the given program. -/
import Derived.Test.YtcoigakalblkgaaEvRow
namespace Go.Ev.G
set_option linter.all false
abbrev laws_FnExactBoot : Nat := 5
abbrev laws_eqInsS : Nat := 13
abbrev laws_markInsS : Nat := 16
abbrev laws_heldInsS : Nat := 17
abbrev laws_eqMachine : Nat := 22
abbrev laws_szInsS : Nat := 23
abbrev spec_Boot : Nat := 24
abbrev laws_toInsS : Nat := 25
abbrev impl_Boot : Nat := 26
abbrev laws_markMachine : Nat := 27
abbrev laws_heldMachine : Nat := 28
abbrev spec_InsOk : Nat := 49
abbrev slices_ContainsFunc_impl_Ins_impl_Ins : Nat := 52
abbrev impl_InsOk : Nat := 54
abbrev laws_eqIns : Nat := 55
abbrev spec_MachineOk : Nat := 61
abbrev impl_MachineOk : Nat := 67
abbrev laws_eqIntS : Nat := 70
abbrev laws_eqCoreS : Nat := 71
abbrev laws_eqNoteS : Nat := 72
abbrev spec_l1In : Nat := 73
abbrev laws_toIns : Nat := 74
abbrev impl_within : Nat := 75
abbrev laws_markIntS : Nat := 76
abbrev laws_markCoreS : Nat := 77
abbrev laws_markNoteS : Nat := 78
abbrev laws_heldIntS : Nat := 79
abbrev laws_heldCoreS : Nat := 80
abbrev laws_heldNoteS : Nat := 81
abbrev spec_l2Has : Nat := 120
abbrev spec_l2Field : Nat := 121
abbrev spec_WordOk : Nat := 122
abbrev slices_IndexFunc_impl_Ins_impl_Ins : Nat := 123
abbrev impl_has : Nat := 124
abbrev impl_isReg : Nat := 125
abbrev impl_WordOk : Nat := 126
abbrev spec_l3Words : Nat := 128
abbrev spec_CoreOk : Nat := 129
abbrev impl_MachineOk_1 : Nat := 132
abbrev slices_ContainsFunc_impl_Core_impl_Core : Nat := 133
abbrev impl_MachineOk_2 : Nat := 134
abbrev impl_CoreOk : Nat := 135
abbrev impl_wordsOk : Nat := 136
abbrev slices_ContainsFunc_impl_Note_impl_Note : Nat := 137
abbrev impl_MachineOk_3 : Nat := 138
abbrev laws_eqCore : Nat := 139
abbrev laws_eqNote : Nat := 140
abbrev slices_IndexFunc_impl_Core_impl_Core : Nat := 183
abbrev slices_ContainsFunc_int_int : Nat := 184
abbrev impl_CoreOk_1 : Nat := 185
abbrev impl_wordsOk_1 : Nat := 186
abbrev slices_IndexFunc_impl_Note_impl_Note : Nat := 187
abbrev slices_IndexFunc_int_int : Nat := 229
/-- loop.example/g00286/laws.FnExactBoot -/
def c_laws_FnExactBoot : SCode :=
 .seq (.ops [⟨some 10, none, .mov (.c (.bool false))⟩])
 (.seq (.ops [⟨some 11, none, .mov (.c (.int .i64 1048576))⟩])
  (.seq (.ops [⟨some 22, none, .mov (.t 0)⟩, ⟨some 23, none, .mov (.t 11)⟩, ⟨some 24, none, .callr laws_szInsS [.t 22, .t 23]⟩, ⟨some 11, none, .mov (.t 24)⟩])
   (.seq (.seq (.ops [⟨some 25, none, .mov (.t 11)⟩, ⟨some 26, none, .cmp .lss (.t 25) (.c (.int .i64 0))⟩])
     (.cond (.t 26) (.seq (.ops [⟨some 10, none, .mov (.c (.bool true))⟩])
       (.ret))
      (.skip)))
    (.seq (.ops [⟨some 28, none, .mov (.t 0)⟩, ⟨some 29, none, .callr laws_toInsS [.t 28]⟩, ⟨some 30, none, .mov (.t 1)⟩, ⟨some 31, none, .mov (.t 2)⟩, ⟨some 32, none, .mov (.t 3)⟩, ⟨some 33, none, .mov (.t 4)⟩, ⟨some 34, none, .callr spec_Boot [.t 29, .t 30, .t 31, .t 32, .t 33]⟩, ⟨some 27, none, .mov (.t 34)⟩, ⟨some 35, none, .ext (.t 27) 0⟩, ⟨some 36, none, .ext (.t 27) 1⟩, ⟨some 12, none, .alloc [.s 6 [], .s 1 [], .s 3 [], .s 1 [], .s 2 [], .v (.bool false), .v (.int .i64 0)]⟩, ⟨none, none, .store 7 (.t 12) (.t 35)⟩, ⟨some 13, none, .mov (.t 36)⟩])
     (.seq (.ops [⟨some 37, none, .mov (.t 0)⟩, ⟨some 38, none, .call laws_toInsS [.t 37]⟩, ⟨some 14, none, .mov (.t 38)⟩])
      (.seq (.ops [⟨some 40, none, .mov (.t 14)⟩, ⟨some 41, none, .mov (.t 1)⟩, ⟨some 42, none, .mov (.t 2)⟩, ⟨some 43, none, .mov (.t 3)⟩, ⟨some 44, none, .mov (.t 4)⟩, ⟨some 45, none, .call impl_Boot [.t 40, .t 41, .t 42, .t 43, .t 44]⟩, ⟨some 39, none, .mov (.t 45)⟩, ⟨some 46, none, .ext (.t 39) 0⟩, ⟨some 47, none, .ext (.t 39) 1⟩, ⟨some 15, none, .alloc [.s 6 [], .s 1 [], .s 3 [], .s 1 [], .s 2 [], .v (.bool false), .v (.int .i64 0)]⟩, ⟨none, none, .store 7 (.t 15) (.t 46)⟩, ⟨some 16, none, .mov (.t 47)⟩])
       (.seq (.seq (.ops [⟨some 48, none, .load (some 7) (.t 15)⟩, ⟨some 49, none, .load (some 7) (.t 12)⟩, ⟨some 50, none, .callr laws_eqMachine [.t 48, .t 49]⟩, ⟨some 51, none, .not (.t 50)⟩, ⟨some 52, none, .mov (.t 51)⟩, ⟨some 53, (some (52, false)), .mov (.t 16)⟩, ⟨some 54, (some (52, false)), .mov (.t 13)⟩, ⟨some 55, (some (52, false)), .cmpb .neq (.t 53) (.t 54)⟩, ⟨some 56, none, .pick (.t 52) (.c (.bool true)) (.t 55)⟩])
         (.cond (.t 56) (.seq (.ops [⟨some 10, none, .mov (.c (.bool false))⟩])
           (.ret))
          (.skip)))
        (.seq (.seq (.ops [⟨some 57, none, .mov (.t 14)⟩, ⟨some 58, none, .mov (.t 0)⟩, ⟨some 59, none, .callr laws_toInsS [.t 58]⟩, ⟨some 60, none, .callr laws_eqInsS [.t 57, .t 59]⟩, ⟨some 61, none, .not (.t 60)⟩])
          (.cond (.t 61) (.seq (.ops [⟨some 10, none, .mov (.c (.bool false))⟩])
            (.ret))
           (.skip)))
         (.seq (.ops [⟨some 17, none, .mov (.c (.int .i64 1))⟩])
          (.seq (.ops [⟨some 62, none, .mov (.t 14)⟩, ⟨some 63, none, .mov (.t 17)⟩, ⟨some 64, none, .callb laws_markInsS [.t 62, .t 63] [true, false]⟩, ⟨some 17, none, .mov (.t 64)⟩])
           (.seq (.seq (.ops [⟨some 65, none, .mov (.t 17)⟩, ⟨some 66, none, .cmp .lss (.t 65) (.c (.int .i64 0))⟩, ⟨some 67, none, .mov (.t 66)⟩, ⟨some 68, (some (67, false)), .load (some 7) (.t 15)⟩, ⟨some 69, (some (67, false)), .load (some 7) (.t 12)⟩, ⟨some 70, (some (67, false)), .callr laws_eqMachine [.t 68, .t 69]⟩, ⟨some 71, (some (67, false)), .not (.t 70)⟩, ⟨some 72, none, .pick (.t 67) (.c (.bool true)) (.t 71)⟩, ⟨some 73, none, .mov (.t 72)⟩, ⟨some 74, (some (73, false)), .mov (.t 16)⟩, ⟨some 75, (some (73, false)), .mov (.t 13)⟩, ⟨some 76, (some (73, false)), .cmpb .neq (.t 74) (.t 75)⟩, ⟨some 77, none, .pick (.t 73) (.c (.bool true)) (.t 76)⟩])
             (.cond (.t 77) (.seq (.ops [⟨some 10, none, .mov (.c (.bool false))⟩])
               (.ret))
              (.skip)))
            (.seq (.ops [⟨some 18, none, .mov (.c (.int .i64 1))⟩])
             (.seq (.ops [⟨some 78, none, .load (some 7) (.t 15)⟩, ⟨some 79, none, .mov (.t 18)⟩, ⟨some 80, none, .callb laws_markMachine [.t 78, .t 79] [true, false]⟩, ⟨some 18, none, .mov (.t 80)⟩])
              (.seq (.ops [⟨some 19, none, .mov (.c (.int .i64 1))⟩])
               (.seq (.ops [⟨some 81, none, .load (some 7) (.t 15)⟩, ⟨some 82, none, .mov (.t 19)⟩, ⟨some 83, none, .callr laws_heldMachine [.t 81, .t 82]⟩, ⟨some 19, none, .mov (.t 83)⟩])
                (.seq (.seq (.ops [⟨some 84, none, .mov (.t 19)⟩, ⟨some 85, none, .cmp .lss (.t 84) (.c (.int .i64 0))⟩])
                  (.cond (.t 85) (.seq (.ops [⟨some 10, none, .mov (.c (.bool false))⟩])
                    (.ret))
                   (.skip)))
                 (.seq (.seq (.ops [⟨some 86, none, .mov (.t 19)⟩, ⟨some 87, none, .mov (.t 18)⟩, ⟨some 88, none, .cmp .neq (.t 86) (.t 87)⟩])
                   (.cond (.t 88) (.seq (.ops [⟨some 10, none, .mov (.c (.bool false))⟩])
                     (.ret))
                    (.skip)))
                  (.seq (.ops [⟨some 90, none, .mov (.t 0)⟩, ⟨some 91, none, .callr laws_toInsS [.t 90]⟩, ⟨some 92, none, .mov (.t 1)⟩, ⟨some 93, none, .mov (.t 2)⟩, ⟨some 94, none, .mov (.t 3)⟩, ⟨some 95, none, .mov (.t 4)⟩, ⟨some 96, none, .callr impl_Boot [.t 91, .t 92, .t 93, .t 94, .t 95]⟩, ⟨some 89, none, .mov (.t 96)⟩, ⟨some 97, none, .ext (.t 89) 0⟩, ⟨some 98, none, .ext (.t 89) 1⟩, ⟨some 20, none, .alloc [.s 6 [], .s 1 [], .s 3 [], .s 1 [], .s 2 [], .v (.bool false), .v (.int .i64 0)]⟩, ⟨none, none, .store 7 (.t 20) (.t 97)⟩, ⟨some 21, none, .mov (.t 98)⟩])
                   (.seq (.seq (.ops [⟨some 99, none, .load (some 7) (.t 20)⟩, ⟨some 100, none, .load (some 7) (.t 12)⟩, ⟨some 101, none, .callr laws_eqMachine [.t 99, .t 100]⟩, ⟨some 102, none, .not (.t 101)⟩, ⟨some 103, none, .mov (.t 102)⟩, ⟨some 104, (some (103, false)), .mov (.t 21)⟩, ⟨some 105, (some (103, false)), .mov (.t 13)⟩, ⟨some 106, (some (103, false)), .cmpb .neq (.t 104) (.t 105)⟩, ⟨some 107, none, .pick (.t 103) (.c (.bool true)) (.t 106)⟩])
                     (.cond (.t 107) (.seq (.ops [⟨some 10, none, .mov (.c (.bool false))⟩])
                       (.ret))
                      (.skip)))
                    (.seq (.ops [⟨some 19, none, .mov (.c (.int .i64 1))⟩])
                     (.seq (.ops [⟨some 108, none, .load (some 7) (.t 15)⟩, ⟨some 109, none, .mov (.t 19)⟩, ⟨some 110, none, .callr laws_heldMachine [.t 108, .t 109]⟩, ⟨some 19, none, .mov (.t 110)⟩])
                      (.seq (.seq (.ops [⟨some 111, none, .mov (.t 19)⟩, ⟨some 112, none, .cmp .lss (.t 111) (.c (.int .i64 0))⟩])
                        (.cond (.t 112) (.seq (.ops [⟨some 10, none, .mov (.c (.bool false))⟩])
                          (.ret))
                         (.skip)))
                       (.seq (.seq (.ops [⟨some 113, none, .mov (.t 19)⟩, ⟨some 114, none, .mov (.t 18)⟩, ⟨some 115, none, .cmp .neq (.t 113) (.t 114)⟩])
                         (.cond (.t 115) (.seq (.ops [⟨some 10, none, .mov (.c (.bool false))⟩])
                           (.ret))
                          (.skip)))
                        (.seq (.ops [⟨some 10, none, .mov (.c (.bool true))⟩])
                         (.ret)))))))))))))))))))))))))
def s_laws_FnExactBoot : SFn := ⟨5, 116, c_laws_FnExactBoot, [.t 10]⟩
def b_laws_eqInsS_0 : SCode :=
 .seq (.seq (.ops [⟨some 11, none, .mov (.t 5)⟩, ⟨some 12, none, .mov (.t 0)⟩, ⟨some 13, none, .len (.t 12)⟩, ⟨some 14, none, .cmp .lss (.t 11) (.t 13)⟩])
  (.cond (.t 14) (.skip)
   (.seq (.keep []) (.exit 0))))
 (.seq (.block 1 (.seq (.ops [⟨some 17, none, .mov (.t 0)⟩, ⟨some 18, none, .mov (.t 5)⟩, ⟨some 19, none, .ixa 6 (.t 17) (.t 18)⟩, ⟨some 20, none, .load (some 6) (.t 19)⟩, ⟨some 21, none, .mov (.t 1)⟩, ⟨some 22, none, .mov (.t 5)⟩, ⟨some 23, none, .ixa 6 (.t 21) (.t 22)⟩, ⟨some 24, none, .load (some 6) (.t 23)⟩, ⟨some 25, none, .callr laws_eqIns [.t 20, .t 24]⟩, ⟨some 26, none, .not (.t 25)⟩])
    (.cond (.t 26) (.seq (.ops [⟨some 4, none, .mov (.c (.bool false))⟩])
      (.seq (.keep [4]) .ret))
     (.skip))))
  (.ops [⟨some 15, none, .mov (.t 5)⟩, ⟨some 16, none, .ari .add (.t 15) (.c (.int .i64 1))⟩, ⟨some 5, none, .mov (.t 16)⟩]))
/-- loop.example/g00286/laws.eqInsS -/
def c_laws_eqInsS : SCode :=
 .seq (.ops [⟨some 4, none, .mov (.c (.bool false))⟩])
 (.seq (.seq (.ops [⟨some 6, none, .mov (.t 0)⟩, ⟨some 7, none, .len (.t 6)⟩, ⟨some 8, none, .mov (.t 1)⟩, ⟨some 9, none, .len (.t 8)⟩, ⟨some 10, none, .cmp .neq (.t 7) (.t 9)⟩])
   (.cond (.t 10) (.seq (.ops [⟨some 4, none, .mov (.c (.bool false))⟩])
     (.ret))
    (.skip)))
  (.seq (.seq (.ops [⟨some 5, none, .mov (.c (.int .i64 0))⟩])
    (.block 0 (.loop [0, 1, 5] b_laws_eqInsS_0)))
   (.seq (.ops [⟨some 4, none, .mov (.c (.bool true))⟩])
    (.ret))))
def s_laws_eqInsS : SFn := ⟨2, 27, c_laws_eqInsS, [.t 4]⟩
def b_laws_markInsS_0 : SCode :=
 .seq (.seq (.ops [⟨some 6, none, .mov (.t 5)⟩, ⟨some 7, none, .mov (.t 0)⟩, ⟨some 8, none, .len (.t 7)⟩, ⟨some 9, none, .cmp .lss (.t 6) (.t 8)⟩])
  (.cond (.t 9) (.skip)
   (.seq (.keep [1]) (.exit 0))))
 (.seq (.block 1 (.seq (.ops [⟨some 12, none, .mov (.t 0)⟩, ⟨some 13, none, .mov (.t 5)⟩, ⟨some 14, none, .mov (.t 1)⟩, ⟨some 15, none, .ixa 6 (.t 12) (.t 13)⟩, ⟨some 16, none, .faddr 0 (.t 15)⟩, ⟨none, none, .store 1 (.t 16) (.t 14)⟩])
    (.seq (.ops [⟨some 17, none, .mov (.t 1)⟩, ⟨some 18, none, .ari .add (.t 17) (.c (.int .i64 1))⟩, ⟨some 1, none, .mov (.t 18)⟩])
     (.seq (.ops [⟨some 19, none, .mov (.t 0)⟩, ⟨some 20, none, .mov (.t 5)⟩, ⟨some 21, none, .mov (.t 1)⟩, ⟨some 22, none, .ixa 6 (.t 19) (.t 20)⟩, ⟨some 23, none, .faddr 1 (.t 22)⟩, ⟨none, none, .store 1 (.t 23) (.t 21)⟩])
      (.seq (.ops [⟨some 24, none, .mov (.t 1)⟩, ⟨some 25, none, .ari .add (.t 24) (.c (.int .i64 1))⟩, ⟨some 1, none, .mov (.t 25)⟩])
       (.seq (.ops [⟨some 26, none, .mov (.t 0)⟩, ⟨some 27, none, .mov (.t 5)⟩, ⟨some 28, none, .mov (.t 1)⟩, ⟨some 29, none, .ixa 6 (.t 26) (.t 27)⟩, ⟨some 30, none, .faddr 2 (.t 29)⟩, ⟨none, none, .store 1 (.t 30) (.t 28)⟩])
        (.seq (.ops [⟨some 31, none, .mov (.t 1)⟩, ⟨some 32, none, .ari .add (.t 31) (.c (.int .i64 1))⟩, ⟨some 1, none, .mov (.t 32)⟩])
         (.seq (.ops [⟨some 33, none, .mov (.t 0)⟩, ⟨some 34, none, .mov (.t 5)⟩, ⟨some 35, none, .mov (.t 1)⟩, ⟨some 36, none, .ixa 6 (.t 33) (.t 34)⟩, ⟨some 37, none, .faddr 3 (.t 36)⟩, ⟨none, none, .store 1 (.t 37) (.t 35)⟩])
          (.seq (.ops [⟨some 38, none, .mov (.t 1)⟩, ⟨some 39, none, .ari .add (.t 38) (.c (.int .i64 1))⟩, ⟨some 1, none, .mov (.t 39)⟩])
           (.seq (.ops [⟨some 40, none, .mov (.t 0)⟩, ⟨some 41, none, .mov (.t 5)⟩, ⟨some 42, none, .mov (.t 1)⟩, ⟨some 43, none, .ixa 6 (.t 40) (.t 41)⟩, ⟨some 44, none, .faddr 4 (.t 43)⟩, ⟨none, none, .store 1 (.t 44) (.t 42)⟩])
            (.seq (.ops [⟨some 45, none, .mov (.t 1)⟩, ⟨some 46, none, .ari .add (.t 45) (.c (.int .i64 1))⟩, ⟨some 1, none, .mov (.t 46)⟩])
             (.seq (.ops [⟨some 47, none, .mov (.t 0)⟩, ⟨some 48, none, .mov (.t 5)⟩, ⟨some 49, none, .mov (.t 1)⟩, ⟨some 50, none, .ixa 6 (.t 47) (.t 48)⟩, ⟨some 51, none, .faddr 5 (.t 50)⟩, ⟨none, none, .store 1 (.t 51) (.t 49)⟩])
              (.ops [⟨some 52, none, .mov (.t 1)⟩, ⟨some 53, none, .ari .add (.t 52) (.c (.int .i64 1))⟩, ⟨some 1, none, .mov (.t 53)⟩])))))))))))))
  (.ops [⟨some 10, none, .mov (.t 5)⟩, ⟨some 11, none, .ari .add (.t 10) (.c (.int .i64 1))⟩, ⟨some 5, none, .mov (.t 11)⟩]))
/-- loop.example/g00286/laws.markInsS -/
def c_laws_markInsS : SCode :=
 .seq (.ops [⟨some 4, none, .mov (.c (.int .i64 0))⟩])
 (.seq (.seq (.ops [⟨some 5, none, .mov (.c (.int .i64 0))⟩])
   (.block 0 (.loop [0, 1, 5] b_laws_markInsS_0)))
  (.seq (.ops [⟨some 54, none, .mov (.t 1)⟩, ⟨some 4, none, .mov (.t 54)⟩])
   (.ret)))
def s_laws_markInsS : SFn := ⟨2, 55, c_laws_markInsS, [.t 4]⟩
def b_laws_heldInsS_0 : SCode :=
 .seq (.seq (.ops [⟨some 6, none, .mov (.t 5)⟩, ⟨some 7, none, .mov (.t 0)⟩, ⟨some 8, none, .len (.t 7)⟩, ⟨some 9, none, .cmp .lss (.t 6) (.t 8)⟩])
  (.cond (.t 9) (.skip)
   (.seq (.keep [1]) (.exit 0))))
 (.seq (.block 1 (.seq (.seq (.ops [⟨some 12, none, .mov (.t 0)⟩, ⟨some 13, none, .mov (.t 5)⟩, ⟨some 14, none, .ixa 6 (.t 12) (.t 13)⟩, ⟨some 15, none, .faddr 0 (.t 14)⟩, ⟨some 16, none, .load none (.t 15)⟩, ⟨some 17, none, .mov (.t 1)⟩, ⟨some 18, none, .cmp .neq (.t 16) (.t 17)⟩])
     (.cond (.t 18) (.seq (.ops [⟨some 4, none, .mov (.c (.int .i64 (-1)))⟩])
       (.seq (.keep [4]) .ret))
      (.skip)))
    (.seq (.ops [⟨some 19, none, .mov (.t 1)⟩, ⟨some 20, none, .ari .add (.t 19) (.c (.int .i64 1))⟩, ⟨some 1, none, .mov (.t 20)⟩])
     (.seq (.seq (.ops [⟨some 21, none, .mov (.t 0)⟩, ⟨some 22, none, .mov (.t 5)⟩, ⟨some 23, none, .ixa 6 (.t 21) (.t 22)⟩, ⟨some 24, none, .faddr 1 (.t 23)⟩, ⟨some 25, none, .load none (.t 24)⟩, ⟨some 26, none, .mov (.t 1)⟩, ⟨some 27, none, .cmp .neq (.t 25) (.t 26)⟩])
       (.cond (.t 27) (.seq (.ops [⟨some 4, none, .mov (.c (.int .i64 (-1)))⟩])
         (.seq (.keep [4]) .ret))
        (.skip)))
      (.seq (.ops [⟨some 28, none, .mov (.t 1)⟩, ⟨some 29, none, .ari .add (.t 28) (.c (.int .i64 1))⟩, ⟨some 1, none, .mov (.t 29)⟩])
       (.seq (.seq (.ops [⟨some 30, none, .mov (.t 0)⟩, ⟨some 31, none, .mov (.t 5)⟩, ⟨some 32, none, .ixa 6 (.t 30) (.t 31)⟩, ⟨some 33, none, .faddr 2 (.t 32)⟩, ⟨some 34, none, .load none (.t 33)⟩, ⟨some 35, none, .mov (.t 1)⟩, ⟨some 36, none, .cmp .neq (.t 34) (.t 35)⟩])
         (.cond (.t 36) (.seq (.ops [⟨some 4, none, .mov (.c (.int .i64 (-1)))⟩])
           (.seq (.keep [4]) .ret))
          (.skip)))
        (.seq (.ops [⟨some 37, none, .mov (.t 1)⟩, ⟨some 38, none, .ari .add (.t 37) (.c (.int .i64 1))⟩, ⟨some 1, none, .mov (.t 38)⟩])
         (.seq (.seq (.ops [⟨some 39, none, .mov (.t 0)⟩, ⟨some 40, none, .mov (.t 5)⟩, ⟨some 41, none, .ixa 6 (.t 39) (.t 40)⟩, ⟨some 42, none, .faddr 3 (.t 41)⟩, ⟨some 43, none, .load none (.t 42)⟩, ⟨some 44, none, .mov (.t 1)⟩, ⟨some 45, none, .cmp .neq (.t 43) (.t 44)⟩])
           (.cond (.t 45) (.seq (.ops [⟨some 4, none, .mov (.c (.int .i64 (-1)))⟩])
             (.seq (.keep [4]) .ret))
            (.skip)))
          (.seq (.ops [⟨some 46, none, .mov (.t 1)⟩, ⟨some 47, none, .ari .add (.t 46) (.c (.int .i64 1))⟩, ⟨some 1, none, .mov (.t 47)⟩])
           (.seq (.seq (.ops [⟨some 48, none, .mov (.t 0)⟩, ⟨some 49, none, .mov (.t 5)⟩, ⟨some 50, none, .ixa 6 (.t 48) (.t 49)⟩, ⟨some 51, none, .faddr 4 (.t 50)⟩, ⟨some 52, none, .load none (.t 51)⟩, ⟨some 53, none, .mov (.t 1)⟩, ⟨some 54, none, .cmp .neq (.t 52) (.t 53)⟩])
             (.cond (.t 54) (.seq (.ops [⟨some 4, none, .mov (.c (.int .i64 (-1)))⟩])
               (.seq (.keep [4]) .ret))
              (.skip)))
            (.seq (.ops [⟨some 55, none, .mov (.t 1)⟩, ⟨some 56, none, .ari .add (.t 55) (.c (.int .i64 1))⟩, ⟨some 1, none, .mov (.t 56)⟩])
             (.seq (.seq (.ops [⟨some 57, none, .mov (.t 0)⟩, ⟨some 58, none, .mov (.t 5)⟩, ⟨some 59, none, .ixa 6 (.t 57) (.t 58)⟩, ⟨some 60, none, .faddr 5 (.t 59)⟩, ⟨some 61, none, .load none (.t 60)⟩, ⟨some 62, none, .mov (.t 1)⟩, ⟨some 63, none, .cmp .neq (.t 61) (.t 62)⟩])
               (.cond (.t 63) (.seq (.ops [⟨some 4, none, .mov (.c (.int .i64 (-1)))⟩])
                 (.seq (.keep [4]) .ret))
                (.skip)))
              (.ops [⟨some 64, none, .mov (.t 1)⟩, ⟨some 65, none, .ari .add (.t 64) (.c (.int .i64 1))⟩, ⟨some 1, none, .mov (.t 65)⟩])))))))))))))
  (.ops [⟨some 10, none, .mov (.t 5)⟩, ⟨some 11, none, .ari .add (.t 10) (.c (.int .i64 1))⟩, ⟨some 5, none, .mov (.t 11)⟩]))
/-- loop.example/g00286/laws.heldInsS -/
def c_laws_heldInsS : SCode :=
 .seq (.ops [⟨some 4, none, .mov (.c (.int .i64 0))⟩])
 (.seq (.seq (.ops [⟨some 5, none, .mov (.c (.int .i64 0))⟩])
   (.block 0 (.loop [0, 1, 5] b_laws_heldInsS_0)))
  (.seq (.ops [⟨some 66, none, .mov (.t 1)⟩, ⟨some 4, none, .mov (.t 66)⟩])
   (.ret)))
def s_laws_heldInsS : SFn := ⟨2, 67, c_laws_heldInsS, [.t 4]⟩
/-- loop.example/g00286/laws.eqMachine -/
def c_laws_eqMachine : SCode :=
 .seq (.ops [⟨some 2, none, .vbox 7 (.t 0)⟩, ⟨some 3, none, .vbox 7 (.t 1)⟩, ⟨some 4, none, .mov (.c (.bool false))⟩])
 (.seq (.seq (.ops [⟨some 5, none, .faddr 0 (.t 2)⟩, ⟨some 6, none, .load none (.t 5)⟩, ⟨some 7, none, .faddr 0 (.t 3)⟩, ⟨some 8, none, .load none (.t 7)⟩, ⟨some 9, none, .callr laws_eqInsS [.t 6, .t 8]⟩, ⟨some 10, none, .not (.t 9)⟩])
   (.cond (.t 10) (.seq (.ops [⟨some 4, none, .mov (.c (.bool false))⟩])
     (.ret))
    (.skip)))
  (.seq (.seq (.ops [⟨some 11, none, .faddr 1 (.t 2)⟩, ⟨some 12, none, .load none (.t 11)⟩, ⟨some 13, none, .faddr 1 (.t 3)⟩, ⟨some 14, none, .load none (.t 13)⟩, ⟨some 15, none, .callr laws_eqIntS [.t 12, .t 14]⟩, ⟨some 16, none, .not (.t 15)⟩])
    (.cond (.t 16) (.seq (.ops [⟨some 4, none, .mov (.c (.bool false))⟩])
      (.ret))
     (.skip)))
   (.seq (.seq (.ops [⟨some 17, none, .faddr 2 (.t 2)⟩, ⟨some 18, none, .load none (.t 17)⟩, ⟨some 19, none, .faddr 2 (.t 3)⟩, ⟨some 20, none, .load none (.t 19)⟩, ⟨some 21, none, .callr laws_eqCoreS [.t 18, .t 20]⟩, ⟨some 22, none, .not (.t 21)⟩])
     (.cond (.t 22) (.seq (.ops [⟨some 4, none, .mov (.c (.bool false))⟩])
       (.ret))
      (.skip)))
    (.seq (.seq (.ops [⟨some 23, none, .faddr 3 (.t 2)⟩, ⟨some 24, none, .load none (.t 23)⟩, ⟨some 25, none, .faddr 3 (.t 3)⟩, ⟨some 26, none, .load none (.t 25)⟩, ⟨some 27, none, .callr laws_eqIntS [.t 24, .t 26]⟩, ⟨some 28, none, .not (.t 27)⟩])
      (.cond (.t 28) (.seq (.ops [⟨some 4, none, .mov (.c (.bool false))⟩])
        (.ret))
       (.skip)))
     (.seq (.seq (.ops [⟨some 29, none, .faddr 4 (.t 2)⟩, ⟨some 30, none, .load none (.t 29)⟩, ⟨some 31, none, .faddr 4 (.t 3)⟩, ⟨some 32, none, .load none (.t 31)⟩, ⟨some 33, none, .callr laws_eqNoteS [.t 30, .t 32]⟩, ⟨some 34, none, .not (.t 33)⟩])
       (.cond (.t 34) (.seq (.ops [⟨some 4, none, .mov (.c (.bool false))⟩])
         (.ret))
        (.skip)))
      (.seq (.seq (.ops [⟨some 35, none, .faddr 5 (.t 2)⟩, ⟨some 36, none, .load none (.t 35)⟩, ⟨some 37, none, .faddr 5 (.t 3)⟩, ⟨some 38, none, .load none (.t 37)⟩, ⟨some 39, none, .cmpb .neq (.t 36) (.t 38)⟩])
        (.cond (.t 39) (.seq (.ops [⟨some 4, none, .mov (.c (.bool false))⟩])
          (.ret))
         (.skip)))
       (.seq (.seq (.ops [⟨some 40, none, .faddr 6 (.t 2)⟩, ⟨some 41, none, .load none (.t 40)⟩, ⟨some 42, none, .faddr 6 (.t 3)⟩, ⟨some 43, none, .load none (.t 42)⟩, ⟨some 44, none, .cmp .neq (.t 41) (.t 43)⟩])
         (.cond (.t 44) (.seq (.ops [⟨some 4, none, .mov (.c (.bool false))⟩])
           (.ret))
          (.skip)))
        (.seq (.ops [⟨some 4, none, .mov (.c (.bool true))⟩])
         (.ret)))))))))
def s_laws_eqMachine : SFn := ⟨2, 45, c_laws_eqMachine, [.t 4]⟩
/-- loop.example/g00286/laws.szInsS -/
def c_laws_szInsS : SCode :=
 .seq (.ops [⟨some 4, none, .mov (.c (.int .i64 0))⟩])
 (.seq (.ops [⟨some 5, none, .mov (.t 1)⟩, ⟨some 6, none, .mov (.t 0)⟩, ⟨some 7, none, .len (.t 6)⟩, ⟨some 8, none, .ari .sub (.t 5) (.t 7)⟩, ⟨some 1, none, .mov (.t 8)⟩])
  (.seq (.seq (.ops [⟨some 9, none, .mov (.t 1)⟩, ⟨some 10, none, .cmp .lss (.t 9) (.c (.int .i64 0))⟩])
    (.cond (.t 10) (.seq (.ops [⟨some 4, none, .mov (.c (.int .i64 (-1)))⟩])
      (.ret))
     (.skip)))
   (.seq (.ops [⟨some 11, none, .mov (.t 1)⟩, ⟨some 4, none, .mov (.t 11)⟩])
    (.ret))))
def s_laws_szInsS : SFn := ⟨2, 12, c_laws_szInsS, [.t 4]⟩
def b_spec_Boot_0 : SCode :=
 .seq (.seq (.ops [⟨some 65, none, .mov (.t 14)⟩, ⟨some 66, none, .mov (.t 4)⟩, ⟨some 67, none, .cmp .lss (.t 65) (.t 66)⟩])
  (.cond (.t 67) (.skip)
   (.seq (.keep [10, 12]) (.exit 0))))
 (.seq (.block 1 (.opsd [⟨⟨some 70, none, .faddr 2 (.t 12)⟩, 0, []⟩, ⟨⟨some 71, none, .load none (.t 70)⟩, 1, []⟩, ⟨⟨some 72, none, .mov (.t 3)⟩, 2, []⟩, ⟨⟨some 73, none, .mov (.t 14)⟩, 3, []⟩, ⟨⟨some 74, none, .ari .mul (.c (.int .i64 40)) (.t 73)⟩, 4, []⟩, ⟨⟨some 75, none, .ari .add (.c (.int .i64 16)) (.t 74)⟩, 5, []⟩, ⟨⟨some 76, none, .ari .add (.t 75) (.c (.int .i64 4))⟩, 6, []⟩, ⟨⟨some 77, none, .mk 1 8 [.v (.int .i64 0)] (.c (.int .i64 6))⟩, 7, []⟩, ⟨⟨some 78, none, .build [.v (.int .i64 0), .v (.int .i64 0), .s 1 []] [(0, 1, .t 72), (1, 1, .t 76), (2, 1, .t 77)]⟩, 8, []⟩, ⟨⟨some 79, none, .lit 3 [.t 78]⟩, 9, [⟨some 70, none, .faddr 2 (.t 12)⟩, ⟨some 71, none, .load none (.t 70)⟩]⟩, ⟨⟨some 80, none, .app 3 40 (.t 71) (.t 79)⟩, 10, []⟩, ⟨⟨some 81, none, .faddr 2 (.t 12)⟩, 11, []⟩, ⟨⟨none, none, .store 1 (.t 81) (.t 80)⟩, 12, []⟩]))
  (.ops [⟨some 68, none, .mov (.t 14)⟩, ⟨some 69, none, .ari .add (.t 68) (.c (.int .i64 1))⟩, ⟨some 14, none, .mov (.t 69)⟩]))
/-- loop.example/g00286/spec.Boot -/
def c_spec_Boot : SCode :=
 .seq (.ops [⟨some 10, none, .alloc [.s 6 [], .s 1 [], .s 3 [], .s 1 [], .s 2 [], .v (.bool false), .v (.int .i64 0)]⟩, ⟨some 11, none, .mov (.c (.bool false))⟩])
 (.seq (.seq (.ops [⟨some 15, none, .mov (.t 4)⟩, ⟨some 16, none, .callr spec_l1In [.t 15, .c (.int .i64 1), .c (.int .i64 8)]⟩, ⟨some 17, none, .not (.t 16)⟩])
   (.cond (.t 17) (.seq (.ops [⟨some 18, none, .build [.s 6 [], .s 1 [], .s 3 [], .s 1 [], .s 2 [], .v (.bool false), .v (.int .i64 0)] []⟩, ⟨none, none, .store 7 (.t 10) (.t 18)⟩, ⟨some 11, none, .mov (.c (.bool false))⟩])
     (.ret))
    (.skip)))
  (.seq (.opsd [⟨⟨some 20, none, .mov (.t 0)⟩, 1, []⟩, ⟨⟨some 19, none, .lit 6 []⟩, 0, [⟨some 20, none, .mov (.t 0)⟩]⟩, ⟨⟨some 21, none, .app 6 48 (.t 19) (.t 20)⟩, 2, []⟩, ⟨⟨some 22, none, .mk 1 8 [.v (.int .i64 0)] (.c (.int .i64 2200))⟩, 3, []⟩, ⟨⟨some 23, none, .build [.s 6 [], .s 1 [], .s 3 [], .s 1 [], .s 2 [], .v (.bool false), .v (.int .i64 0)] [(0, 1, .t 21), (1, 1, .t 22)]⟩, 4, []⟩, ⟨⟨some 12, none, .alloc [.s 6 [], .s 1 [], .s 3 [], .s 1 [], .s 2 [], .v (.bool false), .v (.int .i64 0)]⟩, 5, []⟩, ⟨⟨none, none, .store 7 (.t 12) (.t 23)⟩, 6, []⟩])
   (.seq (.ops [⟨some 13, none, .mov (.c (.int .i64 1000))⟩])
    (.seq (.ops [⟨some 24, none, .faddr 1 (.t 12)⟩, ⟨some 25, none, .load none (.t 24)⟩, ⟨some 26, none, .mov (.t 13)⟩, ⟨some 27, none, .ixa 1 (.t 25) (.c (.int .i64 1))⟩, ⟨none, none, .store 1 (.t 27) (.t 26)⟩])
     (.seq (.ops [⟨some 28, none, .faddr 1 (.t 12)⟩, ⟨some 29, none, .load none (.t 28)⟩, ⟨some 30, none, .mov (.t 13)⟩, ⟨some 31, none, .ixa 1 (.t 29) (.c (.int .i64 2))⟩, ⟨none, none, .store 1 (.t 31) (.t 30)⟩])
      (.seq (.ops [⟨some 32, none, .faddr 1 (.t 12)⟩, ⟨some 33, none, .load none (.t 32)⟩, ⟨some 34, none, .ixa 1 (.t 33) (.c (.int .i64 4))⟩, ⟨none, none, .store 1 (.t 34) (.c (.int .i64 1))⟩])
       (.seq (.ops [⟨some 35, none, .faddr 1 (.t 12)⟩, ⟨some 36, none, .load none (.t 35)⟩, ⟨some 37, none, .mov (.t 13)⟩, ⟨some 38, none, .mov (.t 1)⟩, ⟨some 39, none, .ixa 1 (.t 36) (.t 37)⟩, ⟨none, none, .store 1 (.t 39) (.t 38)⟩])
        (.seq (.ops [⟨some 40, none, .faddr 1 (.t 12)⟩, ⟨some 41, none, .load none (.t 40)⟩, ⟨some 42, none, .mov (.t 13)⟩, ⟨some 43, none, .ari .add (.t 42) (.c (.int .i64 1))⟩, ⟨some 44, none, .mov (.t 13)⟩, ⟨some 45, none, .ari .add (.t 44) (.c (.int .i64 20))⟩, ⟨some 46, none, .ixa 1 (.t 41) (.t 43)⟩, ⟨none, none, .store 1 (.t 46) (.t 45)⟩])
         (.seq (.ops [⟨some 47, none, .faddr 1 (.t 12)⟩, ⟨some 48, none, .load none (.t 47)⟩, ⟨some 49, none, .mov (.t 13)⟩, ⟨some 50, none, .ari .add (.t 49) (.c (.int .i64 4))⟩, ⟨some 51, none, .ixa 1 (.t 48) (.t 50)⟩, ⟨none, none, .store 1 (.t 51) (.c (.int .i64 1))⟩])
          (.seq (.ops [⟨some 52, none, .faddr 1 (.t 12)⟩, ⟨some 53, none, .load none (.t 52)⟩, ⟨some 54, none, .mov (.t 13)⟩, ⟨some 55, none, .ari .add (.t 54) (.c (.int .i64 20))⟩, ⟨some 56, none, .mov (.t 2)⟩, ⟨some 57, none, .ixa 1 (.t 53) (.t 55)⟩, ⟨none, none, .store 1 (.t 57) (.t 56)⟩])
           (.seq (.ops [⟨some 58, none, .faddr 1 (.t 12)⟩, ⟨some 59, none, .load none (.t 58)⟩, ⟨some 60, none, .mov (.t 13)⟩, ⟨some 61, none, .ari .add (.t 60) (.c (.int .i64 21))⟩, ⟨some 62, none, .mov (.t 13)⟩, ⟨some 63, none, .ari .add (.t 62) (.c (.int .i64 20))⟩, ⟨some 64, none, .ixa 1 (.t 59) (.t 61)⟩, ⟨none, none, .store 1 (.t 64) (.t 63)⟩])
            (.seq (.seq (.ops [⟨some 14, none, .mov (.c (.int .i64 0))⟩])
              (.block 0 (.loop [3, 4, 10, 12, 14] b_spec_Boot_0)))
             (.seq (.seq (.ops [⟨some 82, none, .load (some 7) (.t 12)⟩, ⟨some 83, none, .callr spec_MachineOk [.t 82]⟩, ⟨some 84, none, .not (.t 83)⟩])
               (.cond (.t 84) (.seq (.ops [⟨some 85, none, .build [.s 6 [], .s 1 [], .s 3 [], .s 1 [], .s 2 [], .v (.bool false), .v (.int .i64 0)] []⟩, ⟨none, none, .store 7 (.t 10) (.t 85)⟩, ⟨some 11, none, .mov (.c (.bool false))⟩])
                 (.ret))
                (.skip)))
              (.seq (.ops [⟨some 86, none, .load (some 7) (.t 12)⟩, ⟨none, none, .store 7 (.t 10) (.t 86)⟩, ⟨some 11, none, .mov (.c (.bool true))⟩])
               (.ret)))))))))))))))
def s_spec_Boot : SFn := ⟨5, 87, c_spec_Boot, [.c 10 (some 7), .t 11]⟩
def b_laws_toInsS_0 : SCode :=
 .seq (.seq (.ops [⟨some 8, none, .mov (.t 4)⟩, ⟨some 9, none, .mov (.t 0)⟩, ⟨some 10, none, .len (.t 9)⟩, ⟨some 11, none, .cmp .lss (.t 8) (.t 10)⟩])
  (.cond (.t 11) (.skip)
   (.seq (.keep [3]) (.exit 0))))
 (.seq (.block 1 (.ops [⟨some 14, none, .mov (.t 3)⟩, ⟨some 15, none, .mov (.t 4)⟩, ⟨some 16, none, .mov (.t 0)⟩, ⟨some 17, none, .mov (.t 4)⟩, ⟨some 18, none, .ixa 6 (.t 16) (.t 17)⟩, ⟨some 19, none, .load (some 6) (.t 18)⟩, ⟨some 20, none, .callr laws_toIns [.t 19]⟩, ⟨some 21, none, .ixa 6 (.t 14) (.t 15)⟩, ⟨none, none, .store 6 (.t 21) (.t 20)⟩]))
  (.ops [⟨some 12, none, .mov (.t 4)⟩, ⟨some 13, none, .ari .add (.t 12) (.c (.int .i64 1))⟩, ⟨some 4, none, .mov (.t 13)⟩]))
/-- loop.example/g00286/laws.toInsS -/
def c_laws_toInsS : SCode :=
 .seq (.ops [⟨some 2, none, .mov (.n 6)⟩])
 (.seq (.ops [⟨some 5, none, .mov (.t 0)⟩, ⟨some 6, none, .len (.t 5)⟩, ⟨some 7, none, .mk 6 48 [.v (.int .i64 0), .v (.int .i64 0), .v (.int .i64 0), .v (.int .i64 0), .v (.int .i64 0), .v (.int .i64 0)] (.t 6)⟩, ⟨some 3, none, .mov (.t 7)⟩])
  (.seq (.seq (.ops [⟨some 4, none, .mov (.c (.int .i64 0))⟩])
    (.block 0 (.loop [0, 3, 4] b_laws_toInsS_0)))
   (.seq (.ops [⟨some 22, none, .mov (.t 3)⟩, ⟨some 2, none, .mov (.t 22)⟩])
    (.ret))))
def s_laws_toInsS : SFn := ⟨1, 23, c_laws_toInsS, [.t 2]⟩
def b_impl_Boot_0 : SCode :=
 .seq (.ops [⟨some 57, none, .cmp .lss (.t 56) (.t 55)⟩])
 (.seq (.cond (.t 57) (.skip)
   (.seq (.keep [10, 12]) (.exit 0)))
  (.seq (.block 1 (.seq (.ops [⟨some 58, none, .mov (.t 56)⟩, ⟨some 14, none, .mov (.t 58)⟩])
     (.opsd [⟨⟨some 59, none, .faddr 2 (.t 12)⟩, 0, []⟩, ⟨⟨some 60, none, .load none (.t 59)⟩, 1, []⟩, ⟨⟨some 61, none, .mov (.t 3)⟩, 2, []⟩, ⟨⟨some 62, none, .mov (.t 14)⟩, 3, []⟩, ⟨⟨some 63, none, .ari .mul (.t 62) (.c (.int .i64 40))⟩, 4, []⟩, ⟨⟨some 64, none, .ari .add (.c (.int .i64 16)) (.t 63)⟩, 5, []⟩, ⟨⟨some 65, none, .ari .add (.t 64) (.c (.int .i64 4))⟩, 6, []⟩, ⟨⟨some 66, none, .mk 1 8 [.v (.int .i64 0)] (.c (.int .i64 6))⟩, 7, []⟩, ⟨⟨some 67, none, .build [.v (.int .i64 0), .v (.int .i64 0), .s 1 []] [(0, 1, .t 61), (1, 1, .t 65), (2, 1, .t 66)]⟩, 8, []⟩, ⟨⟨some 68, none, .lit 3 [.t 67]⟩, 9, [⟨some 59, none, .faddr 2 (.t 12)⟩, ⟨some 60, none, .load none (.t 59)⟩]⟩, ⟨⟨some 69, none, .app 3 40 (.t 60) (.t 68)⟩, 10, []⟩, ⟨⟨some 70, none, .faddr 2 (.t 12)⟩, 11, []⟩, ⟨⟨none, none, .store 1 (.t 70) (.t 69)⟩, 12, []⟩])))
   (.ops [⟨some 71, none, .ari .add (.t 56) (.c (.int .i64 1))⟩, ⟨some 56, none, .mov (.t 71)⟩])))
/-- loop.example/g00286/impl.Boot -/
def c_impl_Boot : SCode :=
 .seq (.ops [⟨some 10, none, .alloc [.s 6 [], .s 1 [], .s 3 [], .s 1 [], .s 2 [], .v (.bool false), .v (.int .i64 0)]⟩, ⟨some 11, none, .mov (.c (.bool false))⟩])
 (.seq (.seq (.ops [⟨some 15, none, .mov (.t 4)⟩, ⟨some 16, none, .callr impl_within [.t 15, .c (.int .i64 1), .c (.int .i64 8)]⟩, ⟨some 17, none, .not (.t 16)⟩])
   (.cond (.t 17) (.seq (.ops [⟨some 18, none, .build [.s 6 [], .s 1 [], .s 3 [], .s 1 [], .s 2 [], .v (.bool false), .v (.int .i64 0)] []⟩, ⟨none, none, .store 7 (.t 10) (.t 18)⟩, ⟨some 11, none, .mov (.c (.bool false))⟩])
     (.ret))
    (.skip)))
  (.seq (.opsd [⟨⟨some 20, none, .mov (.t 0)⟩, 1, []⟩, ⟨⟨some 19, none, .lit 6 []⟩, 0, [⟨some 20, none, .mov (.t 0)⟩]⟩, ⟨⟨some 21, none, .app 6 48 (.t 19) (.t 20)⟩, 2, []⟩, ⟨⟨some 22, none, .mk 1 8 [.v (.int .i64 0)] (.c (.int .i64 2200))⟩, 3, []⟩, ⟨⟨some 23, none, .build [.s 6 [], .s 1 [], .s 3 [], .s 1 [], .s 2 [], .v (.bool false), .v (.int .i64 0)] [(0, 1, .t 21), (1, 1, .t 22)]⟩, 4, []⟩, ⟨⟨some 12, none, .alloc [.s 6 [], .s 1 [], .s 3 [], .s 1 [], .s 2 [], .v (.bool false), .v (.int .i64 0)]⟩, 5, []⟩, ⟨⟨none, none, .store 7 (.t 12) (.t 23)⟩, 6, []⟩])
   (.seq (.ops [⟨some 13, none, .mov (.c (.int .i64 1020))⟩])
    (.seq (.ops [⟨some 24, none, .faddr 1 (.t 12)⟩, ⟨some 25, none, .load none (.t 24)⟩, ⟨some 26, none, .mov (.t 1)⟩, ⟨some 27, none, .ixa 1 (.t 25) (.c (.int .i64 1000))⟩, ⟨none, none, .store 1 (.t 27) (.t 26)⟩])
     (.seq (.ops [⟨some 28, none, .faddr 1 (.t 12)⟩, ⟨some 29, none, .load none (.t 28)⟩, ⟨some 30, none, .mov (.t 13)⟩, ⟨some 31, none, .ixa 1 (.t 29) (.c (.int .i64 1001))⟩, ⟨none, none, .store 1 (.t 31) (.t 30)⟩])
      (.seq (.ops [⟨some 32, none, .faddr 1 (.t 12)⟩, ⟨some 33, none, .load none (.t 32)⟩, ⟨some 34, none, .ixa 1 (.t 33) (.c (.int .i64 1004))⟩, ⟨none, none, .store 1 (.t 34) (.c (.int .i64 1))⟩])
       (.seq (.ops [⟨some 35, none, .faddr 1 (.t 12)⟩, ⟨some 36, none, .load none (.t 35)⟩, ⟨some 37, none, .mov (.t 13)⟩, ⟨some 38, none, .mov (.t 2)⟩, ⟨some 39, none, .ixa 1 (.t 36) (.t 37)⟩, ⟨none, none, .store 1 (.t 39) (.t 38)⟩])
        (.seq (.ops [⟨some 40, none, .faddr 1 (.t 12)⟩, ⟨some 41, none, .load none (.t 40)⟩, ⟨some 42, none, .mov (.t 13)⟩, ⟨some 43, none, .ari .add (.t 42) (.c (.int .i64 1))⟩, ⟨some 44, none, .mov (.t 13)⟩, ⟨some 45, none, .ixa 1 (.t 41) (.t 43)⟩, ⟨none, none, .store 1 (.t 45) (.t 44)⟩])
         (.seq (.ops [⟨some 46, none, .faddr 1 (.t 12)⟩, ⟨some 47, none, .load none (.t 46)⟩, ⟨some 48, none, .ixa 1 (.t 47) (.c (.int .i64 1))⟩, ⟨none, none, .store 1 (.t 48) (.c (.int .i64 1000))⟩])
          (.seq (.ops [⟨some 49, none, .faddr 1 (.t 12)⟩, ⟨some 50, none, .load none (.t 49)⟩, ⟨some 51, none, .ixa 1 (.t 50) (.c (.int .i64 2))⟩, ⟨none, none, .store 1 (.t 51) (.c (.int .i64 1000))⟩])
           (.seq (.ops [⟨some 52, none, .faddr 1 (.t 12)⟩, ⟨some 53, none, .load none (.t 52)⟩, ⟨some 54, none, .ixa 1 (.t 53) (.c (.int .i64 4))⟩, ⟨none, none, .store 1 (.t 54) (.c (.int .i64 1))⟩])
            (.seq (.seq (.ops [⟨some 55, none, .mov (.t 4)⟩, ⟨some 56, none, .mov (.c (.int .i64 0))⟩])
              (.block 0 (.loop [3, 10, 12, 55, 56] b_impl_Boot_0)))
             (.seq (.seq (.ops [⟨some 72, none, .load (some 7) (.t 12)⟩, ⟨some 73, none, .callr impl_MachineOk [.t 72]⟩, ⟨some 74, none, .not (.t 73)⟩])
               (.cond (.t 74) (.seq (.ops [⟨some 75, none, .build [.s 6 [], .s 1 [], .s 3 [], .s 1 [], .s 2 [], .v (.bool false), .v (.int .i64 0)] []⟩, ⟨none, none, .store 7 (.t 10) (.t 75)⟩, ⟨some 11, none, .mov (.c (.bool false))⟩])
                 (.ret))
                (.skip)))
              (.seq (.ops [⟨some 76, none, .load (some 7) (.t 12)⟩, ⟨none, none, .store 7 (.t 10) (.t 76)⟩, ⟨some 11, none, .mov (.c (.bool true))⟩])
               (.ret)))))))))))))))
def s_impl_Boot : SFn := ⟨5, 77, c_impl_Boot, [.c 10 (some 7), .t 11]⟩
/-- loop.example/g00286/laws.markMachine -/
def c_laws_markMachine : SCode :=
 .seq (.ops [⟨some 2, none, .vbox 7 (.t 0)⟩, ⟨some 4, none, .mov (.c (.int .i64 0))⟩])
 (.seq (.ops [⟨some 5, none, .faddr 0 (.t 2)⟩, ⟨some 6, none, .load none (.t 5)⟩, ⟨some 7, none, .mov (.t 1)⟩, ⟨some 8, none, .callb laws_markInsS [.t 6, .t 7] [true, false]⟩, ⟨some 1, none, .mov (.t 8)⟩])
  (.seq (.ops [⟨some 9, none, .faddr 1 (.t 2)⟩, ⟨some 10, none, .load none (.t 9)⟩, ⟨some 11, none, .mov (.t 1)⟩, ⟨some 12, none, .callb laws_markIntS [.t 10, .t 11] [true, false]⟩, ⟨some 1, none, .mov (.t 12)⟩])
   (.seq (.ops [⟨some 13, none, .faddr 2 (.t 2)⟩, ⟨some 14, none, .load none (.t 13)⟩, ⟨some 15, none, .mov (.t 1)⟩, ⟨some 16, none, .callb laws_markCoreS [.t 14, .t 15] [true, false]⟩, ⟨some 1, none, .mov (.t 16)⟩])
    (.seq (.ops [⟨some 17, none, .faddr 3 (.t 2)⟩, ⟨some 18, none, .load none (.t 17)⟩, ⟨some 19, none, .mov (.t 1)⟩, ⟨some 20, none, .callb laws_markIntS [.t 18, .t 19] [true, false]⟩, ⟨some 1, none, .mov (.t 20)⟩])
     (.seq (.ops [⟨some 21, none, .faddr 4 (.t 2)⟩, ⟨some 22, none, .load none (.t 21)⟩, ⟨some 23, none, .mov (.t 1)⟩, ⟨some 24, none, .callb laws_markNoteS [.t 22, .t 23] [true, false]⟩, ⟨some 1, none, .mov (.t 24)⟩])
      (.seq (.ops [⟨some 25, none, .mov (.t 1)⟩, ⟨some 4, none, .mov (.t 25)⟩])
       (.ret)))))))
def s_laws_markMachine : SFn := ⟨2, 26, c_laws_markMachine, [.t 4]⟩
/-- loop.example/g00286/laws.heldMachine -/
def c_laws_heldMachine : SCode :=
 .seq (.ops [⟨some 2, none, .vbox 7 (.t 0)⟩, ⟨some 4, none, .mov (.c (.int .i64 0))⟩])
 (.seq (.ops [⟨some 5, none, .faddr 0 (.t 2)⟩, ⟨some 6, none, .load none (.t 5)⟩, ⟨some 7, none, .mov (.t 1)⟩, ⟨some 8, none, .callr laws_heldInsS [.t 6, .t 7]⟩, ⟨some 1, none, .mov (.t 8)⟩])
  (.seq (.seq (.ops [⟨some 9, none, .mov (.t 1)⟩, ⟨some 10, none, .cmp .lss (.t 9) (.c (.int .i64 0))⟩])
    (.cond (.t 10) (.seq (.ops [⟨some 4, none, .mov (.c (.int .i64 (-1)))⟩])
      (.ret))
     (.skip)))
   (.seq (.ops [⟨some 11, none, .faddr 1 (.t 2)⟩, ⟨some 12, none, .load none (.t 11)⟩, ⟨some 13, none, .mov (.t 1)⟩, ⟨some 14, none, .callr laws_heldIntS [.t 12, .t 13]⟩, ⟨some 1, none, .mov (.t 14)⟩])
    (.seq (.seq (.ops [⟨some 15, none, .mov (.t 1)⟩, ⟨some 16, none, .cmp .lss (.t 15) (.c (.int .i64 0))⟩])
      (.cond (.t 16) (.seq (.ops [⟨some 4, none, .mov (.c (.int .i64 (-1)))⟩])
        (.ret))
       (.skip)))
     (.seq (.ops [⟨some 17, none, .faddr 2 (.t 2)⟩, ⟨some 18, none, .load none (.t 17)⟩, ⟨some 19, none, .mov (.t 1)⟩, ⟨some 20, none, .callr laws_heldCoreS [.t 18, .t 19]⟩, ⟨some 1, none, .mov (.t 20)⟩])
      (.seq (.seq (.ops [⟨some 21, none, .mov (.t 1)⟩, ⟨some 22, none, .cmp .lss (.t 21) (.c (.int .i64 0))⟩])
        (.cond (.t 22) (.seq (.ops [⟨some 4, none, .mov (.c (.int .i64 (-1)))⟩])
          (.ret))
         (.skip)))
       (.seq (.ops [⟨some 23, none, .faddr 3 (.t 2)⟩, ⟨some 24, none, .load none (.t 23)⟩, ⟨some 25, none, .mov (.t 1)⟩, ⟨some 26, none, .callr laws_heldIntS [.t 24, .t 25]⟩, ⟨some 1, none, .mov (.t 26)⟩])
        (.seq (.seq (.ops [⟨some 27, none, .mov (.t 1)⟩, ⟨some 28, none, .cmp .lss (.t 27) (.c (.int .i64 0))⟩])
          (.cond (.t 28) (.seq (.ops [⟨some 4, none, .mov (.c (.int .i64 (-1)))⟩])
            (.ret))
           (.skip)))
         (.seq (.ops [⟨some 29, none, .faddr 4 (.t 2)⟩, ⟨some 30, none, .load none (.t 29)⟩, ⟨some 31, none, .mov (.t 1)⟩, ⟨some 32, none, .callr laws_heldNoteS [.t 30, .t 31]⟩, ⟨some 1, none, .mov (.t 32)⟩])
          (.seq (.seq (.ops [⟨some 33, none, .mov (.t 1)⟩, ⟨some 34, none, .cmp .lss (.t 33) (.c (.int .i64 0))⟩])
            (.cond (.t 34) (.seq (.ops [⟨some 4, none, .mov (.c (.int .i64 (-1)))⟩])
              (.ret))
             (.skip)))
           (.seq (.ops [⟨some 35, none, .mov (.t 1)⟩, ⟨some 4, none, .mov (.t 35)⟩])
            (.ret))))))))))))
def s_laws_heldMachine : SFn := ⟨2, 36, c_laws_heldMachine, [.t 4]⟩
/-- loop.example/g00286/spec.InsOk -/
def c_spec_InsOk : SCode :=
 .seq (.ops [⟨some 1, none, .vbox 6 (.t 0)⟩, ⟨some 2, none, .mov (.c (.bool false))⟩])
 (.seq (.ops [⟨some 5, none, .faddr 0 (.t 1)⟩, ⟨some 6, none, .load none (.t 5)⟩, ⟨some 7, none, .callr spec_l2Has [.t 6]⟩, ⟨some 3, none, .mov (.t 7)⟩])
  (.seq (.ops [⟨some 4, none, .mov (.c (.int .i64 5))⟩])
   (.seq (.seq (.ops [⟨some 8, none, .faddr 0 (.t 1)⟩, ⟨some 9, none, .load none (.t 8)⟩, ⟨some 10, none, .cmp .eql (.t 9) (.c (.int .i64 8))⟩, ⟨some 11, none, .mov (.t 10)⟩, ⟨some 12, (some (11, false)), .faddr 0 (.t 1)⟩, ⟨some 13, (some (11, false)), .load none (.t 12)⟩, ⟨some 14, (some (11, false)), .cmp .eql (.t 13) (.c (.int .i64 9))⟩, ⟨some 15, none, .pick (.t 11) (.c (.bool true)) (.t 14)⟩])
     (.cond (.t 15) (.ops [⟨some 4, none, .mov (.c (.int .i64 6))⟩])
      (.skip)))
    (.seq (.ops [⟨some 16, none, .faddr 0 (.t 1)⟩, ⟨some 17, none, .load none (.t 16)⟩, ⟨some 18, none, .callr spec_l1In [.t 17, .c (.int .i64 1), .c (.int .i64 19)]⟩, ⟨some 19, none, .mov (.t 18)⟩, ⟨some 20, (some (19, true)), .faddr 1 (.t 1)⟩, ⟨some 21, (some (19, true)), .load none (.t 20)⟩, ⟨some 22, (some (19, true)), .mov (.t 3)⟩, ⟨some 23, (some (19, true)), .ari .and (.t 22) (.c (.int .i64 1))⟩, ⟨some 24, (some (19, true)), .cmp .neq (.t 23) (.c (.int .i64 0))⟩, ⟨some 25, (some (19, true)), .callr spec_l2Field [.t 21, .c (.int .i64 5), .t 24]⟩, ⟨some 26, none, .pick (.t 19) (.t 25) (.c (.bool false))⟩, ⟨some 27, none, .mov (.t 26)⟩, ⟨some 28, (some (27, true)), .faddr 2 (.t 1)⟩, ⟨some 29, (some (27, true)), .load none (.t 28)⟩, ⟨some 30, (some (27, true)), .mov (.t 4)⟩, ⟨some 31, (some (27, true)), .mov (.t 3)⟩, ⟨some 32, (some (27, true)), .ari .and (.t 31) (.c (.int .i64 2))⟩, ⟨some 33, (some (27, true)), .cmp .neq (.t 32) (.c (.int .i64 0))⟩, ⟨some 34, (some (27, true)), .callr spec_l2Field [.t 29, .t 30, .t 33]⟩, ⟨some 35, none, .pick (.t 27) (.t 34) (.c (.bool false))⟩, ⟨some 36, none, .mov (.t 35)⟩, ⟨some 37, (some (36, true)), .faddr 3 (.t 1)⟩, ⟨some 38, (some (36, true)), .load none (.t 37)⟩, ⟨some 39, (some (36, true)), .mov (.t 3)⟩, ⟨some 40, (some (36, true)), .ari .and (.t 39) (.c (.int .i64 4))⟩, ⟨some 41, (some (36, true)), .cmp .neq (.t 40) (.c (.int .i64 0))⟩, ⟨some 42, (some (36, true)), .callr spec_l2Field [.t 38, .c (.int .i64 5), .t 41]⟩, ⟨some 43, none, .pick (.t 36) (.t 42) (.c (.bool false))⟩, ⟨some 44, none, .mov (.t 43)⟩, ⟨some 45, (some (44, true)), .faddr 4 (.t 1)⟩, ⟨some 46, (some (44, true)), .load none (.t 45)⟩, ⟨some 47, (some (44, true)), .callr spec_WordOk [.t 46]⟩, ⟨some 48, none, .pick (.t 44) (.t 47) (.c (.bool false))⟩, ⟨some 49, none, .mov (.t 48)⟩, ⟨some 50, (some (49, true)), .mov (.t 3)⟩, ⟨some 51, (some (49, true)), .ari .and (.t 50) (.c (.int .i64 8))⟩, ⟨some 52, (some (49, true)), .cmp .neq (.t 51) (.c (.int .i64 0))⟩, ⟨some 53, (some (49, true)), .mov (.t 52)⟩, ⟨some 54, (some (53, false)), .faddr 4 (.t 1)⟩, ⟨some 55, (some (53, false)), .load none (.t 54)⟩, ⟨some 56, (some (53, false)), .cmp .eql (.t 55) (.c (.int .i64 0))⟩, ⟨some 57, (some (49, true)), .pick (.t 53) (.c (.bool true)) (.t 56)⟩, ⟨some 58, none, .pick (.t 49) (.t 57) (.c (.bool false))⟩, ⟨some 59, none, .mov (.t 58)⟩, ⟨some 60, (some (59, true)), .faddr 5 (.t 1)⟩, ⟨some 61, (some (59, true)), .load none (.t 60)⟩, ⟨some 62, (some (59, true)), .mov (.t 3)⟩, ⟨some 63, (some (59, true)), .ari .and (.t 62) (.c (.int .i64 16))⟩, ⟨some 64, (some (59, true)), .cmp .neq (.t 63) (.c (.int .i64 0))⟩, ⟨some 65, (some (59, true)), .callr spec_l2Field [.t 61, .c (.int .i64 60), .t 64]⟩, ⟨some 66, none, .pick (.t 59) (.t 65) (.c (.bool false))⟩, ⟨some 2, none, .mov (.t 66)⟩])
     (.ret)))))
def s_spec_InsOk : SFn := ⟨1, 67, c_spec_InsOk, [.t 2]⟩
/-- slices.ContainsFunc[[]loop.example/g00286/impl.Ins,loop.example/g00286/impl.Ins] -/
def c_slices_ContainsFunc_impl_Ins_impl_Ins : SCode :=
 .seq (.ops [⟨some 4, none, .mov (.c (.bool false))⟩])
 (.seq (.ops [⟨some 5, none, .mov (.t 0)⟩, ⟨some 6, none, .mov (.t 1)⟩, ⟨some 7, none, .calli (.f slices_IndexFunc_impl_Ins_impl_Ins) [.t 5, .t 6]⟩, ⟨some 8, none, .cmp .geq (.t 7) (.c (.int .i64 0))⟩, ⟨some 4, none, .mov (.t 8)⟩])
  (.ret))
def s_slices_ContainsFunc_impl_Ins_impl_Ins : SFn := ⟨2, 9, c_slices_ContainsFunc_impl_Ins_impl_Ins, [.t 4]⟩
def b_impl_InsOk_0 : SCode :=
 .seq (.ops [⟨some 17, none, .cmp .lss (.t 16) (.t 15)⟩])
 (.seq (.cond (.t 17) (.skip)
   (.seq (.keep [4, 5]) (.exit 0)))
  (.seq (.block 1 (.seq (.ops [⟨some 18, none, .mov (.t 16)⟩, ⟨some 6, none, .mov (.t 18)⟩])
     (.seq (.ops [⟨some 19, none, .mov (.t 3)⟩, ⟨some 20, none, .mov (.t 6)⟩, ⟨some 21, none, .ixs (.t 19) (.t 20)⟩])
      (.block 2 (.seq (.ops [⟨some 23, none, .cmp .eql (.t 21) (.c (.int .u8 82))⟩, ⟨some 22, none, .mov (.t 23)⟩])
        (.cond (.t 22) (.seq (.ops [⟨some 24, none, .mov (.t 5)⟩, ⟨some 25, none, .mov (.t 24)⟩, ⟨some 26, (some (25, true)), .faddr 1 (.t 1)⟩, ⟨some 27, (some (25, true)), .load none (.t 26)⟩, ⟨some 28, (some (25, true)), .callr impl_isReg [.t 27]⟩, ⟨some 29, none, .pick (.t 25) (.t 28) (.c (.bool false))⟩, ⟨some 5, none, .mov (.t 29)⟩])
          (.ops [⟨some 30, none, .faddr 1 (.t 4)⟩, ⟨none, none, .store 1 (.t 30) (.c (.int .i64 0))⟩]))
         (.seq (.ops [⟨some 32, none, .cmp .eql (.t 21) (.c (.int .u8 65))⟩, ⟨some 31, none, .mov (.t 32)⟩])
          (.cond (.t 31) (.seq (.ops [⟨some 33, none, .mov (.t 5)⟩, ⟨some 34, none, .mov (.t 33)⟩, ⟨some 35, (some (34, true)), .faddr 2 (.t 1)⟩, ⟨some 36, (some (34, true)), .load none (.t 35)⟩, ⟨some 37, (some (34, true)), .callr impl_isReg [.t 36]⟩, ⟨some 38, (some (34, true)), .mov (.t 37)⟩, ⟨some 39, (some (38, false)), .faddr 2 (.t 1)⟩, ⟨some 40, (some (38, false)), .load none (.t 39)⟩, ⟨some 41, (some (38, false)), .cmp .eql (.t 40) (.c (.int .i64 6))⟩, ⟨some 42, (some (38, false)), .mov (.t 41)⟩, ⟨some 43, (some (42, true)), .faddr 0 (.t 1)⟩, ⟨some 44, (some (42, true)), .load none (.t 43)⟩, ⟨some 45, (some (42, true)), .cmp .eql (.t 44) (.c (.int .i64 8))⟩, ⟨some 46, (some (42, true)), .mov (.t 45)⟩, ⟨some 47, (some (46, false)), .faddr 0 (.t 1)⟩, ⟨some 48, (some (46, false)), .load none (.t 47)⟩, ⟨some 49, (some (46, false)), .cmp .eql (.t 48) (.c (.int .i64 9))⟩, ⟨some 50, (some (42, true)), .pick (.t 46) (.c (.bool true)) (.t 49)⟩, ⟨some 51, (some (38, false)), .pick (.t 42) (.t 50) (.c (.bool false))⟩, ⟨some 52, (some (34, true)), .pick (.t 38) (.c (.bool true)) (.t 51)⟩, ⟨some 53, none, .pick (.t 34) (.t 52) (.c (.bool false))⟩, ⟨some 5, none, .mov (.t 53)⟩])
            (.ops [⟨some 54, none, .faddr 2 (.t 4)⟩, ⟨none, none, .store 1 (.t 54) (.c (.int .i64 0))⟩]))
           (.seq (.ops [⟨some 56, none, .cmp .eql (.t 21) (.c (.int .u8 66))⟩, ⟨some 55, none, .mov (.t 56)⟩])
            (.cond (.t 55) (.seq (.ops [⟨some 57, none, .mov (.t 5)⟩, ⟨some 58, none, .mov (.t 57)⟩, ⟨some 59, (some (58, true)), .faddr 3 (.t 1)⟩, ⟨some 60, (some (58, true)), .load none (.t 59)⟩, ⟨some 61, (some (58, true)), .callr impl_isReg [.t 60]⟩, ⟨some 62, none, .pick (.t 58) (.t 61) (.c (.bool false))⟩, ⟨some 5, none, .mov (.t 62)⟩])
              (.ops [⟨some 63, none, .faddr 3 (.t 4)⟩, ⟨none, none, .store 1 (.t 63) (.c (.int .i64 0))⟩]))
             (.seq (.ops [⟨some 65, none, .cmp .eql (.t 21) (.c (.int .u8 78))⟩, ⟨some 64, none, .mov (.t 65)⟩])
              (.cond (.t 64) (.seq (.ops [⟨some 66, none, .mov (.t 5)⟩, ⟨some 67, none, .mov (.t 66)⟩, ⟨some 68, (some (67, true)), .faddr 4 (.t 1)⟩, ⟨some 69, (some (67, true)), .load none (.t 68)⟩, ⟨some 70, (some (67, true)), .callr impl_WordOk [.t 69]⟩, ⟨some 71, none, .pick (.t 67) (.t 70) (.c (.bool false))⟩, ⟨some 5, none, .mov (.t 71)⟩])
                (.ops [⟨some 72, none, .faddr 4 (.t 4)⟩, ⟨none, none, .store 1 (.t 72) (.c (.int .i64 0))⟩]))
               (.seq (.ops [⟨some 74, none, .cmp .eql (.t 21) (.c (.int .u8 77))⟩, ⟨some 73, none, .mov (.t 74)⟩])
                (.cond (.t 73) (.seq (.ops [⟨some 75, none, .mov (.t 5)⟩, ⟨some 76, none, .mov (.t 75)⟩, ⟨some 77, (some (76, true)), .faddr 5 (.t 1)⟩, ⟨some 78, (some (76, true)), .load none (.t 77)⟩, ⟨some 79, (some (76, true)), .callr impl_within [.t 78, .c (.int .i64 0), .c (.int .i64 60)]⟩, ⟨some 80, none, .pick (.t 76) (.t 79) (.c (.bool false))⟩, ⟨some 5, none, .mov (.t 80)⟩])
                  (.ops [⟨some 81, none, .faddr 5 (.t 4)⟩, ⟨none, none, .store 1 (.t 81) (.c (.int .i64 0))⟩]))
                 (.skip)))))))))))))))
   (.ops [⟨some 82, none, .ari .add (.t 16) (.c (.int .i64 1))⟩, ⟨some 16, none, .mov (.t 82)⟩])))
/-- loop.example/g00286/impl.InsOk -/
def c_impl_InsOk : SCode :=
 .seq (.ops [⟨some 1, none, .vbox 6 (.t 0)⟩, ⟨some 2, none, .mov (.c (.bool false))⟩])
 (.seq (.ops [⟨some 7, none, .faddr 0 (.t 1)⟩, ⟨some 8, none, .load none (.t 7)⟩, ⟨some 9, none, .callr impl_has [.t 8]⟩, ⟨some 3, none, .mov (.t 9)⟩])
  (.seq (.ops [⟨some 10, none, .load (some 6) (.t 1)⟩, ⟨some 4, none, .alloc [.v (.int .i64 0), .v (.int .i64 0), .v (.int .i64 0), .v (.int .i64 0), .v (.int .i64 0), .v (.int .i64 0)]⟩, ⟨none, none, .store 6 (.t 4) (.t 10)⟩])
   (.seq (.ops [⟨some 11, none, .faddr 0 (.t 4)⟩, ⟨none, none, .store 1 (.t 11) (.c (.int .i64 0))⟩])
    (.seq (.ops [⟨some 12, none, .mov (.t 3)⟩, ⟨some 13, none, .cmp .neq (.t 12) (.c (.string ⟨#[]⟩))⟩, ⟨some 5, none, .mov (.t 13)⟩])
     (.seq (.seq (.ops [⟨some 14, none, .mov (.t 3)⟩, ⟨some 15, none, .slen (.t 14)⟩, ⟨some 16, none, .mov (.c (.int .i64 0))⟩])
       (.block 0 (.loop [1, 3, 4, 5, 15, 16] b_impl_InsOk_0)))
      (.seq (.ops [⟨some 83, none, .mov (.t 5)⟩, ⟨some 84, none, .mov (.t 83)⟩, ⟨some 85, (some (84, true)), .load (some 6) (.t 4)⟩, ⟨some 86, (some (84, true)), .build [.v (.int .i64 0), .v (.int .i64 0), .v (.int .i64 0), .v (.int .i64 0), .v (.int .i64 0), .v (.int .i64 0)] []⟩, ⟨some 87, (some (84, true)), .eqa false 6 (.t 85) (.t 86)⟩, ⟨some 88, none, .pick (.t 84) (.t 87) (.c (.bool false))⟩, ⟨some 2, none, .mov (.t 88)⟩])
       (.ret)))))))
def s_impl_InsOk : SFn := ⟨1, 89, c_impl_InsOk, [.t 2]⟩
/-- loop.example/g00286/laws.eqIns -/
def c_laws_eqIns : SCode :=
 .seq (.ops [⟨some 2, none, .vbox 6 (.t 0)⟩, ⟨some 3, none, .vbox 6 (.t 1)⟩, ⟨some 4, none, .mov (.c (.bool false))⟩])
 (.seq (.seq (.ops [⟨some 5, none, .faddr 0 (.t 2)⟩, ⟨some 6, none, .load none (.t 5)⟩, ⟨some 7, none, .faddr 0 (.t 3)⟩, ⟨some 8, none, .load none (.t 7)⟩, ⟨some 9, none, .cmp .neq (.t 6) (.t 8)⟩])
   (.cond (.t 9) (.seq (.ops [⟨some 4, none, .mov (.c (.bool false))⟩])
     (.ret))
    (.skip)))
  (.seq (.seq (.ops [⟨some 10, none, .faddr 1 (.t 2)⟩, ⟨some 11, none, .load none (.t 10)⟩, ⟨some 12, none, .faddr 1 (.t 3)⟩, ⟨some 13, none, .load none (.t 12)⟩, ⟨some 14, none, .cmp .neq (.t 11) (.t 13)⟩])
    (.cond (.t 14) (.seq (.ops [⟨some 4, none, .mov (.c (.bool false))⟩])
      (.ret))
     (.skip)))
   (.seq (.seq (.ops [⟨some 15, none, .faddr 2 (.t 2)⟩, ⟨some 16, none, .load none (.t 15)⟩, ⟨some 17, none, .faddr 2 (.t 3)⟩, ⟨some 18, none, .load none (.t 17)⟩, ⟨some 19, none, .cmp .neq (.t 16) (.t 18)⟩])
     (.cond (.t 19) (.seq (.ops [⟨some 4, none, .mov (.c (.bool false))⟩])
       (.ret))
      (.skip)))
    (.seq (.seq (.ops [⟨some 20, none, .faddr 3 (.t 2)⟩, ⟨some 21, none, .load none (.t 20)⟩, ⟨some 22, none, .faddr 3 (.t 3)⟩, ⟨some 23, none, .load none (.t 22)⟩, ⟨some 24, none, .cmp .neq (.t 21) (.t 23)⟩])
      (.cond (.t 24) (.seq (.ops [⟨some 4, none, .mov (.c (.bool false))⟩])
        (.ret))
       (.skip)))
     (.seq (.seq (.ops [⟨some 25, none, .faddr 4 (.t 2)⟩, ⟨some 26, none, .load none (.t 25)⟩, ⟨some 27, none, .faddr 4 (.t 3)⟩, ⟨some 28, none, .load none (.t 27)⟩, ⟨some 29, none, .cmp .neq (.t 26) (.t 28)⟩])
       (.cond (.t 29) (.seq (.ops [⟨some 4, none, .mov (.c (.bool false))⟩])
         (.ret))
        (.skip)))
      (.seq (.seq (.ops [⟨some 30, none, .faddr 5 (.t 2)⟩, ⟨some 31, none, .load none (.t 30)⟩, ⟨some 32, none, .faddr 5 (.t 3)⟩, ⟨some 33, none, .load none (.t 32)⟩, ⟨some 34, none, .cmp .neq (.t 31) (.t 33)⟩])
        (.cond (.t 34) (.seq (.ops [⟨some 4, none, .mov (.c (.bool false))⟩])
          (.ret))
         (.skip)))
       (.seq (.ops [⟨some 4, none, .mov (.c (.bool true))⟩])
        (.ret))))))))
def s_laws_eqIns : SFn := ⟨2, 35, c_laws_eqIns, [.t 4]⟩
def b_spec_MachineOk_0 : SCode :=
 .seq (.seq (.ops [⟨some 54, none, .mov (.t 3)⟩, ⟨some 55, none, .faddr 0 (.t 1)⟩, ⟨some 56, none, .load none (.t 55)⟩, ⟨some 57, none, .len (.t 56)⟩, ⟨some 58, none, .cmp .lss (.t 54) (.t 57)⟩])
  (.cond (.t 58) (.skip)
   (.seq (.keep [1]) (.exit 0))))
 (.seq (.block 1 (.seq (.ops [⟨some 61, none, .faddr 0 (.t 1)⟩, ⟨some 62, none, .load none (.t 61)⟩, ⟨some 63, none, .mov (.t 3)⟩, ⟨some 64, none, .ixa 6 (.t 62) (.t 63)⟩, ⟨some 65, none, .load (some 6) (.t 64)⟩, ⟨some 66, none, .callr spec_InsOk [.t 65]⟩, ⟨some 67, none, .not (.t 66)⟩])
    (.cond (.t 67) (.seq (.ops [⟨some 2, none, .mov (.c (.bool false))⟩])
      (.seq (.keep [2]) .ret))
     (.skip))))
  (.ops [⟨some 59, none, .mov (.t 3)⟩, ⟨some 60, none, .ari .add (.t 59) (.c (.int .i64 1))⟩, ⟨some 3, none, .mov (.t 60)⟩]))
def b_spec_MachineOk_1 : SCode :=
 .seq (.seq (.ops [⟨some 68, none, .mov (.t 4)⟩, ⟨some 69, none, .faddr 2 (.t 1)⟩, ⟨some 70, none, .load none (.t 69)⟩, ⟨some 71, none, .len (.t 70)⟩, ⟨some 72, none, .cmp .lss (.t 68) (.t 71)⟩])
  (.cond (.t 72) (.skip)
   (.seq (.keep [1]) (.exit 2))))
 (.seq (.block 3 (.seq (.ops [⟨some 75, none, .faddr 2 (.t 1)⟩, ⟨some 76, none, .load none (.t 75)⟩, ⟨some 77, none, .mov (.t 4)⟩, ⟨some 78, none, .ixa 3 (.t 76) (.t 77)⟩, ⟨some 79, none, .load (some 3) (.t 78)⟩, ⟨some 80, none, .callr spec_CoreOk [.t 79]⟩, ⟨some 81, none, .not (.t 80)⟩])
    (.cond (.t 81) (.seq (.ops [⟨some 2, none, .mov (.c (.bool false))⟩])
      (.seq (.keep [2]) .ret))
     (.skip))))
  (.ops [⟨some 73, none, .mov (.t 4)⟩, ⟨some 74, none, .ari .add (.t 73) (.c (.int .i64 1))⟩, ⟨some 4, none, .mov (.t 74)⟩]))
def b_spec_MachineOk_2 : SCode :=
 .seq (.seq (.ops [⟨some 82, none, .mov (.t 5)⟩, ⟨some 83, none, .faddr 4 (.t 1)⟩, ⟨some 84, none, .load none (.t 83)⟩, ⟨some 85, none, .len (.t 84)⟩, ⟨some 86, none, .cmp .lss (.t 82) (.t 85)⟩])
  (.cond (.t 86) (.skip)
   (.seq (.keep []) (.exit 4))))
 (.seq (.block 5 (.seq (.ops [⟨some 89, none, .faddr 4 (.t 1)⟩, ⟨some 90, none, .load none (.t 89)⟩, ⟨some 91, none, .mov (.t 5)⟩, ⟨some 92, none, .ixa 2 (.t 90) (.t 91)⟩, ⟨some 93, none, .faddr 0 (.t 92)⟩, ⟨some 94, none, .load none (.t 93)⟩, ⟨some 95, none, .callr spec_WordOk [.t 94]⟩, ⟨some 96, none, .not (.t 95)⟩, ⟨some 97, none, .mov (.t 96)⟩, ⟨some 98, (some (97, false)), .faddr 4 (.t 1)⟩, ⟨some 99, (some (97, false)), .load none (.t 98)⟩, ⟨some 100, (some (97, false)), .mov (.t 5)⟩, ⟨some 101, (some (97, false)), .ixa 2 (.t 99) (.t 100)⟩, ⟨some 102, (some (97, false)), .faddr 1 (.t 101)⟩, ⟨some 103, (some (97, false)), .load none (.t 102)⟩, ⟨some 104, (some (97, false)), .callr spec_WordOk [.t 103]⟩, ⟨some 105, (some (97, false)), .not (.t 104)⟩, ⟨some 106, none, .pick (.t 97) (.c (.bool true)) (.t 105)⟩])
    (.cond (.t 106) (.seq (.ops [⟨some 2, none, .mov (.c (.bool false))⟩])
      (.seq (.keep [2]) .ret))
     (.skip))))
  (.ops [⟨some 87, none, .mov (.t 5)⟩, ⟨some 88, none, .ari .add (.t 87) (.c (.int .i64 1))⟩, ⟨some 5, none, .mov (.t 88)⟩]))
/-- loop.example/g00286/spec.MachineOk -/
def c_spec_MachineOk : SCode :=
 .seq (.ops [⟨some 1, none, .vbox 7 (.t 0)⟩, ⟨some 2, none, .mov (.c (.bool false))⟩])
 (.seq (.seq (.ops [⟨some 6, none, .faddr 0 (.t 1)⟩, ⟨some 7, none, .load none (.t 6)⟩, ⟨some 8, none, .len (.t 7)⟩, ⟨some 9, none, .callr spec_l1In [.t 8, .c (.int .i64 1), .c (.int .i64 3000)]⟩, ⟨some 10, none, .not (.t 9)⟩, ⟨some 11, none, .mov (.t 10)⟩, ⟨some 12, (some (11, false)), .faddr 1 (.t 1)⟩, ⟨some 13, (some (11, false)), .load none (.t 12)⟩, ⟨some 14, (some (11, false)), .len (.t 13)⟩, ⟨some 15, (some (11, false)), .cmp .gtr (.t 14) (.c (.int .i64 4000))⟩, ⟨some 16, none, .pick (.t 11) (.c (.bool true)) (.t 15)⟩, ⟨some 17, none, .mov (.t 16)⟩, ⟨some 18, (some (17, false)), .faddr 2 (.t 1)⟩, ⟨some 19, (some (17, false)), .load none (.t 18)⟩, ⟨some 20, (some (17, false)), .len (.t 19)⟩, ⟨some 21, (some (17, false)), .callr spec_l1In [.t 20, .c (.int .i64 1), .c (.int .i64 8)]⟩, ⟨some 22, (some (17, false)), .not (.t 21)⟩, ⟨some 23, none, .pick (.t 17) (.c (.bool true)) (.t 22)⟩, ⟨some 24, none, .mov (.t 23)⟩, ⟨some 25, (some (24, false)), .faddr 3 (.t 1)⟩, ⟨some 26, (some (24, false)), .load none (.t 25)⟩, ⟨some 27, (some (24, false)), .len (.t 26)⟩, ⟨some 28, (some (24, false)), .cmp .gtr (.t 27) (.c (.int .i64 3000))⟩, ⟨some 29, none, .pick (.t 24) (.c (.bool true)) (.t 28)⟩, ⟨some 30, none, .mov (.t 29)⟩, ⟨some 31, (some (30, false)), .faddr 4 (.t 1)⟩, ⟨some 32, (some (30, false)), .load none (.t 31)⟩, ⟨some 33, (some (30, false)), .len (.t 32)⟩, ⟨some 34, (some (30, false)), .cmp .gtr (.t 33) (.c (.int .i64 3000))⟩, ⟨some 35, none, .pick (.t 30) (.c (.bool true)) (.t 34)⟩, ⟨some 36, none, .mov (.t 35)⟩, ⟨some 37, (some (36, false)), .faddr 1 (.t 1)⟩, ⟨some 38, (some (36, false)), .load none (.t 37)⟩, ⟨some 39, (some (36, false)), .callr spec_l3Words [.t 38]⟩, ⟨some 40, (some (36, false)), .not (.t 39)⟩, ⟨some 41, none, .pick (.t 36) (.c (.bool true)) (.t 40)⟩, ⟨some 42, none, .mov (.t 41)⟩, ⟨some 43, (some (42, false)), .faddr 3 (.t 1)⟩, ⟨some 44, (some (42, false)), .load none (.t 43)⟩, ⟨some 45, (some (42, false)), .callr spec_l3Words [.t 44]⟩, ⟨some 46, (some (42, false)), .not (.t 45)⟩, ⟨some 47, none, .pick (.t 42) (.c (.bool true)) (.t 46)⟩, ⟨some 48, none, .mov (.t 47)⟩, ⟨some 49, (some (48, false)), .faddr 6 (.t 1)⟩, ⟨some 50, (some (48, false)), .load none (.t 49)⟩, ⟨some 51, (some (48, false)), .callr spec_WordOk [.t 50]⟩, ⟨some 52, (some (48, false)), .not (.t 51)⟩, ⟨some 53, none, .pick (.t 48) (.c (.bool true)) (.t 52)⟩])
   (.cond (.t 53) (.seq (.ops [⟨some 2, none, .mov (.c (.bool false))⟩])
     (.ret))
    (.skip)))
  (.seq (.seq (.ops [⟨some 3, none, .mov (.c (.int .i64 0))⟩])
    (.block 0 (.loop [1, 3] b_spec_MachineOk_0)))
   (.seq (.seq (.ops [⟨some 4, none, .mov (.c (.int .i64 0))⟩])
     (.block 2 (.loop [1, 4] b_spec_MachineOk_1)))
    (.seq (.seq (.ops [⟨some 5, none, .mov (.c (.int .i64 0))⟩])
      (.block 4 (.loop [1, 5] b_spec_MachineOk_2)))
     (.seq (.ops [⟨some 2, none, .mov (.c (.bool true))⟩])
      (.ret))))))
def s_spec_MachineOk : SFn := ⟨1, 107, c_spec_MachineOk, [.t 2]⟩
/-- loop.example/g00286/impl.MachineOk -/
def c_impl_MachineOk : SCode :=
 .seq (.ops [⟨some 1, none, .vbox 7 (.t 0)⟩, ⟨some 2, none, .mov (.c (.bool false))⟩])
 (.seq (.seq (.ops [⟨some 3, none, .faddr 0 (.t 1)⟩, ⟨some 4, none, .load none (.t 3)⟩, ⟨some 5, none, .len (.t 4)⟩, ⟨some 6, none, .callr impl_within [.t 5, .c (.int .i64 1), .c (.int .i64 3000)]⟩, ⟨some 7, none, .not (.t 6)⟩, ⟨some 8, none, .mov (.t 7)⟩, ⟨some 9, (some (8, false)), .faddr 0 (.t 1)⟩, ⟨some 10, (some (8, false)), .load none (.t 9)⟩, ⟨some 11, (some (8, false)), .calli (.f slices_ContainsFunc_impl_Ins_impl_Ins) [.t 10, .f impl_MachineOk_1]⟩, ⟨some 12, none, .pick (.t 8) (.c (.bool true)) (.t 11)⟩])
   (.cond (.t 12) (.seq (.ops [⟨some 2, none, .mov (.c (.bool false))⟩])
     (.ret))
    (.skip)))
  (.seq (.seq (.ops [⟨some 13, none, .faddr 2 (.t 1)⟩, ⟨some 14, none, .load none (.t 13)⟩, ⟨some 15, none, .len (.t 14)⟩, ⟨some 16, none, .callr impl_within [.t 15, .c (.int .i64 1), .c (.int .i64 8)]⟩, ⟨some 17, none, .not (.t 16)⟩, ⟨some 18, none, .mov (.t 17)⟩, ⟨some 19, (some (18, false)), .faddr 2 (.t 1)⟩, ⟨some 20, (some (18, false)), .load none (.t 19)⟩, ⟨some 21, (some (18, false)), .calli (.f slices_ContainsFunc_impl_Core_impl_Core) [.t 20, .f impl_MachineOk_2]⟩, ⟨some 22, none, .pick (.t 18) (.c (.bool true)) (.t 21)⟩])
    (.cond (.t 22) (.seq (.ops [⟨some 2, none, .mov (.c (.bool false))⟩])
      (.ret))
     (.skip)))
   (.seq (.ops [⟨some 23, none, .faddr 1 (.t 1)⟩, ⟨some 24, none, .load none (.t 23)⟩, ⟨some 25, none, .callr impl_wordsOk [.t 24, .c (.int .i64 4000)]⟩, ⟨some 26, none, .mov (.t 25)⟩, ⟨some 27, (some (26, true)), .faddr 3 (.t 1)⟩, ⟨some 28, (some (26, true)), .load none (.t 27)⟩, ⟨some 29, (some (26, true)), .callr impl_wordsOk [.t 28, .c (.int .i64 3000)]⟩, ⟨some 30, none, .pick (.t 26) (.t 29) (.c (.bool false))⟩, ⟨some 31, none, .mov (.t 30)⟩, ⟨some 32, (some (31, true)), .faddr 4 (.t 1)⟩, ⟨some 33, (some (31, true)), .load none (.t 32)⟩, ⟨some 34, (some (31, true)), .len (.t 33)⟩, ⟨some 35, (some (31, true)), .cmp .leq (.t 34) (.c (.int .i64 3000))⟩, ⟨some 36, none, .pick (.t 31) (.t 35) (.c (.bool false))⟩, ⟨some 37, none, .mov (.t 36)⟩, ⟨some 38, (some (37, true)), .faddr 4 (.t 1)⟩, ⟨some 39, (some (37, true)), .load none (.t 38)⟩, ⟨some 40, (some (37, true)), .calli (.f slices_ContainsFunc_impl_Note_impl_Note) [.t 39, .f impl_MachineOk_3]⟩, ⟨some 41, (some (37, true)), .not (.t 40)⟩, ⟨some 42, none, .pick (.t 37) (.t 41) (.c (.bool false))⟩, ⟨some 43, none, .mov (.t 42)⟩, ⟨some 44, (some (43, true)), .faddr 6 (.t 1)⟩, ⟨some 45, (some (43, true)), .load none (.t 44)⟩, ⟨some 46, (some (43, true)), .callr impl_WordOk [.t 45]⟩, ⟨some 47, none, .pick (.t 43) (.t 46) (.c (.bool false))⟩, ⟨some 2, none, .mov (.t 47)⟩])
    (.ret))))
def s_impl_MachineOk : SFn := ⟨1, 48, c_impl_MachineOk, [.t 2]⟩
def b_laws_eqIntS_0 : SCode :=
 .seq (.seq (.ops [⟨some 11, none, .mov (.t 5)⟩, ⟨some 12, none, .mov (.t 0)⟩, ⟨some 13, none, .len (.t 12)⟩, ⟨some 14, none, .cmp .lss (.t 11) (.t 13)⟩])
  (.cond (.t 14) (.skip)
   (.seq (.keep []) (.exit 0))))
 (.seq (.block 1 (.seq (.ops [⟨some 17, none, .mov (.t 0)⟩, ⟨some 18, none, .mov (.t 5)⟩, ⟨some 19, none, .ixa 1 (.t 17) (.t 18)⟩, ⟨some 20, none, .load none (.t 19)⟩, ⟨some 21, none, .mov (.t 1)⟩, ⟨some 22, none, .mov (.t 5)⟩, ⟨some 23, none, .ixa 1 (.t 21) (.t 22)⟩, ⟨some 24, none, .load none (.t 23)⟩, ⟨some 25, none, .cmp .neq (.t 20) (.t 24)⟩])
    (.cond (.t 25) (.seq (.ops [⟨some 4, none, .mov (.c (.bool false))⟩])
      (.seq (.keep [4]) .ret))
     (.skip))))
  (.ops [⟨some 15, none, .mov (.t 5)⟩, ⟨some 16, none, .ari .add (.t 15) (.c (.int .i64 1))⟩, ⟨some 5, none, .mov (.t 16)⟩]))
/-- loop.example/g00286/laws.eqIntS -/
def c_laws_eqIntS : SCode :=
 .seq (.ops [⟨some 4, none, .mov (.c (.bool false))⟩])
 (.seq (.seq (.ops [⟨some 6, none, .mov (.t 0)⟩, ⟨some 7, none, .len (.t 6)⟩, ⟨some 8, none, .mov (.t 1)⟩, ⟨some 9, none, .len (.t 8)⟩, ⟨some 10, none, .cmp .neq (.t 7) (.t 9)⟩])
   (.cond (.t 10) (.seq (.ops [⟨some 4, none, .mov (.c (.bool false))⟩])
     (.ret))
    (.skip)))
  (.seq (.seq (.ops [⟨some 5, none, .mov (.c (.int .i64 0))⟩])
    (.block 0 (.loop [0, 1, 5] b_laws_eqIntS_0)))
   (.seq (.ops [⟨some 4, none, .mov (.c (.bool true))⟩])
    (.ret))))
def s_laws_eqIntS : SFn := ⟨2, 26, c_laws_eqIntS, [.t 4]⟩
def b_laws_eqCoreS_0 : SCode :=
 .seq (.seq (.ops [⟨some 11, none, .mov (.t 5)⟩, ⟨some 12, none, .mov (.t 0)⟩, ⟨some 13, none, .len (.t 12)⟩, ⟨some 14, none, .cmp .lss (.t 11) (.t 13)⟩])
  (.cond (.t 14) (.skip)
   (.seq (.keep []) (.exit 0))))
 (.seq (.block 1 (.seq (.ops [⟨some 17, none, .mov (.t 0)⟩, ⟨some 18, none, .mov (.t 5)⟩, ⟨some 19, none, .ixa 3 (.t 17) (.t 18)⟩, ⟨some 20, none, .load (some 3) (.t 19)⟩, ⟨some 21, none, .mov (.t 1)⟩, ⟨some 22, none, .mov (.t 5)⟩, ⟨some 23, none, .ixa 3 (.t 21) (.t 22)⟩, ⟨some 24, none, .load (some 3) (.t 23)⟩, ⟨some 25, none, .callr laws_eqCore [.t 20, .t 24]⟩, ⟨some 26, none, .not (.t 25)⟩])
    (.cond (.t 26) (.seq (.ops [⟨some 4, none, .mov (.c (.bool false))⟩])
      (.seq (.keep [4]) .ret))
     (.skip))))
  (.ops [⟨some 15, none, .mov (.t 5)⟩, ⟨some 16, none, .ari .add (.t 15) (.c (.int .i64 1))⟩, ⟨some 5, none, .mov (.t 16)⟩]))
/-- loop.example/g00286/laws.eqCoreS -/
def c_laws_eqCoreS : SCode :=
 .seq (.ops [⟨some 4, none, .mov (.c (.bool false))⟩])
 (.seq (.seq (.ops [⟨some 6, none, .mov (.t 0)⟩, ⟨some 7, none, .len (.t 6)⟩, ⟨some 8, none, .mov (.t 1)⟩, ⟨some 9, none, .len (.t 8)⟩, ⟨some 10, none, .cmp .neq (.t 7) (.t 9)⟩])
   (.cond (.t 10) (.seq (.ops [⟨some 4, none, .mov (.c (.bool false))⟩])
     (.ret))
    (.skip)))
  (.seq (.seq (.ops [⟨some 5, none, .mov (.c (.int .i64 0))⟩])
    (.block 0 (.loop [0, 1, 5] b_laws_eqCoreS_0)))
   (.seq (.ops [⟨some 4, none, .mov (.c (.bool true))⟩])
    (.ret))))
def s_laws_eqCoreS : SFn := ⟨2, 27, c_laws_eqCoreS, [.t 4]⟩
def b_laws_eqNoteS_0 : SCode :=
 .seq (.seq (.ops [⟨some 11, none, .mov (.t 5)⟩, ⟨some 12, none, .mov (.t 0)⟩, ⟨some 13, none, .len (.t 12)⟩, ⟨some 14, none, .cmp .lss (.t 11) (.t 13)⟩])
  (.cond (.t 14) (.skip)
   (.seq (.keep []) (.exit 0))))
 (.seq (.block 1 (.seq (.ops [⟨some 17, none, .mov (.t 0)⟩, ⟨some 18, none, .mov (.t 5)⟩, ⟨some 19, none, .ixa 2 (.t 17) (.t 18)⟩, ⟨some 20, none, .load (some 2) (.t 19)⟩, ⟨some 21, none, .mov (.t 1)⟩, ⟨some 22, none, .mov (.t 5)⟩, ⟨some 23, none, .ixa 2 (.t 21) (.t 22)⟩, ⟨some 24, none, .load (some 2) (.t 23)⟩, ⟨some 25, none, .callr laws_eqNote [.t 20, .t 24]⟩, ⟨some 26, none, .not (.t 25)⟩])
    (.cond (.t 26) (.seq (.ops [⟨some 4, none, .mov (.c (.bool false))⟩])
      (.seq (.keep [4]) .ret))
     (.skip))))
  (.ops [⟨some 15, none, .mov (.t 5)⟩, ⟨some 16, none, .ari .add (.t 15) (.c (.int .i64 1))⟩, ⟨some 5, none, .mov (.t 16)⟩]))
/-- loop.example/g00286/laws.eqNoteS -/
def c_laws_eqNoteS : SCode :=
 .seq (.ops [⟨some 4, none, .mov (.c (.bool false))⟩])
 (.seq (.seq (.ops [⟨some 6, none, .mov (.t 0)⟩, ⟨some 7, none, .len (.t 6)⟩, ⟨some 8, none, .mov (.t 1)⟩, ⟨some 9, none, .len (.t 8)⟩, ⟨some 10, none, .cmp .neq (.t 7) (.t 9)⟩])
   (.cond (.t 10) (.seq (.ops [⟨some 4, none, .mov (.c (.bool false))⟩])
     (.ret))
    (.skip)))
  (.seq (.seq (.ops [⟨some 5, none, .mov (.c (.int .i64 0))⟩])
    (.block 0 (.loop [0, 1, 5] b_laws_eqNoteS_0)))
   (.seq (.ops [⟨some 4, none, .mov (.c (.bool true))⟩])
    (.ret))))
def s_laws_eqNoteS : SFn := ⟨2, 27, c_laws_eqNoteS, [.t 4]⟩
/-- loop.example/g00286/spec.l1In -/
def c_spec_l1In : SCode :=
 .seq (.ops [⟨some 6, none, .mov (.c (.bool false))⟩])
 (.seq (.ops [⟨some 7, none, .mov (.t 0)⟩, ⟨some 8, none, .mov (.t 1)⟩, ⟨some 9, none, .cmp .geq (.t 7) (.t 8)⟩, ⟨some 10, none, .mov (.t 9)⟩, ⟨some 11, (some (10, true)), .mov (.t 0)⟩, ⟨some 12, (some (10, true)), .mov (.t 2)⟩, ⟨some 13, (some (10, true)), .cmp .leq (.t 11) (.t 12)⟩, ⟨some 14, none, .pick (.t 10) (.t 13) (.c (.bool false))⟩, ⟨some 6, none, .mov (.t 14)⟩])
  (.ret))
def s_spec_l1In : SFn := ⟨3, 15, c_spec_l1In, [.t 6]⟩
/-- loop.example/g00286/laws.toIns -/
def c_laws_toIns : SCode :=
 .seq (.ops [⟨some 1, none, .vbox 6 (.t 0)⟩, ⟨some 2, none, .alloc [.v (.int .i64 0), .v (.int .i64 0), .v (.int .i64 0), .v (.int .i64 0), .v (.int .i64 0), .v (.int .i64 0)]⟩])
 (.seq (.ops [⟨some 3, none, .alloc [.v (.int .i64 0), .v (.int .i64 0), .v (.int .i64 0), .v (.int .i64 0), .v (.int .i64 0), .v (.int .i64 0)]⟩])
  (.seq (.ops [⟨some 4, none, .faddr 0 (.t 1)⟩, ⟨some 5, none, .load none (.t 4)⟩, ⟨some 6, none, .faddr 0 (.t 3)⟩, ⟨none, none, .store 1 (.t 6) (.t 5)⟩])
   (.seq (.ops [⟨some 7, none, .faddr 1 (.t 1)⟩, ⟨some 8, none, .load none (.t 7)⟩, ⟨some 9, none, .faddr 1 (.t 3)⟩, ⟨none, none, .store 1 (.t 9) (.t 8)⟩])
    (.seq (.ops [⟨some 10, none, .faddr 2 (.t 1)⟩, ⟨some 11, none, .load none (.t 10)⟩, ⟨some 12, none, .faddr 2 (.t 3)⟩, ⟨none, none, .store 1 (.t 12) (.t 11)⟩])
     (.seq (.ops [⟨some 13, none, .faddr 3 (.t 1)⟩, ⟨some 14, none, .load none (.t 13)⟩, ⟨some 15, none, .faddr 3 (.t 3)⟩, ⟨none, none, .store 1 (.t 15) (.t 14)⟩])
      (.seq (.ops [⟨some 16, none, .faddr 4 (.t 1)⟩, ⟨some 17, none, .load none (.t 16)⟩, ⟨some 18, none, .faddr 4 (.t 3)⟩, ⟨none, none, .store 1 (.t 18) (.t 17)⟩])
       (.seq (.ops [⟨some 19, none, .faddr 5 (.t 1)⟩, ⟨some 20, none, .load none (.t 19)⟩, ⟨some 21, none, .faddr 5 (.t 3)⟩, ⟨none, none, .store 1 (.t 21) (.t 20)⟩])
        (.seq (.ops [⟨some 22, none, .load (some 6) (.t 3)⟩, ⟨none, none, .store 6 (.t 2) (.t 22)⟩])
         (.ret)))))))))
def s_laws_toIns : SFn := ⟨1, 23, c_laws_toIns, [.c 2 (some 6)]⟩
/-- loop.example/g00286/impl.within -/
def c_impl_within : SCode :=
 .seq (.ops [⟨some 6, none, .mov (.c (.bool false))⟩])
 (.seq (.ops [⟨some 7, none, .mov (.t 0)⟩, ⟨some 8, none, .mov (.t 1)⟩, ⟨some 9, none, .cmp .geq (.t 7) (.t 8)⟩, ⟨some 10, none, .mov (.t 9)⟩, ⟨some 11, (some (10, true)), .mov (.t 0)⟩, ⟨some 12, (some (10, true)), .mov (.t 2)⟩, ⟨some 13, (some (10, true)), .cmp .leq (.t 11) (.t 12)⟩, ⟨some 14, none, .pick (.t 10) (.t 13) (.c (.bool false))⟩, ⟨some 6, none, .mov (.t 14)⟩])
  (.ret))
def s_impl_within : SFn := ⟨3, 15, c_impl_within, [.t 6]⟩
def b_laws_markIntS_0 : SCode :=
 .seq (.seq (.ops [⟨some 6, none, .mov (.t 5)⟩, ⟨some 7, none, .mov (.t 0)⟩, ⟨some 8, none, .len (.t 7)⟩, ⟨some 9, none, .cmp .lss (.t 6) (.t 8)⟩])
  (.cond (.t 9) (.skip)
   (.seq (.keep [1]) (.exit 0))))
 (.seq (.block 1 (.seq (.ops [⟨some 12, none, .mov (.t 0)⟩, ⟨some 13, none, .mov (.t 5)⟩, ⟨some 14, none, .mov (.t 1)⟩, ⟨some 15, none, .ixa 1 (.t 12) (.t 13)⟩, ⟨none, none, .store 1 (.t 15) (.t 14)⟩])
    (.ops [⟨some 16, none, .mov (.t 1)⟩, ⟨some 17, none, .ari .add (.t 16) (.c (.int .i64 1))⟩, ⟨some 1, none, .mov (.t 17)⟩])))
  (.ops [⟨some 10, none, .mov (.t 5)⟩, ⟨some 11, none, .ari .add (.t 10) (.c (.int .i64 1))⟩, ⟨some 5, none, .mov (.t 11)⟩]))
/-- loop.example/g00286/laws.markIntS -/
def c_laws_markIntS : SCode :=
 .seq (.ops [⟨some 4, none, .mov (.c (.int .i64 0))⟩])
 (.seq (.seq (.ops [⟨some 5, none, .mov (.c (.int .i64 0))⟩])
   (.block 0 (.loop [0, 1, 5] b_laws_markIntS_0)))
  (.seq (.ops [⟨some 18, none, .mov (.t 1)⟩, ⟨some 4, none, .mov (.t 18)⟩])
   (.ret)))
def s_laws_markIntS : SFn := ⟨2, 19, c_laws_markIntS, [.t 4]⟩
def b_laws_markCoreS_0 : SCode :=
 .seq (.seq (.ops [⟨some 6, none, .mov (.t 5)⟩, ⟨some 7, none, .mov (.t 0)⟩, ⟨some 8, none, .len (.t 7)⟩, ⟨some 9, none, .cmp .lss (.t 6) (.t 8)⟩])
  (.cond (.t 9) (.skip)
   (.seq (.keep [1]) (.exit 0))))
 (.seq (.block 1 (.seq (.ops [⟨some 12, none, .mov (.t 0)⟩, ⟨some 13, none, .mov (.t 5)⟩, ⟨some 14, none, .mov (.t 1)⟩, ⟨some 15, none, .ixa 3 (.t 12) (.t 13)⟩, ⟨some 16, none, .faddr 0 (.t 15)⟩, ⟨none, none, .store 1 (.t 16) (.t 14)⟩])
    (.seq (.ops [⟨some 17, none, .mov (.t 1)⟩, ⟨some 18, none, .ari .add (.t 17) (.c (.int .i64 1))⟩, ⟨some 1, none, .mov (.t 18)⟩])
     (.seq (.ops [⟨some 19, none, .mov (.t 0)⟩, ⟨some 20, none, .mov (.t 5)⟩, ⟨some 21, none, .mov (.t 1)⟩, ⟨some 22, none, .ixa 3 (.t 19) (.t 20)⟩, ⟨some 23, none, .faddr 1 (.t 22)⟩, ⟨none, none, .store 1 (.t 23) (.t 21)⟩])
      (.seq (.ops [⟨some 24, none, .mov (.t 1)⟩, ⟨some 25, none, .ari .add (.t 24) (.c (.int .i64 1))⟩, ⟨some 1, none, .mov (.t 25)⟩])
       (.ops [⟨some 26, none, .mov (.t 0)⟩, ⟨some 27, none, .mov (.t 5)⟩, ⟨some 28, none, .ixa 3 (.t 26) (.t 27)⟩, ⟨some 29, none, .faddr 2 (.t 28)⟩, ⟨some 30, none, .load none (.t 29)⟩, ⟨some 31, none, .mov (.t 1)⟩, ⟨some 32, none, .callb laws_markIntS [.t 30, .t 31] [true, false]⟩, ⟨some 1, none, .mov (.t 32)⟩]))))))
  (.ops [⟨some 10, none, .mov (.t 5)⟩, ⟨some 11, none, .ari .add (.t 10) (.c (.int .i64 1))⟩, ⟨some 5, none, .mov (.t 11)⟩]))
/-- loop.example/g00286/laws.markCoreS -/
def c_laws_markCoreS : SCode :=
 .seq (.ops [⟨some 4, none, .mov (.c (.int .i64 0))⟩])
 (.seq (.seq (.ops [⟨some 5, none, .mov (.c (.int .i64 0))⟩])
   (.block 0 (.loop [0, 1, 5] b_laws_markCoreS_0)))
  (.seq (.ops [⟨some 33, none, .mov (.t 1)⟩, ⟨some 4, none, .mov (.t 33)⟩])
   (.ret)))
def s_laws_markCoreS : SFn := ⟨2, 34, c_laws_markCoreS, [.t 4]⟩
def b_laws_markNoteS_0 : SCode :=
 .seq (.seq (.ops [⟨some 6, none, .mov (.t 5)⟩, ⟨some 7, none, .mov (.t 0)⟩, ⟨some 8, none, .len (.t 7)⟩, ⟨some 9, none, .cmp .lss (.t 6) (.t 8)⟩])
  (.cond (.t 9) (.skip)
   (.seq (.keep [1]) (.exit 0))))
 (.seq (.block 1 (.seq (.ops [⟨some 12, none, .mov (.t 0)⟩, ⟨some 13, none, .mov (.t 5)⟩, ⟨some 14, none, .mov (.t 1)⟩, ⟨some 15, none, .ixa 2 (.t 12) (.t 13)⟩, ⟨some 16, none, .faddr 0 (.t 15)⟩, ⟨none, none, .store 1 (.t 16) (.t 14)⟩])
    (.seq (.ops [⟨some 17, none, .mov (.t 1)⟩, ⟨some 18, none, .ari .add (.t 17) (.c (.int .i64 1))⟩, ⟨some 1, none, .mov (.t 18)⟩])
     (.seq (.ops [⟨some 19, none, .mov (.t 0)⟩, ⟨some 20, none, .mov (.t 5)⟩, ⟨some 21, none, .mov (.t 1)⟩, ⟨some 22, none, .ixa 2 (.t 19) (.t 20)⟩, ⟨some 23, none, .faddr 1 (.t 22)⟩, ⟨none, none, .store 1 (.t 23) (.t 21)⟩])
      (.ops [⟨some 24, none, .mov (.t 1)⟩, ⟨some 25, none, .ari .add (.t 24) (.c (.int .i64 1))⟩, ⟨some 1, none, .mov (.t 25)⟩])))))
  (.ops [⟨some 10, none, .mov (.t 5)⟩, ⟨some 11, none, .ari .add (.t 10) (.c (.int .i64 1))⟩, ⟨some 5, none, .mov (.t 11)⟩]))
/-- loop.example/g00286/laws.markNoteS -/
def c_laws_markNoteS : SCode :=
 .seq (.ops [⟨some 4, none, .mov (.c (.int .i64 0))⟩])
 (.seq (.seq (.ops [⟨some 5, none, .mov (.c (.int .i64 0))⟩])
   (.block 0 (.loop [0, 1, 5] b_laws_markNoteS_0)))
  (.seq (.ops [⟨some 26, none, .mov (.t 1)⟩, ⟨some 4, none, .mov (.t 26)⟩])
   (.ret)))
def s_laws_markNoteS : SFn := ⟨2, 27, c_laws_markNoteS, [.t 4]⟩
def b_laws_heldIntS_0 : SCode :=
 .seq (.seq (.ops [⟨some 6, none, .mov (.t 5)⟩, ⟨some 7, none, .mov (.t 0)⟩, ⟨some 8, none, .len (.t 7)⟩, ⟨some 9, none, .cmp .lss (.t 6) (.t 8)⟩])
  (.cond (.t 9) (.skip)
   (.seq (.keep [1]) (.exit 0))))
 (.seq (.block 1 (.seq (.seq (.ops [⟨some 12, none, .mov (.t 0)⟩, ⟨some 13, none, .mov (.t 5)⟩, ⟨some 14, none, .ixa 1 (.t 12) (.t 13)⟩, ⟨some 15, none, .load none (.t 14)⟩, ⟨some 16, none, .mov (.t 1)⟩, ⟨some 17, none, .cmp .neq (.t 15) (.t 16)⟩])
     (.cond (.t 17) (.seq (.ops [⟨some 4, none, .mov (.c (.int .i64 (-1)))⟩])
       (.seq (.keep [4]) .ret))
      (.skip)))
    (.ops [⟨some 18, none, .mov (.t 1)⟩, ⟨some 19, none, .ari .add (.t 18) (.c (.int .i64 1))⟩, ⟨some 1, none, .mov (.t 19)⟩])))
  (.ops [⟨some 10, none, .mov (.t 5)⟩, ⟨some 11, none, .ari .add (.t 10) (.c (.int .i64 1))⟩, ⟨some 5, none, .mov (.t 11)⟩]))
/-- loop.example/g00286/laws.heldIntS -/
def c_laws_heldIntS : SCode :=
 .seq (.ops [⟨some 4, none, .mov (.c (.int .i64 0))⟩])
 (.seq (.seq (.ops [⟨some 5, none, .mov (.c (.int .i64 0))⟩])
   (.block 0 (.loop [0, 1, 5] b_laws_heldIntS_0)))
  (.seq (.ops [⟨some 20, none, .mov (.t 1)⟩, ⟨some 4, none, .mov (.t 20)⟩])
   (.ret)))
def s_laws_heldIntS : SFn := ⟨2, 21, c_laws_heldIntS, [.t 4]⟩
def b_laws_heldCoreS_0 : SCode :=
 .seq (.seq (.ops [⟨some 6, none, .mov (.t 5)⟩, ⟨some 7, none, .mov (.t 0)⟩, ⟨some 8, none, .len (.t 7)⟩, ⟨some 9, none, .cmp .lss (.t 6) (.t 8)⟩])
  (.cond (.t 9) (.skip)
   (.seq (.keep [1]) (.exit 0))))
 (.seq (.block 1 (.seq (.seq (.ops [⟨some 12, none, .mov (.t 0)⟩, ⟨some 13, none, .mov (.t 5)⟩, ⟨some 14, none, .ixa 3 (.t 12) (.t 13)⟩, ⟨some 15, none, .faddr 0 (.t 14)⟩, ⟨some 16, none, .load none (.t 15)⟩, ⟨some 17, none, .mov (.t 1)⟩, ⟨some 18, none, .cmp .neq (.t 16) (.t 17)⟩])
     (.cond (.t 18) (.seq (.ops [⟨some 4, none, .mov (.c (.int .i64 (-1)))⟩])
       (.seq (.keep [4]) .ret))
      (.skip)))
    (.seq (.ops [⟨some 19, none, .mov (.t 1)⟩, ⟨some 20, none, .ari .add (.t 19) (.c (.int .i64 1))⟩, ⟨some 1, none, .mov (.t 20)⟩])
     (.seq (.seq (.ops [⟨some 21, none, .mov (.t 0)⟩, ⟨some 22, none, .mov (.t 5)⟩, ⟨some 23, none, .ixa 3 (.t 21) (.t 22)⟩, ⟨some 24, none, .faddr 1 (.t 23)⟩, ⟨some 25, none, .load none (.t 24)⟩, ⟨some 26, none, .mov (.t 1)⟩, ⟨some 27, none, .cmp .neq (.t 25) (.t 26)⟩])
       (.cond (.t 27) (.seq (.ops [⟨some 4, none, .mov (.c (.int .i64 (-1)))⟩])
         (.seq (.keep [4]) .ret))
        (.skip)))
      (.seq (.ops [⟨some 28, none, .mov (.t 1)⟩, ⟨some 29, none, .ari .add (.t 28) (.c (.int .i64 1))⟩, ⟨some 1, none, .mov (.t 29)⟩])
       (.seq (.ops [⟨some 30, none, .mov (.t 0)⟩, ⟨some 31, none, .mov (.t 5)⟩, ⟨some 32, none, .ixa 3 (.t 30) (.t 31)⟩, ⟨some 33, none, .faddr 2 (.t 32)⟩, ⟨some 34, none, .load none (.t 33)⟩, ⟨some 35, none, .mov (.t 1)⟩, ⟨some 36, none, .callr laws_heldIntS [.t 34, .t 35]⟩, ⟨some 1, none, .mov (.t 36)⟩])
        (.seq (.ops [⟨some 37, none, .mov (.t 1)⟩, ⟨some 38, none, .cmp .lss (.t 37) (.c (.int .i64 0))⟩])
         (.cond (.t 38) (.seq (.ops [⟨some 4, none, .mov (.c (.int .i64 (-1)))⟩])
           (.seq (.keep [4]) .ret))
          (.skip)))))))))
  (.ops [⟨some 10, none, .mov (.t 5)⟩, ⟨some 11, none, .ari .add (.t 10) (.c (.int .i64 1))⟩, ⟨some 5, none, .mov (.t 11)⟩]))
/-- loop.example/g00286/laws.heldCoreS -/
def c_laws_heldCoreS : SCode :=
 .seq (.ops [⟨some 4, none, .mov (.c (.int .i64 0))⟩])
 (.seq (.seq (.ops [⟨some 5, none, .mov (.c (.int .i64 0))⟩])
   (.block 0 (.loop [0, 1, 5] b_laws_heldCoreS_0)))
  (.seq (.ops [⟨some 39, none, .mov (.t 1)⟩, ⟨some 4, none, .mov (.t 39)⟩])
   (.ret)))
def s_laws_heldCoreS : SFn := ⟨2, 40, c_laws_heldCoreS, [.t 4]⟩
def b_laws_heldNoteS_0 : SCode :=
 .seq (.seq (.ops [⟨some 6, none, .mov (.t 5)⟩, ⟨some 7, none, .mov (.t 0)⟩, ⟨some 8, none, .len (.t 7)⟩, ⟨some 9, none, .cmp .lss (.t 6) (.t 8)⟩])
  (.cond (.t 9) (.skip)
   (.seq (.keep [1]) (.exit 0))))
 (.seq (.block 1 (.seq (.seq (.ops [⟨some 12, none, .mov (.t 0)⟩, ⟨some 13, none, .mov (.t 5)⟩, ⟨some 14, none, .ixa 2 (.t 12) (.t 13)⟩, ⟨some 15, none, .faddr 0 (.t 14)⟩, ⟨some 16, none, .load none (.t 15)⟩, ⟨some 17, none, .mov (.t 1)⟩, ⟨some 18, none, .cmp .neq (.t 16) (.t 17)⟩])
     (.cond (.t 18) (.seq (.ops [⟨some 4, none, .mov (.c (.int .i64 (-1)))⟩])
       (.seq (.keep [4]) .ret))
      (.skip)))
    (.seq (.ops [⟨some 19, none, .mov (.t 1)⟩, ⟨some 20, none, .ari .add (.t 19) (.c (.int .i64 1))⟩, ⟨some 1, none, .mov (.t 20)⟩])
     (.seq (.seq (.ops [⟨some 21, none, .mov (.t 0)⟩, ⟨some 22, none, .mov (.t 5)⟩, ⟨some 23, none, .ixa 2 (.t 21) (.t 22)⟩, ⟨some 24, none, .faddr 1 (.t 23)⟩, ⟨some 25, none, .load none (.t 24)⟩, ⟨some 26, none, .mov (.t 1)⟩, ⟨some 27, none, .cmp .neq (.t 25) (.t 26)⟩])
       (.cond (.t 27) (.seq (.ops [⟨some 4, none, .mov (.c (.int .i64 (-1)))⟩])
         (.seq (.keep [4]) .ret))
        (.skip)))
      (.ops [⟨some 28, none, .mov (.t 1)⟩, ⟨some 29, none, .ari .add (.t 28) (.c (.int .i64 1))⟩, ⟨some 1, none, .mov (.t 29)⟩])))))
  (.ops [⟨some 10, none, .mov (.t 5)⟩, ⟨some 11, none, .ari .add (.t 10) (.c (.int .i64 1))⟩, ⟨some 5, none, .mov (.t 11)⟩]))
/-- loop.example/g00286/laws.heldNoteS -/
def c_laws_heldNoteS : SCode :=
 .seq (.ops [⟨some 4, none, .mov (.c (.int .i64 0))⟩])
 (.seq (.seq (.ops [⟨some 5, none, .mov (.c (.int .i64 0))⟩])
   (.block 0 (.loop [0, 1, 5] b_laws_heldNoteS_0)))
  (.seq (.ops [⟨some 30, none, .mov (.t 1)⟩, ⟨some 4, none, .mov (.t 30)⟩])
   (.ret)))
def s_laws_heldNoteS : SFn := ⟨2, 31, c_laws_heldNoteS, [.t 4]⟩
/-- loop.example/g00286/spec.l2Has -/
def c_spec_l2Has : SCode :=
 .seq (.ops [⟨some 2, none, .mov (.c (.int .i64 0))⟩])
 (.seq (.seq (.ops [⟨some 3, none, .mov (.t 0)⟩, ⟨some 4, none, .callr spec_l1In [.t 3, .c (.int .i64 1), .c (.int .i64 19)]⟩, ⟨some 5, none, .not (.t 4)⟩])
   (.cond (.t 5) (.seq (.ops [⟨some 2, none, .mov (.c (.int .i64 0))⟩])
     (.ret))
    (.skip)))
  (.seq (.ops [⟨some 6, none, .lit 1 [.c (.int .i64 0), .c (.int .i64 9), .c (.int .i64 3), .c (.int .i64 7), .c (.int .i64 7), .c (.int .i64 7), .c (.int .i64 7), .c (.int .i64 7), .c (.int .i64 11), .c (.int .i64 14), .c (.int .i64 7), .c (.int .i64 8), .c (.int .i64 10), .c (.int .i64 24), .c (.int .i64 0), .c (.int .i64 2), .c (.int .i64 6), .c (.int .i64 6), .c (.int .i64 1), .c (.int .i64 2)]⟩, ⟨some 7, none, .mov (.t 0)⟩, ⟨some 8, none, .ixa 1 (.t 6) (.t 7)⟩, ⟨some 9, none, .load none (.t 8)⟩, ⟨some 2, none, .mov (.t 9)⟩])
   (.ret)))
def s_spec_l2Has : SFn := ⟨1, 10, c_spec_l2Has, [.t 2]⟩
/-- loop.example/g00286/spec.l2Field -/
def c_spec_l2Field : SCode :=
 .seq (.ops [⟨some 6, none, .mov (.c (.bool false))⟩])
 (.seq (.ops [⟨some 7, none, .mov (.t 0)⟩, ⟨some 8, none, .mov (.t 1)⟩, ⟨some 9, none, .callr spec_l1In [.t 7, .c (.int .i64 0), .t 8]⟩, ⟨some 10, none, .mov (.t 9)⟩, ⟨some 11, (some (10, true)), .mov (.t 2)⟩, ⟨some 12, (some (10, true)), .mov (.t 11)⟩, ⟨some 13, (some (12, false)), .mov (.t 0)⟩, ⟨some 14, (some (12, false)), .cmp .eql (.t 13) (.c (.int .i64 0))⟩, ⟨some 15, (some (10, true)), .pick (.t 12) (.c (.bool true)) (.t 14)⟩, ⟨some 16, none, .pick (.t 10) (.t 15) (.c (.bool false))⟩, ⟨some 6, none, .mov (.t 16)⟩])
  (.ret))
def s_spec_l2Field : SFn := ⟨3, 17, c_spec_l2Field, [.t 6]⟩
/-- loop.example/g00286/spec.WordOk -/
def c_spec_WordOk : SCode :=
 .seq (.ops [⟨some 2, none, .mov (.c (.bool false))⟩])
 (.seq (.ops [⟨some 3, none, .mov (.t 0)⟩, ⟨some 4, none, .callr spec_l1In [.t 3, .c (.int .i64 (-2147483648)), .c (.int .i64 2147483647)]⟩, ⟨some 2, none, .mov (.t 4)⟩])
  (.ret))
def s_spec_WordOk : SFn := ⟨1, 5, c_spec_WordOk, [.t 2]⟩
def b_slices_IndexFunc_impl_Ins_impl_Ins_0 : SCode :=
 .seq (.ops [⟨some 9, none, .cmp .lss (.t 8) (.t 7)⟩])
 (.seq (.cond (.t 9) (.skip)
   (.seq (.keep []) (.exit 0)))
  (.seq (.block 1 (.seq (.ops [⟨some 10, none, .mov (.t 8)⟩, ⟨some 5, none, .mov (.t 10)⟩])
     (.seq (.ops [⟨some 11, none, .mov (.t 1)⟩, ⟨some 12, none, .mov (.t 0)⟩, ⟨some 13, none, .mov (.t 5)⟩, ⟨some 14, none, .ixa 6 (.t 12) (.t 13)⟩, ⟨some 15, none, .load (some 6) (.t 14)⟩, ⟨some 16, none, .calli (.t 11) [.t 15]⟩])
      (.cond (.t 16) (.seq (.ops [⟨some 17, none, .mov (.t 5)⟩, ⟨some 4, none, .mov (.t 17)⟩])
        (.seq (.keep [4]) .ret))
       (.skip)))))
   (.ops [⟨some 18, none, .ari .add (.t 8) (.c (.int .i64 1))⟩, ⟨some 8, none, .mov (.t 18)⟩])))
/-- slices.IndexFunc[[]loop.example/g00286/impl.Ins,loop.example/g00286/impl.Ins] -/
def c_slices_IndexFunc_impl_Ins_impl_Ins : SCode :=
 .seq (.ops [⟨some 4, none, .mov (.c (.int .i64 0))⟩])
 (.seq (.seq (.ops [⟨some 6, none, .mov (.t 0)⟩, ⟨some 7, none, .len (.t 6)⟩, ⟨some 8, none, .mov (.c (.int .i64 0))⟩])
   (.block 0 (.loop [0, 1, 7, 8] b_slices_IndexFunc_impl_Ins_impl_Ins_0)))
  (.seq (.ops [⟨some 4, none, .mov (.c (.int .i64 (-1)))⟩])
   (.ret)))
def s_slices_IndexFunc_impl_Ins_impl_Ins : SFn := ⟨2, 19, c_slices_IndexFunc_impl_Ins_impl_Ins, [.t 4]⟩
/-- loop.example/g00286/impl.has -/
def c_impl_has : SCode :=
 .seq (.ops [⟨some 2, none, .mov (.c (.string ⟨#[]⟩))⟩])
 (.seq (.seq (.ops [⟨some 3, none, .mov (.t 0)⟩])
   (.block 0 (.seq (.ops [⟨some 5, none, .cmp .eql (.t 3) (.c (.int .i64 1))⟩, ⟨some 4, none, .mov (.t 5)⟩])
     (.cond (.t 4) (.seq (.ops [⟨some 2, none, .mov (.c (.string ⟨#[82, 78]⟩))⟩])
       (.ret))
      (.seq (.ops [⟨some 7, none, .cmp .eql (.t 3) (.c (.int .i64 2))⟩, ⟨some 6, none, .mov (.t 7)⟩])
       (.cond (.t 6) (.seq (.ops [⟨some 2, none, .mov (.c (.string ⟨#[82, 65]⟩))⟩])
         (.ret))
        (.seq (.seq (.ops [⟨some 9, none, .cmp .eql (.t 3) (.c (.int .i64 3))⟩, ⟨some 8, none, .mov (.t 9)⟩])
          (.cond (.t 8) (.skip)
           (.seq (.ops [⟨some 10, none, .cmp .eql (.t 3) (.c (.int .i64 4))⟩, ⟨some 8, none, .mov (.t 10)⟩])
            (.cond (.t 8) (.skip)
             (.seq (.ops [⟨some 11, none, .cmp .eql (.t 3) (.c (.int .i64 5))⟩, ⟨some 8, none, .mov (.t 11)⟩])
              (.cond (.t 8) (.skip)
               (.seq (.ops [⟨some 12, none, .cmp .eql (.t 3) (.c (.int .i64 6))⟩, ⟨some 8, none, .mov (.t 12)⟩])
                (.cond (.t 8) (.skip)
                 (.seq (.ops [⟨some 13, none, .cmp .eql (.t 3) (.c (.int .i64 7))⟩, ⟨some 8, none, .mov (.t 13)⟩])
                  (.cond (.t 8) (.skip)
                   (.ops [⟨some 14, none, .cmp .eql (.t 3) (.c (.int .i64 10))⟩, ⟨some 8, none, .mov (.t 14)⟩])))))))))))
         (.cond (.t 8) (.seq (.ops [⟨some 2, none, .mov (.c (.string ⟨#[82, 65, 66]⟩))⟩])
           (.ret))
          (.seq (.ops [⟨some 16, none, .cmp .eql (.t 3) (.c (.int .i64 8))⟩, ⟨some 15, none, .mov (.t 16)⟩])
           (.cond (.t 15) (.seq (.ops [⟨some 2, none, .mov (.c (.string ⟨#[82, 65, 78]⟩))⟩])
             (.ret))
            (.seq (.ops [⟨some 18, none, .cmp .eql (.t 3) (.c (.int .i64 9))⟩, ⟨some 17, none, .mov (.t 18)⟩])
             (.cond (.t 17) (.seq (.ops [⟨some 2, none, .mov (.c (.string ⟨#[65, 66, 78]⟩))⟩])
               (.ret))
              (.seq (.ops [⟨some 20, none, .cmp .eql (.t 3) (.c (.int .i64 11))⟩, ⟨some 19, none, .mov (.t 20)⟩])
               (.cond (.t 19) (.seq (.ops [⟨some 2, none, .mov (.c (.string ⟨#[78]⟩))⟩])
                 (.ret))
                (.seq (.ops [⟨some 22, none, .cmp .eql (.t 3) (.c (.int .i64 12))⟩, ⟨some 21, none, .mov (.t 22)⟩])
                 (.cond (.t 21) (.seq (.ops [⟨some 2, none, .mov (.c (.string ⟨#[65, 78]⟩))⟩])
                   (.ret))
                  (.seq (.ops [⟨some 24, none, .cmp .eql (.t 3) (.c (.int .i64 13))⟩, ⟨some 23, none, .mov (.t 24)⟩])
                   (.cond (.t 23) (.seq (.ops [⟨some 2, none, .mov (.c (.string ⟨#[78, 77]⟩))⟩])
                     (.ret))
                    (.seq (.ops [⟨some 26, none, .cmp .eql (.t 3) (.c (.int .i64 14))⟩, ⟨some 25, none, .mov (.t 26)⟩])
                     (.cond (.t 25) (.seq (.ops [⟨some 2, none, .mov (.c (.string ⟨#[45]⟩))⟩])
                       (.ret))
                      (.seq (.seq (.ops [⟨some 28, none, .cmp .eql (.t 3) (.c (.int .i64 15))⟩, ⟨some 27, none, .mov (.t 28)⟩])
                        (.cond (.t 27) (.skip)
                         (.ops [⟨some 29, none, .cmp .eql (.t 3) (.c (.int .i64 19))⟩, ⟨some 27, none, .mov (.t 29)⟩])))
                       (.cond (.t 27) (.seq (.ops [⟨some 2, none, .mov (.c (.string ⟨#[65]⟩))⟩])
                         (.ret))
                        (.seq (.seq (.ops [⟨some 31, none, .cmp .eql (.t 3) (.c (.int .i64 16))⟩, ⟨some 30, none, .mov (.t 31)⟩])
                          (.cond (.t 30) (.skip)
                           (.ops [⟨some 32, none, .cmp .eql (.t 3) (.c (.int .i64 17))⟩, ⟨some 30, none, .mov (.t 32)⟩])))
                         (.cond (.t 30) (.seq (.ops [⟨some 2, none, .mov (.c (.string ⟨#[65, 66]⟩))⟩])
                           (.ret))
                          (.seq (.ops [⟨some 34, none, .cmp .eql (.t 3) (.c (.int .i64 18))⟩, ⟨some 33, none, .mov (.t 34)⟩])
                           (.cond (.t 33) (.seq (.ops [⟨some 2, none, .mov (.c (.string ⟨#[82]⟩))⟩])
                             (.ret))
                            (.skip)))))))))))))))))))))))))))
  (.seq (.ops [⟨some 2, none, .mov (.c (.string ⟨#[]⟩))⟩])
   (.ret)))
def s_impl_has : SFn := ⟨1, 35, c_impl_has, [.t 2]⟩
/-- loop.example/g00286/impl.isReg -/
def c_impl_isReg : SCode :=
 .seq (.ops [⟨some 2, none, .mov (.c (.bool false))⟩])
 (.seq (.ops [⟨some 3, none, .mov (.t 0)⟩, ⟨some 4, none, .callr impl_within [.t 3, .c (.int .i64 0), .c (.int .i64 5)]⟩, ⟨some 2, none, .mov (.t 4)⟩])
  (.ret))
def s_impl_isReg : SFn := ⟨1, 5, c_impl_isReg, [.t 2]⟩
/-- loop.example/g00286/impl.WordOk -/
def c_impl_WordOk : SCode :=
 .seq (.ops [⟨some 2, none, .mov (.c (.bool false))⟩])
 (.seq (.ops [⟨some 3, none, .mov (.t 0)⟩, ⟨some 4, none, .callr impl_within [.t 3, .c (.int .i64 (-2147483648)), .c (.int .i64 2147483647)]⟩, ⟨some 2, none, .mov (.t 4)⟩])
  (.ret))
def s_impl_WordOk : SFn := ⟨1, 5, c_impl_WordOk, [.t 2]⟩
def b_spec_l3Words_0 : SCode :=
 .seq (.seq (.ops [⟨some 4, none, .mov (.t 3)⟩, ⟨some 5, none, .mov (.t 0)⟩, ⟨some 6, none, .len (.t 5)⟩, ⟨some 7, none, .cmp .lss (.t 4) (.t 6)⟩])
  (.cond (.t 7) (.skip)
   (.seq (.keep []) (.exit 0))))
 (.seq (.block 1 (.seq (.ops [⟨some 10, none, .mov (.t 0)⟩, ⟨some 11, none, .mov (.t 3)⟩, ⟨some 12, none, .ixa 1 (.t 10) (.t 11)⟩, ⟨some 13, none, .load none (.t 12)⟩, ⟨some 14, none, .callr spec_WordOk [.t 13]⟩, ⟨some 15, none, .not (.t 14)⟩])
    (.cond (.t 15) (.seq (.ops [⟨some 2, none, .mov (.c (.bool false))⟩])
      (.seq (.keep [2]) .ret))
     (.skip))))
  (.ops [⟨some 8, none, .mov (.t 3)⟩, ⟨some 9, none, .ari .add (.t 8) (.c (.int .i64 1))⟩, ⟨some 3, none, .mov (.t 9)⟩]))
/-- loop.example/g00286/spec.l3Words -/
def c_spec_l3Words : SCode :=
 .seq (.ops [⟨some 2, none, .mov (.c (.bool false))⟩])
 (.seq (.seq (.ops [⟨some 3, none, .mov (.c (.int .i64 0))⟩])
   (.block 0 (.loop [0, 3] b_spec_l3Words_0)))
  (.seq (.ops [⟨some 2, none, .mov (.c (.bool true))⟩])
   (.ret)))
def s_spec_l3Words : SFn := ⟨1, 16, c_spec_l3Words, [.t 2]⟩
/-- loop.example/g00286/spec.CoreOk -/
def c_spec_CoreOk : SCode :=
 .seq (.ops [⟨some 1, none, .vbox 3 (.t 0)⟩, ⟨some 2, none, .mov (.c (.bool false))⟩])
 (.seq (.ops [⟨some 3, none, .faddr 0 (.t 1)⟩, ⟨some 4, none, .load none (.t 3)⟩, ⟨some 5, none, .callr spec_WordOk [.t 4]⟩, ⟨some 6, none, .mov (.t 5)⟩, ⟨some 7, (some (6, true)), .faddr 1 (.t 1)⟩, ⟨some 8, (some (6, true)), .load none (.t 7)⟩, ⟨some 9, (some (6, true)), .callr spec_WordOk [.t 8]⟩, ⟨some 10, none, .pick (.t 6) (.t 9) (.c (.bool false))⟩, ⟨some 11, none, .mov (.t 10)⟩, ⟨some 12, (some (11, true)), .faddr 2 (.t 1)⟩, ⟨some 13, (some (11, true)), .load none (.t 12)⟩, ⟨some 14, (some (11, true)), .len (.t 13)⟩, ⟨some 15, (some (11, true)), .cmp .eql (.t 14) (.c (.int .i64 6))⟩, ⟨some 16, none, .pick (.t 11) (.t 15) (.c (.bool false))⟩, ⟨some 17, none, .mov (.t 16)⟩, ⟨some 18, (some (17, true)), .faddr 2 (.t 1)⟩, ⟨some 19, (some (17, true)), .load none (.t 18)⟩, ⟨some 20, (some (17, true)), .callr spec_l3Words [.t 19]⟩, ⟨some 21, none, .pick (.t 17) (.t 20) (.c (.bool false))⟩, ⟨some 2, none, .mov (.t 21)⟩])
  (.ret))
def s_spec_CoreOk : SFn := ⟨1, 22, c_spec_CoreOk, [.t 2]⟩
/-- loop.example/g00286/impl.MachineOk$1 -/
def c_impl_MachineOk_1 : SCode :=
 .seq (.ops [⟨some 1, none, .vbox 6 (.t 0)⟩, ⟨some 2, none, .mov (.c (.bool false))⟩])
 (.seq (.ops [⟨some 3, none, .load (some 6) (.t 1)⟩, ⟨some 4, none, .callr impl_InsOk [.t 3]⟩, ⟨some 5, none, .not (.t 4)⟩, ⟨some 2, none, .mov (.t 5)⟩])
  (.ret))
def s_impl_MachineOk_1 : SFn := ⟨1, 6, c_impl_MachineOk_1, [.t 2]⟩
/-- slices.ContainsFunc[[]loop.example/g00286/impl.Core,loop.example/g00286/impl.Core] -/
def c_slices_ContainsFunc_impl_Core_impl_Core : SCode :=
 .seq (.ops [⟨some 4, none, .mov (.c (.bool false))⟩])
 (.seq (.ops [⟨some 5, none, .mov (.t 0)⟩, ⟨some 6, none, .mov (.t 1)⟩, ⟨some 7, none, .calli (.f slices_IndexFunc_impl_Core_impl_Core) [.t 5, .t 6]⟩, ⟨some 8, none, .cmp .geq (.t 7) (.c (.int .i64 0))⟩, ⟨some 4, none, .mov (.t 8)⟩])
  (.ret))
def s_slices_ContainsFunc_impl_Core_impl_Core : SFn := ⟨2, 9, c_slices_ContainsFunc_impl_Core_impl_Core, [.t 4]⟩
/-- loop.example/g00286/impl.MachineOk$2 -/
def c_impl_MachineOk_2 : SCode :=
 .seq (.ops [⟨some 1, none, .vbox 3 (.t 0)⟩, ⟨some 2, none, .mov (.c (.bool false))⟩])
 (.seq (.ops [⟨some 3, none, .load (some 3) (.t 1)⟩, ⟨some 4, none, .callr impl_CoreOk [.t 3]⟩, ⟨some 5, none, .not (.t 4)⟩, ⟨some 2, none, .mov (.t 5)⟩])
  (.ret))
def s_impl_MachineOk_2 : SFn := ⟨1, 6, c_impl_MachineOk_2, [.t 2]⟩
/-- loop.example/g00286/impl.CoreOk -/
def c_impl_CoreOk : SCode :=
 .seq (.ops [⟨some 1, none, .vbox 3 (.t 0)⟩, ⟨some 2, none, .mov (.c (.bool false))⟩])
 (.seq (.ops [⟨some 3, none, .faddr 0 (.t 1)⟩, ⟨some 4, none, .load none (.t 3)⟩, ⟨some 5, none, .callr impl_WordOk [.t 4]⟩, ⟨some 6, none, .mov (.t 5)⟩, ⟨some 7, (some (6, true)), .faddr 1 (.t 1)⟩, ⟨some 8, (some (6, true)), .load none (.t 7)⟩, ⟨some 9, (some (6, true)), .callr impl_WordOk [.t 8]⟩, ⟨some 10, none, .pick (.t 6) (.t 9) (.c (.bool false))⟩, ⟨some 11, none, .mov (.t 10)⟩, ⟨some 12, (some (11, true)), .faddr 2 (.t 1)⟩, ⟨some 13, (some (11, true)), .load none (.t 12)⟩, ⟨some 14, (some (11, true)), .len (.t 13)⟩, ⟨some 15, (some (11, true)), .cmp .eql (.t 14) (.c (.int .i64 6))⟩, ⟨some 16, none, .pick (.t 11) (.t 15) (.c (.bool false))⟩, ⟨some 17, none, .mov (.t 16)⟩, ⟨some 18, (some (17, true)), .faddr 2 (.t 1)⟩, ⟨some 19, (some (17, true)), .load none (.t 18)⟩, ⟨some 20, (some (17, true)), .calli (.f slices_ContainsFunc_int_int) [.t 19, .f impl_CoreOk_1]⟩, ⟨some 21, (some (17, true)), .not (.t 20)⟩, ⟨some 22, none, .pick (.t 17) (.t 21) (.c (.bool false))⟩, ⟨some 2, none, .mov (.t 22)⟩])
  (.ret))
def s_impl_CoreOk : SFn := ⟨1, 23, c_impl_CoreOk, [.t 2]⟩
/-- loop.example/g00286/impl.wordsOk -/
def c_impl_wordsOk : SCode :=
 .seq (.ops [⟨some 4, none, .mov (.c (.bool false))⟩])
 (.seq (.ops [⟨some 5, none, .mov (.t 0)⟩, ⟨some 6, none, .len (.t 5)⟩, ⟨some 7, none, .mov (.t 1)⟩, ⟨some 8, none, .cmp .leq (.t 6) (.t 7)⟩, ⟨some 9, none, .mov (.t 8)⟩, ⟨some 10, (some (9, true)), .mov (.t 0)⟩, ⟨some 11, (some (9, true)), .calli (.f slices_ContainsFunc_int_int) [.t 10, .f impl_wordsOk_1]⟩, ⟨some 12, (some (9, true)), .not (.t 11)⟩, ⟨some 13, none, .pick (.t 9) (.t 12) (.c (.bool false))⟩, ⟨some 4, none, .mov (.t 13)⟩])
  (.ret))
def s_impl_wordsOk : SFn := ⟨2, 14, c_impl_wordsOk, [.t 4]⟩
/-- slices.ContainsFunc[[]loop.example/g00286/impl.Note,loop.example/g00286/impl.Note] -/
def c_slices_ContainsFunc_impl_Note_impl_Note : SCode :=
 .seq (.ops [⟨some 4, none, .mov (.c (.bool false))⟩])
 (.seq (.ops [⟨some 5, none, .mov (.t 0)⟩, ⟨some 6, none, .mov (.t 1)⟩, ⟨some 7, none, .calli (.f slices_IndexFunc_impl_Note_impl_Note) [.t 5, .t 6]⟩, ⟨some 8, none, .cmp .geq (.t 7) (.c (.int .i64 0))⟩, ⟨some 4, none, .mov (.t 8)⟩])
  (.ret))
def s_slices_ContainsFunc_impl_Note_impl_Note : SFn := ⟨2, 9, c_slices_ContainsFunc_impl_Note_impl_Note, [.t 4]⟩
/-- loop.example/g00286/impl.MachineOk$3 -/
def c_impl_MachineOk_3 : SCode :=
 .seq (.ops [⟨some 1, none, .vbox 2 (.t 0)⟩, ⟨some 2, none, .mov (.c (.bool false))⟩])
 (.seq (.ops [⟨some 3, none, .faddr 0 (.t 1)⟩, ⟨some 4, none, .load none (.t 3)⟩, ⟨some 5, none, .callr impl_WordOk [.t 4]⟩, ⟨some 6, none, .not (.t 5)⟩, ⟨some 7, none, .mov (.t 6)⟩, ⟨some 8, (some (7, false)), .faddr 1 (.t 1)⟩, ⟨some 9, (some (7, false)), .load none (.t 8)⟩, ⟨some 10, (some (7, false)), .callr impl_WordOk [.t 9]⟩, ⟨some 11, (some (7, false)), .not (.t 10)⟩, ⟨some 12, none, .pick (.t 7) (.c (.bool true)) (.t 11)⟩, ⟨some 2, none, .mov (.t 12)⟩])
  (.ret))
def s_impl_MachineOk_3 : SFn := ⟨1, 13, c_impl_MachineOk_3, [.t 2]⟩
/-- loop.example/g00286/laws.eqCore -/
def c_laws_eqCore : SCode :=
 .seq (.ops [⟨some 2, none, .vbox 3 (.t 0)⟩, ⟨some 3, none, .vbox 3 (.t 1)⟩, ⟨some 4, none, .mov (.c (.bool false))⟩])
 (.seq (.seq (.ops [⟨some 5, none, .faddr 0 (.t 2)⟩, ⟨some 6, none, .load none (.t 5)⟩, ⟨some 7, none, .faddr 0 (.t 3)⟩, ⟨some 8, none, .load none (.t 7)⟩, ⟨some 9, none, .cmp .neq (.t 6) (.t 8)⟩])
   (.cond (.t 9) (.seq (.ops [⟨some 4, none, .mov (.c (.bool false))⟩])
     (.ret))
    (.skip)))
  (.seq (.seq (.ops [⟨some 10, none, .faddr 1 (.t 2)⟩, ⟨some 11, none, .load none (.t 10)⟩, ⟨some 12, none, .faddr 1 (.t 3)⟩, ⟨some 13, none, .load none (.t 12)⟩, ⟨some 14, none, .cmp .neq (.t 11) (.t 13)⟩])
    (.cond (.t 14) (.seq (.ops [⟨some 4, none, .mov (.c (.bool false))⟩])
      (.ret))
     (.skip)))
   (.seq (.seq (.ops [⟨some 15, none, .faddr 2 (.t 2)⟩, ⟨some 16, none, .load none (.t 15)⟩, ⟨some 17, none, .faddr 2 (.t 3)⟩, ⟨some 18, none, .load none (.t 17)⟩, ⟨some 19, none, .callr laws_eqIntS [.t 16, .t 18]⟩, ⟨some 20, none, .not (.t 19)⟩])
     (.cond (.t 20) (.seq (.ops [⟨some 4, none, .mov (.c (.bool false))⟩])
       (.ret))
      (.skip)))
    (.seq (.ops [⟨some 4, none, .mov (.c (.bool true))⟩])
     (.ret)))))
def s_laws_eqCore : SFn := ⟨2, 21, c_laws_eqCore, [.t 4]⟩
/-- loop.example/g00286/laws.eqNote -/
def c_laws_eqNote : SCode :=
 .seq (.ops [⟨some 2, none, .vbox 2 (.t 0)⟩, ⟨some 3, none, .vbox 2 (.t 1)⟩, ⟨some 4, none, .mov (.c (.bool false))⟩])
 (.seq (.seq (.ops [⟨some 5, none, .faddr 0 (.t 2)⟩, ⟨some 6, none, .load none (.t 5)⟩, ⟨some 7, none, .faddr 0 (.t 3)⟩, ⟨some 8, none, .load none (.t 7)⟩, ⟨some 9, none, .cmp .neq (.t 6) (.t 8)⟩])
   (.cond (.t 9) (.seq (.ops [⟨some 4, none, .mov (.c (.bool false))⟩])
     (.ret))
    (.skip)))
  (.seq (.seq (.ops [⟨some 10, none, .faddr 1 (.t 2)⟩, ⟨some 11, none, .load none (.t 10)⟩, ⟨some 12, none, .faddr 1 (.t 3)⟩, ⟨some 13, none, .load none (.t 12)⟩, ⟨some 14, none, .cmp .neq (.t 11) (.t 13)⟩])
    (.cond (.t 14) (.seq (.ops [⟨some 4, none, .mov (.c (.bool false))⟩])
      (.ret))
     (.skip)))
   (.seq (.ops [⟨some 4, none, .mov (.c (.bool true))⟩])
    (.ret))))
def s_laws_eqNote : SFn := ⟨2, 15, c_laws_eqNote, [.t 4]⟩
def b_slices_IndexFunc_impl_Core_impl_Core_0 : SCode :=
 .seq (.ops [⟨some 9, none, .cmp .lss (.t 8) (.t 7)⟩])
 (.seq (.cond (.t 9) (.skip)
   (.seq (.keep []) (.exit 0)))
  (.seq (.block 1 (.seq (.ops [⟨some 10, none, .mov (.t 8)⟩, ⟨some 5, none, .mov (.t 10)⟩])
     (.seq (.ops [⟨some 11, none, .mov (.t 1)⟩, ⟨some 12, none, .mov (.t 0)⟩, ⟨some 13, none, .mov (.t 5)⟩, ⟨some 14, none, .ixa 3 (.t 12) (.t 13)⟩, ⟨some 15, none, .load (some 3) (.t 14)⟩, ⟨some 16, none, .calli (.t 11) [.t 15]⟩])
      (.cond (.t 16) (.seq (.ops [⟨some 17, none, .mov (.t 5)⟩, ⟨some 4, none, .mov (.t 17)⟩])
        (.seq (.keep [4]) .ret))
       (.skip)))))
   (.ops [⟨some 18, none, .ari .add (.t 8) (.c (.int .i64 1))⟩, ⟨some 8, none, .mov (.t 18)⟩])))
/-- slices.IndexFunc[[]loop.example/g00286/impl.Core,loop.example/g00286/impl.Core] -/
def c_slices_IndexFunc_impl_Core_impl_Core : SCode :=
 .seq (.ops [⟨some 4, none, .mov (.c (.int .i64 0))⟩])
 (.seq (.seq (.ops [⟨some 6, none, .mov (.t 0)⟩, ⟨some 7, none, .len (.t 6)⟩, ⟨some 8, none, .mov (.c (.int .i64 0))⟩])
   (.block 0 (.loop [0, 1, 7, 8] b_slices_IndexFunc_impl_Core_impl_Core_0)))
  (.seq (.ops [⟨some 4, none, .mov (.c (.int .i64 (-1)))⟩])
   (.ret)))
def s_slices_IndexFunc_impl_Core_impl_Core : SFn := ⟨2, 19, c_slices_IndexFunc_impl_Core_impl_Core, [.t 4]⟩
/-- slices.ContainsFunc[[]int,int] -/
def c_slices_ContainsFunc_int_int : SCode :=
 .seq (.ops [⟨some 4, none, .mov (.c (.bool false))⟩])
 (.seq (.ops [⟨some 5, none, .mov (.t 0)⟩, ⟨some 6, none, .mov (.t 1)⟩, ⟨some 7, none, .calli (.f slices_IndexFunc_int_int) [.t 5, .t 6]⟩, ⟨some 8, none, .cmp .geq (.t 7) (.c (.int .i64 0))⟩, ⟨some 4, none, .mov (.t 8)⟩])
  (.ret))
def s_slices_ContainsFunc_int_int : SFn := ⟨2, 9, c_slices_ContainsFunc_int_int, [.t 4]⟩
/-- loop.example/g00286/impl.CoreOk$1 -/
def c_impl_CoreOk_1 : SCode :=
 .seq (.ops [⟨some 2, none, .mov (.c (.bool false))⟩])
 (.seq (.ops [⟨some 3, none, .mov (.t 0)⟩, ⟨some 4, none, .callr impl_WordOk [.t 3]⟩, ⟨some 5, none, .not (.t 4)⟩, ⟨some 2, none, .mov (.t 5)⟩])
  (.ret))
def s_impl_CoreOk_1 : SFn := ⟨1, 6, c_impl_CoreOk_1, [.t 2]⟩
/-- loop.example/g00286/impl.wordsOk$1 -/
def c_impl_wordsOk_1 : SCode :=
 .seq (.ops [⟨some 2, none, .mov (.c (.bool false))⟩])
 (.seq (.ops [⟨some 3, none, .mov (.t 0)⟩, ⟨some 4, none, .callr impl_WordOk [.t 3]⟩, ⟨some 5, none, .not (.t 4)⟩, ⟨some 2, none, .mov (.t 5)⟩])
  (.ret))
def s_impl_wordsOk_1 : SFn := ⟨1, 6, c_impl_wordsOk_1, [.t 2]⟩
def b_slices_IndexFunc_impl_Note_impl_Note_0 : SCode :=
 .seq (.ops [⟨some 9, none, .cmp .lss (.t 8) (.t 7)⟩])
 (.seq (.cond (.t 9) (.skip)
   (.seq (.keep []) (.exit 0)))
  (.seq (.block 1 (.seq (.ops [⟨some 10, none, .mov (.t 8)⟩, ⟨some 5, none, .mov (.t 10)⟩])
     (.seq (.ops [⟨some 11, none, .mov (.t 1)⟩, ⟨some 12, none, .mov (.t 0)⟩, ⟨some 13, none, .mov (.t 5)⟩, ⟨some 14, none, .ixa 2 (.t 12) (.t 13)⟩, ⟨some 15, none, .load (some 2) (.t 14)⟩, ⟨some 16, none, .calli (.t 11) [.t 15]⟩])
      (.cond (.t 16) (.seq (.ops [⟨some 17, none, .mov (.t 5)⟩, ⟨some 4, none, .mov (.t 17)⟩])
        (.seq (.keep [4]) .ret))
       (.skip)))))
   (.ops [⟨some 18, none, .ari .add (.t 8) (.c (.int .i64 1))⟩, ⟨some 8, none, .mov (.t 18)⟩])))
/-- slices.IndexFunc[[]loop.example/g00286/impl.Note,loop.example/g00286/impl.Note] -/
def c_slices_IndexFunc_impl_Note_impl_Note : SCode :=
 .seq (.ops [⟨some 4, none, .mov (.c (.int .i64 0))⟩])
 (.seq (.seq (.ops [⟨some 6, none, .mov (.t 0)⟩, ⟨some 7, none, .len (.t 6)⟩, ⟨some 8, none, .mov (.c (.int .i64 0))⟩])
   (.block 0 (.loop [0, 1, 7, 8] b_slices_IndexFunc_impl_Note_impl_Note_0)))
  (.seq (.ops [⟨some 4, none, .mov (.c (.int .i64 (-1)))⟩])
   (.ret)))
def s_slices_IndexFunc_impl_Note_impl_Note : SFn := ⟨2, 19, c_slices_IndexFunc_impl_Note_impl_Note, [.t 4]⟩
def b_slices_IndexFunc_int_int_0 : SCode :=
 .seq (.ops [⟨some 9, none, .cmp .lss (.t 8) (.t 7)⟩])
 (.seq (.cond (.t 9) (.skip)
   (.seq (.keep []) (.exit 0)))
  (.seq (.block 1 (.seq (.ops [⟨some 10, none, .mov (.t 8)⟩, ⟨some 5, none, .mov (.t 10)⟩])
     (.seq (.ops [⟨some 11, none, .mov (.t 1)⟩, ⟨some 12, none, .mov (.t 0)⟩, ⟨some 13, none, .mov (.t 5)⟩, ⟨some 14, none, .ixa 1 (.t 12) (.t 13)⟩, ⟨some 15, none, .load none (.t 14)⟩, ⟨some 16, none, .calli (.t 11) [.t 15]⟩])
      (.cond (.t 16) (.seq (.ops [⟨some 17, none, .mov (.t 5)⟩, ⟨some 4, none, .mov (.t 17)⟩])
        (.seq (.keep [4]) .ret))
       (.skip)))))
   (.ops [⟨some 18, none, .ari .add (.t 8) (.c (.int .i64 1))⟩, ⟨some 8, none, .mov (.t 18)⟩])))
/-- slices.IndexFunc[[]int,int] -/
def c_slices_IndexFunc_int_int : SCode :=
 .seq (.ops [⟨some 4, none, .mov (.c (.int .i64 0))⟩])
 (.seq (.seq (.ops [⟨some 6, none, .mov (.t 0)⟩, ⟨some 7, none, .len (.t 6)⟩, ⟨some 8, none, .mov (.c (.int .i64 0))⟩])
   (.block 0 (.loop [0, 1, 7, 8] b_slices_IndexFunc_int_int_0)))
  (.seq (.ops [⟨some 4, none, .mov (.c (.int .i64 (-1)))⟩])
   (.ret)))
def s_slices_IndexFunc_int_int : SFn := ⟨2, 19, c_slices_IndexFunc_int_int, [.t 4]⟩
def tabL0 : List (Nat × SFn) := [(5, s_laws_FnExactBoot), (13, s_laws_eqInsS), (16, s_laws_markInsS), (17, s_laws_heldInsS), (22, s_laws_eqMachine), (23, s_laws_szInsS), (24, s_spec_Boot), (25, s_laws_toInsS), (26, s_impl_Boot), (27, s_laws_markMachine), (28, s_laws_heldMachine), (49, s_spec_InsOk), (52, s_slices_ContainsFunc_impl_Ins_impl_Ins), (54, s_impl_InsOk), (55, s_laws_eqIns), (61, s_spec_MachineOk), (67, s_impl_MachineOk), (70, s_laws_eqIntS), (71, s_laws_eqCoreS), (72, s_laws_eqNoteS), (73, s_spec_l1In), (74, s_laws_toIns), (75, s_impl_within), (76, s_laws_markIntS), (77, s_laws_markCoreS), (78, s_laws_markNoteS), (79, s_laws_heldIntS), (80, s_laws_heldCoreS), (81, s_laws_heldNoteS), (120, s_spec_l2Has), (121, s_spec_l2Field), (122, s_spec_WordOk), (123, s_slices_IndexFunc_impl_Ins_impl_Ins), (124, s_impl_has), (125, s_impl_isReg), (126, s_impl_WordOk), (128, s_spec_l3Words), (129, s_spec_CoreOk), (132, s_impl_MachineOk_1), (133, s_slices_ContainsFunc_impl_Core_impl_Core)]
def tabL1 : List (Nat × SFn) := [(134, s_impl_MachineOk_2), (135, s_impl_CoreOk), (136, s_impl_wordsOk), (137, s_slices_ContainsFunc_impl_Note_impl_Note), (138, s_impl_MachineOk_3), (139, s_laws_eqCore), (140, s_laws_eqNote), (183, s_slices_IndexFunc_impl_Core_impl_Core), (184, s_slices_ContainsFunc_int_int), (185, s_impl_CoreOk_1), (186, s_impl_wordsOk_1), (187, s_slices_IndexFunc_impl_Note_impl_Note), (229, s_slices_IndexFunc_int_int)]
def tabL : List (Nat × SFn) := tabL0 ++ tabL1
def tab (f : Nat) : Option SFn := (tabL.find? fun p => p.1 == f).map fun p => p.2
theorem t_laws_FnExactBoot : tab laws_FnExactBoot = some s_laws_FnExactBoot := rfl
theorem t_laws_eqInsS : tab laws_eqInsS = some s_laws_eqInsS := rfl
theorem t_laws_markInsS : tab laws_markInsS = some s_laws_markInsS := rfl
theorem t_laws_heldInsS : tab laws_heldInsS = some s_laws_heldInsS := rfl
theorem t_laws_eqMachine : tab laws_eqMachine = some s_laws_eqMachine := rfl
theorem t_laws_szInsS : tab laws_szInsS = some s_laws_szInsS := rfl
theorem t_spec_Boot : tab spec_Boot = some s_spec_Boot := rfl
theorem t_laws_toInsS : tab laws_toInsS = some s_laws_toInsS := rfl
theorem t_impl_Boot : tab impl_Boot = some s_impl_Boot := rfl
theorem t_laws_markMachine : tab laws_markMachine = some s_laws_markMachine := rfl
theorem t_laws_heldMachine : tab laws_heldMachine = some s_laws_heldMachine := rfl
theorem t_spec_InsOk : tab spec_InsOk = some s_spec_InsOk := rfl
theorem t_slices_ContainsFunc_impl_Ins_impl_Ins : tab slices_ContainsFunc_impl_Ins_impl_Ins = some s_slices_ContainsFunc_impl_Ins_impl_Ins := rfl
theorem t_impl_InsOk : tab impl_InsOk = some s_impl_InsOk := rfl
theorem t_laws_eqIns : tab laws_eqIns = some s_laws_eqIns := rfl
theorem t_spec_MachineOk : tab spec_MachineOk = some s_spec_MachineOk := rfl
theorem t_impl_MachineOk : tab impl_MachineOk = some s_impl_MachineOk := rfl
theorem t_laws_eqIntS : tab laws_eqIntS = some s_laws_eqIntS := rfl
theorem t_laws_eqCoreS : tab laws_eqCoreS = some s_laws_eqCoreS := rfl
theorem t_laws_eqNoteS : tab laws_eqNoteS = some s_laws_eqNoteS := rfl
theorem t_spec_l1In : tab spec_l1In = some s_spec_l1In := rfl
theorem t_laws_toIns : tab laws_toIns = some s_laws_toIns := rfl
theorem t_impl_within : tab impl_within = some s_impl_within := rfl
theorem t_laws_markIntS : tab laws_markIntS = some s_laws_markIntS := rfl
theorem t_laws_markCoreS : tab laws_markCoreS = some s_laws_markCoreS := rfl
theorem t_laws_markNoteS : tab laws_markNoteS = some s_laws_markNoteS := rfl
theorem t_laws_heldIntS : tab laws_heldIntS = some s_laws_heldIntS := rfl
theorem t_laws_heldCoreS : tab laws_heldCoreS = some s_laws_heldCoreS := rfl
theorem t_laws_heldNoteS : tab laws_heldNoteS = some s_laws_heldNoteS := rfl
theorem t_spec_l2Has : tab spec_l2Has = some s_spec_l2Has := rfl
theorem t_spec_l2Field : tab spec_l2Field = some s_spec_l2Field := rfl
theorem t_spec_WordOk : tab spec_WordOk = some s_spec_WordOk := rfl
theorem t_slices_IndexFunc_impl_Ins_impl_Ins : tab slices_IndexFunc_impl_Ins_impl_Ins = some s_slices_IndexFunc_impl_Ins_impl_Ins := rfl
theorem t_impl_has : tab impl_has = some s_impl_has := rfl
theorem t_impl_isReg : tab impl_isReg = some s_impl_isReg := rfl
theorem t_impl_WordOk : tab impl_WordOk = some s_impl_WordOk := rfl
theorem t_spec_l3Words : tab spec_l3Words = some s_spec_l3Words := rfl
theorem t_spec_CoreOk : tab spec_CoreOk = some s_spec_CoreOk := rfl
theorem t_impl_MachineOk_1 : tab impl_MachineOk_1 = some s_impl_MachineOk_1 := rfl
theorem t_slices_ContainsFunc_impl_Core_impl_Core : tab slices_ContainsFunc_impl_Core_impl_Core = some s_slices_ContainsFunc_impl_Core_impl_Core := rfl
theorem t_impl_MachineOk_2 : tab impl_MachineOk_2 = some s_impl_MachineOk_2 := rfl
theorem t_impl_CoreOk : tab impl_CoreOk = some s_impl_CoreOk := rfl
theorem t_impl_wordsOk : tab impl_wordsOk = some s_impl_wordsOk := rfl
theorem t_slices_ContainsFunc_impl_Note_impl_Note : tab slices_ContainsFunc_impl_Note_impl_Note = some s_slices_ContainsFunc_impl_Note_impl_Note := rfl
theorem t_impl_MachineOk_3 : tab impl_MachineOk_3 = some s_impl_MachineOk_3 := rfl
theorem t_laws_eqCore : tab laws_eqCore = some s_laws_eqCore := rfl
theorem t_laws_eqNote : tab laws_eqNote = some s_laws_eqNote := rfl
theorem t_slices_IndexFunc_impl_Core_impl_Core : tab slices_IndexFunc_impl_Core_impl_Core = some s_slices_IndexFunc_impl_Core_impl_Core := rfl
theorem t_slices_ContainsFunc_int_int : tab slices_ContainsFunc_int_int = some s_slices_ContainsFunc_int_int := rfl
theorem t_impl_CoreOk_1 : tab impl_CoreOk_1 = some s_impl_CoreOk_1 := rfl
theorem t_impl_wordsOk_1 : tab impl_wordsOk_1 = some s_impl_wordsOk_1 := rfl
theorem t_slices_IndexFunc_impl_Note_impl_Note : tab slices_IndexFunc_impl_Note_impl_Note = some s_slices_IndexFunc_impl_Note_impl_Note := rfl
theorem t_slices_IndexFunc_int_int : tab slices_IndexFunc_int_int = some s_slices_IndexFunc_int_int := rfl
end Go.Ev.G
