/- The slim code of the functions that the statements of this cut reach: written by gen.py. Not trusted: YtcoigakalblkgaaEvChk.lean checks it against the given program. -/
import Derived.Test.YtcoigakalblkgaaEvRow
namespace Go.Ev.G
set_option linter.all false
abbrev laws_FnExactLink : Nat := 3
abbrev laws_szLineS : Nat := 9
abbrev spec_Link : Nat := 10
abbrev laws_toLineS : Nat := 11
abbrev impl_Link : Nat := 12
abbrev laws_eqInsS : Nat := 13
abbrev laws_eqLineS : Nat := 14
abbrev laws_markLineS : Nat := 15
abbrev laws_markInsS : Nat := 16
abbrev laws_heldInsS : Nat := 17
abbrev laws_szLine : Nat := 46
abbrev spec_l24Twice : Nat := 47
abbrev spec_PlaceOf : Nat := 48
abbrev spec_InsOk : Nat := 49
abbrev laws_toLine : Nat := 50
abbrev impl_lineAt : Nat := 51
abbrev slices_ContainsFunc_impl_Ins_impl_Ins : Nat := 52
abbrev impl_Link_1 : Nat := 53
abbrev impl_InsOk : Nat := 54
abbrev laws_eqIns : Nat := 55
abbrev laws_eqLine : Nat := 56
abbrev laws_markText : Nat := 57
abbrev spec_l1In : Nat := 73
abbrev laws_toIns : Nat := 74
abbrev impl_within : Nat := 75
abbrev spec_l2Has : Nat := 120
abbrev spec_l2Field : Nat := 121
abbrev spec_WordOk : Nat := 122
abbrev slices_IndexFunc_impl_Ins_impl_Ins : Nat := 123
abbrev impl_has : Nat := 124
abbrev impl_isReg : Nat := 125
abbrev impl_WordOk : Nat := 126
/-- loop.example/g00286/laws.FnExactLink -/
def c_laws_FnExactLink : SCode :=
 .seq (.ops [⟨some 2, none, .mov (.c (.bool false))⟩])
 (.seq (.ops [⟨some 3, none, .mov (.c (.int .i64 1048576))⟩])
  (.seq (.ops [⟨some 14, none, .mov (.t 0)⟩, ⟨some 15, none, .mov (.t 3)⟩, ⟨some 16, none, .callr laws_szLineS [.t 14, .t 15]⟩, ⟨some 3, none, .mov (.t 16)⟩])
   (.seq (.seq (.ops [⟨some 17, none, .mov (.t 3)⟩, ⟨some 18, none, .cmp .lss (.t 17) (.c (.int .i64 0))⟩])
     (.cond (.t 18) (.seq (.ops [⟨some 2, none, .mov (.c (.bool true))⟩])
       (.ret))
      (.skip)))
    (.seq (.ops [⟨some 20, none, .mov (.t 0)⟩, ⟨some 21, none, .callr laws_toLineS [.t 20]⟩, ⟨some 22, none, .callr spec_Link [.t 21]⟩, ⟨some 19, none, .mov (.t 22)⟩, ⟨some 23, none, .ext (.t 19) 0⟩, ⟨some 24, none, .ext (.t 19) 1⟩, ⟨some 4, none, .mov (.t 23)⟩, ⟨some 5, none, .mov (.t 24)⟩])
     (.seq (.ops [⟨some 25, none, .mov (.t 0)⟩, ⟨some 26, none, .call laws_toLineS [.t 25]⟩, ⟨some 6, none, .mov (.t 26)⟩])
      (.seq (.ops [⟨some 28, none, .mov (.t 6)⟩, ⟨some 29, none, .call impl_Link [.t 28]⟩, ⟨some 27, none, .mov (.t 29)⟩, ⟨some 30, none, .ext (.t 27) 0⟩, ⟨some 31, none, .ext (.t 27) 1⟩, ⟨some 7, none, .mov (.t 30)⟩, ⟨some 8, none, .mov (.t 31)⟩])
       (.seq (.seq (.ops [⟨some 32, none, .mov (.t 7)⟩, ⟨some 33, none, .mov (.t 4)⟩, ⟨some 34, none, .callr laws_eqInsS [.t 32, .t 33]⟩, ⟨some 35, none, .not (.t 34)⟩, ⟨some 36, none, .mov (.t 35)⟩, ⟨some 37, (some (36, false)), .mov (.t 8)⟩, ⟨some 38, (some (36, false)), .mov (.t 5)⟩, ⟨some 39, (some (36, false)), .cmpb .neq (.t 37) (.t 38)⟩, ⟨some 40, none, .pick (.t 36) (.c (.bool true)) (.t 39)⟩])
         (.cond (.t 40) (.seq (.ops [⟨some 2, none, .mov (.c (.bool false))⟩])
           (.ret))
          (.skip)))
        (.seq (.seq (.ops [⟨some 41, none, .mov (.t 6)⟩, ⟨some 42, none, .mov (.t 0)⟩, ⟨some 43, none, .callr laws_toLineS [.t 42]⟩, ⟨some 44, none, .callr laws_eqLineS [.t 41, .t 43]⟩, ⟨some 45, none, .not (.t 44)⟩])
          (.cond (.t 45) (.seq (.ops [⟨some 2, none, .mov (.c (.bool false))⟩])
            (.ret))
           (.skip)))
         (.seq (.ops [⟨some 9, none, .mov (.c (.int .i64 1))⟩])
          (.seq (.ops [⟨some 46, none, .mov (.t 6)⟩, ⟨some 47, none, .mov (.t 9)⟩, ⟨some 48, none, .callb laws_markLineS [.t 46, .t 47] [true, false]⟩, ⟨some 9, none, .mov (.t 48)⟩])
           (.seq (.seq (.ops [⟨some 49, none, .mov (.t 9)⟩, ⟨some 50, none, .cmp .lss (.t 49) (.c (.int .i64 0))⟩, ⟨some 51, none, .mov (.t 50)⟩, ⟨some 52, (some (51, false)), .mov (.t 7)⟩, ⟨some 53, (some (51, false)), .mov (.t 4)⟩, ⟨some 54, (some (51, false)), .callr laws_eqInsS [.t 52, .t 53]⟩, ⟨some 55, (some (51, false)), .not (.t 54)⟩, ⟨some 56, none, .pick (.t 51) (.c (.bool true)) (.t 55)⟩, ⟨some 57, none, .mov (.t 56)⟩, ⟨some 58, (some (57, false)), .mov (.t 8)⟩, ⟨some 59, (some (57, false)), .mov (.t 5)⟩, ⟨some 60, (some (57, false)), .cmpb .neq (.t 58) (.t 59)⟩, ⟨some 61, none, .pick (.t 57) (.c (.bool true)) (.t 60)⟩])
             (.cond (.t 61) (.seq (.ops [⟨some 2, none, .mov (.c (.bool false))⟩])
               (.ret))
              (.skip)))
            (.seq (.ops [⟨some 10, none, .mov (.c (.int .i64 1))⟩])
             (.seq (.ops [⟨some 62, none, .mov (.t 7)⟩, ⟨some 63, none, .mov (.t 10)⟩, ⟨some 64, none, .callb laws_markInsS [.t 62, .t 63] [true, false]⟩, ⟨some 10, none, .mov (.t 64)⟩])
              (.seq (.ops [⟨some 11, none, .mov (.c (.int .i64 1))⟩])
               (.seq (.ops [⟨some 65, none, .mov (.t 7)⟩, ⟨some 66, none, .mov (.t 11)⟩, ⟨some 67, none, .callr laws_heldInsS [.t 65, .t 66]⟩, ⟨some 11, none, .mov (.t 67)⟩])
                (.seq (.seq (.ops [⟨some 68, none, .mov (.t 11)⟩, ⟨some 69, none, .cmp .lss (.t 68) (.c (.int .i64 0))⟩])
                  (.cond (.t 69) (.seq (.ops [⟨some 2, none, .mov (.c (.bool false))⟩])
                    (.ret))
                   (.skip)))
                 (.seq (.seq (.ops [⟨some 70, none, .mov (.t 11)⟩, ⟨some 71, none, .mov (.t 10)⟩, ⟨some 72, none, .cmp .neq (.t 70) (.t 71)⟩])
                   (.cond (.t 72) (.seq (.ops [⟨some 2, none, .mov (.c (.bool false))⟩])
                     (.ret))
                    (.skip)))
                  (.seq (.ops [⟨some 74, none, .mov (.t 0)⟩, ⟨some 75, none, .callr laws_toLineS [.t 74]⟩, ⟨some 76, none, .callr impl_Link [.t 75]⟩, ⟨some 73, none, .mov (.t 76)⟩, ⟨some 77, none, .ext (.t 73) 0⟩, ⟨some 78, none, .ext (.t 73) 1⟩, ⟨some 12, none, .mov (.t 77)⟩, ⟨some 13, none, .mov (.t 78)⟩])
                   (.seq (.seq (.ops [⟨some 79, none, .mov (.t 12)⟩, ⟨some 80, none, .mov (.t 4)⟩, ⟨some 81, none, .callr laws_eqInsS [.t 79, .t 80]⟩, ⟨some 82, none, .not (.t 81)⟩, ⟨some 83, none, .mov (.t 82)⟩, ⟨some 84, (some (83, false)), .mov (.t 13)⟩, ⟨some 85, (some (83, false)), .mov (.t 5)⟩, ⟨some 86, (some (83, false)), .cmpb .neq (.t 84) (.t 85)⟩, ⟨some 87, none, .pick (.t 83) (.c (.bool true)) (.t 86)⟩])
                     (.cond (.t 87) (.seq (.ops [⟨some 2, none, .mov (.c (.bool false))⟩])
                       (.ret))
                      (.skip)))
                    (.seq (.ops [⟨some 11, none, .mov (.c (.int .i64 1))⟩])
                     (.seq (.ops [⟨some 88, none, .mov (.t 7)⟩, ⟨some 89, none, .mov (.t 11)⟩, ⟨some 90, none, .callr laws_heldInsS [.t 88, .t 89]⟩, ⟨some 11, none, .mov (.t 90)⟩])
                      (.seq (.seq (.ops [⟨some 91, none, .mov (.t 11)⟩, ⟨some 92, none, .cmp .lss (.t 91) (.c (.int .i64 0))⟩])
                        (.cond (.t 92) (.seq (.ops [⟨some 2, none, .mov (.c (.bool false))⟩])
                          (.ret))
                         (.skip)))
                       (.seq (.seq (.ops [⟨some 93, none, .mov (.t 11)⟩, ⟨some 94, none, .mov (.t 10)⟩, ⟨some 95, none, .cmp .neq (.t 93) (.t 94)⟩])
                         (.cond (.t 95) (.seq (.ops [⟨some 2, none, .mov (.c (.bool false))⟩])
                           (.ret))
                          (.skip)))
                        (.seq (.ops [⟨some 2, none, .mov (.c (.bool true))⟩])
                         (.ret)))))))))))))))))))))))))
def s_laws_FnExactLink : SFn := ⟨1, 96, c_laws_FnExactLink, [.t 2]⟩
def b_laws_szLineS_0 : SCode :=
 .seq (.seq (.ops [⟨some 12, none, .mov (.t 5)⟩, ⟨some 13, none, .mov (.t 0)⟩, ⟨some 14, none, .len (.t 13)⟩, ⟨some 15, none, .cmp .lss (.t 12) (.t 14)⟩])
  (.cond (.t 15) (.skip)
   (.seq (.keep [1]) (.exit 0))))
 (.seq (.block 1 (.seq (.ops [⟨some 18, none, .mov (.t 0)⟩, ⟨some 19, none, .mov (.t 5)⟩, ⟨some 20, none, .ixa 8 (.t 18) (.t 19)⟩, ⟨some 21, none, .load (some 8) (.t 20)⟩, ⟨some 22, none, .mov (.t 1)⟩, ⟨some 23, none, .callr laws_szLine [.t 21, .t 22]⟩, ⟨some 1, none, .mov (.t 23)⟩])
    (.seq (.ops [⟨some 24, none, .mov (.t 1)⟩, ⟨some 25, none, .cmp .lss (.t 24) (.c (.int .i64 0))⟩])
     (.cond (.t 25) (.seq (.ops [⟨some 4, none, .mov (.c (.int .i64 (-1)))⟩])
       (.seq (.keep [4]) .ret))
      (.skip)))))
  (.ops [⟨some 16, none, .mov (.t 5)⟩, ⟨some 17, none, .ari .add (.t 16) (.c (.int .i64 1))⟩, ⟨some 5, none, .mov (.t 17)⟩]))
/-- loop.example/g00286/laws.szLineS -/
def c_laws_szLineS : SCode :=
 .seq (.ops [⟨some 4, none, .mov (.c (.int .i64 0))⟩])
 (.seq (.ops [⟨some 6, none, .mov (.t 1)⟩, ⟨some 7, none, .mov (.t 0)⟩, ⟨some 8, none, .len (.t 7)⟩, ⟨some 9, none, .ari .sub (.t 6) (.t 8)⟩, ⟨some 1, none, .mov (.t 9)⟩])
  (.seq (.seq (.ops [⟨some 10, none, .mov (.t 1)⟩, ⟨some 11, none, .cmp .lss (.t 10) (.c (.int .i64 0))⟩])
    (.cond (.t 11) (.seq (.ops [⟨some 4, none, .mov (.c (.int .i64 (-1)))⟩])
      (.ret))
     (.skip)))
   (.seq (.seq (.ops [⟨some 5, none, .mov (.c (.int .i64 0))⟩])
     (.block 0 (.loop [0, 1, 5] b_laws_szLineS_0)))
    (.seq (.ops [⟨some 26, none, .mov (.t 1)⟩, ⟨some 4, none, .mov (.t 26)⟩])
     (.ret)))))
def s_laws_szLineS : SFn := ⟨2, 27, c_laws_szLineS, [.t 4]⟩
def b_spec_Link_0 : SCode :=
 .seq (.seq (.ops [⟨some 13, none, .mov (.t 6)⟩, ⟨some 14, none, .mov (.t 0)⟩, ⟨some 15, none, .len (.t 14)⟩, ⟨some 16, none, .cmp .lss (.t 13) (.t 15)⟩])
  (.cond (.t 16) (.skip)
   (.seq (.keep [5]) (.exit 0))))
 (.seq (.block 1 (.seq (.seq (.ops [⟨some 19, none, .mov (.t 0)⟩, ⟨some 20, none, .mov (.t 6)⟩, ⟨some 21, none, .ixa 8 (.t 19) (.t 20)⟩, ⟨some 22, none, .faddr 0 (.t 21)⟩, ⟨some 23, none, .load none (.t 22)⟩, ⟨some 24, none, .cmp .neq (.t 23) (.c (.string ⟨#[]⟩))⟩])
     (.cond (.t 24) (.exit 1)
      (.skip)))
    (.seq (.ops [⟨some 25, none, .mov (.t 0)⟩, ⟨some 26, none, .mov (.t 6)⟩, ⟨some 27, none, .ixa 8 (.t 25) (.t 26)⟩, ⟨some 28, none, .faddr 1 (.t 27)⟩, ⟨some 29, none, .load (some 6) (.t 28)⟩, ⟨some 7, none, .alloc [.v (.int .i64 0), .v (.int .i64 0), .v (.int .i64 0), .v (.int .i64 0), .v (.int .i64 0), .v (.int .i64 0)]⟩, ⟨none, none, .store 6 (.t 7) (.t 29)⟩])
     (.seq (.seq (.ops [⟨some 30, none, .mov (.t 0)⟩, ⟨some 31, none, .mov (.t 6)⟩, ⟨some 32, none, .ixa 8 (.t 30) (.t 31)⟩, ⟨some 33, none, .faddr 7 (.t 32)⟩, ⟨some 34, none, .load none (.t 33)⟩, ⟨some 35, none, .cmp .neq (.t 34) (.c (.string ⟨#[]⟩))⟩])
       (.cond (.t 35) (.seq (.ops [⟨some 36, none, .mov (.t 0)⟩, ⟨some 37, none, .mov (.t 0)⟩, ⟨some 38, none, .mov (.t 6)⟩, ⟨some 39, none, .ixa 8 (.t 37) (.t 38)⟩, ⟨some 40, none, .faddr 7 (.t 39)⟩, ⟨some 41, none, .load none (.t 40)⟩, ⟨some 42, none, .callr spec_PlaceOf [.t 36, .t 41]⟩, ⟨some 43, none, .faddr 4 (.t 7)⟩, ⟨none, none, .store 1 (.t 43) (.t 42)⟩])
         (.seq (.ops [⟨some 44, none, .faddr 4 (.t 7)⟩, ⟨some 45, none, .load none (.t 44)⟩, ⟨some 46, none, .cmp .lss (.t 45) (.c (.int .i64 0))⟩])
          (.cond (.t 46) (.seq (.ops [⟨some 47, none, .mov (.t 4)⟩, ⟨some 2, none, .mov (.t 47)⟩, ⟨some 3, none, .mov (.c (.bool false))⟩])
            (.seq (.keep [2, 3]) .ret))
           (.skip))))
        (.skip)))
      (.seq (.seq (.ops [⟨some 48, none, .load (some 6) (.t 7)⟩, ⟨some 49, none, .callr spec_InsOk [.t 48]⟩, ⟨some 50, none, .not (.t 49)⟩, ⟨some 51, none, .mov (.t 50)⟩, ⟨some 52, (some (51, false)), .mov (.t 5)⟩, ⟨some 53, (some (51, false)), .len (.t 52)⟩, ⟨some 54, (some (51, false)), .cmp .eql (.t 53) (.c (.int .i64 3000))⟩, ⟨some 55, none, .pick (.t 51) (.c (.bool true)) (.t 54)⟩])
        (.cond (.t 55) (.seq (.ops [⟨some 56, none, .mov (.t 4)⟩, ⟨some 2, none, .mov (.t 56)⟩, ⟨some 3, none, .mov (.c (.bool false))⟩])
          (.seq (.keep [2, 3]) .ret))
         (.skip)))
       (.ops [⟨some 57, none, .mov (.t 5)⟩, ⟨some 58, none, .load (some 6) (.t 7)⟩, ⟨some 59, none, .lit 6 [.t 58]⟩, ⟨some 60, none, .app 6 48 (.t 57) (.t 59)⟩, ⟨some 5, none, .mov (.t 60)⟩]))))))
  (.ops [⟨some 17, none, .mov (.t 6)⟩, ⟨some 18, none, .ari .add (.t 17) (.c (.int .i64 1))⟩, ⟨some 6, none, .mov (.t 18)⟩]))
/-- loop.example/g00286/spec.Link -/
def c_spec_Link : SCode :=
 .seq (.ops [⟨some 2, none, .mov (.n 6)⟩, ⟨some 3, none, .mov (.c (.bool false))⟩])
 (.seq (.ops [⟨some 8, none, .lit 6 []⟩, ⟨some 4, none, .mov (.t 8)⟩])
  (.seq (.ops [⟨some 9, none, .lit 6 []⟩, ⟨some 5, none, .mov (.t 9)⟩])
   (.seq (.seq (.ops [⟨some 10, none, .mov (.t 0)⟩, ⟨some 11, none, .callr spec_l24Twice [.t 10]⟩])
     (.cond (.t 11) (.seq (.ops [⟨some 12, none, .mov (.t 4)⟩, ⟨some 2, none, .mov (.t 12)⟩, ⟨some 3, none, .mov (.c (.bool false))⟩])
       (.ret))
      (.skip)))
    (.seq (.seq (.ops [⟨some 6, none, .mov (.c (.int .i64 0))⟩])
      (.block 0 (.loop [0, 4, 5, 6] b_spec_Link_0)))
     (.seq (.ops [⟨some 61, none, .mov (.t 5)⟩, ⟨some 2, none, .mov (.t 61)⟩, ⟨some 3, none, .mov (.c (.bool true))⟩])
      (.ret))))))
def s_spec_Link : SFn := ⟨1, 62, c_spec_Link, [.t 2, .t 3]⟩
def b_laws_toLineS_0 : SCode :=
 .seq (.seq (.ops [⟨some 8, none, .mov (.t 4)⟩, ⟨some 9, none, .mov (.t 0)⟩, ⟨some 10, none, .len (.t 9)⟩, ⟨some 11, none, .cmp .lss (.t 8) (.t 10)⟩])
  (.cond (.t 11) (.skip)
   (.seq (.keep [3]) (.exit 0))))
 (.seq (.block 1 (.ops [⟨some 14, none, .mov (.t 3)⟩, ⟨some 15, none, .mov (.t 4)⟩, ⟨some 16, none, .mov (.t 0)⟩, ⟨some 17, none, .mov (.t 4)⟩, ⟨some 18, none, .ixa 8 (.t 16) (.t 17)⟩, ⟨some 19, none, .load (some 8) (.t 18)⟩, ⟨some 20, none, .callr laws_toLine [.t 19]⟩, ⟨some 21, none, .ixa 8 (.t 14) (.t 15)⟩, ⟨none, none, .store 8 (.t 21) (.t 20)⟩]))
  (.ops [⟨some 12, none, .mov (.t 4)⟩, ⟨some 13, none, .ari .add (.t 12) (.c (.int .i64 1))⟩, ⟨some 4, none, .mov (.t 13)⟩]))
/-- loop.example/g00286/laws.toLineS -/
def c_laws_toLineS : SCode :=
 .seq (.ops [⟨some 2, none, .mov (.n 8)⟩])
 (.seq (.ops [⟨some 5, none, .mov (.t 0)⟩, ⟨some 6, none, .len (.t 5)⟩, ⟨some 7, none, .mk 8 80 [.v (.string ⟨#[]⟩), .v (.int .i64 0), .v (.int .i64 0), .v (.int .i64 0), .v (.int .i64 0), .v (.int .i64 0), .v (.int .i64 0), .v (.string ⟨#[]⟩)] (.t 6)⟩, ⟨some 3, none, .mov (.t 7)⟩])
  (.seq (.seq (.ops [⟨some 4, none, .mov (.c (.int .i64 0))⟩])
    (.block 0 (.loop [0, 3, 4] b_laws_toLineS_0)))
   (.seq (.ops [⟨some 22, none, .mov (.t 3)⟩, ⟨some 2, none, .mov (.t 22)⟩])
    (.ret))))
def s_laws_toLineS : SFn := ⟨1, 23, c_laws_toLineS, [.t 2]⟩
def b_impl_Link_0 : SCode :=
 .seq (.ops [⟨some 16, none, .cmp .lss (.t 15) (.t 14)⟩])
 (.seq (.cond (.t 16) (.skip)
   (.seq (.keep [4]) (.exit 0)))
  (.seq (.block 1 (.seq (.ops [⟨some 17, none, .ixa 8 (.t 13) (.t 15)⟩, ⟨some 18, none, .load (some 8) (.t 17)⟩, ⟨some 6, none, .alloc [.v (.string ⟨#[]⟩), .v (.int .i64 0), .v (.int .i64 0), .v (.int .i64 0), .v (.int .i64 0), .v (.int .i64 0), .v (.int .i64 0), .v (.string ⟨#[]⟩)]⟩, ⟨none, none, .store 8 (.t 6) (.t 18)⟩])
     (.seq (.seq (.ops [⟨some 19, none, .faddr 0 (.t 6)⟩, ⟨some 20, none, .load none (.t 19)⟩, ⟨some 21, none, .cmp .neq (.t 20) (.c (.string ⟨#[]⟩))⟩])
       (.cond (.t 21) (.seq (.seq (.ops [⟨some 23, none, .mov (.t 0)⟩, ⟨some 24, none, .faddr 0 (.t 6)⟩, ⟨some 25, none, .load none (.t 24)⟩, ⟨some 26, none, .callr impl_lineAt [.t 23, .t 25]⟩, ⟨some 22, none, .mov (.t 26)⟩, ⟨some 27, none, .ext (.t 22) 0⟩, ⟨some 28, none, .ext (.t 22) 1⟩, ⟨some 7, none, .mov (.t 27)⟩, ⟨some 8, none, .mov (.t 28)⟩])
          (.seq (.ops [⟨some 29, none, .mov (.t 8)⟩, ⟨some 30, none, .not (.t 29)⟩])
           (.cond (.t 30) (.seq (.ops [⟨some 2, none, .mov (.n 6)⟩, ⟨some 3, none, .mov (.c (.bool false))⟩])
             (.seq (.keep [2, 3]) .ret))
            (.skip))))
         (.exit 1))
        (.skip)))
      (.seq (.ops [⟨some 31, none, .faddr 1 (.t 6)⟩, ⟨some 32, none, .load (some 6) (.t 31)⟩, ⟨some 9, none, .alloc [.v (.int .i64 0), .v (.int .i64 0), .v (.int .i64 0), .v (.int .i64 0), .v (.int .i64 0), .v (.int .i64 0)]⟩, ⟨none, none, .store 6 (.t 9) (.t 32)⟩])
       (.seq (.seq (.ops [⟨some 33, none, .faddr 7 (.t 6)⟩, ⟨some 34, none, .load none (.t 33)⟩, ⟨some 35, none, .cmp .neq (.t 34) (.c (.string ⟨#[]⟩))⟩])
         (.cond (.t 35) (.seq (.ops [⟨some 37, none, .mov (.t 0)⟩, ⟨some 38, none, .faddr 7 (.t 6)⟩, ⟨some 39, none, .load none (.t 38)⟩, ⟨some 40, none, .callr impl_lineAt [.t 37, .t 39]⟩, ⟨some 36, none, .mov (.t 40)⟩, ⟨some 41, none, .ext (.t 36) 0⟩, ⟨some 42, none, .ext (.t 36) 1⟩, ⟨some 10, none, .mov (.t 41)⟩, ⟨some 11, none, .mov (.t 42)⟩])
           (.seq (.seq (.ops [⟨some 43, none, .mov (.t 10)⟩, ⟨some 44, none, .cmp .lss (.t 43) (.c (.int .i64 0))⟩])
             (.cond (.t 44) (.seq (.ops [⟨some 2, none, .mov (.n 6)⟩, ⟨some 3, none, .mov (.c (.bool false))⟩])
               (.seq (.keep [2, 3]) .ret))
              (.skip)))
            (.ops [⟨some 45, none, .mov (.t 10)⟩, ⟨some 46, none, .faddr 4 (.t 9)⟩, ⟨none, none, .store 1 (.t 46) (.t 45)⟩])))
          (.skip)))
        (.ops [⟨some 47, none, .mov (.t 4)⟩, ⟨some 48, none, .load (some 6) (.t 9)⟩, ⟨some 49, none, .lit 6 [.t 48]⟩, ⟨some 50, none, .app 6 48 (.t 47) (.t 49)⟩, ⟨some 4, none, .mov (.t 50)⟩]))))))
   (.ops [⟨some 51, none, .ari .add (.t 15) (.c (.int .i64 1))⟩, ⟨some 15, none, .mov (.t 51)⟩])))
/-- loop.example/g00286/impl.Link -/
def c_impl_Link : SCode :=
 .seq (.ops [⟨some 2, none, .mov (.n 6)⟩, ⟨some 3, none, .mov (.c (.bool false))⟩])
 (.seq (.ops [⟨some 12, none, .lit 6 []⟩, ⟨some 4, none, .mov (.t 12)⟩])
  (.seq (.seq (.ops [⟨some 13, none, .mov (.t 0)⟩, ⟨some 14, none, .len (.t 13)⟩, ⟨some 15, none, .mov (.c (.int .i64 0))⟩])
    (.block 0 (.loop [0, 4, 13, 14, 15] b_impl_Link_0)))
   (.seq (.seq (.ops [⟨some 52, none, .mov (.t 4)⟩, ⟨some 53, none, .len (.t 52)⟩, ⟨some 54, none, .cmp .gtr (.t 53) (.c (.int .i64 3000))⟩, ⟨some 55, none, .mov (.t 54)⟩, ⟨some 56, (some (55, false)), .mov (.t 4)⟩, ⟨some 57, (some (55, false)), .calli (.f slices_ContainsFunc_impl_Ins_impl_Ins) [.t 56, .f impl_Link_1]⟩, ⟨some 58, none, .pick (.t 55) (.c (.bool true)) (.t 57)⟩])
     (.cond (.t 58) (.seq (.ops [⟨some 2, none, .mov (.n 6)⟩, ⟨some 3, none, .mov (.c (.bool false))⟩])
       (.ret))
      (.skip)))
    (.seq (.ops [⟨some 59, none, .mov (.t 4)⟩, ⟨some 2, none, .mov (.t 59)⟩, ⟨some 3, none, .mov (.c (.bool true))⟩])
     (.ret)))))
def s_impl_Link : SFn := ⟨1, 60, c_impl_Link, [.t 2, .t 3]⟩
def b_laws_eqInsS_0 : SCode :=
 .seq (.seq (.ops [⟨some 11, none, .mov (.t 5)⟩, ⟨some 12, none, .mov (.t 0)⟩, ⟨some 13, none, .len (.t 12)⟩, ⟨some 14, none, .cmp .lss (.t 11) (.t 13)⟩])
  (.cond (.t 14) (.skip)
   (.seq (.keep []) (.exit 0))))
 (.seq (.block 1 (.seq (.ops [⟨some 17, none, .mov (.t 0)⟩, ⟨some 18, none, .mov (.t 5)⟩, ⟨some 19, none, .ixa 6 (.t 17) (.t 18)⟩, ⟨some 20, none, .load (some 6) (.t 19)⟩, ⟨some 21, none, .mov (.t 1)⟩, ⟨some 22, none, .mov (.t 5)⟩, ⟨some 23, none, .ixa 6 (.t 21) (.t 22)⟩, ⟨some 24, none, .load (some 6) (.t 23)⟩, ⟨some 25, none, .callr laws_eqIns [.t 20, .t 24]⟩, ⟨some 26, none, .not (.t 25)⟩])
    (.cond (.t 26) (.seq (.ops [⟨some 4, none, .mov (.c (.bool false))⟩])
      (.seq (.keep [4]) .ret))
     (.skip))))
  (.ops [⟨some 15, none, .mov (.t 5)⟩, ⟨some 16, none, .ari .add (.t 15) (.c (.int .i64 1))⟩, ⟨some 5, none, .mov (.t 16)⟩]))
/-- loop.example/g00286/laws.eqInsS -/
def c_laws_eqInsS : SCode :=
 .seq (.ops [⟨some 4, none, .mov (.c (.bool false))⟩])
 (.seq (.seq (.ops [⟨some 6, none, .mov (.t 0)⟩, ⟨some 7, none, .len (.t 6)⟩, ⟨some 8, none, .mov (.t 1)⟩, ⟨some 9, none, .len (.t 8)⟩, ⟨some 10, none, .cmp .neq (.t 7) (.t 9)⟩])
   (.cond (.t 10) (.seq (.ops [⟨some 4, none, .mov (.c (.bool false))⟩])
     (.ret))
    (.skip)))
  (.seq (.seq (.ops [⟨some 5, none, .mov (.c (.int .i64 0))⟩])
    (.block 0 (.loop [0, 1, 5] b_laws_eqInsS_0)))
   (.seq (.ops [⟨some 4, none, .mov (.c (.bool true))⟩])
    (.ret))))
def s_laws_eqInsS : SFn := ⟨2, 27, c_laws_eqInsS, [.t 4]⟩
def b_laws_eqLineS_0 : SCode :=
 .seq (.seq (.ops [⟨some 11, none, .mov (.t 5)⟩, ⟨some 12, none, .mov (.t 0)⟩, ⟨some 13, none, .len (.t 12)⟩, ⟨some 14, none, .cmp .lss (.t 11) (.t 13)⟩])
  (.cond (.t 14) (.skip)
   (.seq (.keep []) (.exit 0))))
 (.seq (.block 1 (.seq (.ops [⟨some 17, none, .mov (.t 0)⟩, ⟨some 18, none, .mov (.t 5)⟩, ⟨some 19, none, .ixa 8 (.t 17) (.t 18)⟩, ⟨some 20, none, .load (some 8) (.t 19)⟩, ⟨some 21, none, .mov (.t 1)⟩, ⟨some 22, none, .mov (.t 5)⟩, ⟨some 23, none, .ixa 8 (.t 21) (.t 22)⟩, ⟨some 24, none, .load (some 8) (.t 23)⟩, ⟨some 25, none, .callr laws_eqLine [.t 20, .t 24]⟩, ⟨some 26, none, .not (.t 25)⟩])
    (.cond (.t 26) (.seq (.ops [⟨some 4, none, .mov (.c (.bool false))⟩])
      (.seq (.keep [4]) .ret))
     (.skip))))
  (.ops [⟨some 15, none, .mov (.t 5)⟩, ⟨some 16, none, .ari .add (.t 15) (.c (.int .i64 1))⟩, ⟨some 5, none, .mov (.t 16)⟩]))
/-- loop.example/g00286/laws.eqLineS -/
def c_laws_eqLineS : SCode :=
 .seq (.ops [⟨some 4, none, .mov (.c (.bool false))⟩])
 (.seq (.seq (.ops [⟨some 6, none, .mov (.t 0)⟩, ⟨some 7, none, .len (.t 6)⟩, ⟨some 8, none, .mov (.t 1)⟩, ⟨some 9, none, .len (.t 8)⟩, ⟨some 10, none, .cmp .neq (.t 7) (.t 9)⟩])
   (.cond (.t 10) (.seq (.ops [⟨some 4, none, .mov (.c (.bool false))⟩])
     (.ret))
    (.skip)))
  (.seq (.seq (.ops [⟨some 5, none, .mov (.c (.int .i64 0))⟩])
    (.block 0 (.loop [0, 1, 5] b_laws_eqLineS_0)))
   (.seq (.ops [⟨some 4, none, .mov (.c (.bool true))⟩])
    (.ret))))
def s_laws_eqLineS : SFn := ⟨2, 27, c_laws_eqLineS, [.t 4]⟩
def b_laws_markLineS_0 : SCode :=
 .seq (.seq (.ops [⟨some 6, none, .mov (.t 5)⟩, ⟨some 7, none, .mov (.t 0)⟩, ⟨some 8, none, .len (.t 7)⟩, ⟨some 9, none, .cmp .lss (.t 6) (.t 8)⟩])
  (.cond (.t 9) (.skip)
   (.seq (.keep [1]) (.exit 0))))
 (.seq (.block 1 (.seq (.ops [⟨some 12, none, .mov (.t 0)⟩, ⟨some 13, none, .mov (.t 5)⟩, ⟨some 14, none, .mov (.t 1)⟩, ⟨some 15, none, .callr laws_markText [.t 14]⟩, ⟨some 16, none, .ixa 8 (.t 12) (.t 13)⟩, ⟨some 17, none, .faddr 0 (.t 16)⟩, ⟨none, none, .store 1 (.t 17) (.t 15)⟩])
    (.seq (.ops [⟨some 18, none, .mov (.t 1)⟩, ⟨some 19, none, .ari .add (.t 18) (.c (.int .i64 1))⟩, ⟨some 1, none, .mov (.t 19)⟩])
     (.seq (.ops [⟨some 20, none, .mov (.t 0)⟩, ⟨some 21, none, .mov (.t 5)⟩, ⟨some 22, none, .mov (.t 1)⟩, ⟨some 23, none, .ixa 8 (.t 20) (.t 21)⟩, ⟨some 24, none, .faddr 1 (.t 23)⟩, ⟨some 25, none, .faddr 0 (.t 24)⟩, ⟨none, none, .store 1 (.t 25) (.t 22)⟩])
      (.seq (.ops [⟨some 26, none, .mov (.t 1)⟩, ⟨some 27, none, .ari .add (.t 26) (.c (.int .i64 1))⟩, ⟨some 1, none, .mov (.t 27)⟩])
       (.seq (.ops [⟨some 28, none, .mov (.t 0)⟩, ⟨some 29, none, .mov (.t 5)⟩, ⟨some 30, none, .mov (.t 1)⟩, ⟨some 31, none, .ixa 8 (.t 28) (.t 29)⟩, ⟨some 32, none, .faddr 1 (.t 31)⟩, ⟨some 33, none, .faddr 1 (.t 32)⟩, ⟨none, none, .store 1 (.t 33) (.t 30)⟩])
        (.seq (.ops [⟨some 34, none, .mov (.t 1)⟩, ⟨some 35, none, .ari .add (.t 34) (.c (.int .i64 1))⟩, ⟨some 1, none, .mov (.t 35)⟩])
         (.seq (.ops [⟨some 36, none, .mov (.t 0)⟩, ⟨some 37, none, .mov (.t 5)⟩, ⟨some 38, none, .mov (.t 1)⟩, ⟨some 39, none, .ixa 8 (.t 36) (.t 37)⟩, ⟨some 40, none, .faddr 1 (.t 39)⟩, ⟨some 41, none, .faddr 2 (.t 40)⟩, ⟨none, none, .store 1 (.t 41) (.t 38)⟩])
          (.seq (.ops [⟨some 42, none, .mov (.t 1)⟩, ⟨some 43, none, .ari .add (.t 42) (.c (.int .i64 1))⟩, ⟨some 1, none, .mov (.t 43)⟩])
           (.seq (.ops [⟨some 44, none, .mov (.t 0)⟩, ⟨some 45, none, .mov (.t 5)⟩, ⟨some 46, none, .mov (.t 1)⟩, ⟨some 47, none, .ixa 8 (.t 44) (.t 45)⟩, ⟨some 48, none, .faddr 1 (.t 47)⟩, ⟨some 49, none, .faddr 3 (.t 48)⟩, ⟨none, none, .store 1 (.t 49) (.t 46)⟩])
            (.seq (.ops [⟨some 50, none, .mov (.t 1)⟩, ⟨some 51, none, .ari .add (.t 50) (.c (.int .i64 1))⟩, ⟨some 1, none, .mov (.t 51)⟩])
             (.seq (.ops [⟨some 52, none, .mov (.t 0)⟩, ⟨some 53, none, .mov (.t 5)⟩, ⟨some 54, none, .mov (.t 1)⟩, ⟨some 55, none, .ixa 8 (.t 52) (.t 53)⟩, ⟨some 56, none, .faddr 1 (.t 55)⟩, ⟨some 57, none, .faddr 4 (.t 56)⟩, ⟨none, none, .store 1 (.t 57) (.t 54)⟩])
              (.seq (.ops [⟨some 58, none, .mov (.t 1)⟩, ⟨some 59, none, .ari .add (.t 58) (.c (.int .i64 1))⟩, ⟨some 1, none, .mov (.t 59)⟩])
               (.seq (.ops [⟨some 60, none, .mov (.t 0)⟩, ⟨some 61, none, .mov (.t 5)⟩, ⟨some 62, none, .mov (.t 1)⟩, ⟨some 63, none, .ixa 8 (.t 60) (.t 61)⟩, ⟨some 64, none, .faddr 1 (.t 63)⟩, ⟨some 65, none, .faddr 5 (.t 64)⟩, ⟨none, none, .store 1 (.t 65) (.t 62)⟩])
                (.seq (.ops [⟨some 66, none, .mov (.t 1)⟩, ⟨some 67, none, .ari .add (.t 66) (.c (.int .i64 1))⟩, ⟨some 1, none, .mov (.t 67)⟩])
                 (.seq (.ops [⟨some 68, none, .mov (.t 0)⟩, ⟨some 69, none, .mov (.t 5)⟩, ⟨some 70, none, .mov (.t 1)⟩, ⟨some 71, none, .callr laws_markText [.t 70]⟩, ⟨some 72, none, .ixa 8 (.t 68) (.t 69)⟩, ⟨some 73, none, .faddr 7 (.t 72)⟩, ⟨none, none, .store 1 (.t 73) (.t 71)⟩])
                  (.ops [⟨some 74, none, .mov (.t 1)⟩, ⟨some 75, none, .ari .add (.t 74) (.c (.int .i64 1))⟩, ⟨some 1, none, .mov (.t 75)⟩])))))))))))))))))
  (.ops [⟨some 10, none, .mov (.t 5)⟩, ⟨some 11, none, .ari .add (.t 10) (.c (.int .i64 1))⟩, ⟨some 5, none, .mov (.t 11)⟩]))
/-- loop.example/g00286/laws.markLineS -/
def c_laws_markLineS : SCode :=
 .seq (.ops [⟨some 4, none, .mov (.c (.int .i64 0))⟩])
 (.seq (.seq (.ops [⟨some 5, none, .mov (.c (.int .i64 0))⟩])
   (.block 0 (.loop [0, 1, 5] b_laws_markLineS_0)))
  (.seq (.ops [⟨some 76, none, .mov (.t 1)⟩, ⟨some 4, none, .mov (.t 76)⟩])
   (.ret)))
def s_laws_markLineS : SFn := ⟨2, 77, c_laws_markLineS, [.t 4]⟩
def b_laws_markInsS_0 : SCode :=
 .seq (.seq (.ops [⟨some 6, none, .mov (.t 5)⟩, ⟨some 7, none, .mov (.t 0)⟩, ⟨some 8, none, .len (.t 7)⟩, ⟨some 9, none, .cmp .lss (.t 6) (.t 8)⟩])
  (.cond (.t 9) (.skip)
   (.seq (.keep [1]) (.exit 0))))
 (.seq (.block 1 (.seq (.ops [⟨some 12, none, .mov (.t 0)⟩, ⟨some 13, none, .mov (.t 5)⟩, ⟨some 14, none, .mov (.t 1)⟩, ⟨some 15, none, .ixa 6 (.t 12) (.t 13)⟩, ⟨some 16, none, .faddr 0 (.t 15)⟩, ⟨none, none, .store 1 (.t 16) (.t 14)⟩])
    (.seq (.ops [⟨some 17, none, .mov (.t 1)⟩, ⟨some 18, none, .ari .add (.t 17) (.c (.int .i64 1))⟩, ⟨some 1, none, .mov (.t 18)⟩])
     (.seq (.ops [⟨some 19, none, .mov (.t 0)⟩, ⟨some 20, none, .mov (.t 5)⟩, ⟨some 21, none, .mov (.t 1)⟩, ⟨some 22, none, .ixa 6 (.t 19) (.t 20)⟩, ⟨some 23, none, .faddr 1 (.t 22)⟩, ⟨none, none, .store 1 (.t 23) (.t 21)⟩])
      (.seq (.ops [⟨some 24, none, .mov (.t 1)⟩, ⟨some 25, none, .ari .add (.t 24) (.c (.int .i64 1))⟩, ⟨some 1, none, .mov (.t 25)⟩])
       (.seq (.ops [⟨some 26, none, .mov (.t 0)⟩, ⟨some 27, none, .mov (.t 5)⟩, ⟨some 28, none, .mov (.t 1)⟩, ⟨some 29, none, .ixa 6 (.t 26) (.t 27)⟩, ⟨some 30, none, .faddr 2 (.t 29)⟩, ⟨none, none, .store 1 (.t 30) (.t 28)⟩])
        (.seq (.ops [⟨some 31, none, .mov (.t 1)⟩, ⟨some 32, none, .ari .add (.t 31) (.c (.int .i64 1))⟩, ⟨some 1, none, .mov (.t 32)⟩])
         (.seq (.ops [⟨some 33, none, .mov (.t 0)⟩, ⟨some 34, none, .mov (.t 5)⟩, ⟨some 35, none, .mov (.t 1)⟩, ⟨some 36, none, .ixa 6 (.t 33) (.t 34)⟩, ⟨some 37, none, .faddr 3 (.t 36)⟩, ⟨none, none, .store 1 (.t 37) (.t 35)⟩])
          (.seq (.ops [⟨some 38, none, .mov (.t 1)⟩, ⟨some 39, none, .ari .add (.t 38) (.c (.int .i64 1))⟩, ⟨some 1, none, .mov (.t 39)⟩])
           (.seq (.ops [⟨some 40, none, .mov (.t 0)⟩, ⟨some 41, none, .mov (.t 5)⟩, ⟨some 42, none, .mov (.t 1)⟩, ⟨some 43, none, .ixa 6 (.t 40) (.t 41)⟩, ⟨some 44, none, .faddr 4 (.t 43)⟩, ⟨none, none, .store 1 (.t 44) (.t 42)⟩])
            (.seq (.ops [⟨some 45, none, .mov (.t 1)⟩, ⟨some 46, none, .ari .add (.t 45) (.c (.int .i64 1))⟩, ⟨some 1, none, .mov (.t 46)⟩])
             (.seq (.ops [⟨some 47, none, .mov (.t 0)⟩, ⟨some 48, none, .mov (.t 5)⟩, ⟨some 49, none, .mov (.t 1)⟩, ⟨some 50, none, .ixa 6 (.t 47) (.t 48)⟩, ⟨some 51, none, .faddr 5 (.t 50)⟩, ⟨none, none, .store 1 (.t 51) (.t 49)⟩])
              (.ops [⟨some 52, none, .mov (.t 1)⟩, ⟨some 53, none, .ari .add (.t 52) (.c (.int .i64 1))⟩, ⟨some 1, none, .mov (.t 53)⟩])))))))))))))
  (.ops [⟨some 10, none, .mov (.t 5)⟩, ⟨some 11, none, .ari .add (.t 10) (.c (.int .i64 1))⟩, ⟨some 5, none, .mov (.t 11)⟩]))
/-- loop.example/g00286/laws.markInsS -/
def c_laws_markInsS : SCode :=
 .seq (.ops [⟨some 4, none, .mov (.c (.int .i64 0))⟩])
 (.seq (.seq (.ops [⟨some 5, none, .mov (.c (.int .i64 0))⟩])
   (.block 0 (.loop [0, 1, 5] b_laws_markInsS_0)))
  (.seq (.ops [⟨some 54, none, .mov (.t 1)⟩, ⟨some 4, none, .mov (.t 54)⟩])
   (.ret)))
def s_laws_markInsS : SFn := ⟨2, 55, c_laws_markInsS, [.t 4]⟩
def b_laws_heldInsS_0 : SCode :=
 .seq (.seq (.ops [⟨some 6, none, .mov (.t 5)⟩, ⟨some 7, none, .mov (.t 0)⟩, ⟨some 8, none, .len (.t 7)⟩, ⟨some 9, none, .cmp .lss (.t 6) (.t 8)⟩])
  (.cond (.t 9) (.skip)
   (.seq (.keep [1]) (.exit 0))))
 (.seq (.block 1 (.seq (.seq (.ops [⟨some 12, none, .mov (.t 0)⟩, ⟨some 13, none, .mov (.t 5)⟩, ⟨some 14, none, .ixa 6 (.t 12) (.t 13)⟩, ⟨some 15, none, .faddr 0 (.t 14)⟩, ⟨some 16, none, .load none (.t 15)⟩, ⟨some 17, none, .mov (.t 1)⟩, ⟨some 18, none, .cmp .neq (.t 16) (.t 17)⟩])
     (.cond (.t 18) (.seq (.ops [⟨some 4, none, .mov (.c (.int .i64 (-1)))⟩])
       (.seq (.keep [4]) .ret))
      (.skip)))
    (.seq (.ops [⟨some 19, none, .mov (.t 1)⟩, ⟨some 20, none, .ari .add (.t 19) (.c (.int .i64 1))⟩, ⟨some 1, none, .mov (.t 20)⟩])
     (.seq (.seq (.ops [⟨some 21, none, .mov (.t 0)⟩, ⟨some 22, none, .mov (.t 5)⟩, ⟨some 23, none, .ixa 6 (.t 21) (.t 22)⟩, ⟨some 24, none, .faddr 1 (.t 23)⟩, ⟨some 25, none, .load none (.t 24)⟩, ⟨some 26, none, .mov (.t 1)⟩, ⟨some 27, none, .cmp .neq (.t 25) (.t 26)⟩])
       (.cond (.t 27) (.seq (.ops [⟨some 4, none, .mov (.c (.int .i64 (-1)))⟩])
         (.seq (.keep [4]) .ret))
        (.skip)))
      (.seq (.ops [⟨some 28, none, .mov (.t 1)⟩, ⟨some 29, none, .ari .add (.t 28) (.c (.int .i64 1))⟩, ⟨some 1, none, .mov (.t 29)⟩])
       (.seq (.seq (.ops [⟨some 30, none, .mov (.t 0)⟩, ⟨some 31, none, .mov (.t 5)⟩, ⟨some 32, none, .ixa 6 (.t 30) (.t 31)⟩, ⟨some 33, none, .faddr 2 (.t 32)⟩, ⟨some 34, none, .load none (.t 33)⟩, ⟨some 35, none, .mov (.t 1)⟩, ⟨some 36, none, .cmp .neq (.t 34) (.t 35)⟩])
         (.cond (.t 36) (.seq (.ops [⟨some 4, none, .mov (.c (.int .i64 (-1)))⟩])
           (.seq (.keep [4]) .ret))
          (.skip)))
        (.seq (.ops [⟨some 37, none, .mov (.t 1)⟩, ⟨some 38, none, .ari .add (.t 37) (.c (.int .i64 1))⟩, ⟨some 1, none, .mov (.t 38)⟩])
         (.seq (.seq (.ops [⟨some 39, none, .mov (.t 0)⟩, ⟨some 40, none, .mov (.t 5)⟩, ⟨some 41, none, .ixa 6 (.t 39) (.t 40)⟩, ⟨some 42, none, .faddr 3 (.t 41)⟩, ⟨some 43, none, .load none (.t 42)⟩, ⟨some 44, none, .mov (.t 1)⟩, ⟨some 45, none, .cmp .neq (.t 43) (.t 44)⟩])
           (.cond (.t 45) (.seq (.ops [⟨some 4, none, .mov (.c (.int .i64 (-1)))⟩])
             (.seq (.keep [4]) .ret))
            (.skip)))
          (.seq (.ops [⟨some 46, none, .mov (.t 1)⟩, ⟨some 47, none, .ari .add (.t 46) (.c (.int .i64 1))⟩, ⟨some 1, none, .mov (.t 47)⟩])
           (.seq (.seq (.ops [⟨some 48, none, .mov (.t 0)⟩, ⟨some 49, none, .mov (.t 5)⟩, ⟨some 50, none, .ixa 6 (.t 48) (.t 49)⟩, ⟨some 51, none, .faddr 4 (.t 50)⟩, ⟨some 52, none, .load none (.t 51)⟩, ⟨some 53, none, .mov (.t 1)⟩, ⟨some 54, none, .cmp .neq (.t 52) (.t 53)⟩])
             (.cond (.t 54) (.seq (.ops [⟨some 4, none, .mov (.c (.int .i64 (-1)))⟩])
               (.seq (.keep [4]) .ret))
              (.skip)))
            (.seq (.ops [⟨some 55, none, .mov (.t 1)⟩, ⟨some 56, none, .ari .add (.t 55) (.c (.int .i64 1))⟩, ⟨some 1, none, .mov (.t 56)⟩])
             (.seq (.seq (.ops [⟨some 57, none, .mov (.t 0)⟩, ⟨some 58, none, .mov (.t 5)⟩, ⟨some 59, none, .ixa 6 (.t 57) (.t 58)⟩, ⟨some 60, none, .faddr 5 (.t 59)⟩, ⟨some 61, none, .load none (.t 60)⟩, ⟨some 62, none, .mov (.t 1)⟩, ⟨some 63, none, .cmp .neq (.t 61) (.t 62)⟩])
               (.cond (.t 63) (.seq (.ops [⟨some 4, none, .mov (.c (.int .i64 (-1)))⟩])
                 (.seq (.keep [4]) .ret))
                (.skip)))
              (.ops [⟨some 64, none, .mov (.t 1)⟩, ⟨some 65, none, .ari .add (.t 64) (.c (.int .i64 1))⟩, ⟨some 1, none, .mov (.t 65)⟩])))))))))))))
  (.ops [⟨some 10, none, .mov (.t 5)⟩, ⟨some 11, none, .ari .add (.t 10) (.c (.int .i64 1))⟩, ⟨some 5, none, .mov (.t 11)⟩]))
/-- loop.example/g00286/laws.heldInsS -/
def c_laws_heldInsS : SCode :=
 .seq (.ops [⟨some 4, none, .mov (.c (.int .i64 0))⟩])
 (.seq (.seq (.ops [⟨some 5, none, .mov (.c (.int .i64 0))⟩])
   (.block 0 (.loop [0, 1, 5] b_laws_heldInsS_0)))
  (.seq (.ops [⟨some 66, none, .mov (.t 1)⟩, ⟨some 4, none, .mov (.t 66)⟩])
   (.ret)))
def s_laws_heldInsS : SFn := ⟨2, 67, c_laws_heldInsS, [.t 4]⟩
/-- loop.example/g00286/laws.szLine -/
def c_laws_szLine : SCode :=
 .seq (.ops [⟨some 2, none, .vbox 8 (.t 0)⟩, ⟨some 4, none, .mov (.c (.int .i64 0))⟩])
 (.seq (.ops [⟨some 5, none, .mov (.t 1)⟩, ⟨some 6, none, .faddr 0 (.t 2)⟩, ⟨some 7, none, .load none (.t 6)⟩, ⟨some 8, none, .slen (.t 7)⟩, ⟨some 9, none, .ari .sub (.t 5) (.t 8)⟩, ⟨some 1, none, .mov (.t 9)⟩])
  (.seq (.seq (.ops [⟨some 10, none, .mov (.t 1)⟩, ⟨some 11, none, .cmp .lss (.t 10) (.c (.int .i64 0))⟩])
    (.cond (.t 11) (.seq (.ops [⟨some 4, none, .mov (.c (.int .i64 (-1)))⟩])
      (.ret))
     (.skip)))
   (.seq (.ops [⟨some 12, none, .mov (.t 1)⟩, ⟨some 13, none, .faddr 7 (.t 2)⟩, ⟨some 14, none, .load none (.t 13)⟩, ⟨some 15, none, .slen (.t 14)⟩, ⟨some 16, none, .ari .sub (.t 12) (.t 15)⟩, ⟨some 1, none, .mov (.t 16)⟩])
    (.seq (.seq (.ops [⟨some 17, none, .mov (.t 1)⟩, ⟨some 18, none, .cmp .lss (.t 17) (.c (.int .i64 0))⟩])
      (.cond (.t 18) (.seq (.ops [⟨some 4, none, .mov (.c (.int .i64 (-1)))⟩])
        (.ret))
       (.skip)))
     (.seq (.ops [⟨some 19, none, .mov (.t 1)⟩, ⟨some 4, none, .mov (.t 19)⟩])
      (.ret))))))
def s_laws_szLine : SFn := ⟨2, 20, c_laws_szLine, [.t 4]⟩
def b_spec_l24Twice_0 : SCode :=
 .seq (.seq (.ops [⟨some 11, none, .mov (.t 4)⟩, ⟨some 12, none, .mov (.t 3)⟩, ⟨some 13, none, .cmp .lss (.t 11) (.t 12)⟩, ⟨some 14, none, .mov (.t 13)⟩, ⟨some 15, (some (14, true)), .mov (.t 0)⟩, ⟨some 16, (some (14, true)), .mov (.t 3)⟩, ⟨some 17, (some (14, true)), .ixa 8 (.t 15) (.t 16)⟩, ⟨some 18, (some (14, true)), .faddr 0 (.t 17)⟩, ⟨some 19, (some (14, true)), .load none (.t 18)⟩, ⟨some 20, (some (14, true)), .cmp .neq (.t 19) (.c (.string ⟨#[]⟩))⟩, ⟨some 21, none, .pick (.t 14) (.t 20) (.c (.bool false))⟩])
  (.cond (.t 21) (.skip)
   (.seq (.keep [0, 3]) (.exit 2))))
 (.seq (.block 3 (.seq (.ops [⟨some 24, none, .mov (.t 0)⟩, ⟨some 25, none, .mov (.t 4)⟩, ⟨some 26, none, .ixa 8 (.t 24) (.t 25)⟩, ⟨some 27, none, .faddr 0 (.t 26)⟩, ⟨some 28, none, .load none (.t 27)⟩, ⟨some 29, none, .mov (.t 0)⟩, ⟨some 30, none, .mov (.t 3)⟩, ⟨some 31, none, .ixa 8 (.t 29) (.t 30)⟩, ⟨some 32, none, .faddr 0 (.t 31)⟩, ⟨some 33, none, .load none (.t 32)⟩, ⟨some 34, none, .cmp .eql (.t 28) (.t 33)⟩])
    (.cond (.t 34) (.seq (.ops [⟨some 2, none, .mov (.c (.bool true))⟩])
      (.seq (.keep [2]) .ret))
     (.skip))))
  (.ops [⟨some 22, none, .mov (.t 4)⟩, ⟨some 23, none, .ari .add (.t 22) (.c (.int .i64 1))⟩, ⟨some 4, none, .mov (.t 23)⟩]))
def b_spec_l24Twice_1 : SCode :=
 .seq (.seq (.ops [⟨some 5, none, .mov (.t 3)⟩, ⟨some 6, none, .mov (.t 0)⟩, ⟨some 7, none, .len (.t 6)⟩, ⟨some 8, none, .cmp .lss (.t 5) (.t 7)⟩])
  (.cond (.t 8) (.skip)
   (.seq (.keep []) (.exit 0))))
 (.seq (.block 1 (.seq (.ops [⟨some 4, none, .mov (.c (.int .i64 0))⟩])
    (.block 2 (.loop [0, 3, 4] b_spec_l24Twice_0))))
  (.ops [⟨some 9, none, .mov (.t 3)⟩, ⟨some 10, none, .ari .add (.t 9) (.c (.int .i64 1))⟩, ⟨some 3, none, .mov (.t 10)⟩]))
/-- loop.example/g00286/spec.l24Twice -/
def c_spec_l24Twice : SCode :=
 .seq (.ops [⟨some 2, none, .mov (.c (.bool false))⟩])
 (.seq (.seq (.ops [⟨some 3, none, .mov (.c (.int .i64 0))⟩])
   (.block 0 (.loop [0, 3] b_spec_l24Twice_1)))
  (.seq (.ops [⟨some 2, none, .mov (.c (.bool false))⟩])
   (.ret)))
def s_spec_l24Twice : SFn := ⟨1, 35, c_spec_l24Twice, [.t 2]⟩
def b_spec_PlaceOf_0 : SCode :=
 .seq (.seq (.ops [⟨some 7, none, .mov (.t 6)⟩, ⟨some 8, none, .mov (.t 0)⟩, ⟨some 9, none, .len (.t 8)⟩, ⟨some 10, none, .cmp .lss (.t 7) (.t 9)⟩])
  (.cond (.t 10) (.skip)
   (.seq (.keep []) (.exit 0))))
 (.seq (.block 1 (.seq (.ops [⟨some 13, none, .mov (.t 0)⟩, ⟨some 14, none, .mov (.t 6)⟩, ⟨some 15, none, .ixa 8 (.t 13) (.t 14)⟩, ⟨some 16, none, .faddr 0 (.t 15)⟩, ⟨some 17, none, .load none (.t 16)⟩, ⟨some 18, none, .cmp .eql (.t 17) (.c (.string ⟨#[]⟩))⟩])
    (.cond (.t 18) (.ops [⟨some 19, none, .mov (.t 5)⟩, ⟨some 20, none, .ari .add (.t 19) (.c (.int .i64 1))⟩, ⟨some 5, none, .mov (.t 20)⟩])
     (.seq (.ops [⟨some 21, none, .mov (.t 0)⟩, ⟨some 22, none, .mov (.t 6)⟩, ⟨some 23, none, .ixa 8 (.t 21) (.t 22)⟩, ⟨some 24, none, .faddr 0 (.t 23)⟩, ⟨some 25, none, .load none (.t 24)⟩, ⟨some 26, none, .mov (.t 1)⟩, ⟨some 27, none, .cmp .eql (.t 25) (.t 26)⟩])
      (.cond (.t 27) (.seq (.ops [⟨some 28, none, .mov (.t 5)⟩, ⟨some 4, none, .mov (.t 28)⟩])
        (.seq (.keep [4]) .ret))
       (.skip))))))
  (.ops [⟨some 11, none, .mov (.t 6)⟩, ⟨some 12, none, .ari .add (.t 11) (.c (.int .i64 1))⟩, ⟨some 6, none, .mov (.t 12)⟩]))
/-- loop.example/g00286/spec.PlaceOf -/
def c_spec_PlaceOf : SCode :=
 .seq (.ops [⟨some 4, none, .mov (.c (.int .i64 0))⟩])
 (.seq (.ops [⟨some 5, none, .mov (.c (.int .i64 0))⟩])
  (.seq (.seq (.ops [⟨some 6, none, .mov (.c (.int .i64 0))⟩])
    (.block 0 (.loop [0, 1, 5, 6] b_spec_PlaceOf_0)))
   (.seq (.ops [⟨some 4, none, .mov (.c (.int .i64 (-1)))⟩])
    (.ret))))
def s_spec_PlaceOf : SFn := ⟨2, 29, c_spec_PlaceOf, [.t 4]⟩
/-- loop.example/g00286/spec.InsOk -/
def c_spec_InsOk : SCode :=
 .seq (.ops [⟨some 1, none, .vbox 6 (.t 0)⟩, ⟨some 2, none, .mov (.c (.bool false))⟩])
 (.seq (.ops [⟨some 5, none, .faddr 0 (.t 1)⟩, ⟨some 6, none, .load none (.t 5)⟩, ⟨some 7, none, .callr spec_l2Has [.t 6]⟩, ⟨some 3, none, .mov (.t 7)⟩])
  (.seq (.ops [⟨some 4, none, .mov (.c (.int .i64 5))⟩])
   (.seq (.seq (.ops [⟨some 8, none, .faddr 0 (.t 1)⟩, ⟨some 9, none, .load none (.t 8)⟩, ⟨some 10, none, .cmp .eql (.t 9) (.c (.int .i64 8))⟩, ⟨some 11, none, .mov (.t 10)⟩, ⟨some 12, (some (11, false)), .faddr 0 (.t 1)⟩, ⟨some 13, (some (11, false)), .load none (.t 12)⟩, ⟨some 14, (some (11, false)), .cmp .eql (.t 13) (.c (.int .i64 9))⟩, ⟨some 15, none, .pick (.t 11) (.c (.bool true)) (.t 14)⟩])
     (.cond (.t 15) (.ops [⟨some 4, none, .mov (.c (.int .i64 6))⟩])
      (.skip)))
    (.seq (.ops [⟨some 16, none, .faddr 0 (.t 1)⟩, ⟨some 17, none, .load none (.t 16)⟩, ⟨some 18, none, .callr spec_l1In [.t 17, .c (.int .i64 1), .c (.int .i64 19)]⟩, ⟨some 19, none, .mov (.t 18)⟩, ⟨some 20, (some (19, true)), .faddr 1 (.t 1)⟩, ⟨some 21, (some (19, true)), .load none (.t 20)⟩, ⟨some 22, (some (19, true)), .mov (.t 3)⟩, ⟨some 23, (some (19, true)), .ari .and (.t 22) (.c (.int .i64 1))⟩, ⟨some 24, (some (19, true)), .cmp .neq (.t 23) (.c (.int .i64 0))⟩, ⟨some 25, (some (19, true)), .callr spec_l2Field [.t 21, .c (.int .i64 5), .t 24]⟩, ⟨some 26, none, .pick (.t 19) (.t 25) (.c (.bool false))⟩, ⟨some 27, none, .mov (.t 26)⟩, ⟨some 28, (some (27, true)), .faddr 2 (.t 1)⟩, ⟨some 29, (some (27, true)), .load none (.t 28)⟩, ⟨some 30, (some (27, true)), .mov (.t 4)⟩, ⟨some 31, (some (27, true)), .mov (.t 3)⟩, ⟨some 32, (some (27, true)), .ari .and (.t 31) (.c (.int .i64 2))⟩, ⟨some 33, (some (27, true)), .cmp .neq (.t 32) (.c (.int .i64 0))⟩, ⟨some 34, (some (27, true)), .callr spec_l2Field [.t 29, .t 30, .t 33]⟩, ⟨some 35, none, .pick (.t 27) (.t 34) (.c (.bool false))⟩, ⟨some 36, none, .mov (.t 35)⟩, ⟨some 37, (some (36, true)), .faddr 3 (.t 1)⟩, ⟨some 38, (some (36, true)), .load none (.t 37)⟩, ⟨some 39, (some (36, true)), .mov (.t 3)⟩, ⟨some 40, (some (36, true)), .ari .and (.t 39) (.c (.int .i64 4))⟩, ⟨some 41, (some (36, true)), .cmp .neq (.t 40) (.c (.int .i64 0))⟩, ⟨some 42, (some (36, true)), .callr spec_l2Field [.t 38, .c (.int .i64 5), .t 41]⟩, ⟨some 43, none, .pick (.t 36) (.t 42) (.c (.bool false))⟩, ⟨some 44, none, .mov (.t 43)⟩, ⟨some 45, (some (44, true)), .faddr 4 (.t 1)⟩, ⟨some 46, (some (44, true)), .load none (.t 45)⟩, ⟨some 47, (some (44, true)), .callr spec_WordOk [.t 46]⟩, ⟨some 48, none, .pick (.t 44) (.t 47) (.c (.bool false))⟩, ⟨some 49, none, .mov (.t 48)⟩, ⟨some 50, (some (49, true)), .mov (.t 3)⟩, ⟨some 51, (some (49, true)), .ari .and (.t 50) (.c (.int .i64 8))⟩, ⟨some 52, (some (49, true)), .cmp .neq (.t 51) (.c (.int .i64 0))⟩, ⟨some 53, (some (49, true)), .mov (.t 52)⟩, ⟨some 54, (some (53, false)), .faddr 4 (.t 1)⟩, ⟨some 55, (some (53, false)), .load none (.t 54)⟩, ⟨some 56, (some (53, false)), .cmp .eql (.t 55) (.c (.int .i64 0))⟩, ⟨some 57, (some (49, true)), .pick (.t 53) (.c (.bool true)) (.t 56)⟩, ⟨some 58, none, .pick (.t 49) (.t 57) (.c (.bool false))⟩, ⟨some 59, none, .mov (.t 58)⟩, ⟨some 60, (some (59, true)), .faddr 5 (.t 1)⟩, ⟨some 61, (some (59, true)), .load none (.t 60)⟩, ⟨some 62, (some (59, true)), .mov (.t 3)⟩, ⟨some 63, (some (59, true)), .ari .and (.t 62) (.c (.int .i64 16))⟩, ⟨some 64, (some (59, true)), .cmp .neq (.t 63) (.c (.int .i64 0))⟩, ⟨some 65, (some (59, true)), .callr spec_l2Field [.t 61, .c (.int .i64 60), .t 64]⟩, ⟨some 66, none, .pick (.t 59) (.t 65) (.c (.bool false))⟩, ⟨some 2, none, .mov (.t 66)⟩])
     (.ret)))))
def s_spec_InsOk : SFn := ⟨1, 67, c_spec_InsOk, [.t 2]⟩
/-- loop.example/g00286/laws.toLine -/
def c_laws_toLine : SCode :=
 .seq (.ops [⟨some 1, none, .vbox 8 (.t 0)⟩, ⟨some 2, none, .alloc [.v (.string ⟨#[]⟩), .v (.int .i64 0), .v (.int .i64 0), .v (.int .i64 0), .v (.int .i64 0), .v (.int .i64 0), .v (.int .i64 0), .v (.string ⟨#[]⟩)]⟩])
 (.seq (.ops [⟨some 3, none, .alloc [.v (.string ⟨#[]⟩), .v (.int .i64 0), .v (.int .i64 0), .v (.int .i64 0), .v (.int .i64 0), .v (.int .i64 0), .v (.int .i64 0), .v (.string ⟨#[]⟩)]⟩])
  (.seq (.ops [⟨some 4, none, .faddr 0 (.t 1)⟩, ⟨some 5, none, .load none (.t 4)⟩, ⟨some 6, none, .faddr 0 (.t 3)⟩, ⟨none, none, .store 1 (.t 6) (.t 5)⟩])
   (.seq (.ops [⟨some 7, none, .faddr 1 (.t 1)⟩, ⟨some 8, none, .load (some 6) (.t 7)⟩, ⟨some 9, none, .callr laws_toIns [.t 8]⟩, ⟨some 10, none, .faddr 1 (.t 3)⟩, ⟨none, none, .store 6 (.t 10) (.t 9)⟩])
    (.seq (.ops [⟨some 11, none, .faddr 7 (.t 1)⟩, ⟨some 12, none, .load none (.t 11)⟩, ⟨some 13, none, .faddr 7 (.t 3)⟩, ⟨none, none, .store 1 (.t 13) (.t 12)⟩])
     (.seq (.ops [⟨some 14, none, .load (some 8) (.t 3)⟩, ⟨none, none, .store 8 (.t 2) (.t 14)⟩])
      (.ret))))))
def s_laws_toLine : SFn := ⟨1, 15, c_laws_toLine, [.c 2 (some 8)]⟩
def b_impl_lineAt_0 : SCode :=
 .seq (.ops [⟨some 14, none, .cmp .lss (.t 13) (.t 12)⟩])
 (.seq (.cond (.t 14) (.skip)
   (.seq (.keep [6, 7]) (.exit 0)))
  (.seq (.block 1 (.seq (.ops [⟨some 15, none, .ixa 8 (.t 11) (.t 13)⟩, ⟨some 16, none, .load (some 8) (.t 15)⟩, ⟨some 10, none, .alloc [.v (.string ⟨#[]⟩), .v (.int .i64 0), .v (.int .i64 0), .v (.int .i64 0), .v (.int .i64 0), .v (.int .i64 0), .v (.int .i64 0), .v (.string ⟨#[]⟩)]⟩, ⟨none, none, .store 8 (.t 10) (.t 16)⟩])
     (.block 2 (.seq (.ops [⟨some 18, none, .faddr 0 (.t 10)⟩, ⟨some 19, none, .load none (.t 18)⟩, ⟨some 20, none, .cmp .eql (.t 19) (.c (.string ⟨#[]⟩))⟩, ⟨some 17, none, .mov (.t 20)⟩])
       (.cond (.t 17) (.ops [⟨some 21, none, .mov (.t 8)⟩, ⟨some 22, none, .ari .add (.t 21) (.c (.int .i64 1))⟩, ⟨some 8, none, .mov (.t 22)⟩])
        (.seq (.ops [⟨some 24, none, .faddr 0 (.t 10)⟩, ⟨some 25, none, .load none (.t 24)⟩, ⟨some 26, none, .mov (.t 1)⟩, ⟨some 27, none, .cmp .eql (.t 25) (.t 26)⟩, ⟨some 23, none, .mov (.t 27)⟩])
         (.cond (.t 23) (.seq (.seq (.ops [⟨some 28, none, .mov (.t 7)⟩, ⟨some 29, none, .cmp .eql (.t 28) (.c (.int .i64 0))⟩])
            (.cond (.t 29) (.ops [⟨some 30, none, .mov (.t 8)⟩, ⟨some 6, none, .mov (.t 30)⟩])
             (.skip)))
           (.ops [⟨some 31, none, .mov (.t 7)⟩, ⟨some 32, none, .ari .add (.t 31) (.c (.int .i64 1))⟩, ⟨some 7, none, .mov (.t 32)⟩]))
          (.skip))))))))
   (.ops [⟨some 33, none, .ari .add (.t 13) (.c (.int .i64 1))⟩, ⟨some 13, none, .mov (.t 33)⟩])))
/-- loop.example/g00286/impl.lineAt -/
def c_impl_lineAt : SCode :=
 .seq (.ops [⟨some 4, none, .mov (.c (.int .i64 0))⟩, ⟨some 5, none, .mov (.c (.bool false))⟩])
 (.seq (.ops [⟨some 6, none, .mov (.c (.int .i64 (-1)))⟩, ⟨some 7, none, .mov (.c (.int .i64 0))⟩, ⟨some 8, none, .mov (.c (.int .i64 0))⟩])
  (.seq (.seq (.ops [⟨some 11, none, .mov (.t 0)⟩, ⟨some 12, none, .len (.t 11)⟩, ⟨some 13, none, .mov (.c (.int .i64 0))⟩])
    (.block 0 (.loop [1, 6, 7, 8, 11, 12, 13] b_impl_lineAt_0)))
   (.seq (.ops [⟨some 34, none, .mov (.t 6)⟩, ⟨some 35, none, .mov (.t 7)⟩, ⟨some 36, none, .cmp .eql (.t 35) (.c (.int .i64 1))⟩, ⟨some 4, none, .mov (.t 34)⟩, ⟨some 5, none, .mov (.t 36)⟩])
    (.ret))))
def s_impl_lineAt : SFn := ⟨2, 37, c_impl_lineAt, [.t 4, .t 5]⟩
/-- slices.ContainsFunc[[]loop.example/g00286/impl.Ins,loop.example/g00286/impl.Ins] -/
def c_slices_ContainsFunc_impl_Ins_impl_Ins : SCode :=
 .seq (.ops [⟨some 4, none, .mov (.c (.bool false))⟩])
 (.seq (.ops [⟨some 5, none, .mov (.t 0)⟩, ⟨some 6, none, .mov (.t 1)⟩, ⟨some 7, none, .calli (.f slices_IndexFunc_impl_Ins_impl_Ins) [.t 5, .t 6]⟩, ⟨some 8, none, .cmp .geq (.t 7) (.c (.int .i64 0))⟩, ⟨some 4, none, .mov (.t 8)⟩])
  (.ret))
def s_slices_ContainsFunc_impl_Ins_impl_Ins : SFn := ⟨2, 9, c_slices_ContainsFunc_impl_Ins_impl_Ins, [.t 4]⟩
/-- loop.example/g00286/impl.Link$1 -/
def c_impl_Link_1 : SCode :=
 .seq (.ops [⟨some 1, none, .vbox 6 (.t 0)⟩, ⟨some 2, none, .mov (.c (.bool false))⟩])
 (.seq (.ops [⟨some 3, none, .load (some 6) (.t 1)⟩, ⟨some 4, none, .callr impl_InsOk [.t 3]⟩, ⟨some 5, none, .not (.t 4)⟩, ⟨some 2, none, .mov (.t 5)⟩])
  (.ret))
def s_impl_Link_1 : SFn := ⟨1, 6, c_impl_Link_1, [.t 2]⟩
def b_impl_InsOk_0 : SCode :=
 .seq (.ops [⟨some 17, none, .cmp .lss (.t 16) (.t 15)⟩])
 (.seq (.cond (.t 17) (.skip)
   (.seq (.keep [4, 5]) (.exit 0)))
  (.seq (.block 1 (.seq (.ops [⟨some 18, none, .mov (.t 16)⟩, ⟨some 6, none, .mov (.t 18)⟩])
     (.seq (.ops [⟨some 19, none, .mov (.t 3)⟩, ⟨some 20, none, .mov (.t 6)⟩, ⟨some 21, none, .ixs (.t 19) (.t 20)⟩])
      (.block 2 (.seq (.ops [⟨some 23, none, .cmp .eql (.t 21) (.c (.int .u8 82))⟩, ⟨some 22, none, .mov (.t 23)⟩])
        (.cond (.t 22) (.seq (.ops [⟨some 24, none, .mov (.t 5)⟩, ⟨some 25, none, .mov (.t 24)⟩, ⟨some 26, (some (25, true)), .faddr 1 (.t 1)⟩, ⟨some 27, (some (25, true)), .load none (.t 26)⟩, ⟨some 28, (some (25, true)), .callr impl_isReg [.t 27]⟩, ⟨some 29, none, .pick (.t 25) (.t 28) (.c (.bool false))⟩, ⟨some 5, none, .mov (.t 29)⟩])
          (.ops [⟨some 30, none, .faddr 1 (.t 4)⟩, ⟨none, none, .store 1 (.t 30) (.c (.int .i64 0))⟩]))
         (.seq (.ops [⟨some 32, none, .cmp .eql (.t 21) (.c (.int .u8 65))⟩, ⟨some 31, none, .mov (.t 32)⟩])
          (.cond (.t 31) (.seq (.ops [⟨some 33, none, .mov (.t 5)⟩, ⟨some 34, none, .mov (.t 33)⟩, ⟨some 35, (some (34, true)), .faddr 2 (.t 1)⟩, ⟨some 36, (some (34, true)), .load none (.t 35)⟩, ⟨some 37, (some (34, true)), .callr impl_isReg [.t 36]⟩, ⟨some 38, (some (34, true)), .mov (.t 37)⟩, ⟨some 39, (some (38, false)), .faddr 2 (.t 1)⟩, ⟨some 40, (some (38, false)), .load none (.t 39)⟩, ⟨some 41, (some (38, false)), .cmp .eql (.t 40) (.c (.int .i64 6))⟩, ⟨some 42, (some (38, false)), .mov (.t 41)⟩, ⟨some 43, (some (42, true)), .faddr 0 (.t 1)⟩, ⟨some 44, (some (42, true)), .load none (.t 43)⟩, ⟨some 45, (some (42, true)), .cmp .eql (.t 44) (.c (.int .i64 8))⟩, ⟨some 46, (some (42, true)), .mov (.t 45)⟩, ⟨some 47, (some (46, false)), .faddr 0 (.t 1)⟩, ⟨some 48, (some (46, false)), .load none (.t 47)⟩, ⟨some 49, (some (46, false)), .cmp .eql (.t 48) (.c (.int .i64 9))⟩, ⟨some 50, (some (42, true)), .pick (.t 46) (.c (.bool true)) (.t 49)⟩, ⟨some 51, (some (38, false)), .pick (.t 42) (.t 50) (.c (.bool false))⟩, ⟨some 52, (some (34, true)), .pick (.t 38) (.c (.bool true)) (.t 51)⟩, ⟨some 53, none, .pick (.t 34) (.t 52) (.c (.bool false))⟩, ⟨some 5, none, .mov (.t 53)⟩])
            (.ops [⟨some 54, none, .faddr 2 (.t 4)⟩, ⟨none, none, .store 1 (.t 54) (.c (.int .i64 0))⟩]))
           (.seq (.ops [⟨some 56, none, .cmp .eql (.t 21) (.c (.int .u8 66))⟩, ⟨some 55, none, .mov (.t 56)⟩])
            (.cond (.t 55) (.seq (.ops [⟨some 57, none, .mov (.t 5)⟩, ⟨some 58, none, .mov (.t 57)⟩, ⟨some 59, (some (58, true)), .faddr 3 (.t 1)⟩, ⟨some 60, (some (58, true)), .load none (.t 59)⟩, ⟨some 61, (some (58, true)), .callr impl_isReg [.t 60]⟩, ⟨some 62, none, .pick (.t 58) (.t 61) (.c (.bool false))⟩, ⟨some 5, none, .mov (.t 62)⟩])
              (.ops [⟨some 63, none, .faddr 3 (.t 4)⟩, ⟨none, none, .store 1 (.t 63) (.c (.int .i64 0))⟩]))
             (.seq (.ops [⟨some 65, none, .cmp .eql (.t 21) (.c (.int .u8 78))⟩, ⟨some 64, none, .mov (.t 65)⟩])
              (.cond (.t 64) (.seq (.ops [⟨some 66, none, .mov (.t 5)⟩, ⟨some 67, none, .mov (.t 66)⟩, ⟨some 68, (some (67, true)), .faddr 4 (.t 1)⟩, ⟨some 69, (some (67, true)), .load none (.t 68)⟩, ⟨some 70, (some (67, true)), .callr impl_WordOk [.t 69]⟩, ⟨some 71, none, .pick (.t 67) (.t 70) (.c (.bool false))⟩, ⟨some 5, none, .mov (.t 71)⟩])
                (.ops [⟨some 72, none, .faddr 4 (.t 4)⟩, ⟨none, none, .store 1 (.t 72) (.c (.int .i64 0))⟩]))
               (.seq (.ops [⟨some 74, none, .cmp .eql (.t 21) (.c (.int .u8 77))⟩, ⟨some 73, none, .mov (.t 74)⟩])
                (.cond (.t 73) (.seq (.ops [⟨some 75, none, .mov (.t 5)⟩, ⟨some 76, none, .mov (.t 75)⟩, ⟨some 77, (some (76, true)), .faddr 5 (.t 1)⟩, ⟨some 78, (some (76, true)), .load none (.t 77)⟩, ⟨some 79, (some (76, true)), .callr impl_within [.t 78, .c (.int .i64 0), .c (.int .i64 60)]⟩, ⟨some 80, none, .pick (.t 76) (.t 79) (.c (.bool false))⟩, ⟨some 5, none, .mov (.t 80)⟩])
                  (.ops [⟨some 81, none, .faddr 5 (.t 4)⟩, ⟨none, none, .store 1 (.t 81) (.c (.int .i64 0))⟩]))
                 (.skip)))))))))))))))
   (.ops [⟨some 82, none, .ari .add (.t 16) (.c (.int .i64 1))⟩, ⟨some 16, none, .mov (.t 82)⟩])))
/-- loop.example/g00286/impl.InsOk -/
def c_impl_InsOk : SCode :=
 .seq (.ops [⟨some 1, none, .vbox 6 (.t 0)⟩, ⟨some 2, none, .mov (.c (.bool false))⟩])
 (.seq (.ops [⟨some 7, none, .faddr 0 (.t 1)⟩, ⟨some 8, none, .load none (.t 7)⟩, ⟨some 9, none, .callr impl_has [.t 8]⟩, ⟨some 3, none, .mov (.t 9)⟩])
  (.seq (.ops [⟨some 10, none, .load (some 6) (.t 1)⟩, ⟨some 4, none, .alloc [.v (.int .i64 0), .v (.int .i64 0), .v (.int .i64 0), .v (.int .i64 0), .v (.int .i64 0), .v (.int .i64 0)]⟩, ⟨none, none, .store 6 (.t 4) (.t 10)⟩])
   (.seq (.ops [⟨some 11, none, .faddr 0 (.t 4)⟩, ⟨none, none, .store 1 (.t 11) (.c (.int .i64 0))⟩])
    (.seq (.ops [⟨some 12, none, .mov (.t 3)⟩, ⟨some 13, none, .cmp .neq (.t 12) (.c (.string ⟨#[]⟩))⟩, ⟨some 5, none, .mov (.t 13)⟩])
     (.seq (.seq (.ops [⟨some 14, none, .mov (.t 3)⟩, ⟨some 15, none, .slen (.t 14)⟩, ⟨some 16, none, .mov (.c (.int .i64 0))⟩])
       (.block 0 (.loop [1, 3, 4, 5, 15, 16] b_impl_InsOk_0)))
      (.seq (.ops [⟨some 83, none, .mov (.t 5)⟩, ⟨some 84, none, .mov (.t 83)⟩, ⟨some 85, (some (84, true)), .load (some 6) (.t 4)⟩, ⟨some 86, (some (84, true)), .build [.v (.int .i64 0), .v (.int .i64 0), .v (.int .i64 0), .v (.int .i64 0), .v (.int .i64 0), .v (.int .i64 0)] []⟩, ⟨some 87, (some (84, true)), .eqa false 6 (.t 85) (.t 86)⟩, ⟨some 88, none, .pick (.t 84) (.t 87) (.c (.bool false))⟩, ⟨some 2, none, .mov (.t 88)⟩])
       (.ret)))))))
def s_impl_InsOk : SFn := ⟨1, 89, c_impl_InsOk, [.t 2]⟩
/-- loop.example/g00286/laws.eqIns -/
def c_laws_eqIns : SCode :=
 .seq (.ops [⟨some 2, none, .vbox 6 (.t 0)⟩, ⟨some 3, none, .vbox 6 (.t 1)⟩, ⟨some 4, none, .mov (.c (.bool false))⟩])
 (.seq (.seq (.ops [⟨some 5, none, .faddr 0 (.t 2)⟩, ⟨some 6, none, .load none (.t 5)⟩, ⟨some 7, none, .faddr 0 (.t 3)⟩, ⟨some 8, none, .load none (.t 7)⟩, ⟨some 9, none, .cmp .neq (.t 6) (.t 8)⟩])
   (.cond (.t 9) (.seq (.ops [⟨some 4, none, .mov (.c (.bool false))⟩])
     (.ret))
    (.skip)))
  (.seq (.seq (.ops [⟨some 10, none, .faddr 1 (.t 2)⟩, ⟨some 11, none, .load none (.t 10)⟩, ⟨some 12, none, .faddr 1 (.t 3)⟩, ⟨some 13, none, .load none (.t 12)⟩, ⟨some 14, none, .cmp .neq (.t 11) (.t 13)⟩])
    (.cond (.t 14) (.seq (.ops [⟨some 4, none, .mov (.c (.bool false))⟩])
      (.ret))
     (.skip)))
   (.seq (.seq (.ops [⟨some 15, none, .faddr 2 (.t 2)⟩, ⟨some 16, none, .load none (.t 15)⟩, ⟨some 17, none, .faddr 2 (.t 3)⟩, ⟨some 18, none, .load none (.t 17)⟩, ⟨some 19, none, .cmp .neq (.t 16) (.t 18)⟩])
     (.cond (.t 19) (.seq (.ops [⟨some 4, none, .mov (.c (.bool false))⟩])
       (.ret))
      (.skip)))
    (.seq (.seq (.ops [⟨some 20, none, .faddr 3 (.t 2)⟩, ⟨some 21, none, .load none (.t 20)⟩, ⟨some 22, none, .faddr 3 (.t 3)⟩, ⟨some 23, none, .load none (.t 22)⟩, ⟨some 24, none, .cmp .neq (.t 21) (.t 23)⟩])
      (.cond (.t 24) (.seq (.ops [⟨some 4, none, .mov (.c (.bool false))⟩])
        (.ret))
       (.skip)))
     (.seq (.seq (.ops [⟨some 25, none, .faddr 4 (.t 2)⟩, ⟨some 26, none, .load none (.t 25)⟩, ⟨some 27, none, .faddr 4 (.t 3)⟩, ⟨some 28, none, .load none (.t 27)⟩, ⟨some 29, none, .cmp .neq (.t 26) (.t 28)⟩])
       (.cond (.t 29) (.seq (.ops [⟨some 4, none, .mov (.c (.bool false))⟩])
         (.ret))
        (.skip)))
      (.seq (.seq (.ops [⟨some 30, none, .faddr 5 (.t 2)⟩, ⟨some 31, none, .load none (.t 30)⟩, ⟨some 32, none, .faddr 5 (.t 3)⟩, ⟨some 33, none, .load none (.t 32)⟩, ⟨some 34, none, .cmp .neq (.t 31) (.t 33)⟩])
        (.cond (.t 34) (.seq (.ops [⟨some 4, none, .mov (.c (.bool false))⟩])
          (.ret))
         (.skip)))
       (.seq (.ops [⟨some 4, none, .mov (.c (.bool true))⟩])
        (.ret))))))))
def s_laws_eqIns : SFn := ⟨2, 35, c_laws_eqIns, [.t 4]⟩
/-- loop.example/g00286/laws.eqLine -/
def c_laws_eqLine : SCode :=
 .seq (.ops [⟨some 2, none, .vbox 8 (.t 0)⟩, ⟨some 3, none, .vbox 8 (.t 1)⟩, ⟨some 4, none, .mov (.c (.bool false))⟩])
 (.seq (.seq (.ops [⟨some 5, none, .faddr 0 (.t 2)⟩, ⟨some 6, none, .load none (.t 5)⟩, ⟨some 7, none, .faddr 0 (.t 3)⟩, ⟨some 8, none, .load none (.t 7)⟩, ⟨some 9, none, .cmp .neq (.t 6) (.t 8)⟩])
   (.cond (.t 9) (.seq (.ops [⟨some 4, none, .mov (.c (.bool false))⟩])
     (.ret))
    (.skip)))
  (.seq (.seq (.ops [⟨some 10, none, .faddr 1 (.t 2)⟩, ⟨some 11, none, .load (some 6) (.t 10)⟩, ⟨some 12, none, .faddr 1 (.t 3)⟩, ⟨some 13, none, .load (some 6) (.t 12)⟩, ⟨some 14, none, .callr laws_eqIns [.t 11, .t 13]⟩, ⟨some 15, none, .not (.t 14)⟩])
    (.cond (.t 15) (.seq (.ops [⟨some 4, none, .mov (.c (.bool false))⟩])
      (.ret))
     (.skip)))
   (.seq (.seq (.ops [⟨some 16, none, .faddr 7 (.t 2)⟩, ⟨some 17, none, .load none (.t 16)⟩, ⟨some 18, none, .faddr 7 (.t 3)⟩, ⟨some 19, none, .load none (.t 18)⟩, ⟨some 20, none, .cmp .neq (.t 17) (.t 19)⟩])
     (.cond (.t 20) (.seq (.ops [⟨some 4, none, .mov (.c (.bool false))⟩])
       (.ret))
      (.skip)))
    (.seq (.ops [⟨some 4, none, .mov (.c (.bool true))⟩])
     (.ret)))))
def s_laws_eqLine : SFn := ⟨2, 21, c_laws_eqLine, [.t 4]⟩
def b_laws_markText_0 : SCode :=
 .seq (.seq (.ops [⟨some 6, none, .mov (.t 0)⟩, ⟨some 7, none, .cmp .gtr (.t 6) (.c (.int .i64 0))⟩])
  (.cond (.t 7) (.skip)
   (.seq (.keep [3]) (.exit 0))))
 (.block 1 (.seq (.ops [⟨some 8, none, .mov (.t 0)⟩, ⟨some 9, none, .ari .rem (.t 8) (.c (.int .i64 10))⟩, ⟨some 10, none, .ari .add (.c (.int .i64 48)) (.t 9)⟩, ⟨some 11, none, .conv .u8 (.t 10)⟩, ⟨some 12, none, .lit 1 [.t 11]⟩, ⟨some 13, none, .sob (.t 12)⟩, ⟨some 14, none, .mov (.t 3)⟩, ⟨some 15, none, .cat (.t 13) (.t 14)⟩, ⟨some 3, none, .mov (.t 15)⟩])
   (.ops [⟨some 16, none, .mov (.t 0)⟩, ⟨some 17, none, .ari .quo (.t 16) (.c (.int .i64 10))⟩, ⟨some 0, none, .mov (.t 17)⟩])))
/-- loop.example/g00286/laws.markText -/
def c_laws_markText : SCode :=
 .seq (.ops [⟨some 2, none, .mov (.c (.string ⟨#[]⟩))⟩])
 (.seq (.seq (.ops [⟨some 4, none, .mov (.t 0)⟩, ⟨some 5, none, .cmp .leq (.t 4) (.c (.int .i64 0))⟩])
   (.cond (.t 5) (.seq (.ops [⟨some 2, none, .mov (.c (.string ⟨#[109, 48]⟩))⟩])
     (.ret))
    (.skip)))
  (.seq (.ops [⟨some 3, none, .mov (.c (.string ⟨#[]⟩))⟩])
   (.seq (.block 0 (.loop [0, 3] b_laws_markText_0))
    (.seq (.ops [⟨some 18, none, .mov (.t 3)⟩, ⟨some 19, none, .cat (.c (.string ⟨#[109]⟩)) (.t 18)⟩, ⟨some 2, none, .mov (.t 19)⟩])
     (.ret)))))
def s_laws_markText : SFn := ⟨1, 20, c_laws_markText, [.t 2]⟩
/-- loop.example/g00286/spec.l1In -/
def c_spec_l1In : SCode :=
 .seq (.ops [⟨some 6, none, .mov (.c (.bool false))⟩])
 (.seq (.ops [⟨some 7, none, .mov (.t 0)⟩, ⟨some 8, none, .mov (.t 1)⟩, ⟨some 9, none, .cmp .geq (.t 7) (.t 8)⟩, ⟨some 10, none, .mov (.t 9)⟩, ⟨some 11, (some (10, true)), .mov (.t 0)⟩, ⟨some 12, (some (10, true)), .mov (.t 2)⟩, ⟨some 13, (some (10, true)), .cmp .leq (.t 11) (.t 12)⟩, ⟨some 14, none, .pick (.t 10) (.t 13) (.c (.bool false))⟩, ⟨some 6, none, .mov (.t 14)⟩])
  (.ret))
def s_spec_l1In : SFn := ⟨3, 15, c_spec_l1In, [.t 6]⟩
/-- loop.example/g00286/laws.toIns -/
def c_laws_toIns : SCode :=
 .seq (.ops [⟨some 1, none, .vbox 6 (.t 0)⟩, ⟨some 2, none, .alloc [.v (.int .i64 0), .v (.int .i64 0), .v (.int .i64 0), .v (.int .i64 0), .v (.int .i64 0), .v (.int .i64 0)]⟩])
 (.seq (.ops [⟨some 3, none, .alloc [.v (.int .i64 0), .v (.int .i64 0), .v (.int .i64 0), .v (.int .i64 0), .v (.int .i64 0), .v (.int .i64 0)]⟩])
  (.seq (.ops [⟨some 4, none, .faddr 0 (.t 1)⟩, ⟨some 5, none, .load none (.t 4)⟩, ⟨some 6, none, .faddr 0 (.t 3)⟩, ⟨none, none, .store 1 (.t 6) (.t 5)⟩])
   (.seq (.ops [⟨some 7, none, .faddr 1 (.t 1)⟩, ⟨some 8, none, .load none (.t 7)⟩, ⟨some 9, none, .faddr 1 (.t 3)⟩, ⟨none, none, .store 1 (.t 9) (.t 8)⟩])
    (.seq (.ops [⟨some 10, none, .faddr 2 (.t 1)⟩, ⟨some 11, none, .load none (.t 10)⟩, ⟨some 12, none, .faddr 2 (.t 3)⟩, ⟨none, none, .store 1 (.t 12) (.t 11)⟩])
     (.seq (.ops [⟨some 13, none, .faddr 3 (.t 1)⟩, ⟨some 14, none, .load none (.t 13)⟩, ⟨some 15, none, .faddr 3 (.t 3)⟩, ⟨none, none, .store 1 (.t 15) (.t 14)⟩])
      (.seq (.ops [⟨some 16, none, .faddr 4 (.t 1)⟩, ⟨some 17, none, .load none (.t 16)⟩, ⟨some 18, none, .faddr 4 (.t 3)⟩, ⟨none, none, .store 1 (.t 18) (.t 17)⟩])
       (.seq (.ops [⟨some 19, none, .faddr 5 (.t 1)⟩, ⟨some 20, none, .load none (.t 19)⟩, ⟨some 21, none, .faddr 5 (.t 3)⟩, ⟨none, none, .store 1 (.t 21) (.t 20)⟩])
        (.seq (.ops [⟨some 22, none, .load (some 6) (.t 3)⟩, ⟨none, none, .store 6 (.t 2) (.t 22)⟩])
         (.ret)))))))))
def s_laws_toIns : SFn := ⟨1, 23, c_laws_toIns, [.c 2 (some 6)]⟩
/-- loop.example/g00286/impl.within -/
def c_impl_within : SCode :=
 .seq (.ops [⟨some 6, none, .mov (.c (.bool false))⟩])
 (.seq (.ops [⟨some 7, none, .mov (.t 0)⟩, ⟨some 8, none, .mov (.t 1)⟩, ⟨some 9, none, .cmp .geq (.t 7) (.t 8)⟩, ⟨some 10, none, .mov (.t 9)⟩, ⟨some 11, (some (10, true)), .mov (.t 0)⟩, ⟨some 12, (some (10, true)), .mov (.t 2)⟩, ⟨some 13, (some (10, true)), .cmp .leq (.t 11) (.t 12)⟩, ⟨some 14, none, .pick (.t 10) (.t 13) (.c (.bool false))⟩, ⟨some 6, none, .mov (.t 14)⟩])
  (.ret))
def s_impl_within : SFn := ⟨3, 15, c_impl_within, [.t 6]⟩
/-- loop.example/g00286/spec.l2Has -/
def c_spec_l2Has : SCode :=
 .seq (.ops [⟨some 2, none, .mov (.c (.int .i64 0))⟩])
 (.seq (.seq (.ops [⟨some 3, none, .mov (.t 0)⟩, ⟨some 4, none, .callr spec_l1In [.t 3, .c (.int .i64 1), .c (.int .i64 19)]⟩, ⟨some 5, none, .not (.t 4)⟩])
   (.cond (.t 5) (.seq (.ops [⟨some 2, none, .mov (.c (.int .i64 0))⟩])
     (.ret))
    (.skip)))
  (.seq (.ops [⟨some 6, none, .lit 1 [.c (.int .i64 0), .c (.int .i64 9), .c (.int .i64 3), .c (.int .i64 7), .c (.int .i64 7), .c (.int .i64 7), .c (.int .i64 7), .c (.int .i64 7), .c (.int .i64 11), .c (.int .i64 14), .c (.int .i64 7), .c (.int .i64 8), .c (.int .i64 10), .c (.int .i64 24), .c (.int .i64 0), .c (.int .i64 2), .c (.int .i64 6), .c (.int .i64 6), .c (.int .i64 1), .c (.int .i64 2)]⟩, ⟨some 7, none, .mov (.t 0)⟩, ⟨some 8, none, .ixa 1 (.t 6) (.t 7)⟩, ⟨some 9, none, .load none (.t 8)⟩, ⟨some 2, none, .mov (.t 9)⟩])
   (.ret)))
def s_spec_l2Has : SFn := ⟨1, 10, c_spec_l2Has, [.t 2]⟩
/-- loop.example/g00286/spec.l2Field -/
def c_spec_l2Field : SCode :=
 .seq (.ops [⟨some 6, none, .mov (.c (.bool false))⟩])
 (.seq (.ops [⟨some 7, none, .mov (.t 0)⟩, ⟨some 8, none, .mov (.t 1)⟩, ⟨some 9, none, .callr spec_l1In [.t 7, .c (.int .i64 0), .t 8]⟩, ⟨some 10, none, .mov (.t 9)⟩, ⟨some 11, (some (10, true)), .mov (.t 2)⟩, ⟨some 12, (some (10, true)), .mov (.t 11)⟩, ⟨some 13, (some (12, false)), .mov (.t 0)⟩, ⟨some 14, (some (12, false)), .cmp .eql (.t 13) (.c (.int .i64 0))⟩, ⟨some 15, (some (10, true)), .pick (.t 12) (.c (.bool true)) (.t 14)⟩, ⟨some 16, none, .pick (.t 10) (.t 15) (.c (.bool false))⟩, ⟨some 6, none, .mov (.t 16)⟩])
  (.ret))
def s_spec_l2Field : SFn := ⟨3, 17, c_spec_l2Field, [.t 6]⟩
/-- loop.example/g00286/spec.WordOk -/
def c_spec_WordOk : SCode :=
 .seq (.ops [⟨some 2, none, .mov (.c (.bool false))⟩])
 (.seq (.ops [⟨some 3, none, .mov (.t 0)⟩, ⟨some 4, none, .callr spec_l1In [.t 3, .c (.int .i64 (-2147483648)), .c (.int .i64 2147483647)]⟩, ⟨some 2, none, .mov (.t 4)⟩])
  (.ret))
def s_spec_WordOk : SFn := ⟨1, 5, c_spec_WordOk, [.t 2]⟩
def b_slices_IndexFunc_impl_Ins_impl_Ins_0 : SCode :=
 .seq (.ops [⟨some 9, none, .cmp .lss (.t 8) (.t 7)⟩])
 (.seq (.cond (.t 9) (.skip)
   (.seq (.keep []) (.exit 0)))
  (.seq (.block 1 (.seq (.ops [⟨some 10, none, .mov (.t 8)⟩, ⟨some 5, none, .mov (.t 10)⟩])
     (.seq (.ops [⟨some 11, none, .mov (.t 1)⟩, ⟨some 12, none, .mov (.t 0)⟩, ⟨some 13, none, .mov (.t 5)⟩, ⟨some 14, none, .ixa 6 (.t 12) (.t 13)⟩, ⟨some 15, none, .load (some 6) (.t 14)⟩, ⟨some 16, none, .calli (.t 11) [.t 15]⟩])
      (.cond (.t 16) (.seq (.ops [⟨some 17, none, .mov (.t 5)⟩, ⟨some 4, none, .mov (.t 17)⟩])
        (.seq (.keep [4]) .ret))
       (.skip)))))
   (.ops [⟨some 18, none, .ari .add (.t 8) (.c (.int .i64 1))⟩, ⟨some 8, none, .mov (.t 18)⟩])))
/-- slices.IndexFunc[[]loop.example/g00286/impl.Ins,loop.example/g00286/impl.Ins] -/
def c_slices_IndexFunc_impl_Ins_impl_Ins : SCode :=
 .seq (.ops [⟨some 4, none, .mov (.c (.int .i64 0))⟩])
 (.seq (.seq (.ops [⟨some 6, none, .mov (.t 0)⟩, ⟨some 7, none, .len (.t 6)⟩, ⟨some 8, none, .mov (.c (.int .i64 0))⟩])
   (.block 0 (.loop [0, 1, 7, 8] b_slices_IndexFunc_impl_Ins_impl_Ins_0)))
  (.seq (.ops [⟨some 4, none, .mov (.c (.int .i64 (-1)))⟩])
   (.ret)))
def s_slices_IndexFunc_impl_Ins_impl_Ins : SFn := ⟨2, 19, c_slices_IndexFunc_impl_Ins_impl_Ins, [.t 4]⟩
/-- loop.example/g00286/impl.has -/
def c_impl_has : SCode :=
 .seq (.ops [⟨some 2, none, .mov (.c (.string ⟨#[]⟩))⟩])
 (.seq (.seq (.ops [⟨some 3, none, .mov (.t 0)⟩])
   (.block 0 (.seq (.ops [⟨some 5, none, .cmp .eql (.t 3) (.c (.int .i64 1))⟩, ⟨some 4, none, .mov (.t 5)⟩])
     (.cond (.t 4) (.seq (.ops [⟨some 2, none, .mov (.c (.string ⟨#[82, 78]⟩))⟩])
       (.ret))
      (.seq (.ops [⟨some 7, none, .cmp .eql (.t 3) (.c (.int .i64 2))⟩, ⟨some 6, none, .mov (.t 7)⟩])
       (.cond (.t 6) (.seq (.ops [⟨some 2, none, .mov (.c (.string ⟨#[82, 65]⟩))⟩])
         (.ret))
        (.seq (.seq (.ops [⟨some 9, none, .cmp .eql (.t 3) (.c (.int .i64 3))⟩, ⟨some 8, none, .mov (.t 9)⟩])
          (.cond (.t 8) (.skip)
           (.seq (.ops [⟨some 10, none, .cmp .eql (.t 3) (.c (.int .i64 4))⟩, ⟨some 8, none, .mov (.t 10)⟩])
            (.cond (.t 8) (.skip)
             (.seq (.ops [⟨some 11, none, .cmp .eql (.t 3) (.c (.int .i64 5))⟩, ⟨some 8, none, .mov (.t 11)⟩])
              (.cond (.t 8) (.skip)
               (.seq (.ops [⟨some 12, none, .cmp .eql (.t 3) (.c (.int .i64 6))⟩, ⟨some 8, none, .mov (.t 12)⟩])
                (.cond (.t 8) (.skip)
                 (.seq (.ops [⟨some 13, none, .cmp .eql (.t 3) (.c (.int .i64 7))⟩, ⟨some 8, none, .mov (.t 13)⟩])
                  (.cond (.t 8) (.skip)
                   (.ops [⟨some 14, none, .cmp .eql (.t 3) (.c (.int .i64 10))⟩, ⟨some 8, none, .mov (.t 14)⟩])))))))))))
         (.cond (.t 8) (.seq (.ops [⟨some 2, none, .mov (.c (.string ⟨#[82, 65, 66]⟩))⟩])
           (.ret))
          (.seq (.ops [⟨some 16, none, .cmp .eql (.t 3) (.c (.int .i64 8))⟩, ⟨some 15, none, .mov (.t 16)⟩])
           (.cond (.t 15) (.seq (.ops [⟨some 2, none, .mov (.c (.string ⟨#[82, 65, 78]⟩))⟩])
             (.ret))
            (.seq (.ops [⟨some 18, none, .cmp .eql (.t 3) (.c (.int .i64 9))⟩, ⟨some 17, none, .mov (.t 18)⟩])
             (.cond (.t 17) (.seq (.ops [⟨some 2, none, .mov (.c (.string ⟨#[65, 66, 78]⟩))⟩])
               (.ret))
              (.seq (.ops [⟨some 20, none, .cmp .eql (.t 3) (.c (.int .i64 11))⟩, ⟨some 19, none, .mov (.t 20)⟩])
               (.cond (.t 19) (.seq (.ops [⟨some 2, none, .mov (.c (.string ⟨#[78]⟩))⟩])
                 (.ret))
                (.seq (.ops [⟨some 22, none, .cmp .eql (.t 3) (.c (.int .i64 12))⟩, ⟨some 21, none, .mov (.t 22)⟩])
                 (.cond (.t 21) (.seq (.ops [⟨some 2, none, .mov (.c (.string ⟨#[65, 78]⟩))⟩])
                   (.ret))
                  (.seq (.ops [⟨some 24, none, .cmp .eql (.t 3) (.c (.int .i64 13))⟩, ⟨some 23, none, .mov (.t 24)⟩])
                   (.cond (.t 23) (.seq (.ops [⟨some 2, none, .mov (.c (.string ⟨#[78, 77]⟩))⟩])
                     (.ret))
                    (.seq (.ops [⟨some 26, none, .cmp .eql (.t 3) (.c (.int .i64 14))⟩, ⟨some 25, none, .mov (.t 26)⟩])
                     (.cond (.t 25) (.seq (.ops [⟨some 2, none, .mov (.c (.string ⟨#[45]⟩))⟩])
                       (.ret))
                      (.seq (.seq (.ops [⟨some 28, none, .cmp .eql (.t 3) (.c (.int .i64 15))⟩, ⟨some 27, none, .mov (.t 28)⟩])
                        (.cond (.t 27) (.skip)
                         (.ops [⟨some 29, none, .cmp .eql (.t 3) (.c (.int .i64 19))⟩, ⟨some 27, none, .mov (.t 29)⟩])))
                       (.cond (.t 27) (.seq (.ops [⟨some 2, none, .mov (.c (.string ⟨#[65]⟩))⟩])
                         (.ret))
                        (.seq (.seq (.ops [⟨some 31, none, .cmp .eql (.t 3) (.c (.int .i64 16))⟩, ⟨some 30, none, .mov (.t 31)⟩])
                          (.cond (.t 30) (.skip)
                           (.ops [⟨some 32, none, .cmp .eql (.t 3) (.c (.int .i64 17))⟩, ⟨some 30, none, .mov (.t 32)⟩])))
                         (.cond (.t 30) (.seq (.ops [⟨some 2, none, .mov (.c (.string ⟨#[65, 66]⟩))⟩])
                           (.ret))
                          (.seq (.ops [⟨some 34, none, .cmp .eql (.t 3) (.c (.int .i64 18))⟩, ⟨some 33, none, .mov (.t 34)⟩])
                           (.cond (.t 33) (.seq (.ops [⟨some 2, none, .mov (.c (.string ⟨#[82]⟩))⟩])
                             (.ret))
                            (.skip)))))))))))))))))))))))))))
  (.seq (.ops [⟨some 2, none, .mov (.c (.string ⟨#[]⟩))⟩])
   (.ret)))
def s_impl_has : SFn := ⟨1, 35, c_impl_has, [.t 2]⟩
/-- loop.example/g00286/impl.isReg -/
def c_impl_isReg : SCode :=
 .seq (.ops [⟨some 2, none, .mov (.c (.bool false))⟩])
 (.seq (.ops [⟨some 3, none, .mov (.t 0)⟩, ⟨some 4, none, .callr impl_within [.t 3, .c (.int .i64 0), .c (.int .i64 5)]⟩, ⟨some 2, none, .mov (.t 4)⟩])
  (.ret))
def s_impl_isReg : SFn := ⟨1, 5, c_impl_isReg, [.t 2]⟩
/-- loop.example/g00286/impl.WordOk -/
def c_impl_WordOk : SCode :=
 .seq (.ops [⟨some 2, none, .mov (.c (.bool false))⟩])
 (.seq (.ops [⟨some 3, none, .mov (.t 0)⟩, ⟨some 4, none, .callr impl_within [.t 3, .c (.int .i64 (-2147483648)), .c (.int .i64 2147483647)]⟩, ⟨some 2, none, .mov (.t 4)⟩])
  (.ret))
def s_impl_WordOk : SFn := ⟨1, 5, c_impl_WordOk, [.t 2]⟩
def tabL0 : List (Nat × SFn) := [(3, s_laws_FnExactLink), (9, s_laws_szLineS), (10, s_spec_Link), (11, s_laws_toLineS), (12, s_impl_Link), (13, s_laws_eqInsS), (14, s_laws_eqLineS), (15, s_laws_markLineS), (16, s_laws_markInsS), (17, s_laws_heldInsS), (46, s_laws_szLine), (47, s_spec_l24Twice), (48, s_spec_PlaceOf), (49, s_spec_InsOk), (50, s_laws_toLine), (51, s_impl_lineAt), (52, s_slices_ContainsFunc_impl_Ins_impl_Ins), (53, s_impl_Link_1), (54, s_impl_InsOk), (55, s_laws_eqIns), (56, s_laws_eqLine), (57, s_laws_markText), (73, s_spec_l1In), (74, s_laws_toIns), (75, s_impl_within), (120, s_spec_l2Has), (121, s_spec_l2Field), (122, s_spec_WordOk), (123, s_slices_IndexFunc_impl_Ins_impl_Ins), (124, s_impl_has), (125, s_impl_isReg), (126, s_impl_WordOk)]
def tabL : List (Nat × SFn) := tabL0
def tab (f : Nat) : Option SFn := (tabL.find? fun p => p.1 == f).map fun p => p.2
theorem t_laws_FnExactLink : tab laws_FnExactLink = some s_laws_FnExactLink := rfl
theorem t_laws_szLineS : tab laws_szLineS = some s_laws_szLineS := rfl
theorem t_spec_Link : tab spec_Link = some s_spec_Link := rfl
theorem t_laws_toLineS : tab laws_toLineS = some s_laws_toLineS := rfl
theorem t_impl_Link : tab impl_Link = some s_impl_Link := rfl
theorem t_laws_eqInsS : tab laws_eqInsS = some s_laws_eqInsS := rfl
theorem t_laws_eqLineS : tab laws_eqLineS = some s_laws_eqLineS := rfl
theorem t_laws_markLineS : tab laws_markLineS = some s_laws_markLineS := rfl
theorem t_laws_markInsS : tab laws_markInsS = some s_laws_markInsS := rfl
theorem t_laws_heldInsS : tab laws_heldInsS = some s_laws_heldInsS := rfl
theorem t_laws_szLine : tab laws_szLine = some s_laws_szLine := rfl
theorem t_spec_l24Twice : tab spec_l24Twice = some s_spec_l24Twice := rfl
theorem t_spec_PlaceOf : tab spec_PlaceOf = some s_spec_PlaceOf := rfl
theorem t_spec_InsOk : tab spec_InsOk = some s_spec_InsOk := rfl
theorem t_laws_toLine : tab laws_toLine = some s_laws_toLine := rfl
theorem t_impl_lineAt : tab impl_lineAt = some s_impl_lineAt := rfl
theorem t_slices_ContainsFunc_impl_Ins_impl_Ins : tab slices_ContainsFunc_impl_Ins_impl_Ins = some s_slices_ContainsFunc_impl_Ins_impl_Ins := rfl
theorem t_impl_Link_1 : tab impl_Link_1 = some s_impl_Link_1 := rfl
theorem t_impl_InsOk : tab impl_InsOk = some s_impl_InsOk := rfl
theorem t_laws_eqIns : tab laws_eqIns = some s_laws_eqIns := rfl
theorem t_laws_eqLine : tab laws_eqLine = some s_laws_eqLine := rfl
theorem t_laws_markText : tab laws_markText = some s_laws_markText := rfl
theorem t_spec_l1In : tab spec_l1In = some s_spec_l1In := rfl
theorem t_laws_toIns : tab laws_toIns = some s_laws_toIns := rfl
theorem t_impl_within : tab impl_within = some s_impl_within := rfl
theorem t_spec_l2Has : tab spec_l2Has = some s_spec_l2Has := rfl
theorem t_spec_l2Field : tab spec_l2Field = some s_spec_l2Field := rfl
theorem t_spec_WordOk : tab spec_WordOk = some s_spec_WordOk := rfl
theorem t_slices_IndexFunc_impl_Ins_impl_Ins : tab slices_IndexFunc_impl_Ins_impl_Ins = some s_slices_IndexFunc_impl_Ins_impl_Ins := rfl
theorem t_impl_has : tab impl_has = some s_impl_has := rfl
theorem t_impl_isReg : tab impl_isReg = some s_impl_isReg := rfl
theorem t_impl_WordOk : tab impl_WordOk = some s_impl_WordOk := rfl
end Go.Ev.G
