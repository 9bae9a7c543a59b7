/- The slim code of the functions that the statements of this cut reach: written by gen.py. Not trusted: YtcoigakalblkgaaEvChk.lean checks it against the given program. -/
import Derived.Test.YtcoigakalblkgaaEvRow
namespace Go.Ev.G
set_option linter.all false
abbrev laws_FnExactJoin : Nat := 7
abbrev laws_szUnit : Nat := 34
abbrev spec_Join : Nat := 35
abbrev laws_toUnit : Nat := 36
abbrev impl_Join : Nat := 37
abbrev laws_eqUnit : Nat := 38
abbrev laws_markUnit : Nat := 39
abbrev laws_heldUnit : Nat := 40
abbrev laws_markText : Nat := 57
abbrev laws_szIntS : Nat := 58
abbrev laws_toIntS : Nat := 64
abbrev laws_eqIntS : Nat := 70
abbrev spec_l1In : Nat := 73
abbrev impl_within : Nat := 75
abbrev laws_markIntS : Nat := 76
abbrev laws_heldIntS : Nat := 79
abbrev laws_szTacS : Nat := 93
abbrev spec_UnitOk : Nat := 94
abbrev spec_l10Copy : Nat := 95
abbrev spec_l20Place : Nat := 96
abbrev laws_toTacS : Nat := 97
abbrev impl_copyUnit : Nat := 98
abbrev impl_UnitOk : Nat := 99
abbrev impl_joiner_place : Nat := 100
abbrev laws_eqTacS : Nat := 101
abbrev laws_markTacS : Nat := 102
abbrev laws_heldTacS : Nat := 103
abbrev spec_WordOk : Nat := 122
abbrev impl_WordOk : Nat := 126
abbrev laws_szTac : Nat := 147
abbrev spec_l1Min : Nat := 148
abbrev spec_l10Place : Nat := 149
abbrev spec_l10Label : Nat := 150
abbrev spec_l10Code : Nat := 151
abbrev spec_l20New : Nat := 152
abbrev spec_l20Go : Nat := 153
abbrev spec_l20Call : Nat := 154
abbrev spec_l20Select : Nat := 155
abbrev spec_l20Put : Nat := 156
abbrev spec_l10Tac : Nat := 157
abbrev laws_toTac : Nat := 158
abbrev impl_copyTac : Nat := 159
abbrev impl_tacOk : Nat := 160
abbrev impl_labelAt : Nat := 161
abbrev impl_ends : Nat := 162
abbrev impl_joiner_call : Nat := 163
abbrev impl_joiner_begin : Nat := 164
abbrev impl_joiner_put : Nat := 165
abbrev impl_joiner_choose : Nat := 166
abbrev laws_eqTac : Nat := 167
abbrev slices_ContainsFunc_int_int : Nat := 184
abbrev spec_l10Has : Nat := 194
abbrev spec_l10Args : Nat := 195
abbrev spec_l10Regs : Nat := 196
abbrev spec_l20Reg : Nat := 197
abbrev spec_l20Store : Nat := 198
abbrev spec_l20Num : Nat := 199
abbrev slices_Clone_int_int : Nat := 200
abbrev impl_owns : Nat := 201
abbrev impl_argsOk : Nat := 202
abbrev impl_owned : Nat := 203
abbrev impl_Sets : Nat := 204
abbrev impl_Uses : Nat := 205
abbrev impl_tacOk_1 : Nat := 206
abbrev slices_IndexFunc_impl_Tac_impl_Tac : Nat := 207
abbrev impl_labelAt_1 : Nat := 208
abbrev impl_joiner_set : Nat := 209
abbrev impl_joiner_field : Nat := 210
abbrev impl_joiner_num : Nat := 211
abbrev slices_IndexFunc_int_int : Nat := 229
abbrev spec_Sets : Nat := 235
abbrev spec_Uses : Nat := 236
abbrev slices_Contains_byte_byte : Nat := 237
abbrev slices_Index_byte_byte : Nat := 251
/-- loop.example/g00286/laws.FnExactJoin -/
def c_laws_FnExactJoin : SCode :=
 .seq (.ops [⟨some 1, none, .vbox 4 (.t 0)⟩, ⟨some 2, none, .mov (.c (.bool false))⟩])
 (.seq (.ops [⟨some 3, none, .mov (.c (.int .i64 1048576))⟩])
  (.seq (.ops [⟨some 11, none, .load (some 4) (.t 1)⟩, ⟨some 12, none, .mov (.t 3)⟩, ⟨some 13, none, .callr laws_szUnit [.t 11, .t 12]⟩, ⟨some 3, none, .mov (.t 13)⟩])
   (.seq (.seq (.ops [⟨some 14, none, .mov (.t 3)⟩, ⟨some 15, none, .cmp .lss (.t 14) (.c (.int .i64 0))⟩])
     (.cond (.t 15) (.seq (.ops [⟨some 2, none, .mov (.c (.bool true))⟩])
       (.ret))
      (.skip)))
    (.seq (.ops [⟨some 16, none, .load (some 4) (.t 1)⟩, ⟨some 17, none, .callr laws_toUnit [.t 16]⟩, ⟨some 18, none, .callr spec_Join [.t 17]⟩, ⟨some 4, none, .alloc [.v (.string ⟨#[]⟩), .v (.int .i64 0), .v (.int .i64 0), .s 7 []]⟩, ⟨none, none, .store 4 (.t 4) (.t 18)⟩])
     (.seq (.ops [⟨some 19, none, .load (some 4) (.t 1)⟩, ⟨some 20, none, .call laws_toUnit [.t 19]⟩, ⟨some 5, none, .alloc [.v (.string ⟨#[]⟩), .v (.int .i64 0), .v (.int .i64 0), .s 7 []]⟩, ⟨none, none, .store 4 (.t 5) (.t 20)⟩])
      (.seq (.ops [⟨some 21, none, .load (some 4) (.t 5)⟩, ⟨some 22, none, .call impl_Join [.t 21]⟩, ⟨some 6, none, .alloc [.v (.string ⟨#[]⟩), .v (.int .i64 0), .v (.int .i64 0), .s 7 []]⟩, ⟨none, none, .store 4 (.t 6) (.t 22)⟩])
       (.seq (.seq (.ops [⟨some 23, none, .load (some 4) (.t 6)⟩, ⟨some 24, none, .load (some 4) (.t 4)⟩, ⟨some 25, none, .callr laws_eqUnit [.t 23, .t 24]⟩, ⟨some 26, none, .not (.t 25)⟩])
         (.cond (.t 26) (.seq (.ops [⟨some 2, none, .mov (.c (.bool false))⟩])
           (.ret))
          (.skip)))
        (.seq (.seq (.ops [⟨some 27, none, .load (some 4) (.t 5)⟩, ⟨some 28, none, .load (some 4) (.t 1)⟩, ⟨some 29, none, .callr laws_toUnit [.t 28]⟩, ⟨some 30, none, .callr laws_eqUnit [.t 27, .t 29]⟩, ⟨some 31, none, .not (.t 30)⟩])
          (.cond (.t 31) (.seq (.ops [⟨some 2, none, .mov (.c (.bool false))⟩])
            (.ret))
           (.skip)))
         (.seq (.ops [⟨some 7, none, .mov (.c (.int .i64 1))⟩])
          (.seq (.ops [⟨some 32, none, .load (some 4) (.t 5)⟩, ⟨some 33, none, .mov (.t 7)⟩, ⟨some 34, none, .callb laws_markUnit [.t 32, .t 33] [true, false]⟩, ⟨some 7, none, .mov (.t 34)⟩])
           (.seq (.seq (.ops [⟨some 35, none, .mov (.t 7)⟩, ⟨some 36, none, .cmp .lss (.t 35) (.c (.int .i64 0))⟩, ⟨some 37, none, .mov (.t 36)⟩, ⟨some 38, (some (37, false)), .load (some 4) (.t 6)⟩, ⟨some 39, (some (37, false)), .load (some 4) (.t 4)⟩, ⟨some 40, (some (37, false)), .callr laws_eqUnit [.t 38, .t 39]⟩, ⟨some 41, (some (37, false)), .not (.t 40)⟩, ⟨some 42, none, .pick (.t 37) (.c (.bool true)) (.t 41)⟩])
             (.cond (.t 42) (.seq (.ops [⟨some 2, none, .mov (.c (.bool false))⟩])
               (.ret))
              (.skip)))
            (.seq (.ops [⟨some 8, none, .mov (.c (.int .i64 1))⟩])
             (.seq (.ops [⟨some 43, none, .load (some 4) (.t 6)⟩, ⟨some 44, none, .mov (.t 8)⟩, ⟨some 45, none, .callb laws_markUnit [.t 43, .t 44] [true, false]⟩, ⟨some 8, none, .mov (.t 45)⟩])
              (.seq (.ops [⟨some 9, none, .mov (.c (.int .i64 1))⟩])
               (.seq (.ops [⟨some 46, none, .load (some 4) (.t 6)⟩, ⟨some 47, none, .mov (.t 9)⟩, ⟨some 48, none, .callr laws_heldUnit [.t 46, .t 47]⟩, ⟨some 9, none, .mov (.t 48)⟩])
                (.seq (.seq (.ops [⟨some 49, none, .mov (.t 9)⟩, ⟨some 50, none, .cmp .lss (.t 49) (.c (.int .i64 0))⟩])
                  (.cond (.t 50) (.seq (.ops [⟨some 2, none, .mov (.c (.bool false))⟩])
                    (.ret))
                   (.skip)))
                 (.seq (.seq (.ops [⟨some 51, none, .mov (.t 9)⟩, ⟨some 52, none, .mov (.t 8)⟩, ⟨some 53, none, .cmp .neq (.t 51) (.t 52)⟩])
                   (.cond (.t 53) (.seq (.ops [⟨some 2, none, .mov (.c (.bool false))⟩])
                     (.ret))
                    (.skip)))
                  (.seq (.ops [⟨some 54, none, .load (some 4) (.t 1)⟩, ⟨some 55, none, .callr laws_toUnit [.t 54]⟩, ⟨some 56, none, .callr impl_Join [.t 55]⟩, ⟨some 10, none, .alloc [.v (.string ⟨#[]⟩), .v (.int .i64 0), .v (.int .i64 0), .s 7 []]⟩, ⟨none, none, .store 4 (.t 10) (.t 56)⟩])
                   (.seq (.seq (.ops [⟨some 57, none, .load (some 4) (.t 10)⟩, ⟨some 58, none, .load (some 4) (.t 4)⟩, ⟨some 59, none, .callr laws_eqUnit [.t 57, .t 58]⟩, ⟨some 60, none, .not (.t 59)⟩])
                     (.cond (.t 60) (.seq (.ops [⟨some 2, none, .mov (.c (.bool false))⟩])
                       (.ret))
                      (.skip)))
                    (.seq (.ops [⟨some 9, none, .mov (.c (.int .i64 1))⟩])
                     (.seq (.ops [⟨some 61, none, .load (some 4) (.t 6)⟩, ⟨some 62, none, .mov (.t 9)⟩, ⟨some 63, none, .callr laws_heldUnit [.t 61, .t 62]⟩, ⟨some 9, none, .mov (.t 63)⟩])
                      (.seq (.seq (.ops [⟨some 64, none, .mov (.t 9)⟩, ⟨some 65, none, .cmp .lss (.t 64) (.c (.int .i64 0))⟩])
                        (.cond (.t 65) (.seq (.ops [⟨some 2, none, .mov (.c (.bool false))⟩])
                          (.ret))
                         (.skip)))
                       (.seq (.seq (.ops [⟨some 66, none, .mov (.t 9)⟩, ⟨some 67, none, .mov (.t 8)⟩, ⟨some 68, none, .cmp .neq (.t 66) (.t 67)⟩])
                         (.cond (.t 68) (.seq (.ops [⟨some 2, none, .mov (.c (.bool false))⟩])
                           (.ret))
                          (.skip)))
                        (.seq (.ops [⟨some 2, none, .mov (.c (.bool true))⟩])
                         (.ret)))))))))))))))))))))))))
def s_laws_FnExactJoin : SFn := ⟨1, 69, c_laws_FnExactJoin, [.t 2]⟩
/-- loop.example/g00286/laws.szUnit -/
def c_laws_szUnit : SCode :=
 .seq (.ops [⟨some 2, none, .vbox 4 (.t 0)⟩, ⟨some 4, none, .mov (.c (.int .i64 0))⟩])
 (.seq (.ops [⟨some 5, none, .mov (.t 1)⟩, ⟨some 6, none, .faddr 0 (.t 2)⟩, ⟨some 7, none, .load none (.t 6)⟩, ⟨some 8, none, .slen (.t 7)⟩, ⟨some 9, none, .ari .sub (.t 5) (.t 8)⟩, ⟨some 1, none, .mov (.t 9)⟩])
  (.seq (.seq (.ops [⟨some 10, none, .mov (.t 1)⟩, ⟨some 11, none, .cmp .lss (.t 10) (.c (.int .i64 0))⟩])
    (.cond (.t 11) (.seq (.ops [⟨some 4, none, .mov (.c (.int .i64 (-1)))⟩])
      (.ret))
     (.skip)))
   (.seq (.ops [⟨some 12, none, .faddr 3 (.t 2)⟩, ⟨some 13, none, .load none (.t 12)⟩, ⟨some 14, none, .mov (.t 1)⟩, ⟨some 15, none, .callr laws_szTacS [.t 13, .t 14]⟩, ⟨some 1, none, .mov (.t 15)⟩])
    (.seq (.seq (.ops [⟨some 16, none, .mov (.t 1)⟩, ⟨some 17, none, .cmp .lss (.t 16) (.c (.int .i64 0))⟩])
      (.cond (.t 17) (.seq (.ops [⟨some 4, none, .mov (.c (.int .i64 (-1)))⟩])
        (.ret))
       (.skip)))
     (.seq (.ops [⟨some 18, none, .mov (.t 1)⟩, ⟨some 4, none, .mov (.t 18)⟩])
      (.ret))))))
def s_laws_szUnit : SFn := ⟨2, 19, c_laws_szUnit, [.t 4]⟩
def b_spec_Join_0 : SCode :=
 .seq (.seq (.ops [⟨some 19, none, .mov (.t 4)⟩, ⟨some 20, none, .faddr 3 (.t 1)⟩, ⟨some 21, none, .load none (.t 20)⟩, ⟨some 22, none, .len (.t 21)⟩, ⟨some 23, none, .cmp .lss (.t 19) (.t 22)⟩])
  (.cond (.t 23) (.skip)
   (.seq (.keep [1, 2, 3]) (.exit 0))))
 (.seq (.block 1 (.ops [⟨some 26, none, .mov (.t 3)⟩, ⟨some 27, none, .faddr 3 (.t 1)⟩, ⟨some 28, none, .load none (.t 27)⟩, ⟨some 29, none, .mov (.t 4)⟩, ⟨some 30, none, .ixa 7 (.t 28) (.t 29)⟩, ⟨some 31, none, .load (some 7) (.t 30)⟩, ⟨some 32, none, .callb spec_l20Place [.t 26, .t 31] [true, false]⟩]))
  (.ops [⟨some 24, none, .mov (.t 4)⟩, ⟨some 25, none, .ari .add (.t 24) (.c (.int .i64 1))⟩, ⟨some 4, none, .mov (.t 25)⟩]))
/-- loop.example/g00286/spec.Join -/
def c_spec_Join : SCode :=
 .seq (.ops [⟨some 1, none, .vbox 4 (.t 0)⟩, ⟨some 2, none, .alloc [.v (.string ⟨#[]⟩), .v (.int .i64 0), .v (.int .i64 0), .s 7 []]⟩])
 (.seq (.seq (.ops [⟨some 5, none, .load (some 4) (.t 1)⟩, ⟨some 6, none, .callr spec_UnitOk [.t 5]⟩, ⟨some 7, none, .not (.t 6)⟩])
   (.cond (.t 7) (.seq (.ops [⟨some 8, none, .load (some 4) (.t 1)⟩, ⟨some 9, none, .call spec_l10Copy [.t 8]⟩, ⟨none, none, .store 4 (.t 2) (.t 9)⟩])
     (.ret))
    (.skip)))
  (.seq (.ops [⟨some 10, none, .faddr 0 (.t 1)⟩, ⟨some 11, none, .load none (.t 10)⟩, ⟨some 12, none, .faddr 1 (.t 1)⟩, ⟨some 13, none, .load none (.t 12)⟩, ⟨some 14, none, .faddr 2 (.t 1)⟩, ⟨some 15, none, .load none (.t 14)⟩, ⟨some 16, none, .build [.v (.string ⟨#[]⟩), .v (.int .i64 0), .v (.int .i64 0), .s 7 []] [(0, 1, .t 11), (1, 1, .t 13), (2, 1, .t 15)]⟩, ⟨some 17, none, .build [.v (.string ⟨#[]⟩), .v (.int .i64 0), .v (.int .i64 0), .s 7 []] [(0, 4, .t 16)]⟩, ⟨some 18, none, .box 4 (.t 17)⟩, ⟨some 3, none, .mov (.t 18)⟩])
   (.seq (.seq (.ops [⟨some 4, none, .mov (.c (.int .i64 0))⟩])
     (.block 0 (.loop [1, 2, 3, 4] b_spec_Join_0)))
    (.seq (.seq (.ops [⟨some 33, none, .mov (.t 3)⟩, ⟨some 34, none, .nck (.t 33)⟩, ⟨some 35, none, .faddr 0 (.t 34)⟩, ⟨some 36, none, .load (some 4) (.t 35)⟩, ⟨some 37, none, .callr spec_UnitOk [.t 36]⟩, ⟨some 38, none, .not (.t 37)⟩])
      (.cond (.t 38) (.seq (.ops [⟨some 39, none, .load (some 4) (.t 1)⟩, ⟨some 40, none, .call spec_l10Copy [.t 39]⟩, ⟨none, none, .store 4 (.t 2) (.t 40)⟩])
        (.ret))
       (.skip)))
     (.seq (.ops [⟨some 41, none, .mov (.t 3)⟩, ⟨some 42, none, .nck (.t 41)⟩, ⟨some 43, none, .faddr 0 (.t 42)⟩, ⟨some 44, none, .load (some 4) (.t 43)⟩, ⟨none, none, .store 4 (.t 2) (.t 44)⟩])
      (.ret))))))
def s_spec_Join : SFn := ⟨1, 45, c_spec_Join, [.c 2 (some 4)]⟩
/-- loop.example/g00286/laws.toUnit -/
def c_laws_toUnit : SCode :=
 .seq (.ops [⟨some 1, none, .vbox 4 (.t 0)⟩, ⟨some 2, none, .alloc [.v (.string ⟨#[]⟩), .v (.int .i64 0), .v (.int .i64 0), .s 7 []]⟩])
 (.seq (.ops [⟨some 3, none, .alloc [.v (.string ⟨#[]⟩), .v (.int .i64 0), .v (.int .i64 0), .s 7 []]⟩])
  (.seq (.ops [⟨some 4, none, .faddr 0 (.t 1)⟩, ⟨some 5, none, .load none (.t 4)⟩, ⟨some 6, none, .faddr 0 (.t 3)⟩, ⟨none, none, .store 1 (.t 6) (.t 5)⟩])
   (.seq (.ops [⟨some 7, none, .faddr 1 (.t 1)⟩, ⟨some 8, none, .load none (.t 7)⟩, ⟨some 9, none, .faddr 1 (.t 3)⟩, ⟨none, none, .store 1 (.t 9) (.t 8)⟩])
    (.seq (.ops [⟨some 10, none, .faddr 2 (.t 1)⟩, ⟨some 11, none, .load none (.t 10)⟩, ⟨some 12, none, .faddr 2 (.t 3)⟩, ⟨none, none, .store 1 (.t 12) (.t 11)⟩])
     (.seq (.ops [⟨some 13, none, .faddr 3 (.t 1)⟩, ⟨some 14, none, .load none (.t 13)⟩, ⟨some 15, none, .call laws_toTacS [.t 14]⟩, ⟨some 16, none, .faddr 3 (.t 3)⟩, ⟨none, none, .store 1 (.t 16) (.t 15)⟩])
      (.seq (.ops [⟨some 17, none, .load (some 4) (.t 3)⟩, ⟨none, none, .store 4 (.t 2) (.t 17)⟩])
       (.ret)))))))
def s_laws_toUnit : SFn := ⟨1, 18, c_laws_toUnit, [.c 2 (some 4)]⟩
def b_impl_Join_0 : SCode :=
 .seq (.ops [⟨some 22, none, .cmp .lss (.t 21) (.t 20)⟩])
 (.seq (.cond (.t 22) (.skip)
   (.seq (.keep [1, 2, 4]) (.exit 0)))
  (.seq (.block 1 (.seq (.ops [⟨some 23, none, .ixa 7 (.t 19) (.t 21)⟩, ⟨some 24, none, .load (some 7) (.t 23)⟩, ⟨some 6, none, .alloc [.v (.int .i64 0), .v (.int .i64 0), .v (.int .i64 0), .v (.int .i64 0), .v (.int .i64 0), .v (.string ⟨#[]⟩), .s 1 []]⟩, ⟨none, none, .store 7 (.t 6) (.t 24)⟩])
     (.ops [⟨some 25, none, .mov (.t 4)⟩, ⟨some 26, none, .load (some 7) (.t 6)⟩, ⟨some 27, none, .callb impl_joiner_place [.t 25, .t 26] [true, true]⟩])))
   (.ops [⟨some 28, none, .ari .add (.t 21) (.c (.int .i64 1))⟩, ⟨some 21, none, .mov (.t 28)⟩])))
/-- loop.example/g00286/impl.Join -/
def c_impl_Join : SCode :=
 .seq (.ops [⟨some 1, none, .vbox 4 (.t 0)⟩, ⟨some 2, none, .alloc [.v (.string ⟨#[]⟩), .v (.int .i64 0), .v (.int .i64 0), .s 7 []]⟩])
 (.seq (.ops [⟨some 8, none, .load (some 4) (.t 1)⟩, ⟨some 9, none, .call impl_copyUnit [.t 8]⟩, ⟨some 3, none, .alloc [.v (.string ⟨#[]⟩), .v (.int .i64 0), .v (.int .i64 0), .s 7 []]⟩, ⟨none, none, .store 4 (.t 3) (.t 9)⟩])
  (.seq (.seq (.ops [⟨some 10, none, .load (some 4) (.t 1)⟩, ⟨some 11, none, .callr impl_UnitOk [.t 10]⟩, ⟨some 12, none, .not (.t 11)⟩])
    (.cond (.t 12) (.seq (.ops [⟨some 13, none, .load (some 4) (.t 3)⟩, ⟨none, none, .store 4 (.t 2) (.t 13)⟩])
      (.ret))
     (.skip)))
   (.seq (.ops [⟨some 14, none, .faddr 2 (.t 1)⟩, ⟨some 15, none, .load none (.t 14)⟩, ⟨some 16, none, .build [.s 7 [], .v (.int .i64 0)] [(1, 1, .t 15)]⟩, ⟨some 17, none, .box 2 (.t 16)⟩, ⟨some 4, none, .mov (.t 17)⟩])
    (.seq (.seq (.ops [⟨some 18, none, .faddr 3 (.t 3)⟩, ⟨some 19, none, .load none (.t 18)⟩, ⟨some 20, none, .len (.t 19)⟩, ⟨some 21, none, .mov (.c (.int .i64 0))⟩])
      (.block 0 (.loop [1, 2, 4, 19, 20, 21] b_impl_Join_0)))
     (.seq (.opsd [⟨⟨some 29, none, .faddr 0 (.t 1)⟩, 0, []⟩, ⟨⟨some 30, none, .load none (.t 29)⟩, 1, []⟩, ⟨⟨some 31, none, .faddr 1 (.t 1)⟩, 2, []⟩, ⟨⟨some 32, none, .load none (.t 31)⟩, 3, []⟩, ⟨⟨some 33, none, .mov (.t 4)⟩, 4, []⟩, ⟨⟨some 34, none, .nck (.t 33)⟩, 5, []⟩, ⟨⟨some 35, none, .faddr 1 (.t 34)⟩, 6, []⟩, ⟨⟨some 36, none, .load none (.t 35)⟩, 7, []⟩, ⟨⟨some 37, none, .mov (.t 4)⟩, 8, []⟩, ⟨⟨some 38, none, .nck (.t 37)⟩, 9, []⟩, ⟨⟨some 39, none, .faddr 0 (.t 38)⟩, 10, []⟩, ⟨⟨some 40, none, .load none (.t 39)⟩, 11, []⟩, ⟨⟨some 41, none, .build [.v (.string ⟨#[]⟩), .v (.int .i64 0), .v (.int .i64 0), .s 7 []] [(0, 1, .t 30), (1, 1, .t 32), (2, 1, .t 36), (3, 1, .t 40)]⟩, 12, []⟩, ⟨⟨some 7, none, .alloc [.v (.string ⟨#[]⟩), .v (.int .i64 0), .v (.int .i64 0), .s 7 []]⟩, 13, [⟨some 29, none, .faddr 0 (.t 1)⟩, ⟨some 30, none, .load none (.t 29)⟩, ⟨some 31, none, .faddr 1 (.t 1)⟩, ⟨some 32, none, .load none (.t 31)⟩, ⟨some 33, none, .mov (.t 4)⟩, ⟨some 34, none, .nck (.t 33)⟩, ⟨some 35, none, .faddr 1 (.t 34)⟩, ⟨some 36, none, .load none (.t 35)⟩, ⟨some 37, none, .mov (.t 4)⟩, ⟨some 38, none, .nck (.t 37)⟩, ⟨some 39, none, .faddr 0 (.t 38)⟩, ⟨some 40, none, .load none (.t 39)⟩, ⟨some 41, none, .build [.v (.string ⟨#[]⟩), .v (.int .i64 0), .v (.int .i64 0), .s 7 []] [(0, 1, .t 30), (1, 1, .t 32), (2, 1, .t 36), (3, 1, .t 40)]⟩]⟩, ⟨⟨none, none, .store 4 (.t 7) (.t 41)⟩, 14, []⟩])
      (.seq (.seq (.ops [⟨some 42, none, .load (some 4) (.t 7)⟩, ⟨some 43, none, .callr impl_UnitOk [.t 42]⟩, ⟨some 44, none, .not (.t 43)⟩])
        (.cond (.t 44) (.seq (.ops [⟨some 45, none, .load (some 4) (.t 1)⟩, ⟨some 46, none, .call impl_copyUnit [.t 45]⟩, ⟨none, none, .store 4 (.t 2) (.t 46)⟩])
          (.ret))
         (.skip)))
       (.seq (.ops [⟨some 47, none, .load (some 4) (.t 7)⟩, ⟨none, none, .store 4 (.t 2) (.t 47)⟩])
        (.ret))))))))
def s_impl_Join : SFn := ⟨1, 48, c_impl_Join, [.c 2 (some 4)]⟩
/-- loop.example/g00286/laws.eqUnit -/
def c_laws_eqUnit : SCode :=
 .seq (.ops [⟨some 2, none, .vbox 4 (.t 0)⟩, ⟨some 3, none, .vbox 4 (.t 1)⟩, ⟨some 4, none, .mov (.c (.bool false))⟩])
 (.seq (.seq (.ops [⟨some 5, none, .faddr 0 (.t 2)⟩, ⟨some 6, none, .load none (.t 5)⟩, ⟨some 7, none, .faddr 0 (.t 3)⟩, ⟨some 8, none, .load none (.t 7)⟩, ⟨some 9, none, .cmp .neq (.t 6) (.t 8)⟩])
   (.cond (.t 9) (.seq (.ops [⟨some 4, none, .mov (.c (.bool false))⟩])
     (.ret))
    (.skip)))
  (.seq (.seq (.ops [⟨some 10, none, .faddr 1 (.t 2)⟩, ⟨some 11, none, .load none (.t 10)⟩, ⟨some 12, none, .faddr 1 (.t 3)⟩, ⟨some 13, none, .load none (.t 12)⟩, ⟨some 14, none, .cmp .neq (.t 11) (.t 13)⟩])
    (.cond (.t 14) (.seq (.ops [⟨some 4, none, .mov (.c (.bool false))⟩])
      (.ret))
     (.skip)))
   (.seq (.seq (.ops [⟨some 15, none, .faddr 2 (.t 2)⟩, ⟨some 16, none, .load none (.t 15)⟩, ⟨some 17, none, .faddr 2 (.t 3)⟩, ⟨some 18, none, .load none (.t 17)⟩, ⟨some 19, none, .cmp .neq (.t 16) (.t 18)⟩])
     (.cond (.t 19) (.seq (.ops [⟨some 4, none, .mov (.c (.bool false))⟩])
       (.ret))
      (.skip)))
    (.seq (.seq (.ops [⟨some 20, none, .faddr 3 (.t 2)⟩, ⟨some 21, none, .load none (.t 20)⟩, ⟨some 22, none, .faddr 3 (.t 3)⟩, ⟨some 23, none, .load none (.t 22)⟩, ⟨some 24, none, .callr laws_eqTacS [.t 21, .t 23]⟩, ⟨some 25, none, .not (.t 24)⟩])
      (.cond (.t 25) (.seq (.ops [⟨some 4, none, .mov (.c (.bool false))⟩])
        (.ret))
       (.skip)))
     (.seq (.ops [⟨some 4, none, .mov (.c (.bool true))⟩])
      (.ret))))))
def s_laws_eqUnit : SFn := ⟨2, 26, c_laws_eqUnit, [.t 4]⟩
/-- loop.example/g00286/laws.markUnit -/
def c_laws_markUnit : SCode :=
 .seq (.ops [⟨some 2, none, .vbox 4 (.t 0)⟩, ⟨some 4, none, .mov (.c (.int .i64 0))⟩])
 (.seq (.ops [⟨some 5, none, .faddr 3 (.t 2)⟩, ⟨some 6, none, .load none (.t 5)⟩, ⟨some 7, none, .mov (.t 1)⟩, ⟨some 8, none, .callb laws_markTacS [.t 6, .t 7] [true, false]⟩, ⟨some 1, none, .mov (.t 8)⟩])
  (.seq (.ops [⟨some 9, none, .mov (.t 1)⟩, ⟨some 4, none, .mov (.t 9)⟩])
   (.ret)))
def s_laws_markUnit : SFn := ⟨2, 10, c_laws_markUnit, [.t 4]⟩
/-- loop.example/g00286/laws.heldUnit -/
def c_laws_heldUnit : SCode :=
 .seq (.ops [⟨some 2, none, .vbox 4 (.t 0)⟩, ⟨some 4, none, .mov (.c (.int .i64 0))⟩])
 (.seq (.ops [⟨some 5, none, .faddr 3 (.t 2)⟩, ⟨some 6, none, .load none (.t 5)⟩, ⟨some 7, none, .mov (.t 1)⟩, ⟨some 8, none, .callr laws_heldTacS [.t 6, .t 7]⟩, ⟨some 1, none, .mov (.t 8)⟩])
  (.seq (.seq (.ops [⟨some 9, none, .mov (.t 1)⟩, ⟨some 10, none, .cmp .lss (.t 9) (.c (.int .i64 0))⟩])
    (.cond (.t 10) (.seq (.ops [⟨some 4, none, .mov (.c (.int .i64 (-1)))⟩])
      (.ret))
     (.skip)))
   (.seq (.ops [⟨some 11, none, .mov (.t 1)⟩, ⟨some 4, none, .mov (.t 11)⟩])
    (.ret))))
def s_laws_heldUnit : SFn := ⟨2, 12, c_laws_heldUnit, [.t 4]⟩
def b_laws_markText_0 : SCode :=
 .seq (.seq (.ops [⟨some 6, none, .mov (.t 0)⟩, ⟨some 7, none, .cmp .gtr (.t 6) (.c (.int .i64 0))⟩])
  (.cond (.t 7) (.skip)
   (.seq (.keep [3]) (.exit 0))))
 (.block 1 (.seq (.ops [⟨some 8, none, .mov (.t 0)⟩, ⟨some 9, none, .ari .rem (.t 8) (.c (.int .i64 10))⟩, ⟨some 10, none, .ari .add (.c (.int .i64 48)) (.t 9)⟩, ⟨some 11, none, .conv .u8 (.t 10)⟩, ⟨some 12, none, .lit 1 [.t 11]⟩, ⟨some 13, none, .sob (.t 12)⟩, ⟨some 14, none, .mov (.t 3)⟩, ⟨some 15, none, .cat (.t 13) (.t 14)⟩, ⟨some 3, none, .mov (.t 15)⟩])
   (.ops [⟨some 16, none, .mov (.t 0)⟩, ⟨some 17, none, .ari .quo (.t 16) (.c (.int .i64 10))⟩, ⟨some 0, none, .mov (.t 17)⟩])))
/-- loop.example/g00286/laws.markText -/
def c_laws_markText : SCode :=
 .seq (.ops [⟨some 2, none, .mov (.c (.string ⟨#[]⟩))⟩])
 (.seq (.seq (.ops [⟨some 4, none, .mov (.t 0)⟩, ⟨some 5, none, .cmp .leq (.t 4) (.c (.int .i64 0))⟩])
   (.cond (.t 5) (.seq (.ops [⟨some 2, none, .mov (.c (.string ⟨#[109, 48]⟩))⟩])
     (.ret))
    (.skip)))
  (.seq (.ops [⟨some 3, none, .mov (.c (.string ⟨#[]⟩))⟩])
   (.seq (.block 0 (.loop [0, 3] b_laws_markText_0))
    (.seq (.ops [⟨some 18, none, .mov (.t 3)⟩, ⟨some 19, none, .cat (.c (.string ⟨#[109]⟩)) (.t 18)⟩, ⟨some 2, none, .mov (.t 19)⟩])
     (.ret)))))
def s_laws_markText : SFn := ⟨1, 20, c_laws_markText, [.t 2]⟩
/-- loop.example/g00286/laws.szIntS -/
def c_laws_szIntS : SCode :=
 .seq (.ops [⟨some 4, none, .mov (.c (.int .i64 0))⟩])
 (.seq (.ops [⟨some 5, none, .mov (.t 1)⟩, ⟨some 6, none, .mov (.t 0)⟩, ⟨some 7, none, .len (.t 6)⟩, ⟨some 8, none, .ari .sub (.t 5) (.t 7)⟩, ⟨some 1, none, .mov (.t 8)⟩])
  (.seq (.seq (.ops [⟨some 9, none, .mov (.t 1)⟩, ⟨some 10, none, .cmp .lss (.t 9) (.c (.int .i64 0))⟩])
    (.cond (.t 10) (.seq (.ops [⟨some 4, none, .mov (.c (.int .i64 (-1)))⟩])
      (.ret))
     (.skip)))
   (.seq (.ops [⟨some 11, none, .mov (.t 1)⟩, ⟨some 4, none, .mov (.t 11)⟩])
    (.ret))))
def s_laws_szIntS : SFn := ⟨2, 12, c_laws_szIntS, [.t 4]⟩
def b_laws_toIntS_0 : SCode :=
 .seq (.seq (.ops [⟨some 8, none, .mov (.t 4)⟩, ⟨some 9, none, .mov (.t 0)⟩, ⟨some 10, none, .len (.t 9)⟩, ⟨some 11, none, .cmp .lss (.t 8) (.t 10)⟩])
  (.cond (.t 11) (.skip)
   (.seq (.keep [3]) (.exit 0))))
 (.seq (.block 1 (.ops [⟨some 14, none, .mov (.t 3)⟩, ⟨some 15, none, .mov (.t 4)⟩, ⟨some 16, none, .mov (.t 0)⟩, ⟨some 17, none, .mov (.t 4)⟩, ⟨some 18, none, .ixa 1 (.t 16) (.t 17)⟩, ⟨some 19, none, .load none (.t 18)⟩, ⟨some 20, none, .ixa 1 (.t 14) (.t 15)⟩, ⟨none, none, .store 1 (.t 20) (.t 19)⟩]))
  (.ops [⟨some 12, none, .mov (.t 4)⟩, ⟨some 13, none, .ari .add (.t 12) (.c (.int .i64 1))⟩, ⟨some 4, none, .mov (.t 13)⟩]))
/-- loop.example/g00286/laws.toIntS -/
def c_laws_toIntS : SCode :=
 .seq (.ops [⟨some 2, none, .mov (.n 1)⟩])
 (.seq (.ops [⟨some 5, none, .mov (.t 0)⟩, ⟨some 6, none, .len (.t 5)⟩, ⟨some 7, none, .mk 1 8 [.v (.int .i64 0)] (.t 6)⟩, ⟨some 3, none, .mov (.t 7)⟩])
  (.seq (.seq (.ops [⟨some 4, none, .mov (.c (.int .i64 0))⟩])
    (.block 0 (.loop [0, 3, 4] b_laws_toIntS_0)))
   (.seq (.ops [⟨some 21, none, .mov (.t 3)⟩, ⟨some 2, none, .mov (.t 21)⟩])
    (.ret))))
def s_laws_toIntS : SFn := ⟨1, 22, c_laws_toIntS, [.t 2]⟩
def b_laws_eqIntS_0 : SCode :=
 .seq (.seq (.ops [⟨some 11, none, .mov (.t 5)⟩, ⟨some 12, none, .mov (.t 0)⟩, ⟨some 13, none, .len (.t 12)⟩, ⟨some 14, none, .cmp .lss (.t 11) (.t 13)⟩])
  (.cond (.t 14) (.skip)
   (.seq (.keep []) (.exit 0))))
 (.seq (.block 1 (.seq (.ops [⟨some 17, none, .mov (.t 0)⟩, ⟨some 18, none, .mov (.t 5)⟩, ⟨some 19, none, .ixa 1 (.t 17) (.t 18)⟩, ⟨some 20, none, .load none (.t 19)⟩, ⟨some 21, none, .mov (.t 1)⟩, ⟨some 22, none, .mov (.t 5)⟩, ⟨some 23, none, .ixa 1 (.t 21) (.t 22)⟩, ⟨some 24, none, .load none (.t 23)⟩, ⟨some 25, none, .cmp .neq (.t 20) (.t 24)⟩])
    (.cond (.t 25) (.seq (.ops [⟨some 4, none, .mov (.c (.bool false))⟩])
      (.seq (.keep [4]) .ret))
     (.skip))))
  (.ops [⟨some 15, none, .mov (.t 5)⟩, ⟨some 16, none, .ari .add (.t 15) (.c (.int .i64 1))⟩, ⟨some 5, none, .mov (.t 16)⟩]))
/-- loop.example/g00286/laws.eqIntS -/
def c_laws_eqIntS : SCode :=
 .seq (.ops [⟨some 4, none, .mov (.c (.bool false))⟩])
 (.seq (.seq (.ops [⟨some 6, none, .mov (.t 0)⟩, ⟨some 7, none, .len (.t 6)⟩, ⟨some 8, none, .mov (.t 1)⟩, ⟨some 9, none, .len (.t 8)⟩, ⟨some 10, none, .cmp .neq (.t 7) (.t 9)⟩])
   (.cond (.t 10) (.seq (.ops [⟨some 4, none, .mov (.c (.bool false))⟩])
     (.ret))
    (.skip)))
  (.seq (.seq (.ops [⟨some 5, none, .mov (.c (.int .i64 0))⟩])
    (.block 0 (.loop [0, 1, 5] b_laws_eqIntS_0)))
   (.seq (.ops [⟨some 4, none, .mov (.c (.bool true))⟩])
    (.ret))))
def s_laws_eqIntS : SFn := ⟨2, 26, c_laws_eqIntS, [.t 4]⟩
/-- loop.example/g00286/spec.l1In -/
def c_spec_l1In : SCode :=
 .seq (.ops [⟨some 6, none, .mov (.c (.bool false))⟩])
 (.seq (.ops [⟨some 7, none, .mov (.t 0)⟩, ⟨some 8, none, .mov (.t 1)⟩, ⟨some 9, none, .cmp .geq (.t 7) (.t 8)⟩, ⟨some 10, none, .mov (.t 9)⟩, ⟨some 11, (some (10, true)), .mov (.t 0)⟩, ⟨some 12, (some (10, true)), .mov (.t 2)⟩, ⟨some 13, (some (10, true)), .cmp .leq (.t 11) (.t 12)⟩, ⟨some 14, none, .pick (.t 10) (.t 13) (.c (.bool false))⟩, ⟨some 6, none, .mov (.t 14)⟩])
  (.ret))
def s_spec_l1In : SFn := ⟨3, 15, c_spec_l1In, [.t 6]⟩
/-- loop.example/g00286/impl.within -/
def c_impl_within : SCode :=
 .seq (.ops [⟨some 6, none, .mov (.c (.bool false))⟩])
 (.seq (.ops [⟨some 7, none, .mov (.t 0)⟩, ⟨some 8, none, .mov (.t 1)⟩, ⟨some 9, none, .cmp .geq (.t 7) (.t 8)⟩, ⟨some 10, none, .mov (.t 9)⟩, ⟨some 11, (some (10, true)), .mov (.t 0)⟩, ⟨some 12, (some (10, true)), .mov (.t 2)⟩, ⟨some 13, (some (10, true)), .cmp .leq (.t 11) (.t 12)⟩, ⟨some 14, none, .pick (.t 10) (.t 13) (.c (.bool false))⟩, ⟨some 6, none, .mov (.t 14)⟩])
  (.ret))
def s_impl_within : SFn := ⟨3, 15, c_impl_within, [.t 6]⟩
def b_laws_markIntS_0 : SCode :=
 .seq (.seq (.ops [⟨some 6, none, .mov (.t 5)⟩, ⟨some 7, none, .mov (.t 0)⟩, ⟨some 8, none, .len (.t 7)⟩, ⟨some 9, none, .cmp .lss (.t 6) (.t 8)⟩])
  (.cond (.t 9) (.skip)
   (.seq (.keep [1]) (.exit 0))))
 (.seq (.block 1 (.seq (.ops [⟨some 12, none, .mov (.t 0)⟩, ⟨some 13, none, .mov (.t 5)⟩, ⟨some 14, none, .mov (.t 1)⟩, ⟨some 15, none, .ixa 1 (.t 12) (.t 13)⟩, ⟨none, none, .store 1 (.t 15) (.t 14)⟩])
    (.ops [⟨some 16, none, .mov (.t 1)⟩, ⟨some 17, none, .ari .add (.t 16) (.c (.int .i64 1))⟩, ⟨some 1, none, .mov (.t 17)⟩])))
  (.ops [⟨some 10, none, .mov (.t 5)⟩, ⟨some 11, none, .ari .add (.t 10) (.c (.int .i64 1))⟩, ⟨some 5, none, .mov (.t 11)⟩]))
/-- loop.example/g00286/laws.markIntS -/
def c_laws_markIntS : SCode :=
 .seq (.ops [⟨some 4, none, .mov (.c (.int .i64 0))⟩])
 (.seq (.seq (.ops [⟨some 5, none, .mov (.c (.int .i64 0))⟩])
   (.block 0 (.loop [0, 1, 5] b_laws_markIntS_0)))
  (.seq (.ops [⟨some 18, none, .mov (.t 1)⟩, ⟨some 4, none, .mov (.t 18)⟩])
   (.ret)))
def s_laws_markIntS : SFn := ⟨2, 19, c_laws_markIntS, [.t 4]⟩
def b_laws_heldIntS_0 : SCode :=
 .seq (.seq (.ops [⟨some 6, none, .mov (.t 5)⟩, ⟨some 7, none, .mov (.t 0)⟩, ⟨some 8, none, .len (.t 7)⟩, ⟨some 9, none, .cmp .lss (.t 6) (.t 8)⟩])
  (.cond (.t 9) (.skip)
   (.seq (.keep [1]) (.exit 0))))
 (.seq (.block 1 (.seq (.seq (.ops [⟨some 12, none, .mov (.t 0)⟩, ⟨some 13, none, .mov (.t 5)⟩, ⟨some 14, none, .ixa 1 (.t 12) (.t 13)⟩, ⟨some 15, none, .load none (.t 14)⟩, ⟨some 16, none, .mov (.t 1)⟩, ⟨some 17, none, .cmp .neq (.t 15) (.t 16)⟩])
     (.cond (.t 17) (.seq (.ops [⟨some 4, none, .mov (.c (.int .i64 (-1)))⟩])
       (.seq (.keep [4]) .ret))
      (.skip)))
    (.ops [⟨some 18, none, .mov (.t 1)⟩, ⟨some 19, none, .ari .add (.t 18) (.c (.int .i64 1))⟩, ⟨some 1, none, .mov (.t 19)⟩])))
  (.ops [⟨some 10, none, .mov (.t 5)⟩, ⟨some 11, none, .ari .add (.t 10) (.c (.int .i64 1))⟩, ⟨some 5, none, .mov (.t 11)⟩]))
/-- loop.example/g00286/laws.heldIntS -/
def c_laws_heldIntS : SCode :=
 .seq (.ops [⟨some 4, none, .mov (.c (.int .i64 0))⟩])
 (.seq (.seq (.ops [⟨some 5, none, .mov (.c (.int .i64 0))⟩])
   (.block 0 (.loop [0, 1, 5] b_laws_heldIntS_0)))
  (.seq (.ops [⟨some 20, none, .mov (.t 1)⟩, ⟨some 4, none, .mov (.t 20)⟩])
   (.ret)))
def s_laws_heldIntS : SFn := ⟨2, 21, c_laws_heldIntS, [.t 4]⟩
def b_laws_szTacS_0 : SCode :=
 .seq (.seq (.ops [⟨some 12, none, .mov (.t 5)⟩, ⟨some 13, none, .mov (.t 0)⟩, ⟨some 14, none, .len (.t 13)⟩, ⟨some 15, none, .cmp .lss (.t 12) (.t 14)⟩])
  (.cond (.t 15) (.skip)
   (.seq (.keep [1]) (.exit 0))))
 (.seq (.block 1 (.seq (.ops [⟨some 18, none, .mov (.t 0)⟩, ⟨some 19, none, .mov (.t 5)⟩, ⟨some 20, none, .ixa 7 (.t 18) (.t 19)⟩, ⟨some 21, none, .load (some 7) (.t 20)⟩, ⟨some 22, none, .mov (.t 1)⟩, ⟨some 23, none, .callr laws_szTac [.t 21, .t 22]⟩, ⟨some 1, none, .mov (.t 23)⟩])
    (.seq (.ops [⟨some 24, none, .mov (.t 1)⟩, ⟨some 25, none, .cmp .lss (.t 24) (.c (.int .i64 0))⟩])
     (.cond (.t 25) (.seq (.ops [⟨some 4, none, .mov (.c (.int .i64 (-1)))⟩])
       (.seq (.keep [4]) .ret))
      (.skip)))))
  (.ops [⟨some 16, none, .mov (.t 5)⟩, ⟨some 17, none, .ari .add (.t 16) (.c (.int .i64 1))⟩, ⟨some 5, none, .mov (.t 17)⟩]))
/-- loop.example/g00286/laws.szTacS -/
def c_laws_szTacS : SCode :=
 .seq (.ops [⟨some 4, none, .mov (.c (.int .i64 0))⟩])
 (.seq (.ops [⟨some 6, none, .mov (.t 1)⟩, ⟨some 7, none, .mov (.t 0)⟩, ⟨some 8, none, .len (.t 7)⟩, ⟨some 9, none, .ari .sub (.t 6) (.t 8)⟩, ⟨some 1, none, .mov (.t 9)⟩])
  (.seq (.seq (.ops [⟨some 10, none, .mov (.t 1)⟩, ⟨some 11, none, .cmp .lss (.t 10) (.c (.int .i64 0))⟩])
    (.cond (.t 11) (.seq (.ops [⟨some 4, none, .mov (.c (.int .i64 (-1)))⟩])
      (.ret))
     (.skip)))
   (.seq (.seq (.ops [⟨some 5, none, .mov (.c (.int .i64 0))⟩])
     (.block 0 (.loop [0, 1, 5] b_laws_szTacS_0)))
    (.seq (.ops [⟨some 26, none, .mov (.t 1)⟩, ⟨some 4, none, .mov (.t 26)⟩])
     (.ret)))))
def s_laws_szTacS : SFn := ⟨2, 27, c_laws_szTacS, [.t 4]⟩
def b_spec_UnitOk_0 : SCode :=
 .seq (.seq (.ops [⟨some 29, none, .mov (.t 4)⟩, ⟨some 30, none, .mov (.t 3)⟩, ⟨some 31, none, .cmp .lss (.t 29) (.t 30)⟩])
  (.cond (.t 31) (.skip)
   (.seq (.keep [1, 3]) (.exit 0))))
 (.seq (.block 1 (.seq (.ops [⟨some 34, none, .faddr 3 (.t 1)⟩, ⟨some 35, none, .load none (.t 34)⟩, ⟨some 36, none, .mov (.t 4)⟩, ⟨some 37, none, .ixa 7 (.t 35) (.t 36)⟩, ⟨some 38, none, .load (some 7) (.t 37)⟩, ⟨some 5, none, .alloc [.v (.int .i64 0), .v (.int .i64 0), .v (.int .i64 0), .v (.int .i64 0), .v (.int .i64 0), .v (.string ⟨#[]⟩), .s 1 []]⟩, ⟨none, none, .store 7 (.t 5) (.t 38)⟩])
    (.seq (.seq (.ops [⟨some 39, none, .load (some 7) (.t 5)⟩, ⟨some 40, none, .faddr 2 (.t 1)⟩, ⟨some 41, none, .load none (.t 40)⟩, ⟨some 42, none, .callr spec_l10Place [.t 39, .t 41]⟩, ⟨some 43, none, .not (.t 42)⟩])
      (.cond (.t 43) (.seq (.ops [⟨some 2, none, .mov (.c (.bool false))⟩])
        (.seq (.keep [2]) .ret))
       (.skip)))
     (.seq (.ops [⟨some 44, none, .faddr 3 (.t 1)⟩, ⟨some 45, none, .load none (.t 44)⟩, ⟨some 46, none, .faddr 4 (.t 5)⟩, ⟨some 47, none, .load none (.t 46)⟩, ⟨some 48, none, .callr spec_l10Label [.t 45, .t 47]⟩, ⟨some 6, none, .mov (.t 48)⟩])
      (.seq (.ops [⟨some 49, none, .faddr 0 (.t 5)⟩, ⟨some 50, none, .load none (.t 49)⟩, ⟨some 51, none, .cmp .eql (.t 50) (.c (.int .i64 8))⟩, ⟨some 52, none, .mov (.t 51)⟩, ⟨some 53, (some (52, true)), .mov (.t 6)⟩, ⟨some 54, (some (52, true)), .mov (.t 4)⟩, ⟨some 55, (some (52, true)), .cmp .neq (.t 53) (.t 54)⟩, ⟨some 56, (some (52, true)), .mov (.t 55)⟩, ⟨some 57, (some (56, false)), .faddr 4 (.t 5)⟩, ⟨some 58, (some (56, false)), .load none (.t 57)⟩, ⟨some 59, (some (56, false)), .callr spec_l1In [.t 58, .c (.int .i64 0), .c (.int .i64 900)]⟩, ⟨some 60, (some (56, false)), .not (.t 59)⟩, ⟨some 61, (some (52, true)), .pick (.t 56) (.c (.bool true)) (.t 60)⟩, ⟨some 62, none, .pick (.t 52) (.t 61) (.c (.bool false))⟩, ⟨some 63, none, .mov (.t 62)⟩, ⟨some 64, (some (63, false)), .faddr 0 (.t 5)⟩, ⟨some 65, (some (63, false)), .load none (.t 64)⟩, ⟨some 66, (some (63, false)), .cmp .eql (.t 65) (.c (.int .i64 9))⟩, ⟨some 67, (some (63, false)), .mov (.t 66)⟩, ⟨some 68, (some (67, false)), .faddr 0 (.t 5)⟩, ⟨some 69, (some (67, false)), .load none (.t 68)⟩, ⟨some 70, (some (67, false)), .cmp .eql (.t 69) (.c (.int .i64 10))⟩, ⟨some 71, (some (63, false)), .pick (.t 67) (.c (.bool true)) (.t 70)⟩, ⟨some 72, (some (63, false)), .mov (.t 71)⟩, ⟨some 73, (some (72, true)), .mov (.t 6)⟩, ⟨some 74, (some (72, true)), .cmp .lss (.t 73) (.c (.int .i64 0))⟩, ⟨some 75, (some (63, false)), .pick (.t 72) (.t 74) (.c (.bool false))⟩, ⟨some 76, none, .pick (.t 63) (.c (.bool true)) (.t 75)⟩])
       (.cond (.t 76) (.seq (.ops [⟨some 2, none, .mov (.c (.bool false))⟩])
         (.seq (.keep [2]) .ret))
        (.skip)))))))
  (.ops [⟨some 32, none, .mov (.t 4)⟩, ⟨some 33, none, .ari .add (.t 32) (.c (.int .i64 1))⟩, ⟨some 4, none, .mov (.t 33)⟩]))
/-- loop.example/g00286/spec.UnitOk -/
def c_spec_UnitOk : SCode :=
 .seq (.ops [⟨some 1, none, .vbox 4 (.t 0)⟩, ⟨some 2, none, .mov (.c (.bool false))⟩])
 (.seq (.ops [⟨some 8, none, .faddr 3 (.t 1)⟩, ⟨some 9, none, .load none (.t 8)⟩, ⟨some 10, none, .len (.t 9)⟩, ⟨some 3, none, .mov (.t 10)⟩])
  (.seq (.seq (.ops [⟨some 11, none, .faddr 2 (.t 1)⟩, ⟨some 12, none, .load none (.t 11)⟩, ⟨some 13, none, .callr spec_l1In [.t 12, .c (.int .i64 0), .c (.int .i64 250)]⟩, ⟨some 14, none, .not (.t 13)⟩, ⟨some 15, none, .mov (.t 14)⟩, ⟨some 16, (some (15, false)), .faddr 1 (.t 1)⟩, ⟨some 17, (some (15, false)), .load none (.t 16)⟩, ⟨some 18, (some (15, false)), .faddr 2 (.t 1)⟩, ⟨some 19, (some (15, false)), .load none (.t 18)⟩, ⟨some 20, (some (15, false)), .callr spec_l1Min [.c (.int .i64 4), .t 19]⟩, ⟨some 21, (some (15, false)), .callr spec_l1In [.t 17, .c (.int .i64 0), .t 20]⟩, ⟨some 22, (some (15, false)), .not (.t 21)⟩, ⟨some 23, none, .pick (.t 15) (.c (.bool true)) (.t 22)⟩, ⟨some 24, none, .mov (.t 23)⟩, ⟨some 25, (some (24, false)), .mov (.t 3)⟩, ⟨some 26, (some (24, false)), .callr spec_l1In [.t 25, .c (.int .i64 1), .c (.int .i64 900)]⟩, ⟨some 27, (some (24, false)), .not (.t 26)⟩, ⟨some 28, none, .pick (.t 24) (.c (.bool true)) (.t 27)⟩])
    (.cond (.t 28) (.seq (.ops [⟨some 2, none, .mov (.c (.bool false))⟩])
      (.ret))
     (.skip)))
   (.seq (.seq (.ops [⟨some 4, none, .mov (.c (.int .i64 0))⟩])
     (.block 0 (.loop [1, 3, 4] b_spec_UnitOk_0)))
    (.seq (.ops [⟨some 77, none, .faddr 3 (.t 1)⟩, ⟨some 78, none, .load none (.t 77)⟩, ⟨some 79, none, .mov (.t 3)⟩, ⟨some 80, none, .ari .sub (.t 79) (.c (.int .i64 1))⟩, ⟨some 81, none, .ixa 7 (.t 78) (.t 80)⟩, ⟨some 82, none, .faddr 0 (.t 81)⟩, ⟨some 83, none, .load none (.t 82)⟩, ⟨some 7, none, .mov (.t 83)⟩])
     (.seq (.ops [⟨some 84, none, .mov (.t 7)⟩, ⟨some 85, none, .cmp .eql (.t 84) (.c (.int .i64 12))⟩, ⟨some 86, none, .mov (.t 85)⟩, ⟨some 87, (some (86, false)), .mov (.t 7)⟩, ⟨some 88, (some (86, false)), .cmp .eql (.t 87) (.c (.int .i64 9))⟩, ⟨some 89, none, .pick (.t 86) (.c (.bool true)) (.t 88)⟩, ⟨some 90, none, .mov (.t 89)⟩, ⟨some 91, (some (90, false)), .mov (.t 7)⟩, ⟨some 92, (some (90, false)), .cmp .eql (.t 91) (.c (.int .i64 28))⟩, ⟨some 93, none, .pick (.t 90) (.c (.bool true)) (.t 92)⟩, ⟨some 2, none, .mov (.t 93)⟩])
      (.ret))))))
def s_spec_UnitOk : SFn := ⟨1, 94, c_spec_UnitOk, [.t 2]⟩
/-- loop.example/g00286/spec.l10Copy -/
def c_spec_l10Copy : SCode :=
 .seq (.ops [⟨some 1, none, .vbox 4 (.t 0)⟩, ⟨some 2, none, .alloc [.v (.string ⟨#[]⟩), .v (.int .i64 0), .v (.int .i64 0), .s 7 []]⟩])
 (.seq (.opsd [⟨⟨some 3, none, .faddr 0 (.t 1)⟩, 0, []⟩, ⟨⟨some 4, none, .load none (.t 3)⟩, 1, []⟩, ⟨⟨some 5, none, .faddr 1 (.t 1)⟩, 2, []⟩, ⟨⟨some 6, none, .load none (.t 5)⟩, 3, []⟩, ⟨⟨some 7, none, .faddr 2 (.t 1)⟩, 4, []⟩, ⟨⟨some 8, none, .load none (.t 7)⟩, 5, []⟩, ⟨⟨some 9, none, .faddr 3 (.t 1)⟩, 6, []⟩, ⟨⟨some 10, none, .load none (.t 9)⟩, 7, []⟩, ⟨⟨some 11, none, .call spec_l10Code [.t 10]⟩, 8, [⟨some 3, none, .faddr 0 (.t 1)⟩, ⟨some 4, none, .load none (.t 3)⟩, ⟨some 5, none, .faddr 1 (.t 1)⟩, ⟨some 6, none, .load none (.t 5)⟩, ⟨some 7, none, .faddr 2 (.t 1)⟩, ⟨some 8, none, .load none (.t 7)⟩]⟩, ⟨⟨some 12, none, .build [.v (.string ⟨#[]⟩), .v (.int .i64 0), .v (.int .i64 0), .s 7 []] [(0, 1, .t 4), (1, 1, .t 6), (2, 1, .t 8), (3, 1, .t 11)]⟩, 9, []⟩, ⟨⟨none, none, .store 4 (.t 2) (.t 12)⟩, 10, []⟩])
  (.ret))
def s_spec_l10Copy : SFn := ⟨1, 13, c_spec_l10Copy, [.c 2 (some 4)]⟩
/-- loop.example/g00286/spec.l20Place -/
def c_spec_l20Place : SCode :=
 .seq (.ops [⟨some 3, none, .vbox 7 (.t 1)⟩])
 (.seq (.ops [⟨some 4, none, .faddr 0 (.t 3)⟩, ⟨some 5, none, .load none (.t 4)⟩])
  (.block 0 (.seq (.ops [⟨some 11, none, .cmp .eql (.t 5) (.c (.int .i64 13))⟩, ⟨some 10, none, .mov (.t 11)⟩])
    (.cond (.t 10) (.ops [⟨some 12, none, .mov (.t 0)⟩, ⟨some 13, none, .faddr 2 (.t 3)⟩, ⟨some 14, none, .load none (.t 13)⟩, ⟨some 15, none, .lit 1 [.t 14]⟩, ⟨some 16, none, .callb spec_l20New [.t 12, .c (.string ⟨#[114, 116, 112, 114, 105, 110, 116]⟩), .t 15] [true, false, true]⟩])
     (.seq (.ops [⟨some 18, none, .cmp .eql (.t 5) (.c (.int .i64 14))⟩, ⟨some 17, none, .mov (.t 18)⟩])
      (.cond (.t 17) (.ops [⟨some 19, none, .mov (.t 0)⟩, ⟨some 20, none, .load (some 7) (.t 3)⟩, ⟨some 21, none, .callb spec_l20Go [.t 19, .t 20] [true, false]⟩])
       (.seq (.ops [⟨some 23, none, .cmp .eql (.t 5) (.c (.int .i64 15))⟩, ⟨some 22, none, .mov (.t 23)⟩])
        (.cond (.t 22) (.ops [⟨some 24, none, .mov (.t 0)⟩, ⟨some 25, none, .faddr 1 (.t 3)⟩, ⟨some 26, none, .load none (.t 25)⟩, ⟨some 27, none, .faddr 2 (.t 3)⟩, ⟨some 28, none, .load none (.t 27)⟩, ⟨some 29, none, .lit 1 [.t 28]⟩, ⟨some 30, none, .callb spec_l20Call [.t 24, .t 26, .c (.string ⟨#[114, 116, 109, 97, 107, 101]⟩), .t 29] [true, false, false, true]⟩])
         (.seq (.ops [⟨some 32, none, .cmp .eql (.t 5) (.c (.int .i64 16))⟩, ⟨some 31, none, .mov (.t 32)⟩])
          (.cond (.t 31) (.ops [⟨some 33, none, .mov (.t 0)⟩, ⟨some 34, none, .faddr 2 (.t 3)⟩, ⟨some 35, none, .load none (.t 34)⟩, ⟨some 36, none, .faddr 3 (.t 3)⟩, ⟨some 37, none, .load none (.t 36)⟩, ⟨some 38, none, .lit 1 [.t 35, .t 37]⟩, ⟨some 39, none, .callb spec_l20New [.t 33, .c (.string ⟨#[114, 116, 115, 101, 110, 100]⟩), .t 38] [true, false, true]⟩])
           (.seq (.ops [⟨some 41, none, .cmp .eql (.t 5) (.c (.int .i64 17))⟩, ⟨some 40, none, .mov (.t 41)⟩])
            (.cond (.t 40) (.ops [⟨some 42, none, .mov (.t 0)⟩, ⟨some 43, none, .faddr 1 (.t 3)⟩, ⟨some 44, none, .load none (.t 43)⟩, ⟨some 45, none, .faddr 2 (.t 3)⟩, ⟨some 46, none, .load none (.t 45)⟩, ⟨some 47, none, .lit 1 [.t 46]⟩, ⟨some 48, none, .callb spec_l20Call [.t 42, .t 44, .c (.string ⟨#[114, 116, 114, 101, 99, 118]⟩), .t 47] [true, false, false, true]⟩])
             (.seq (.ops [⟨some 50, none, .cmp .eql (.t 5) (.c (.int .i64 18))⟩, ⟨some 49, none, .mov (.t 50)⟩])
              (.cond (.t 49) (.ops [⟨some 51, none, .mov (.t 0)⟩, ⟨some 52, none, .faddr 2 (.t 3)⟩, ⟨some 53, none, .load none (.t 52)⟩, ⟨some 54, none, .lit 1 [.t 53]⟩, ⟨some 55, none, .callb spec_l20New [.t 51, .c (.string ⟨#[114, 116, 99, 108, 111, 115, 101]⟩), .t 54] [true, false, true]⟩])
               (.seq (.ops [⟨some 57, none, .cmp .eql (.t 5) (.c (.int .i64 19))⟩, ⟨some 56, none, .mov (.t 57)⟩])
                (.cond (.t 56) (.ops [⟨some 58, none, .mov (.t 0)⟩, ⟨some 59, none, .load (some 7) (.t 3)⟩, ⟨some 60, none, .callb spec_l20Select [.t 58, .t 59] [true, false]⟩])
                 (.ops [⟨some 6, none, .mov (.t 0)⟩, ⟨some 7, none, .load (some 7) (.t 3)⟩, ⟨some 8, none, .call spec_l10Tac [.t 7]⟩, ⟨some 9, none, .callb spec_l20Put [.t 6, .t 8] [true, true]⟩])))))))))))))))))
def s_spec_l20Place : SFn := ⟨2, 61, c_spec_l20Place, []⟩
def b_laws_toTacS_0 : SCode :=
 .seq (.seq (.ops [⟨some 8, none, .mov (.t 4)⟩, ⟨some 9, none, .mov (.t 0)⟩, ⟨some 10, none, .len (.t 9)⟩, ⟨some 11, none, .cmp .lss (.t 8) (.t 10)⟩])
  (.cond (.t 11) (.skip)
   (.seq (.keep [3]) (.exit 0))))
 (.seq (.block 1 (.ops [⟨some 14, none, .mov (.t 3)⟩, ⟨some 15, none, .mov (.t 4)⟩, ⟨some 16, none, .mov (.t 0)⟩, ⟨some 17, none, .mov (.t 4)⟩, ⟨some 18, none, .ixa 7 (.t 16) (.t 17)⟩, ⟨some 19, none, .load (some 7) (.t 18)⟩, ⟨some 20, none, .call laws_toTac [.t 19]⟩, ⟨some 21, none, .ixa 7 (.t 14) (.t 15)⟩, ⟨none, none, .store 7 (.t 21) (.t 20)⟩]))
  (.ops [⟨some 12, none, .mov (.t 4)⟩, ⟨some 13, none, .ari .add (.t 12) (.c (.int .i64 1))⟩, ⟨some 4, none, .mov (.t 13)⟩]))
/-- loop.example/g00286/laws.toTacS -/
def c_laws_toTacS : SCode :=
 .seq (.ops [⟨some 2, none, .mov (.n 7)⟩])
 (.seq (.ops [⟨some 5, none, .mov (.t 0)⟩, ⟨some 6, none, .len (.t 5)⟩, ⟨some 7, none, .mk 7 80 [.v (.int .i64 0), .v (.int .i64 0), .v (.int .i64 0), .v (.int .i64 0), .v (.int .i64 0), .v (.string ⟨#[]⟩), .s 1 []] (.t 6)⟩, ⟨some 3, none, .mov (.t 7)⟩])
  (.seq (.seq (.ops [⟨some 4, none, .mov (.c (.int .i64 0))⟩])
    (.block 0 (.loop [0, 3, 4] b_laws_toTacS_0)))
   (.seq (.ops [⟨some 22, none, .mov (.t 3)⟩, ⟨some 2, none, .mov (.t 22)⟩])
    (.ret))))
def s_laws_toTacS : SFn := ⟨1, 23, c_laws_toTacS, [.t 2]⟩
def b_impl_copyUnit_0 : SCode :=
 .seq (.ops [⟨some 11, none, .cmp .lss (.t 10) (.t 9)⟩])
 (.seq (.cond (.t 11) (.skip)
   (.seq (.keep [1, 2, 3]) (.exit 0)))
  (.seq (.block 1 (.seq (.ops [⟨some 12, none, .ixa 7 (.t 8) (.t 10)⟩, ⟨some 13, none, .load (some 7) (.t 12)⟩, ⟨some 5, none, .alloc [.v (.int .i64 0), .v (.int .i64 0), .v (.int .i64 0), .v (.int .i64 0), .v (.int .i64 0), .v (.string ⟨#[]⟩), .s 1 []]⟩, ⟨none, none, .store 7 (.t 5) (.t 13)⟩])
     (.ops [⟨some 14, none, .mov (.t 3)⟩, ⟨some 15, none, .load (some 7) (.t 5)⟩, ⟨some 16, none, .call impl_copyTac [.t 15]⟩, ⟨some 17, none, .lit 7 [.t 16]⟩, ⟨some 18, none, .app 7 80 (.t 14) (.t 17)⟩, ⟨some 3, none, .mov (.t 18)⟩])))
   (.ops [⟨some 19, none, .ari .add (.t 10) (.c (.int .i64 1))⟩, ⟨some 10, none, .mov (.t 19)⟩])))
/-- loop.example/g00286/impl.copyUnit -/
def c_impl_copyUnit : SCode :=
 .seq (.ops [⟨some 1, none, .box 4 (.t 0)⟩, ⟨some 2, none, .alloc [.v (.string ⟨#[]⟩), .v (.int .i64 0), .v (.int .i64 0), .s 7 []]⟩])
 (.seq (.ops [⟨some 6, none, .lit 7 []⟩, ⟨some 3, none, .mov (.t 6)⟩])
  (.seq (.seq (.ops [⟨some 7, none, .faddr 3 (.t 1)⟩, ⟨some 8, none, .load none (.t 7)⟩, ⟨some 9, none, .len (.t 8)⟩, ⟨some 10, none, .mov (.c (.int .i64 0))⟩])
    (.block 0 (.loop [1, 2, 3, 8, 9, 10] b_impl_copyUnit_0)))
   (.seq (.ops [⟨some 20, none, .mov (.t 3)⟩, ⟨some 21, none, .faddr 3 (.t 1)⟩, ⟨none, none, .store 1 (.t 21) (.t 20)⟩])
    (.seq (.ops [⟨some 22, none, .load (some 4) (.t 1)⟩, ⟨none, none, .store 4 (.t 2) (.t 22)⟩])
     (.ret)))))
def s_impl_copyUnit : SFn := ⟨1, 23, c_impl_copyUnit, [.c 2 (some 4)]⟩
def b_impl_UnitOk_0 : SCode :=
 .seq (.ops [⟨some 29, none, .cmp .lss (.t 28) (.t 27)⟩])
 (.seq (.cond (.t 29) (.skip)
   (.seq (.keep [1]) (.exit 0)))
  (.seq (.block 1 (.seq (.ops [⟨some 30, none, .mov (.t 28)⟩, ⟨some 31, none, .ixa 7 (.t 26) (.t 28)⟩, ⟨some 32, none, .load (some 7) (.t 31)⟩, ⟨some 4, none, .alloc [.v (.int .i64 0), .v (.int .i64 0), .v (.int .i64 0), .v (.int .i64 0), .v (.int .i64 0), .v (.string ⟨#[]⟩), .s 1 []]⟩, ⟨some 3, none, .mov (.t 30)⟩, ⟨none, none, .store 7 (.t 4) (.t 32)⟩])
     (.block 2 (.seq (.ops [⟨some 34, none, .load (some 7) (.t 4)⟩, ⟨some 35, none, .faddr 2 (.t 1)⟩, ⟨some 36, none, .load none (.t 35)⟩, ⟨some 37, none, .callr impl_tacOk [.t 34, .t 36]⟩, ⟨some 38, none, .not (.t 37)⟩, ⟨some 33, none, .mov (.t 38)⟩])
       (.cond (.t 33) (.seq (.ops [⟨some 2, none, .mov (.c (.bool false))⟩])
         (.seq (.keep [2]) .ret))
        (.seq (.ops [⟨some 40, none, .faddr 0 (.t 4)⟩, ⟨some 41, none, .load none (.t 40)⟩, ⟨some 42, none, .cmp .eql (.t 41) (.c (.int .i64 8))⟩, ⟨some 43, none, .mov (.t 42)⟩, ⟨some 44, (some (43, true)), .faddr 4 (.t 4)⟩, ⟨some 45, (some (43, true)), .load none (.t 44)⟩, ⟨some 46, (some (43, true)), .callr impl_within [.t 45, .c (.int .i64 0), .c (.int .i64 900)]⟩, ⟨some 47, (some (43, true)), .not (.t 46)⟩, ⟨some 48, (some (43, true)), .mov (.t 47)⟩, ⟨some 49, (some (48, false)), .faddr 3 (.t 1)⟩, ⟨some 50, (some (48, false)), .load none (.t 49)⟩, ⟨some 51, (some (48, false)), .faddr 4 (.t 4)⟩, ⟨some 52, (some (48, false)), .load none (.t 51)⟩, ⟨some 53, (some (48, false)), .callr impl_labelAt [.t 50, .t 52]⟩, ⟨some 54, (some (48, false)), .mov (.t 3)⟩, ⟨some 55, (some (48, false)), .cmp .neq (.t 53) (.t 54)⟩, ⟨some 56, (some (43, true)), .pick (.t 48) (.c (.bool true)) (.t 55)⟩, ⟨some 57, none, .pick (.t 43) (.t 56) (.c (.bool false))⟩, ⟨some 39, none, .mov (.t 57)⟩])
         (.cond (.t 39) (.seq (.ops [⟨some 2, none, .mov (.c (.bool false))⟩])
           (.seq (.keep [2]) .ret))
          (.seq (.ops [⟨some 59, none, .faddr 0 (.t 4)⟩, ⟨some 60, none, .load none (.t 59)⟩, ⟨some 61, none, .cmp .eql (.t 60) (.c (.int .i64 9))⟩, ⟨some 62, none, .mov (.t 61)⟩, ⟨some 63, (some (62, false)), .faddr 0 (.t 4)⟩, ⟨some 64, (some (62, false)), .load none (.t 63)⟩, ⟨some 65, (some (62, false)), .cmp .eql (.t 64) (.c (.int .i64 10))⟩, ⟨some 66, none, .pick (.t 62) (.c (.bool true)) (.t 65)⟩, ⟨some 67, none, .mov (.t 66)⟩, ⟨some 68, (some (67, true)), .faddr 3 (.t 1)⟩, ⟨some 69, (some (67, true)), .load none (.t 68)⟩, ⟨some 70, (some (67, true)), .faddr 4 (.t 4)⟩, ⟨some 71, (some (67, true)), .load none (.t 70)⟩, ⟨some 72, (some (67, true)), .callr impl_labelAt [.t 69, .t 71]⟩, ⟨some 73, (some (67, true)), .cmp .lss (.t 72) (.c (.int .i64 0))⟩, ⟨some 74, none, .pick (.t 67) (.t 73) (.c (.bool false))⟩, ⟨some 58, none, .mov (.t 74)⟩])
           (.cond (.t 58) (.seq (.ops [⟨some 2, none, .mov (.c (.bool false))⟩])
             (.seq (.keep [2]) .ret))
            (.skip))))))))))
   (.ops [⟨some 75, none, .ari .add (.t 28) (.c (.int .i64 1))⟩, ⟨some 28, none, .mov (.t 75)⟩])))
/-- loop.example/g00286/impl.UnitOk -/
def c_impl_UnitOk : SCode :=
 .seq (.ops [⟨some 1, none, .vbox 4 (.t 0)⟩, ⟨some 2, none, .mov (.c (.bool false))⟩])
 (.seq (.seq (.ops [⟨some 5, none, .faddr 2 (.t 1)⟩, ⟨some 6, none, .load none (.t 5)⟩, ⟨some 7, none, .callr impl_within [.t 6, .c (.int .i64 0), .c (.int .i64 250)]⟩, ⟨some 8, none, .not (.t 7)⟩, ⟨some 9, none, .mov (.t 8)⟩, ⟨some 10, (some (9, false)), .faddr 1 (.t 1)⟩, ⟨some 11, (some (9, false)), .load none (.t 10)⟩, ⟨some 12, (some (9, false)), .faddr 2 (.t 1)⟩, ⟨some 13, (some (9, false)), .load none (.t 12)⟩, ⟨some 14, (some (9, false)), .mm false (.c (.int .i64 4)) (.t 13)⟩, ⟨some 15, (some (9, false)), .callr impl_within [.t 11, .c (.int .i64 0), .t 14]⟩, ⟨some 16, (some (9, false)), .not (.t 15)⟩, ⟨some 17, none, .pick (.t 9) (.c (.bool true)) (.t 16)⟩, ⟨some 18, none, .mov (.t 17)⟩, ⟨some 19, (some (18, false)), .faddr 3 (.t 1)⟩, ⟨some 20, (some (18, false)), .load none (.t 19)⟩, ⟨some 21, (some (18, false)), .len (.t 20)⟩, ⟨some 22, (some (18, false)), .callr impl_within [.t 21, .c (.int .i64 1), .c (.int .i64 900)]⟩, ⟨some 23, (some (18, false)), .not (.t 22)⟩, ⟨some 24, none, .pick (.t 18) (.c (.bool true)) (.t 23)⟩])
   (.cond (.t 24) (.seq (.ops [⟨some 2, none, .mov (.c (.bool false))⟩])
     (.ret))
    (.skip)))
  (.seq (.seq (.ops [⟨some 25, none, .faddr 3 (.t 1)⟩, ⟨some 26, none, .load none (.t 25)⟩, ⟨some 27, none, .len (.t 26)⟩, ⟨some 28, none, .mov (.c (.int .i64 0))⟩])
    (.block 0 (.loop [1, 26, 27, 28] b_impl_UnitOk_0)))
   (.seq (.ops [⟨some 76, none, .faddr 3 (.t 1)⟩, ⟨some 77, none, .load none (.t 76)⟩, ⟨some 78, none, .faddr 3 (.t 1)⟩, ⟨some 79, none, .load none (.t 78)⟩, ⟨some 80, none, .len (.t 79)⟩, ⟨some 81, none, .ari .sub (.t 80) (.c (.int .i64 1))⟩, ⟨some 82, none, .ixa 7 (.t 77) (.t 81)⟩, ⟨some 83, none, .faddr 0 (.t 82)⟩, ⟨some 84, none, .load none (.t 83)⟩, ⟨some 85, none, .callr impl_ends [.t 84]⟩, ⟨some 2, none, .mov (.t 85)⟩])
    (.ret))))
def s_impl_UnitOk : SFn := ⟨1, 86, c_impl_UnitOk, [.t 2]⟩
/-- (*loop.example/g00286/impl.joiner).place -/
def c_impl_joiner_place : SCode :=
 .seq (.ops [⟨some 3, none, .vbox 7 (.t 1)⟩])
 (.seq (.ops [⟨some 4, none, .faddr 0 (.t 3)⟩, ⟨some 5, none, .load none (.t 4)⟩])
  (.block 0 (.seq (.ops [⟨some 10, none, .cmp .eql (.t 5) (.c (.int .i64 13))⟩, ⟨some 9, none, .mov (.t 10)⟩])
    (.cond (.t 9) (.ops [⟨some 11, none, .mov (.t 0)⟩, ⟨some 12, none, .faddr 2 (.t 3)⟩, ⟨some 13, none, .load none (.t 12)⟩, ⟨some 14, none, .lit 1 [.t 13]⟩, ⟨some 15, none, .callb impl_joiner_call [.t 11, .c (.string ⟨#[114, 116, 112, 114, 105, 110, 116]⟩), .t 14] [true, false, true]⟩])
     (.seq (.ops [⟨some 17, none, .cmp .eql (.t 5) (.c (.int .i64 14))⟩, ⟨some 16, none, .mov (.t 17)⟩])
      (.cond (.t 16) (.ops [⟨some 18, none, .mov (.t 0)⟩, ⟨some 19, none, .load (some 7) (.t 3)⟩, ⟨some 20, none, .callb impl_joiner_begin [.t 18, .t 19] [true, false]⟩])
       (.seq (.ops [⟨some 22, none, .cmp .eql (.t 5) (.c (.int .i64 15))⟩, ⟨some 21, none, .mov (.t 22)⟩])
        (.cond (.t 21) (.ops [⟨some 23, none, .mov (.t 0)⟩, ⟨some 24, none, .faddr 1 (.t 3)⟩, ⟨some 25, none, .load none (.t 24)⟩, ⟨some 26, none, .faddr 2 (.t 3)⟩, ⟨some 27, none, .load none (.t 26)⟩, ⟨some 28, none, .lit 1 [.t 27]⟩, ⟨some 29, none, .build [.v (.int .i64 0), .v (.int .i64 0), .v (.int .i64 0), .v (.int .i64 0), .v (.int .i64 0), .v (.string ⟨#[]⟩), .s 1 []] [(0, 1, .c (.int .i64 11)), (1, 1, .t 25), (5, 1, .c (.string ⟨#[114, 116, 109, 97, 107, 101]⟩)), (6, 1, .t 28)]⟩, ⟨some 30, none, .callb impl_joiner_put [.t 23, .t 29] [true, true]⟩])
         (.seq (.ops [⟨some 32, none, .cmp .eql (.t 5) (.c (.int .i64 16))⟩, ⟨some 31, none, .mov (.t 32)⟩])
          (.cond (.t 31) (.ops [⟨some 33, none, .mov (.t 0)⟩, ⟨some 34, none, .faddr 2 (.t 3)⟩, ⟨some 35, none, .load none (.t 34)⟩, ⟨some 36, none, .faddr 3 (.t 3)⟩, ⟨some 37, none, .load none (.t 36)⟩, ⟨some 38, none, .lit 1 [.t 35, .t 37]⟩, ⟨some 39, none, .callb impl_joiner_call [.t 33, .c (.string ⟨#[114, 116, 115, 101, 110, 100]⟩), .t 38] [true, false, true]⟩])
           (.seq (.ops [⟨some 41, none, .cmp .eql (.t 5) (.c (.int .i64 17))⟩, ⟨some 40, none, .mov (.t 41)⟩])
            (.cond (.t 40) (.ops [⟨some 42, none, .mov (.t 0)⟩, ⟨some 43, none, .faddr 1 (.t 3)⟩, ⟨some 44, none, .load none (.t 43)⟩, ⟨some 45, none, .faddr 2 (.t 3)⟩, ⟨some 46, none, .load none (.t 45)⟩, ⟨some 47, none, .lit 1 [.t 46]⟩, ⟨some 48, none, .build [.v (.int .i64 0), .v (.int .i64 0), .v (.int .i64 0), .v (.int .i64 0), .v (.int .i64 0), .v (.string ⟨#[]⟩), .s 1 []] [(0, 1, .c (.int .i64 11)), (1, 1, .t 44), (5, 1, .c (.string ⟨#[114, 116, 114, 101, 99, 118]⟩)), (6, 1, .t 47)]⟩, ⟨some 49, none, .callb impl_joiner_put [.t 42, .t 48] [true, true]⟩])
             (.seq (.ops [⟨some 51, none, .cmp .eql (.t 5) (.c (.int .i64 18))⟩, ⟨some 50, none, .mov (.t 51)⟩])
              (.cond (.t 50) (.ops [⟨some 52, none, .mov (.t 0)⟩, ⟨some 53, none, .faddr 2 (.t 3)⟩, ⟨some 54, none, .load none (.t 53)⟩, ⟨some 55, none, .lit 1 [.t 54]⟩, ⟨some 56, none, .callb impl_joiner_call [.t 52, .c (.string ⟨#[114, 116, 99, 108, 111, 115, 101]⟩), .t 55] [true, false, true]⟩])
               (.seq (.ops [⟨some 58, none, .cmp .eql (.t 5) (.c (.int .i64 19))⟩, ⟨some 57, none, .mov (.t 58)⟩])
                (.cond (.t 57) (.ops [⟨some 59, none, .mov (.t 0)⟩, ⟨some 60, none, .load (some 7) (.t 3)⟩, ⟨some 61, none, .callb impl_joiner_choose [.t 59, .t 60] [true, false]⟩])
                 (.ops [⟨some 6, none, .mov (.t 0)⟩, ⟨some 7, none, .load (some 7) (.t 3)⟩, ⟨some 8, none, .callb impl_joiner_put [.t 6, .t 7] [true, true]⟩])))))))))))))))))
def s_impl_joiner_place : SFn := ⟨2, 62, c_impl_joiner_place, []⟩
def b_laws_eqTacS_0 : SCode :=
 .seq (.seq (.ops [⟨some 11, none, .mov (.t 5)⟩, ⟨some 12, none, .mov (.t 0)⟩, ⟨some 13, none, .len (.t 12)⟩, ⟨some 14, none, .cmp .lss (.t 11) (.t 13)⟩])
  (.cond (.t 14) (.skip)
   (.seq (.keep []) (.exit 0))))
 (.seq (.block 1 (.seq (.ops [⟨some 17, none, .mov (.t 0)⟩, ⟨some 18, none, .mov (.t 5)⟩, ⟨some 19, none, .ixa 7 (.t 17) (.t 18)⟩, ⟨some 20, none, .load (some 7) (.t 19)⟩, ⟨some 21, none, .mov (.t 1)⟩, ⟨some 22, none, .mov (.t 5)⟩, ⟨some 23, none, .ixa 7 (.t 21) (.t 22)⟩, ⟨some 24, none, .load (some 7) (.t 23)⟩, ⟨some 25, none, .callr laws_eqTac [.t 20, .t 24]⟩, ⟨some 26, none, .not (.t 25)⟩])
    (.cond (.t 26) (.seq (.ops [⟨some 4, none, .mov (.c (.bool false))⟩])
      (.seq (.keep [4]) .ret))
     (.skip))))
  (.ops [⟨some 15, none, .mov (.t 5)⟩, ⟨some 16, none, .ari .add (.t 15) (.c (.int .i64 1))⟩, ⟨some 5, none, .mov (.t 16)⟩]))
/-- loop.example/g00286/laws.eqTacS -/
def c_laws_eqTacS : SCode :=
 .seq (.ops [⟨some 4, none, .mov (.c (.bool false))⟩])
 (.seq (.seq (.ops [⟨some 6, none, .mov (.t 0)⟩, ⟨some 7, none, .len (.t 6)⟩, ⟨some 8, none, .mov (.t 1)⟩, ⟨some 9, none, .len (.t 8)⟩, ⟨some 10, none, .cmp .neq (.t 7) (.t 9)⟩])
   (.cond (.t 10) (.seq (.ops [⟨some 4, none, .mov (.c (.bool false))⟩])
     (.ret))
    (.skip)))
  (.seq (.seq (.ops [⟨some 5, none, .mov (.c (.int .i64 0))⟩])
    (.block 0 (.loop [0, 1, 5] b_laws_eqTacS_0)))
   (.seq (.ops [⟨some 4, none, .mov (.c (.bool true))⟩])
    (.ret))))
def s_laws_eqTacS : SFn := ⟨2, 27, c_laws_eqTacS, [.t 4]⟩
def b_laws_markTacS_0 : SCode :=
 .seq (.seq (.ops [⟨some 6, none, .mov (.t 5)⟩, ⟨some 7, none, .mov (.t 0)⟩, ⟨some 8, none, .len (.t 7)⟩, ⟨some 9, none, .cmp .lss (.t 6) (.t 8)⟩])
  (.cond (.t 9) (.skip)
   (.seq (.keep [1]) (.exit 0))))
 (.seq (.block 1 (.seq (.ops [⟨some 12, none, .mov (.t 0)⟩, ⟨some 13, none, .mov (.t 5)⟩, ⟨some 14, none, .mov (.t 1)⟩, ⟨some 15, none, .ixa 7 (.t 12) (.t 13)⟩, ⟨some 16, none, .faddr 0 (.t 15)⟩, ⟨none, none, .store 1 (.t 16) (.t 14)⟩])
    (.seq (.ops [⟨some 17, none, .mov (.t 1)⟩, ⟨some 18, none, .ari .add (.t 17) (.c (.int .i64 1))⟩, ⟨some 1, none, .mov (.t 18)⟩])
     (.seq (.ops [⟨some 19, none, .mov (.t 0)⟩, ⟨some 20, none, .mov (.t 5)⟩, ⟨some 21, none, .mov (.t 1)⟩, ⟨some 22, none, .ixa 7 (.t 19) (.t 20)⟩, ⟨some 23, none, .faddr 1 (.t 22)⟩, ⟨none, none, .store 1 (.t 23) (.t 21)⟩])
      (.seq (.ops [⟨some 24, none, .mov (.t 1)⟩, ⟨some 25, none, .ari .add (.t 24) (.c (.int .i64 1))⟩, ⟨some 1, none, .mov (.t 25)⟩])
       (.seq (.ops [⟨some 26, none, .mov (.t 0)⟩, ⟨some 27, none, .mov (.t 5)⟩, ⟨some 28, none, .mov (.t 1)⟩, ⟨some 29, none, .ixa 7 (.t 26) (.t 27)⟩, ⟨some 30, none, .faddr 2 (.t 29)⟩, ⟨none, none, .store 1 (.t 30) (.t 28)⟩])
        (.seq (.ops [⟨some 31, none, .mov (.t 1)⟩, ⟨some 32, none, .ari .add (.t 31) (.c (.int .i64 1))⟩, ⟨some 1, none, .mov (.t 32)⟩])
         (.seq (.ops [⟨some 33, none, .mov (.t 0)⟩, ⟨some 34, none, .mov (.t 5)⟩, ⟨some 35, none, .mov (.t 1)⟩, ⟨some 36, none, .ixa 7 (.t 33) (.t 34)⟩, ⟨some 37, none, .faddr 3 (.t 36)⟩, ⟨none, none, .store 1 (.t 37) (.t 35)⟩])
          (.seq (.ops [⟨some 38, none, .mov (.t 1)⟩, ⟨some 39, none, .ari .add (.t 38) (.c (.int .i64 1))⟩, ⟨some 1, none, .mov (.t 39)⟩])
           (.seq (.ops [⟨some 40, none, .mov (.t 0)⟩, ⟨some 41, none, .mov (.t 5)⟩, ⟨some 42, none, .mov (.t 1)⟩, ⟨some 43, none, .ixa 7 (.t 40) (.t 41)⟩, ⟨some 44, none, .faddr 4 (.t 43)⟩, ⟨none, none, .store 1 (.t 44) (.t 42)⟩])
            (.seq (.ops [⟨some 45, none, .mov (.t 1)⟩, ⟨some 46, none, .ari .add (.t 45) (.c (.int .i64 1))⟩, ⟨some 1, none, .mov (.t 46)⟩])
             (.seq (.ops [⟨some 47, none, .mov (.t 0)⟩, ⟨some 48, none, .mov (.t 5)⟩, ⟨some 49, none, .mov (.t 1)⟩, ⟨some 50, none, .callr laws_markText [.t 49]⟩, ⟨some 51, none, .ixa 7 (.t 47) (.t 48)⟩, ⟨some 52, none, .faddr 5 (.t 51)⟩, ⟨none, none, .store 1 (.t 52) (.t 50)⟩])
              (.seq (.ops [⟨some 53, none, .mov (.t 1)⟩, ⟨some 54, none, .ari .add (.t 53) (.c (.int .i64 1))⟩, ⟨some 1, none, .mov (.t 54)⟩])
               (.ops [⟨some 55, none, .mov (.t 0)⟩, ⟨some 56, none, .mov (.t 5)⟩, ⟨some 57, none, .ixa 7 (.t 55) (.t 56)⟩, ⟨some 58, none, .faddr 6 (.t 57)⟩, ⟨some 59, none, .load none (.t 58)⟩, ⟨some 60, none, .mov (.t 1)⟩, ⟨some 61, none, .callb laws_markIntS [.t 59, .t 60] [true, false]⟩, ⟨some 1, none, .mov (.t 61)⟩]))))))))))))))
  (.ops [⟨some 10, none, .mov (.t 5)⟩, ⟨some 11, none, .ari .add (.t 10) (.c (.int .i64 1))⟩, ⟨some 5, none, .mov (.t 11)⟩]))
/-- loop.example/g00286/laws.markTacS -/
def c_laws_markTacS : SCode :=
 .seq (.ops [⟨some 4, none, .mov (.c (.int .i64 0))⟩])
 (.seq (.seq (.ops [⟨some 5, none, .mov (.c (.int .i64 0))⟩])
   (.block 0 (.loop [0, 1, 5] b_laws_markTacS_0)))
  (.seq (.ops [⟨some 62, none, .mov (.t 1)⟩, ⟨some 4, none, .mov (.t 62)⟩])
   (.ret)))
def s_laws_markTacS : SFn := ⟨2, 63, c_laws_markTacS, [.t 4]⟩
def b_laws_heldTacS_0 : SCode :=
 .seq (.seq (.ops [⟨some 6, none, .mov (.t 5)⟩, ⟨some 7, none, .mov (.t 0)⟩, ⟨some 8, none, .len (.t 7)⟩, ⟨some 9, none, .cmp .lss (.t 6) (.t 8)⟩])
  (.cond (.t 9) (.skip)
   (.seq (.keep [1]) (.exit 0))))
 (.seq (.block 1 (.seq (.seq (.ops [⟨some 12, none, .mov (.t 0)⟩, ⟨some 13, none, .mov (.t 5)⟩, ⟨some 14, none, .ixa 7 (.t 12) (.t 13)⟩, ⟨some 15, none, .faddr 0 (.t 14)⟩, ⟨some 16, none, .load none (.t 15)⟩, ⟨some 17, none, .mov (.t 1)⟩, ⟨some 18, none, .cmp .neq (.t 16) (.t 17)⟩])
     (.cond (.t 18) (.seq (.ops [⟨some 4, none, .mov (.c (.int .i64 (-1)))⟩])
       (.seq (.keep [4]) .ret))
      (.skip)))
    (.seq (.ops [⟨some 19, none, .mov (.t 1)⟩, ⟨some 20, none, .ari .add (.t 19) (.c (.int .i64 1))⟩, ⟨some 1, none, .mov (.t 20)⟩])
     (.seq (.seq (.ops [⟨some 21, none, .mov (.t 0)⟩, ⟨some 22, none, .mov (.t 5)⟩, ⟨some 23, none, .ixa 7 (.t 21) (.t 22)⟩, ⟨some 24, none, .faddr 1 (.t 23)⟩, ⟨some 25, none, .load none (.t 24)⟩, ⟨some 26, none, .mov (.t 1)⟩, ⟨some 27, none, .cmp .neq (.t 25) (.t 26)⟩])
       (.cond (.t 27) (.seq (.ops [⟨some 4, none, .mov (.c (.int .i64 (-1)))⟩])
         (.seq (.keep [4]) .ret))
        (.skip)))
      (.seq (.ops [⟨some 28, none, .mov (.t 1)⟩, ⟨some 29, none, .ari .add (.t 28) (.c (.int .i64 1))⟩, ⟨some 1, none, .mov (.t 29)⟩])
       (.seq (.seq (.ops [⟨some 30, none, .mov (.t 0)⟩, ⟨some 31, none, .mov (.t 5)⟩, ⟨some 32, none, .ixa 7 (.t 30) (.t 31)⟩, ⟨some 33, none, .faddr 2 (.t 32)⟩, ⟨some 34, none, .load none (.t 33)⟩, ⟨some 35, none, .mov (.t 1)⟩, ⟨some 36, none, .cmp .neq (.t 34) (.t 35)⟩])
         (.cond (.t 36) (.seq (.ops [⟨some 4, none, .mov (.c (.int .i64 (-1)))⟩])
           (.seq (.keep [4]) .ret))
          (.skip)))
        (.seq (.ops [⟨some 37, none, .mov (.t 1)⟩, ⟨some 38, none, .ari .add (.t 37) (.c (.int .i64 1))⟩, ⟨some 1, none, .mov (.t 38)⟩])
         (.seq (.seq (.ops [⟨some 39, none, .mov (.t 0)⟩, ⟨some 40, none, .mov (.t 5)⟩, ⟨some 41, none, .ixa 7 (.t 39) (.t 40)⟩, ⟨some 42, none, .faddr 3 (.t 41)⟩, ⟨some 43, none, .load none (.t 42)⟩, ⟨some 44, none, .mov (.t 1)⟩, ⟨some 45, none, .cmp .neq (.t 43) (.t 44)⟩])
           (.cond (.t 45) (.seq (.ops [⟨some 4, none, .mov (.c (.int .i64 (-1)))⟩])
             (.seq (.keep [4]) .ret))
            (.skip)))
          (.seq (.ops [⟨some 46, none, .mov (.t 1)⟩, ⟨some 47, none, .ari .add (.t 46) (.c (.int .i64 1))⟩, ⟨some 1, none, .mov (.t 47)⟩])
           (.seq (.seq (.ops [⟨some 48, none, .mov (.t 0)⟩, ⟨some 49, none, .mov (.t 5)⟩, ⟨some 50, none, .ixa 7 (.t 48) (.t 49)⟩, ⟨some 51, none, .faddr 4 (.t 50)⟩, ⟨some 52, none, .load none (.t 51)⟩, ⟨some 53, none, .mov (.t 1)⟩, ⟨some 54, none, .cmp .neq (.t 52) (.t 53)⟩])
             (.cond (.t 54) (.seq (.ops [⟨some 4, none, .mov (.c (.int .i64 (-1)))⟩])
               (.seq (.keep [4]) .ret))
              (.skip)))
            (.seq (.ops [⟨some 55, none, .mov (.t 1)⟩, ⟨some 56, none, .ari .add (.t 55) (.c (.int .i64 1))⟩, ⟨some 1, none, .mov (.t 56)⟩])
             (.seq (.seq (.ops [⟨some 57, none, .mov (.t 0)⟩, ⟨some 58, none, .mov (.t 5)⟩, ⟨some 59, none, .ixa 7 (.t 57) (.t 58)⟩, ⟨some 60, none, .faddr 5 (.t 59)⟩, ⟨some 61, none, .load none (.t 60)⟩, ⟨some 62, none, .mov (.t 1)⟩, ⟨some 63, none, .callr laws_markText [.t 62]⟩, ⟨some 64, none, .cmp .neq (.t 61) (.t 63)⟩])
               (.cond (.t 64) (.seq (.ops [⟨some 4, none, .mov (.c (.int .i64 (-1)))⟩])
                 (.seq (.keep [4]) .ret))
                (.skip)))
              (.seq (.ops [⟨some 65, none, .mov (.t 1)⟩, ⟨some 66, none, .ari .add (.t 65) (.c (.int .i64 1))⟩, ⟨some 1, none, .mov (.t 66)⟩])
               (.seq (.ops [⟨some 67, none, .mov (.t 0)⟩, ⟨some 68, none, .mov (.t 5)⟩, ⟨some 69, none, .ixa 7 (.t 67) (.t 68)⟩, ⟨some 70, none, .faddr 6 (.t 69)⟩, ⟨some 71, none, .load none (.t 70)⟩, ⟨some 72, none, .mov (.t 1)⟩, ⟨some 73, none, .callr laws_heldIntS [.t 71, .t 72]⟩, ⟨some 1, none, .mov (.t 73)⟩])
                (.seq (.ops [⟨some 74, none, .mov (.t 1)⟩, ⟨some 75, none, .cmp .lss (.t 74) (.c (.int .i64 0))⟩])
                 (.cond (.t 75) (.seq (.ops [⟨some 4, none, .mov (.c (.int .i64 (-1)))⟩])
                   (.seq (.keep [4]) .ret))
                  (.skip)))))))))))))))))
  (.ops [⟨some 10, none, .mov (.t 5)⟩, ⟨some 11, none, .ari .add (.t 10) (.c (.int .i64 1))⟩, ⟨some 5, none, .mov (.t 11)⟩]))
/-- loop.example/g00286/laws.heldTacS -/
def c_laws_heldTacS : SCode :=
 .seq (.ops [⟨some 4, none, .mov (.c (.int .i64 0))⟩])
 (.seq (.seq (.ops [⟨some 5, none, .mov (.c (.int .i64 0))⟩])
   (.block 0 (.loop [0, 1, 5] b_laws_heldTacS_0)))
  (.seq (.ops [⟨some 76, none, .mov (.t 1)⟩, ⟨some 4, none, .mov (.t 76)⟩])
   (.ret)))
def s_laws_heldTacS : SFn := ⟨2, 77, c_laws_heldTacS, [.t 4]⟩
/-- loop.example/g00286/spec.WordOk -/
def c_spec_WordOk : SCode :=
 .seq (.ops [⟨some 2, none, .mov (.c (.bool false))⟩])
 (.seq (.ops [⟨some 3, none, .mov (.t 0)⟩, ⟨some 4, none, .callr spec_l1In [.t 3, .c (.int .i64 (-2147483648)), .c (.int .i64 2147483647)]⟩, ⟨some 2, none, .mov (.t 4)⟩])
  (.ret))
def s_spec_WordOk : SFn := ⟨1, 5, c_spec_WordOk, [.t 2]⟩
/-- loop.example/g00286/impl.WordOk -/
def c_impl_WordOk : SCode :=
 .seq (.ops [⟨some 2, none, .mov (.c (.bool false))⟩])
 (.seq (.ops [⟨some 3, none, .mov (.t 0)⟩, ⟨some 4, none, .callr impl_within [.t 3, .c (.int .i64 (-2147483648)), .c (.int .i64 2147483647)]⟩, ⟨some 2, none, .mov (.t 4)⟩])
  (.ret))
def s_impl_WordOk : SFn := ⟨1, 5, c_impl_WordOk, [.t 2]⟩
/-- loop.example/g00286/laws.szTac -/
def c_laws_szTac : SCode :=
 .seq (.ops [⟨some 2, none, .vbox 7 (.t 0)⟩, ⟨some 4, none, .mov (.c (.int .i64 0))⟩])
 (.seq (.ops [⟨some 5, none, .mov (.t 1)⟩, ⟨some 6, none, .faddr 5 (.t 2)⟩, ⟨some 7, none, .load none (.t 6)⟩, ⟨some 8, none, .slen (.t 7)⟩, ⟨some 9, none, .ari .sub (.t 5) (.t 8)⟩, ⟨some 1, none, .mov (.t 9)⟩])
  (.seq (.seq (.ops [⟨some 10, none, .mov (.t 1)⟩, ⟨some 11, none, .cmp .lss (.t 10) (.c (.int .i64 0))⟩])
    (.cond (.t 11) (.seq (.ops [⟨some 4, none, .mov (.c (.int .i64 (-1)))⟩])
      (.ret))
     (.skip)))
   (.seq (.ops [⟨some 12, none, .faddr 6 (.t 2)⟩, ⟨some 13, none, .load none (.t 12)⟩, ⟨some 14, none, .mov (.t 1)⟩, ⟨some 15, none, .callr laws_szIntS [.t 13, .t 14]⟩, ⟨some 1, none, .mov (.t 15)⟩])
    (.seq (.seq (.ops [⟨some 16, none, .mov (.t 1)⟩, ⟨some 17, none, .cmp .lss (.t 16) (.c (.int .i64 0))⟩])
      (.cond (.t 17) (.seq (.ops [⟨some 4, none, .mov (.c (.int .i64 (-1)))⟩])
        (.ret))
       (.skip)))
     (.seq (.ops [⟨some 18, none, .mov (.t 1)⟩, ⟨some 4, none, .mov (.t 18)⟩])
      (.ret))))))
def s_laws_szTac : SFn := ⟨2, 19, c_laws_szTac, [.t 4]⟩
/-- loop.example/g00286/spec.l1Min -/
def c_spec_l1Min : SCode :=
 .seq (.ops [⟨some 4, none, .mov (.c (.int .i64 0))⟩])
 (.seq (.seq (.ops [⟨some 5, none, .mov (.t 0)⟩, ⟨some 6, none, .mov (.t 1)⟩, ⟨some 7, none, .cmp .lss (.t 5) (.t 6)⟩])
   (.cond (.t 7) (.seq (.ops [⟨some 8, none, .mov (.t 0)⟩, ⟨some 4, none, .mov (.t 8)⟩])
     (.ret))
    (.skip)))
  (.seq (.ops [⟨some 9, none, .mov (.t 1)⟩, ⟨some 4, none, .mov (.t 9)⟩])
   (.ret)))
def s_spec_l1Min : SFn := ⟨2, 10, c_spec_l1Min, [.t 4]⟩
/-- loop.example/g00286/spec.l10Place -/
def c_spec_l10Place : SCode :=
 .seq (.ops [⟨some 2, none, .vbox 7 (.t 0)⟩, ⟨some 4, none, .mov (.c (.bool false))⟩])
 (.seq (.ops [⟨some 6, none, .faddr 0 (.t 2)⟩, ⟨some 7, none, .load none (.t 6)⟩, ⟨some 8, none, .callr spec_l10Has [.t 7]⟩, ⟨some 5, none, .mov (.t 8)⟩])
  (.seq (.seq (.ops [⟨some 9, none, .faddr 0 (.t 2)⟩, ⟨some 10, none, .load none (.t 9)⟩, ⟨some 11, none, .callr spec_l1In [.t 10, .c (.int .i64 1), .c (.int .i64 28)]⟩, ⟨some 12, none, .not (.t 11)⟩, ⟨some 13, none, .mov (.t 12)⟩, ⟨some 14, (some (13, false)), .load (some 7) (.t 2)⟩, ⟨some 15, (some (13, false)), .callr spec_l10Args [.t 14]⟩, ⟨some 16, (some (13, false)), .not (.t 15)⟩, ⟨some 17, none, .pick (.t 13) (.c (.bool true)) (.t 16)⟩, ⟨some 18, none, .mov (.t 17)⟩, ⟨some 19, (some (18, false)), .load (some 7) (.t 2)⟩, ⟨some 20, (some (18, false)), .mov (.t 1)⟩, ⟨some 21, (some (18, false)), .callr spec_l10Regs [.t 19, .t 20]⟩, ⟨some 22, (some (18, false)), .not (.t 21)⟩, ⟨some 23, none, .pick (.t 18) (.c (.bool true)) (.t 22)⟩])
    (.cond (.t 23) (.seq (.ops [⟨some 4, none, .mov (.c (.bool false))⟩])
      (.ret))
     (.skip)))
   (.seq (.seq (.ops [⟨some 24, none, .faddr 0 (.t 2)⟩, ⟨some 25, none, .load none (.t 24)⟩, ⟨some 26, none, .cmp .eql (.t 25) (.c (.int .i64 19))⟩, ⟨some 27, none, .mov (.t 26)⟩, ⟨some 28, (some (27, true)), .faddr 4 (.t 2)⟩, ⟨some 29, (some (27, true)), .load none (.t 28)⟩, ⟨some 30, (some (27, true)), .callr spec_l1In [.t 29, .c (.int .i64 0), .c (.int .i64 1)]⟩, ⟨some 31, (some (27, true)), .not (.t 30)⟩, ⟨some 32, none, .pick (.t 27) (.t 31) (.c (.bool false))⟩, ⟨some 33, none, .mov (.t 32)⟩, ⟨some 34, (some (33, false)), .faddr 4 (.t 2)⟩, ⟨some 35, (some (33, false)), .load none (.t 34)⟩, ⟨some 36, (some (33, false)), .callr spec_WordOk [.t 35]⟩, ⟨some 37, (some (33, false)), .not (.t 36)⟩, ⟨some 38, none, .pick (.t 33) (.c (.bool true)) (.t 37)⟩])
     (.cond (.t 38) (.seq (.ops [⟨some 4, none, .mov (.c (.bool false))⟩])
       (.ret))
      (.skip)))
    (.seq (.ops [⟨some 39, none, .mov (.t 5)⟩, ⟨some 40, none, .ari .and (.t 39) (.c (.int .i64 1))⟩, ⟨some 41, none, .cmp .neq (.t 40) (.c (.int .i64 0))⟩, ⟨some 42, none, .mov (.t 41)⟩, ⟨some 43, (some (42, false)), .faddr 1 (.t 2)⟩, ⟨some 44, (some (42, false)), .load none (.t 43)⟩, ⟨some 45, (some (42, false)), .cmp .eql (.t 44) (.c (.int .i64 0))⟩, ⟨some 46, none, .pick (.t 42) (.c (.bool true)) (.t 45)⟩, ⟨some 47, none, .mov (.t 46)⟩, ⟨some 48, (some (47, true)), .mov (.t 5)⟩, ⟨some 49, (some (47, true)), .ari .and (.t 48) (.c (.int .i64 2))⟩, ⟨some 50, (some (47, true)), .cmp .neq (.t 49) (.c (.int .i64 0))⟩, ⟨some 51, (some (47, true)), .mov (.t 50)⟩, ⟨some 52, (some (51, false)), .faddr 2 (.t 2)⟩, ⟨some 53, (some (51, false)), .load none (.t 52)⟩, ⟨some 54, (some (51, false)), .cmp .eql (.t 53) (.c (.int .i64 0))⟩, ⟨some 55, (some (47, true)), .pick (.t 51) (.c (.bool true)) (.t 54)⟩, ⟨some 56, none, .pick (.t 47) (.t 55) (.c (.bool false))⟩, ⟨some 57, none, .mov (.t 56)⟩, ⟨some 58, (some (57, true)), .mov (.t 5)⟩, ⟨some 59, (some (57, true)), .ari .and (.t 58) (.c (.int .i64 4))⟩, ⟨some 60, (some (57, true)), .cmp .neq (.t 59) (.c (.int .i64 0))⟩, ⟨some 61, (some (57, true)), .mov (.t 60)⟩, ⟨some 62, (some (61, false)), .faddr 3 (.t 2)⟩, ⟨some 63, (some (61, false)), .load none (.t 62)⟩, ⟨some 64, (some (61, false)), .cmp .eql (.t 63) (.c (.int .i64 0))⟩, ⟨some 65, (some (57, true)), .pick (.t 61) (.c (.bool true)) (.t 64)⟩, ⟨some 66, none, .pick (.t 57) (.t 65) (.c (.bool false))⟩, ⟨some 67, none, .mov (.t 66)⟩, ⟨some 68, (some (67, true)), .mov (.t 5)⟩, ⟨some 69, (some (67, true)), .ari .and (.t 68) (.c (.int .i64 8))⟩, ⟨some 70, (some (67, true)), .cmp .neq (.t 69) (.c (.int .i64 0))⟩, ⟨some 71, (some (67, true)), .mov (.t 70)⟩, ⟨some 72, (some (71, false)), .faddr 4 (.t 2)⟩, ⟨some 73, (some (71, false)), .load none (.t 72)⟩, ⟨some 74, (some (71, false)), .cmp .eql (.t 73) (.c (.int .i64 0))⟩, ⟨some 75, (some (67, true)), .pick (.t 71) (.c (.bool true)) (.t 74)⟩, ⟨some 76, none, .pick (.t 67) (.t 75) (.c (.bool false))⟩, ⟨some 77, none, .mov (.t 76)⟩, ⟨some 78, (some (77, true)), .mov (.t 5)⟩, ⟨some 79, (some (77, true)), .ari .and (.t 78) (.c (.int .i64 16))⟩, ⟨some 80, (some (77, true)), .cmp .neq (.t 79) (.c (.int .i64 0))⟩, ⟨some 81, (some (77, true)), .mov (.t 80)⟩, ⟨some 82, (some (81, false)), .faddr 5 (.t 2)⟩, ⟨some 83, (some (81, false)), .load none (.t 82)⟩, ⟨some 84, (some (81, false)), .cmp .eql (.t 83) (.c (.string ⟨#[]⟩))⟩, ⟨some 85, (some (77, true)), .pick (.t 81) (.c (.bool true)) (.t 84)⟩, ⟨some 86, none, .pick (.t 77) (.t 85) (.c (.bool false))⟩, ⟨some 4, none, .mov (.t 86)⟩])
     (.ret)))))
def s_spec_l10Place : SFn := ⟨2, 87, c_spec_l10Place, [.t 4]⟩
def b_spec_l10Label_0 : SCode :=
 .seq (.seq (.ops [⟨some 6, none, .mov (.t 5)⟩, ⟨some 7, none, .mov (.t 0)⟩, ⟨some 8, none, .len (.t 7)⟩, ⟨some 9, none, .cmp .lss (.t 6) (.t 8)⟩])
  (.cond (.t 9) (.skip)
   (.seq (.keep []) (.exit 0))))
 (.seq (.block 1 (.seq (.ops [⟨some 12, none, .mov (.t 0)⟩, ⟨some 13, none, .mov (.t 5)⟩, ⟨some 14, none, .ixa 7 (.t 12) (.t 13)⟩, ⟨some 15, none, .faddr 0 (.t 14)⟩, ⟨some 16, none, .load none (.t 15)⟩, ⟨some 17, none, .cmp .eql (.t 16) (.c (.int .i64 8))⟩, ⟨some 18, none, .mov (.t 17)⟩, ⟨some 19, (some (18, true)), .mov (.t 0)⟩, ⟨some 20, (some (18, true)), .mov (.t 5)⟩, ⟨some 21, (some (18, true)), .ixa 7 (.t 19) (.t 20)⟩, ⟨some 22, (some (18, true)), .faddr 4 (.t 21)⟩, ⟨some 23, (some (18, true)), .load none (.t 22)⟩, ⟨some 24, (some (18, true)), .mov (.t 1)⟩, ⟨some 25, (some (18, true)), .cmp .eql (.t 23) (.t 24)⟩, ⟨some 26, none, .pick (.t 18) (.t 25) (.c (.bool false))⟩])
    (.cond (.t 26) (.seq (.ops [⟨some 27, none, .mov (.t 5)⟩, ⟨some 4, none, .mov (.t 27)⟩])
      (.seq (.keep [4]) .ret))
     (.skip))))
  (.ops [⟨some 10, none, .mov (.t 5)⟩, ⟨some 11, none, .ari .add (.t 10) (.c (.int .i64 1))⟩, ⟨some 5, none, .mov (.t 11)⟩]))
/-- loop.example/g00286/spec.l10Label -/
def c_spec_l10Label : SCode :=
 .seq (.ops [⟨some 4, none, .mov (.c (.int .i64 0))⟩])
 (.seq (.seq (.ops [⟨some 5, none, .mov (.c (.int .i64 0))⟩])
   (.block 0 (.loop [0, 1, 5] b_spec_l10Label_0)))
  (.seq (.ops [⟨some 4, none, .mov (.c (.int .i64 (-1)))⟩])
   (.ret)))
def s_spec_l10Label : SFn := ⟨2, 28, c_spec_l10Label, [.t 4]⟩
def b_spec_l10Code_0 : SCode :=
 .seq (.seq (.ops [⟨some 6, none, .mov (.t 4)⟩, ⟨some 7, none, .mov (.t 0)⟩, ⟨some 8, none, .len (.t 7)⟩, ⟨some 9, none, .cmp .lss (.t 6) (.t 8)⟩])
  (.cond (.t 9) (.skip)
   (.seq (.keep [3]) (.exit 0))))
 (.seq (.block 1 (.ops [⟨some 12, none, .mov (.t 3)⟩, ⟨some 13, none, .mov (.t 0)⟩, ⟨some 14, none, .mov (.t 4)⟩, ⟨some 15, none, .ixa 7 (.t 13) (.t 14)⟩, ⟨some 16, none, .load (some 7) (.t 15)⟩, ⟨some 17, none, .call spec_l10Tac [.t 16]⟩, ⟨some 18, none, .lit 7 [.t 17]⟩, ⟨some 19, none, .app 7 80 (.t 12) (.t 18)⟩, ⟨some 3, none, .mov (.t 19)⟩]))
  (.ops [⟨some 10, none, .mov (.t 4)⟩, ⟨some 11, none, .ari .add (.t 10) (.c (.int .i64 1))⟩, ⟨some 4, none, .mov (.t 11)⟩]))
/-- loop.example/g00286/spec.l10Code -/
def c_spec_l10Code : SCode :=
 .seq (.ops [⟨some 2, none, .mov (.n 7)⟩])
 (.seq (.ops [⟨some 5, none, .lit 7 []⟩, ⟨some 3, none, .mov (.t 5)⟩])
  (.seq (.seq (.ops [⟨some 4, none, .mov (.c (.int .i64 0))⟩])
    (.block 0 (.loop [0, 3, 4] b_spec_l10Code_0)))
   (.seq (.ops [⟨some 20, none, .mov (.t 3)⟩, ⟨some 2, none, .mov (.t 20)⟩])
    (.ret))))
def s_spec_l10Code : SFn := ⟨1, 21, c_spec_l10Code, [.t 2]⟩
/-- loop.example/g00286/spec.l20New -/
def c_spec_l20New : SCode :=
 .seq (.ops [⟨some 6, none, .mov (.c (.int .i64 0))⟩])
 (.seq (.ops [⟨some 8, none, .mov (.t 0)⟩, ⟨some 9, none, .callb spec_l20Reg [.t 8] [true]⟩, ⟨some 7, none, .mov (.t 9)⟩])
  (.seq (.ops [⟨some 10, none, .mov (.t 0)⟩, ⟨some 11, none, .mov (.t 7)⟩, ⟨some 12, none, .mov (.t 1)⟩, ⟨some 13, none, .mov (.t 2)⟩, ⟨some 14, none, .callb spec_l20Call [.t 10, .t 11, .t 12, .t 13] [true, false, false, true]⟩])
   (.seq (.ops [⟨some 15, none, .mov (.t 7)⟩, ⟨some 6, none, .mov (.t 15)⟩])
    (.ret))))
def s_spec_l20New : SFn := ⟨3, 16, c_spec_l20New, [.t 6]⟩
def b_spec_l20Go_0 : SCode :=
 .seq (.seq (.ops [⟨some 10, none, .mov (.t 5)⟩, ⟨some 11, none, .faddr 6 (.t 3)⟩, ⟨some 12, none, .load none (.t 11)⟩, ⟨some 13, none, .len (.t 12)⟩, ⟨some 14, none, .cmp .lss (.t 10) (.t 13)⟩])
  (.cond (.t 14) (.skip)
   (.seq (.keep [0, 3]) (.exit 0))))
 (.seq (.block 1 (.ops [⟨some 17, none, .mov (.t 0)⟩, ⟨some 18, none, .mov (.t 4)⟩, ⟨some 19, none, .mov (.t 5)⟩, ⟨some 20, none, .ari .add (.c (.int .i64 7)) (.t 19)⟩, ⟨some 21, none, .faddr 6 (.t 3)⟩, ⟨some 22, none, .load none (.t 21)⟩, ⟨some 23, none, .mov (.t 5)⟩, ⟨some 24, none, .ixa 1 (.t 22) (.t 23)⟩, ⟨some 25, none, .load none (.t 24)⟩, ⟨some 26, none, .callb spec_l20Store [.t 17, .t 18, .t 20, .t 25] [true, false, false, false]⟩]))
  (.ops [⟨some 15, none, .mov (.t 5)⟩, ⟨some 16, none, .ari .add (.t 15) (.c (.int .i64 1))⟩, ⟨some 5, none, .mov (.t 16)⟩]))
/-- loop.example/g00286/spec.l20Go -/
def c_spec_l20Go : SCode :=
 .seq (.ops [⟨some 3, none, .vbox 7 (.t 1)⟩])
 (.seq (.ops [⟨some 8, none, .mov (.t 0)⟩, ⟨some 9, none, .callb spec_l20New [.t 8, .c (.string ⟨#[114, 116, 115, 101, 108, 102]⟩), .n 1] [true, false, true]⟩, ⟨some 4, none, .mov (.t 9)⟩])
  (.seq (.seq (.ops [⟨some 5, none, .mov (.c (.int .i64 0))⟩])
    (.block 0 (.loop [0, 3, 4, 5] b_spec_l20Go_0)))
   (.seq (.ops [⟨some 27, none, .mov (.t 0)⟩, ⟨some 28, none, .callb spec_l20Reg [.t 27] [true]⟩, ⟨some 6, none, .mov (.t 28)⟩])
    (.seq (.ops [⟨some 29, none, .mov (.t 0)⟩, ⟨some 30, none, .mov (.t 6)⟩, ⟨some 31, none, .faddr 5 (.t 3)⟩, ⟨some 32, none, .load none (.t 31)⟩, ⟨some 33, none, .build [.v (.int .i64 0), .v (.int .i64 0), .v (.int .i64 0), .v (.int .i64 0), .v (.int .i64 0), .v (.string ⟨#[]⟩), .s 1 []] [(0, 1, .c (.int .i64 24)), (1, 1, .t 30), (5, 1, .t 32)]⟩, ⟨some 34, none, .callb spec_l20Put [.t 29, .t 33] [true, true]⟩])
     (.seq (.ops [⟨some 35, none, .mov (.t 0)⟩, ⟨some 36, none, .faddr 6 (.t 3)⟩, ⟨some 37, none, .load none (.t 36)⟩, ⟨some 38, none, .len (.t 37)⟩, ⟨some 39, none, .callb spec_l20Num [.t 35, .t 38] [true, false]⟩, ⟨some 7, none, .mov (.t 39)⟩])
      (.ops [⟨some 40, none, .mov (.t 0)⟩, ⟨some 41, none, .mov (.t 6)⟩, ⟨some 42, none, .mov (.t 7)⟩, ⟨some 43, none, .lit 1 [.t 41, .t 42]⟩, ⟨some 44, none, .callb spec_l20New [.t 40, .c (.string ⟨#[114, 116, 103, 111]⟩), .t 43] [true, false, true]⟩]))))))
def s_spec_l20Go : SFn := ⟨2, 45, c_spec_l20Go, []⟩
/-- loop.example/g00286/spec.l20Call -/
def c_spec_l20Call : SCode :=
 .ops [⟨some 8, none, .mov (.t 0)⟩, ⟨some 9, none, .mov (.t 1)⟩, ⟨some 10, none, .mov (.t 2)⟩, ⟨some 11, none, .lit 1 []⟩, ⟨some 12, none, .mov (.t 3)⟩, ⟨some 13, none, .app 1 8 (.t 11) (.t 12)⟩, ⟨some 14, none, .build [.v (.int .i64 0), .v (.int .i64 0), .v (.int .i64 0), .v (.int .i64 0), .v (.int .i64 0), .v (.string ⟨#[]⟩), .s 1 []] [(0, 1, .c (.int .i64 11)), (1, 1, .t 9), (5, 1, .t 10), (6, 1, .t 13)]⟩, ⟨some 15, none, .callb spec_l20Put [.t 8, .t 14] [true, true]⟩]
def s_spec_l20Call : SFn := ⟨4, 16, c_spec_l20Call, []⟩
def b_spec_l20Select_0 : SCode :=
 .seq (.seq (.ops [⟨some 13, none, .mov (.t 5)⟩, ⟨some 14, none, .faddr 6 (.t 3)⟩, ⟨some 15, none, .load none (.t 14)⟩, ⟨some 16, none, .len (.t 15)⟩, ⟨some 17, none, .cmp .lss (.t 13) (.t 16)⟩])
  (.cond (.t 17) (.skip)
   (.seq (.keep [0, 3, 4]) (.exit 0))))
 (.seq (.block 1 (.seq (.ops [⟨some 20, none, .faddr 6 (.t 3)⟩, ⟨some 21, none, .load none (.t 20)⟩, ⟨some 22, none, .mov (.t 5)⟩, ⟨some 23, none, .ixa 1 (.t 21) (.t 22)⟩, ⟨some 24, none, .load none (.t 23)⟩, ⟨some 6, none, .mov (.t 24)⟩])
    (.seq (.seq (.ops [⟨some 25, none, .mov (.t 5)⟩, ⟨some 26, none, .ari .rem (.t 25) (.c (.int .i64 3))⟩, ⟨some 27, none, .cmp .eql (.t 26) (.c (.int .i64 0))⟩, ⟨some 28, none, .mov (.t 27)⟩, ⟨some 29, (some (28, false)), .mov (.t 5)⟩, ⟨some 30, (some (28, false)), .ari .rem (.t 29) (.c (.int .i64 3))⟩, ⟨some 31, (some (28, false)), .cmp .eql (.t 30) (.c (.int .i64 2))⟩, ⟨some 32, (some (28, false)), .mov (.t 31)⟩, ⟨some 33, (some (32, true)), .faddr 6 (.t 3)⟩, ⟨some 34, (some (32, true)), .load none (.t 33)⟩, ⟨some 35, (some (32, true)), .mov (.t 5)⟩, ⟨some 36, (some (32, true)), .ari .sub (.t 35) (.c (.int .i64 2))⟩, ⟨some 37, (some (32, true)), .ixa 1 (.t 34) (.t 36)⟩, ⟨some 38, (some (32, true)), .load none (.t 37)⟩, ⟨some 39, (some (32, true)), .cmp .eql (.t 38) (.c (.int .i64 1))⟩, ⟨some 40, (some (28, false)), .pick (.t 32) (.t 39) (.c (.bool false))⟩, ⟨some 41, none, .pick (.t 28) (.c (.bool true)) (.t 40)⟩])
      (.cond (.t 41) (.ops [⟨some 42, none, .mov (.t 0)⟩, ⟨some 43, none, .faddr 6 (.t 3)⟩, ⟨some 44, none, .load none (.t 43)⟩, ⟨some 45, none, .mov (.t 5)⟩, ⟨some 46, none, .ixa 1 (.t 44) (.t 45)⟩, ⟨some 47, none, .load none (.t 46)⟩, ⟨some 48, none, .callb spec_l20Num [.t 42, .t 47] [true, false]⟩, ⟨some 6, none, .mov (.t 48)⟩])
       (.skip)))
     (.ops [⟨some 49, none, .mov (.t 0)⟩, ⟨some 50, none, .mov (.t 4)⟩, ⟨some 51, none, .mov (.t 5)⟩, ⟨some 52, none, .ari .add (.c (.int .i64 7)) (.t 51)⟩, ⟨some 53, none, .mov (.t 6)⟩, ⟨some 54, none, .callb spec_l20Store [.t 49, .t 50, .t 52, .t 53] [true, false, false, false]⟩]))))
  (.ops [⟨some 18, none, .mov (.t 5)⟩, ⟨some 19, none, .ari .add (.t 18) (.c (.int .i64 1))⟩, ⟨some 5, none, .mov (.t 19)⟩]))
/-- loop.example/g00286/spec.l20Select -/
def c_spec_l20Select : SCode :=
 .seq (.ops [⟨some 3, none, .vbox 7 (.t 1)⟩])
 (.seq (.ops [⟨some 11, none, .mov (.t 0)⟩, ⟨some 12, none, .callb spec_l20New [.t 11, .c (.string ⟨#[114, 116, 115, 101, 108, 102]⟩), .n 1] [true, false, true]⟩, ⟨some 4, none, .mov (.t 12)⟩])
  (.seq (.seq (.ops [⟨some 5, none, .mov (.c (.int .i64 0))⟩])
    (.block 0 (.loop [0, 3, 4, 5] b_spec_l20Select_0)))
   (.seq (.ops [⟨some 55, none, .mov (.t 0)⟩, ⟨some 56, none, .faddr 6 (.t 3)⟩, ⟨some 57, none, .load none (.t 56)⟩, ⟨some 58, none, .len (.t 57)⟩, ⟨some 59, none, .ari .quo (.t 58) (.c (.int .i64 3))⟩, ⟨some 60, none, .callb spec_l20Num [.t 55, .t 59] [true, false]⟩, ⟨some 7, none, .mov (.t 60)⟩])
    (.seq (.ops [⟨some 61, none, .mov (.t 0)⟩, ⟨some 62, none, .faddr 4 (.t 3)⟩, ⟨some 63, none, .load none (.t 62)⟩, ⟨some 64, none, .callb spec_l20Num [.t 61, .t 63] [true, false]⟩, ⟨some 8, none, .mov (.t 64)⟩])
     (.seq (.ops [⟨some 65, none, .mov (.t 0)⟩, ⟨some 66, none, .faddr 1 (.t 3)⟩, ⟨some 67, none, .load none (.t 66)⟩, ⟨some 68, none, .mov (.t 7)⟩, ⟨some 69, none, .mov (.t 8)⟩, ⟨some 70, none, .lit 1 [.t 68, .t 69]⟩, ⟨some 71, none, .callb spec_l20Call [.t 65, .t 67, .c (.string ⟨#[114, 116, 115, 101, 108, 101, 99, 116]⟩), .t 70] [true, false, false, true]⟩])
      (.seq (.ops [⟨some 72, none, .mov (.t 0)⟩, ⟨some 73, none, .callb spec_l20Num [.t 72, .c (.int .i64 3)] [true, false]⟩, ⟨some 9, none, .mov (.t 73)⟩])
       (.seq (.ops [⟨some 74, none, .mov (.t 0)⟩, ⟨some 75, none, .callb spec_l20Reg [.t 74] [true]⟩, ⟨some 10, none, .mov (.t 75)⟩])
        (.seq (.ops [⟨some 76, none, .mov (.t 0)⟩, ⟨some 77, none, .mov (.t 10)⟩, ⟨some 78, none, .mov (.t 4)⟩, ⟨some 79, none, .mov (.t 9)⟩, ⟨some 80, none, .build [.v (.int .i64 0), .v (.int .i64 0), .v (.int .i64 0), .v (.int .i64 0), .v (.int .i64 0), .v (.string ⟨#[]⟩), .s 1 []] [(0, 1, .c (.int .i64 3)), (1, 1, .t 77), (2, 1, .t 78), (3, 1, .t 79)]⟩, ⟨some 81, none, .callb spec_l20Put [.t 76, .t 80] [true, true]⟩])
         (.ops [⟨some 82, none, .mov (.t 0)⟩, ⟨some 83, none, .faddr 3 (.t 3)⟩, ⟨some 84, none, .load none (.t 83)⟩, ⟨some 85, none, .mov (.t 10)⟩, ⟨some 86, none, .build [.v (.int .i64 0), .v (.int .i64 0), .v (.int .i64 0), .v (.int .i64 0), .v (.int .i64 0), .v (.string ⟨#[]⟩), .s 1 []] [(0, 1, .c (.int .i64 20)), (1, 1, .t 84), (2, 1, .t 85)]⟩, ⟨some 87, none, .callb spec_l20Put [.t 82, .t 86] [true, true]⟩])))))))))
def s_spec_l20Select : SFn := ⟨2, 88, c_spec_l20Select, []⟩
/-- loop.example/g00286/spec.l20Put -/
def c_spec_l20Put : SCode :=
 .seq (.ops [⟨some 3, none, .vbox 7 (.t 1)⟩])
 (.opsd [⟨⟨some 4, none, .mov (.t 0)⟩, 0, []⟩, ⟨⟨some 5, none, .mov (.t 0)⟩, 1, []⟩, ⟨⟨some 6, none, .nck (.t 5)⟩, 2, []⟩, ⟨⟨some 7, none, .faddr 0 (.t 6)⟩, 3, []⟩, ⟨⟨some 8, none, .faddr 3 (.t 7)⟩, 4, []⟩, ⟨⟨some 9, none, .load none (.t 8)⟩, 5, []⟩, ⟨⟨some 10, none, .load (some 7) (.t 3)⟩, 6, []⟩, ⟨⟨some 11, none, .lit 7 [.t 10]⟩, 7, [⟨some 4, none, .mov (.t 0)⟩, ⟨some 5, none, .mov (.t 0)⟩, ⟨some 6, none, .nck (.t 5)⟩, ⟨some 7, none, .faddr 0 (.t 6)⟩, ⟨some 8, none, .faddr 3 (.t 7)⟩, ⟨some 9, none, .load none (.t 8)⟩]⟩, ⟨⟨some 12, none, .app 7 80 (.t 9) (.t 11)⟩, 8, [⟨some 4, none, .mov (.t 0)⟩]⟩, ⟨⟨some 13, none, .nck (.t 4)⟩, 9, []⟩, ⟨⟨some 14, none, .faddr 0 (.t 13)⟩, 10, []⟩, ⟨⟨some 15, none, .faddr 3 (.t 14)⟩, 11, []⟩, ⟨⟨none, none, .store 1 (.t 15) (.t 12)⟩, 12, []⟩])
def s_spec_l20Put : SFn := ⟨2, 16, c_spec_l20Put, []⟩
/-- loop.example/g00286/spec.l10Tac -/
def c_spec_l10Tac : SCode :=
 .seq (.ops [⟨some 1, none, .box 7 (.t 0)⟩, ⟨some 2, none, .alloc [.v (.int .i64 0), .v (.int .i64 0), .v (.int .i64 0), .v (.int .i64 0), .v (.int .i64 0), .v (.string ⟨#[]⟩), .s 1 []]⟩])
 (.seq (.ops [⟨some 3, none, .lit 1 []⟩, ⟨some 4, none, .faddr 6 (.t 1)⟩, ⟨some 5, none, .load none (.t 4)⟩, ⟨some 6, none, .app 1 8 (.t 3) (.t 5)⟩, ⟨some 7, none, .faddr 6 (.t 1)⟩, ⟨none, none, .store 1 (.t 7) (.t 6)⟩])
  (.seq (.ops [⟨some 8, none, .load (some 7) (.t 1)⟩, ⟨none, none, .store 7 (.t 2) (.t 8)⟩])
   (.ret)))
def s_spec_l10Tac : SFn := ⟨1, 9, c_spec_l10Tac, [.c 2 (some 7)]⟩
/-- loop.example/g00286/laws.toTac -/
def c_laws_toTac : SCode :=
 .seq (.ops [⟨some 1, none, .vbox 7 (.t 0)⟩, ⟨some 2, none, .alloc [.v (.int .i64 0), .v (.int .i64 0), .v (.int .i64 0), .v (.int .i64 0), .v (.int .i64 0), .v (.string ⟨#[]⟩), .s 1 []]⟩])
 (.seq (.ops [⟨some 3, none, .alloc [.v (.int .i64 0), .v (.int .i64 0), .v (.int .i64 0), .v (.int .i64 0), .v (.int .i64 0), .v (.string ⟨#[]⟩), .s 1 []]⟩])
  (.seq (.ops [⟨some 4, none, .faddr 0 (.t 1)⟩, ⟨some 5, none, .load none (.t 4)⟩, ⟨some 6, none, .faddr 0 (.t 3)⟩, ⟨none, none, .store 1 (.t 6) (.t 5)⟩])
   (.seq (.ops [⟨some 7, none, .faddr 1 (.t 1)⟩, ⟨some 8, none, .load none (.t 7)⟩, ⟨some 9, none, .faddr 1 (.t 3)⟩, ⟨none, none, .store 1 (.t 9) (.t 8)⟩])
    (.seq (.ops [⟨some 10, none, .faddr 2 (.t 1)⟩, ⟨some 11, none, .load none (.t 10)⟩, ⟨some 12, none, .faddr 2 (.t 3)⟩, ⟨none, none, .store 1 (.t 12) (.t 11)⟩])
     (.seq (.ops [⟨some 13, none, .faddr 3 (.t 1)⟩, ⟨some 14, none, .load none (.t 13)⟩, ⟨some 15, none, .faddr 3 (.t 3)⟩, ⟨none, none, .store 1 (.t 15) (.t 14)⟩])
      (.seq (.ops [⟨some 16, none, .faddr 4 (.t 1)⟩, ⟨some 17, none, .load none (.t 16)⟩, ⟨some 18, none, .faddr 4 (.t 3)⟩, ⟨none, none, .store 1 (.t 18) (.t 17)⟩])
       (.seq (.ops [⟨some 19, none, .faddr 5 (.t 1)⟩, ⟨some 20, none, .load none (.t 19)⟩, ⟨some 21, none, .faddr 5 (.t 3)⟩, ⟨none, none, .store 1 (.t 21) (.t 20)⟩])
        (.seq (.ops [⟨some 22, none, .faddr 6 (.t 1)⟩, ⟨some 23, none, .load none (.t 22)⟩, ⟨some 24, none, .call laws_toIntS [.t 23]⟩, ⟨some 25, none, .faddr 6 (.t 3)⟩, ⟨none, none, .store 1 (.t 25) (.t 24)⟩])
         (.seq (.ops [⟨some 26, none, .load (some 7) (.t 3)⟩, ⟨none, none, .store 7 (.t 2) (.t 26)⟩])
          (.ret))))))))))
def s_laws_toTac : SFn := ⟨1, 27, c_laws_toTac, [.c 2 (some 7)]⟩
/-- loop.example/g00286/impl.copyTac -/
def c_impl_copyTac : SCode :=
 .seq (.ops [⟨some 1, none, .box 7 (.t 0)⟩, ⟨some 2, none, .alloc [.v (.int .i64 0), .v (.int .i64 0), .v (.int .i64 0), .v (.int .i64 0), .v (.int .i64 0), .v (.string ⟨#[]⟩), .s 1 []]⟩])
 (.seq (.ops [⟨some 3, none, .faddr 6 (.t 1)⟩, ⟨some 4, none, .load none (.t 3)⟩, ⟨some 5, none, .call slices_Clone_int_int [.t 4]⟩, ⟨some 6, none, .faddr 6 (.t 1)⟩, ⟨none, none, .store 1 (.t 6) (.t 5)⟩])
  (.seq (.ops [⟨some 7, none, .load (some 7) (.t 1)⟩, ⟨none, none, .store 7 (.t 2) (.t 7)⟩])
   (.ret)))
def s_impl_copyTac : SFn := ⟨1, 8, c_impl_copyTac, [.c 2 (some 7)]⟩
/-- loop.example/g00286/impl.tacOk -/
def c_impl_tacOk : SCode :=
 .seq (.ops [⟨some 2, none, .vbox 7 (.t 0)⟩, ⟨some 3, none, .box 1 (.t 1)⟩, ⟨some 4, none, .mov (.c (.bool false))⟩])
 (.seq (.seq (.ops [⟨some 5, none, .faddr 0 (.t 2)⟩, ⟨some 6, none, .load none (.t 5)⟩, ⟨some 7, none, .callr impl_owns [.t 6]⟩, ⟨some 8, none, .cmp .eql (.t 7) (.c (.string ⟨#[]⟩))⟩, ⟨some 9, none, .mov (.t 8)⟩, ⟨some 10, (some (9, false)), .faddr 4 (.t 2)⟩, ⟨some 11, (some (9, false)), .load none (.t 10)⟩, ⟨some 12, (some (9, false)), .callr impl_WordOk [.t 11]⟩, ⟨some 13, (some (9, false)), .not (.t 12)⟩, ⟨some 14, none, .pick (.t 9) (.c (.bool true)) (.t 13)⟩, ⟨some 15, none, .mov (.t 14)⟩, ⟨some 16, (some (15, false)), .load (some 7) (.t 2)⟩, ⟨some 17, (some (15, false)), .load none (.t 3)⟩, ⟨some 18, (some (15, false)), .callr impl_argsOk [.t 16, .t 17]⟩, ⟨some 19, (some (15, false)), .not (.t 18)⟩, ⟨some 20, none, .pick (.t 15) (.c (.bool true)) (.t 19)⟩])
   (.cond (.t 20) (.seq (.ops [⟨some 4, none, .mov (.c (.bool false))⟩])
     (.ret))
    (.skip)))
  (.seq (.seq (.ops [⟨some 21, none, .faddr 0 (.t 2)⟩, ⟨some 22, none, .load none (.t 21)⟩, ⟨some 23, none, .callr impl_owned [.t 22, .c (.int .u8 68)]⟩, ⟨some 24, none, .not (.t 23)⟩, ⟨some 25, none, .mov (.t 24)⟩, ⟨some 26, (some (25, true)), .faddr 1 (.t 2)⟩, ⟨some 27, (some (25, true)), .load none (.t 26)⟩, ⟨some 28, (some (25, true)), .cmp .neq (.t 27) (.c (.int .i64 0))⟩, ⟨some 29, none, .pick (.t 25) (.t 28) (.c (.bool false))⟩, ⟨some 30, none, .mov (.t 29)⟩, ⟨some 31, (some (30, false)), .faddr 0 (.t 2)⟩, ⟨some 32, (some (30, false)), .load none (.t 31)⟩, ⟨some 33, (some (30, false)), .callr impl_owned [.t 32, .c (.int .u8 65)]⟩, ⟨some 34, (some (30, false)), .not (.t 33)⟩, ⟨some 35, (some (30, false)), .mov (.t 34)⟩, ⟨some 36, (some (35, true)), .faddr 2 (.t 2)⟩, ⟨some 37, (some (35, true)), .load none (.t 36)⟩, ⟨some 38, (some (35, true)), .cmp .neq (.t 37) (.c (.int .i64 0))⟩, ⟨some 39, (some (30, false)), .pick (.t 35) (.t 38) (.c (.bool false))⟩, ⟨some 40, none, .pick (.t 30) (.c (.bool true)) (.t 39)⟩, ⟨some 41, none, .mov (.t 40)⟩, ⟨some 42, (some (41, false)), .faddr 0 (.t 2)⟩, ⟨some 43, (some (41, false)), .load none (.t 42)⟩, ⟨some 44, (some (41, false)), .callr impl_owned [.t 43, .c (.int .u8 66)]⟩, ⟨some 45, (some (41, false)), .not (.t 44)⟩, ⟨some 46, (some (41, false)), .mov (.t 45)⟩, ⟨some 47, (some (46, true)), .faddr 3 (.t 2)⟩, ⟨some 48, (some (46, true)), .load none (.t 47)⟩, ⟨some 49, (some (46, true)), .cmp .neq (.t 48) (.c (.int .i64 0))⟩, ⟨some 50, (some (41, false)), .pick (.t 46) (.t 49) (.c (.bool false))⟩, ⟨some 51, none, .pick (.t 41) (.c (.bool true)) (.t 50)⟩, ⟨some 52, none, .mov (.t 51)⟩, ⟨some 53, (some (52, false)), .faddr 0 (.t 2)⟩, ⟨some 54, (some (52, false)), .load none (.t 53)⟩, ⟨some 55, (some (52, false)), .callr impl_owned [.t 54, .c (.int .u8 78)]⟩, ⟨some 56, (some (52, false)), .not (.t 55)⟩, ⟨some 57, (some (52, false)), .mov (.t 56)⟩, ⟨some 58, (some (57, true)), .faddr 4 (.t 2)⟩, ⟨some 59, (some (57, true)), .load none (.t 58)⟩, ⟨some 60, (some (57, true)), .cmp .neq (.t 59) (.c (.int .i64 0))⟩, ⟨some 61, (some (52, false)), .pick (.t 57) (.t 60) (.c (.bool false))⟩, ⟨some 62, none, .pick (.t 52) (.c (.bool true)) (.t 61)⟩, ⟨some 63, none, .mov (.t 62)⟩, ⟨some 64, (some (63, false)), .faddr 0 (.t 2)⟩, ⟨some 65, (some (63, false)), .load none (.t 64)⟩, ⟨some 66, (some (63, false)), .callr impl_owned [.t 65, .c (.int .u8 83)]⟩, ⟨some 67, (some (63, false)), .not (.t 66)⟩, ⟨some 68, (some (63, false)), .mov (.t 67)⟩, ⟨some 69, (some (68, true)), .faddr 5 (.t 2)⟩, ⟨some 70, (some (68, true)), .load none (.t 69)⟩, ⟨some 71, (some (68, true)), .cmp .neq (.t 70) (.c (.string ⟨#[]⟩))⟩, ⟨some 72, (some (63, false)), .pick (.t 68) (.t 71) (.c (.bool false))⟩, ⟨some 73, none, .pick (.t 63) (.c (.bool true)) (.t 72)⟩])
    (.cond (.t 73) (.seq (.ops [⟨some 4, none, .mov (.c (.bool false))⟩])
      (.ret))
     (.skip)))
   (.seq (.opsd [⟨⟨some 74, none, .load (some 7) (.t 2)⟩, 0, []⟩, ⟨⟨some 76, none, .load (some 7) (.t 2)⟩, 2, []⟩, ⟨⟨some 79, none, .fn impl_tacOk_1 [.t 3]⟩, 5, []⟩, ⟨⟨some 75, none, .call impl_Sets [.t 74]⟩, 1, [⟨some 76, none, .load (some 7) (.t 2)⟩, ⟨some 79, none, .fn impl_tacOk_1 [.t 3]⟩]⟩, ⟨⟨some 77, none, .call impl_Uses [.t 76]⟩, 3, [⟨some 79, none, .fn impl_tacOk_1 [.t 3]⟩]⟩, ⟨⟨some 78, none, .app 1 8 (.t 75) (.t 77)⟩, 4, [⟨some 79, none, .fn impl_tacOk_1 [.t 3]⟩]⟩, ⟨⟨some 80, none, .calli (.f slices_ContainsFunc_int_int) [.t 78, .t 79]⟩, 6, []⟩, ⟨⟨some 81, none, .not (.t 80)⟩, 7, []⟩, ⟨⟨some 4, none, .mov (.t 81)⟩, 8, []⟩])
    (.ret))))
def s_impl_tacOk : SFn := ⟨2, 82, c_impl_tacOk, [.t 4]⟩
/-- loop.example/g00286/impl.labelAt -/
def c_impl_labelAt : SCode :=
 .seq (.ops [⟨some 3, none, .box 1 (.t 1)⟩, ⟨some 4, none, .mov (.c (.int .i64 0))⟩])
 (.seq (.ops [⟨some 5, none, .mov (.t 0)⟩, ⟨some 6, none, .fn impl_labelAt_1 [.t 3]⟩, ⟨some 7, none, .calli (.f slices_IndexFunc_impl_Tac_impl_Tac) [.t 5, .t 6]⟩, ⟨some 4, none, .mov (.t 7)⟩])
  (.ret))
def s_impl_labelAt : SFn := ⟨2, 8, c_impl_labelAt, [.t 4]⟩
/-- loop.example/g00286/impl.ends -/
def c_impl_ends : SCode :=
 .seq (.ops [⟨some 2, none, .mov (.c (.bool false))⟩])
 (.seq (.ops [⟨some 3, none, .mov (.t 0)⟩, ⟨some 4, none, .cmp .eql (.t 3) (.c (.int .i64 12))⟩, ⟨some 5, none, .mov (.t 4)⟩, ⟨some 6, (some (5, false)), .mov (.t 0)⟩, ⟨some 7, (some (5, false)), .cmp .eql (.t 6) (.c (.int .i64 9))⟩, ⟨some 8, none, .pick (.t 5) (.c (.bool true)) (.t 7)⟩, ⟨some 9, none, .mov (.t 8)⟩, ⟨some 10, (some (9, false)), .mov (.t 0)⟩, ⟨some 11, (some (9, false)), .cmp .eql (.t 10) (.c (.int .i64 28))⟩, ⟨some 12, none, .pick (.t 9) (.c (.bool true)) (.t 11)⟩, ⟨some 2, none, .mov (.t 12)⟩])
  (.ret))
def s_impl_ends : SFn := ⟨1, 13, c_impl_ends, [.t 2]⟩
/-- (*loop.example/g00286/impl.joiner).call -/
def c_impl_joiner_call : SCode :=
 .seq (.ops [⟨some 6, none, .mov (.c (.int .i64 0))⟩])
 (.seq (.ops [⟨some 7, none, .mov (.t 0)⟩, ⟨some 8, none, .mov (.t 1)⟩, ⟨some 9, none, .mov (.t 2)⟩, ⟨some 10, none, .build [.v (.int .i64 0), .v (.int .i64 0), .v (.int .i64 0), .v (.int .i64 0), .v (.int .i64 0), .v (.string ⟨#[]⟩), .s 1 []] [(0, 1, .c (.int .i64 11)), (5, 1, .t 8), (6, 1, .t 9)]⟩, ⟨some 11, none, .callb impl_joiner_set [.t 7, .t 10] [true, true]⟩, ⟨some 6, none, .mov (.t 11)⟩])
  (.ret))
def s_impl_joiner_call : SFn := ⟨3, 12, c_impl_joiner_call, [.t 6]⟩
def b_impl_joiner_begin_0 : SCode :=
 .seq (.ops [⟨some 16, none, .cmp .lss (.t 15) (.t 14)⟩])
 (.seq (.cond (.t 16) (.skip)
   (.seq (.keep [0, 3]) (.exit 0)))
  (.seq (.block 1 (.seq (.ops [⟨some 17, none, .mov (.t 15)⟩, ⟨some 18, none, .ixa 1 (.t 13) (.t 15)⟩, ⟨some 19, none, .load none (.t 18)⟩, ⟨some 5, none, .mov (.t 17)⟩, ⟨some 6, none, .mov (.t 19)⟩])
     (.seq (.ops [⟨some 20, none, .mov (.t 0)⟩, ⟨some 21, none, .mov (.t 4)⟩, ⟨some 22, none, .mov (.t 5)⟩, ⟨some 23, none, .ari .add (.c (.int .i64 7)) (.t 22)⟩, ⟨some 24, none, .callb impl_joiner_field [.t 20, .t 21, .t 23] [true, false, false]⟩, ⟨some 7, none, .mov (.t 24)⟩])
      (.ops [⟨some 25, none, .mov (.t 0)⟩, ⟨some 26, none, .mov (.t 7)⟩, ⟨some 27, none, .mov (.t 6)⟩, ⟨some 28, none, .build [.v (.int .i64 0), .v (.int .i64 0), .v (.int .i64 0), .v (.int .i64 0), .v (.int .i64 0), .v (.string ⟨#[]⟩), .s 1 []] [(0, 1, .c (.int .i64 21)), (2, 1, .t 26), (3, 1, .t 27)]⟩, ⟨some 29, none, .callb impl_joiner_put [.t 25, .t 28] [true, true]⟩]))))
   (.ops [⟨some 30, none, .ari .add (.t 15) (.c (.int .i64 1))⟩, ⟨some 15, none, .mov (.t 30)⟩])))
/-- (*loop.example/g00286/impl.joiner).begin -/
def c_impl_joiner_begin : SCode :=
 .seq (.ops [⟨some 3, none, .vbox 7 (.t 1)⟩])
 (.seq (.ops [⟨some 10, none, .mov (.t 0)⟩, ⟨some 11, none, .callb impl_joiner_call [.t 10, .c (.string ⟨#[114, 116, 115, 101, 108, 102]⟩), .n 1] [true, false, true]⟩, ⟨some 4, none, .mov (.t 11)⟩])
  (.seq (.seq (.ops [⟨some 12, none, .faddr 6 (.t 3)⟩, ⟨some 13, none, .load none (.t 12)⟩, ⟨some 14, none, .len (.t 13)⟩, ⟨some 15, none, .mov (.c (.int .i64 0))⟩])
    (.block 0 (.loop [0, 3, 4, 13, 14, 15] b_impl_joiner_begin_0)))
   (.seq (.ops [⟨some 31, none, .mov (.t 0)⟩, ⟨some 32, none, .faddr 5 (.t 3)⟩, ⟨some 33, none, .load none (.t 32)⟩, ⟨some 34, none, .build [.v (.int .i64 0), .v (.int .i64 0), .v (.int .i64 0), .v (.int .i64 0), .v (.int .i64 0), .v (.string ⟨#[]⟩), .s 1 []] [(0, 1, .c (.int .i64 24)), (5, 1, .t 33)]⟩, ⟨some 35, none, .callb impl_joiner_set [.t 31, .t 34] [true, true]⟩, ⟨some 8, none, .mov (.t 35)⟩])
    (.seq (.ops [⟨some 36, none, .mov (.t 0)⟩, ⟨some 37, none, .faddr 6 (.t 3)⟩, ⟨some 38, none, .load none (.t 37)⟩, ⟨some 39, none, .len (.t 38)⟩, ⟨some 40, none, .callb impl_joiner_num [.t 36, .t 39] [true, false]⟩, ⟨some 9, none, .mov (.t 40)⟩])
     (.ops [⟨some 41, none, .mov (.t 0)⟩, ⟨some 42, none, .mov (.t 8)⟩, ⟨some 43, none, .mov (.t 9)⟩, ⟨some 44, none, .lit 1 [.t 42, .t 43]⟩, ⟨some 45, none, .callb impl_joiner_call [.t 41, .c (.string ⟨#[114, 116, 103, 111]⟩), .t 44] [true, false, true]⟩])))))
def s_impl_joiner_begin : SFn := ⟨2, 46, c_impl_joiner_begin, []⟩
/-- (*loop.example/g00286/impl.joiner).put -/
def c_impl_joiner_put : SCode :=
 .seq (.ops [⟨some 3, none, .vbox 7 (.t 1)⟩])
 (.opsd [⟨⟨some 4, none, .mov (.t 0)⟩, 0, []⟩, ⟨⟨some 5, none, .mov (.t 0)⟩, 1, []⟩, ⟨⟨some 6, none, .nck (.t 5)⟩, 2, []⟩, ⟨⟨some 7, none, .faddr 0 (.t 6)⟩, 3, []⟩, ⟨⟨some 8, none, .load none (.t 7)⟩, 4, []⟩, ⟨⟨some 9, none, .load (some 7) (.t 3)⟩, 5, []⟩, ⟨⟨some 10, none, .lit 7 [.t 9]⟩, 6, [⟨some 4, none, .mov (.t 0)⟩, ⟨some 5, none, .mov (.t 0)⟩, ⟨some 6, none, .nck (.t 5)⟩, ⟨some 7, none, .faddr 0 (.t 6)⟩, ⟨some 8, none, .load none (.t 7)⟩]⟩, ⟨⟨some 11, none, .app 7 80 (.t 8) (.t 10)⟩, 7, [⟨some 4, none, .mov (.t 0)⟩]⟩, ⟨⟨some 12, none, .nck (.t 4)⟩, 8, []⟩, ⟨⟨some 13, none, .faddr 0 (.t 12)⟩, 9, []⟩, ⟨⟨none, none, .store 1 (.t 13) (.t 11)⟩, 10, []⟩])
def s_impl_joiner_put : SFn := ⟨2, 14, c_impl_joiner_put, []⟩
def b_impl_joiner_choose_0 : SCode :=
 .seq (.ops [⟨some 18, none, .cmp .lss (.t 17) (.t 16)⟩])
 (.seq (.cond (.t 18) (.skip)
   (.seq (.keep [0, 3, 4]) (.exit 0)))
  (.seq (.block 1 (.seq (.ops [⟨some 19, none, .mov (.t 17)⟩, ⟨some 20, none, .ixa 1 (.t 15) (.t 17)⟩, ⟨some 21, none, .load none (.t 20)⟩, ⟨some 5, none, .mov (.t 19)⟩, ⟨some 6, none, .mov (.t 21)⟩])
     (.seq (.ops [⟨some 22, none, .mov (.t 6)⟩, ⟨some 7, none, .mov (.t 22)⟩])
      (.seq (.seq (.ops [⟨some 23, none, .mov (.t 5)⟩, ⟨some 24, none, .ari .rem (.t 23) (.c (.int .i64 3))⟩, ⟨some 25, none, .cmp .eql (.t 24) (.c (.int .i64 0))⟩, ⟨some 26, none, .mov (.t 25)⟩, ⟨some 27, (some (26, false)), .mov (.t 5)⟩, ⟨some 28, (some (26, false)), .ari .rem (.t 27) (.c (.int .i64 3))⟩, ⟨some 29, (some (26, false)), .cmp .eql (.t 28) (.c (.int .i64 2))⟩, ⟨some 30, (some (26, false)), .mov (.t 29)⟩, ⟨some 31, (some (30, true)), .faddr 6 (.t 3)⟩, ⟨some 32, (some (30, true)), .load none (.t 31)⟩, ⟨some 33, (some (30, true)), .mov (.t 5)⟩, ⟨some 34, (some (30, true)), .ari .sub (.t 33) (.c (.int .i64 2))⟩, ⟨some 35, (some (30, true)), .ixa 1 (.t 32) (.t 34)⟩, ⟨some 36, (some (30, true)), .load none (.t 35)⟩, ⟨some 37, (some (30, true)), .cmp .eql (.t 36) (.c (.int .i64 1))⟩, ⟨some 38, (some (26, false)), .pick (.t 30) (.t 37) (.c (.bool false))⟩, ⟨some 39, none, .pick (.t 26) (.c (.bool true)) (.t 38)⟩])
        (.cond (.t 39) (.ops [⟨some 40, none, .mov (.t 0)⟩, ⟨some 41, none, .mov (.t 6)⟩, ⟨some 42, none, .callb impl_joiner_num [.t 40, .t 41] [true, false]⟩, ⟨some 7, none, .mov (.t 42)⟩])
         (.skip)))
       (.seq (.ops [⟨some 43, none, .mov (.t 0)⟩, ⟨some 44, none, .mov (.t 4)⟩, ⟨some 45, none, .mov (.t 5)⟩, ⟨some 46, none, .ari .add (.c (.int .i64 7)) (.t 45)⟩, ⟨some 47, none, .callb impl_joiner_field [.t 43, .t 44, .t 46] [true, false, false]⟩, ⟨some 8, none, .mov (.t 47)⟩])
        (.ops [⟨some 48, none, .mov (.t 0)⟩, ⟨some 49, none, .mov (.t 8)⟩, ⟨some 50, none, .mov (.t 7)⟩, ⟨some 51, none, .build [.v (.int .i64 0), .v (.int .i64 0), .v (.int .i64 0), .v (.int .i64 0), .v (.int .i64 0), .v (.string ⟨#[]⟩), .s 1 []] [(0, 1, .c (.int .i64 21)), (2, 1, .t 49), (3, 1, .t 50)]⟩, ⟨some 52, none, .callb impl_joiner_put [.t 48, .t 51] [true, true]⟩]))))))
   (.ops [⟨some 53, none, .ari .add (.t 17) (.c (.int .i64 1))⟩, ⟨some 17, none, .mov (.t 53)⟩])))
/-- (*loop.example/g00286/impl.joiner).choose -/
def c_impl_joiner_choose : SCode :=
 .seq (.ops [⟨some 3, none, .vbox 7 (.t 1)⟩])
 (.seq (.ops [⟨some 12, none, .mov (.t 0)⟩, ⟨some 13, none, .callb impl_joiner_call [.t 12, .c (.string ⟨#[114, 116, 115, 101, 108, 102]⟩), .n 1] [true, false, true]⟩, ⟨some 4, none, .mov (.t 13)⟩])
  (.seq (.seq (.ops [⟨some 14, none, .faddr 6 (.t 3)⟩, ⟨some 15, none, .load none (.t 14)⟩, ⟨some 16, none, .len (.t 15)⟩, ⟨some 17, none, .mov (.c (.int .i64 0))⟩])
    (.block 0 (.loop [0, 3, 4, 15, 16, 17] b_impl_joiner_choose_0)))
   (.seq (.ops [⟨some 54, none, .mov (.t 0)⟩, ⟨some 55, none, .faddr 6 (.t 3)⟩, ⟨some 56, none, .load none (.t 55)⟩, ⟨some 57, none, .len (.t 56)⟩, ⟨some 58, none, .ari .quo (.t 57) (.c (.int .i64 3))⟩, ⟨some 59, none, .callb impl_joiner_num [.t 54, .t 58] [true, false]⟩, ⟨some 9, none, .mov (.t 59)⟩])
    (.seq (.ops [⟨some 60, none, .mov (.t 0)⟩, ⟨some 61, none, .faddr 4 (.t 3)⟩, ⟨some 62, none, .load none (.t 61)⟩, ⟨some 63, none, .callb impl_joiner_num [.t 60, .t 62] [true, false]⟩, ⟨some 10, none, .mov (.t 63)⟩])
     (.seq (.ops [⟨some 64, none, .mov (.t 0)⟩, ⟨some 65, none, .faddr 1 (.t 3)⟩, ⟨some 66, none, .load none (.t 65)⟩, ⟨some 67, none, .mov (.t 9)⟩, ⟨some 68, none, .mov (.t 10)⟩, ⟨some 69, none, .lit 1 [.t 67, .t 68]⟩, ⟨some 70, none, .build [.v (.int .i64 0), .v (.int .i64 0), .v (.int .i64 0), .v (.int .i64 0), .v (.int .i64 0), .v (.string ⟨#[]⟩), .s 1 []] [(0, 1, .c (.int .i64 11)), (1, 1, .t 66), (5, 1, .c (.string ⟨#[114, 116, 115, 101, 108, 101, 99, 116]⟩)), (6, 1, .t 69)]⟩, ⟨some 71, none, .callb impl_joiner_put [.t 64, .t 70] [true, true]⟩])
      (.seq (.ops [⟨some 72, none, .mov (.t 0)⟩, ⟨some 73, none, .mov (.t 4)⟩, ⟨some 74, none, .callb impl_joiner_field [.t 72, .t 73, .c (.int .i64 3)] [true, false, false]⟩, ⟨some 11, none, .mov (.t 74)⟩])
       (.ops [⟨some 75, none, .mov (.t 0)⟩, ⟨some 76, none, .faddr 3 (.t 3)⟩, ⟨some 77, none, .load none (.t 76)⟩, ⟨some 78, none, .mov (.t 11)⟩, ⟨some 79, none, .build [.v (.int .i64 0), .v (.int .i64 0), .v (.int .i64 0), .v (.int .i64 0), .v (.int .i64 0), .v (.string ⟨#[]⟩), .s 1 []] [(0, 1, .c (.int .i64 20)), (1, 1, .t 77), (2, 1, .t 78)]⟩, ⟨some 80, none, .callb impl_joiner_put [.t 75, .t 79] [true, true]⟩])))))))
def s_impl_joiner_choose : SFn := ⟨2, 81, c_impl_joiner_choose, []⟩
/-- loop.example/g00286/laws.eqTac -/
def c_laws_eqTac : SCode :=
 .seq (.ops [⟨some 2, none, .vbox 7 (.t 0)⟩, ⟨some 3, none, .vbox 7 (.t 1)⟩, ⟨some 4, none, .mov (.c (.bool false))⟩])
 (.seq (.seq (.ops [⟨some 5, none, .faddr 0 (.t 2)⟩, ⟨some 6, none, .load none (.t 5)⟩, ⟨some 7, none, .faddr 0 (.t 3)⟩, ⟨some 8, none, .load none (.t 7)⟩, ⟨some 9, none, .cmp .neq (.t 6) (.t 8)⟩])
   (.cond (.t 9) (.seq (.ops [⟨some 4, none, .mov (.c (.bool false))⟩])
     (.ret))
    (.skip)))
  (.seq (.seq (.ops [⟨some 10, none, .faddr 1 (.t 2)⟩, ⟨some 11, none, .load none (.t 10)⟩, ⟨some 12, none, .faddr 1 (.t 3)⟩, ⟨some 13, none, .load none (.t 12)⟩, ⟨some 14, none, .cmp .neq (.t 11) (.t 13)⟩])
    (.cond (.t 14) (.seq (.ops [⟨some 4, none, .mov (.c (.bool false))⟩])
      (.ret))
     (.skip)))
   (.seq (.seq (.ops [⟨some 15, none, .faddr 2 (.t 2)⟩, ⟨some 16, none, .load none (.t 15)⟩, ⟨some 17, none, .faddr 2 (.t 3)⟩, ⟨some 18, none, .load none (.t 17)⟩, ⟨some 19, none, .cmp .neq (.t 16) (.t 18)⟩])
     (.cond (.t 19) (.seq (.ops [⟨some 4, none, .mov (.c (.bool false))⟩])
       (.ret))
      (.skip)))
    (.seq (.seq (.ops [⟨some 20, none, .faddr 3 (.t 2)⟩, ⟨some 21, none, .load none (.t 20)⟩, ⟨some 22, none, .faddr 3 (.t 3)⟩, ⟨some 23, none, .load none (.t 22)⟩, ⟨some 24, none, .cmp .neq (.t 21) (.t 23)⟩])
      (.cond (.t 24) (.seq (.ops [⟨some 4, none, .mov (.c (.bool false))⟩])
        (.ret))
       (.skip)))
     (.seq (.seq (.ops [⟨some 25, none, .faddr 4 (.t 2)⟩, ⟨some 26, none, .load none (.t 25)⟩, ⟨some 27, none, .faddr 4 (.t 3)⟩, ⟨some 28, none, .load none (.t 27)⟩, ⟨some 29, none, .cmp .neq (.t 26) (.t 28)⟩])
       (.cond (.t 29) (.seq (.ops [⟨some 4, none, .mov (.c (.bool false))⟩])
         (.ret))
        (.skip)))
      (.seq (.seq (.ops [⟨some 30, none, .faddr 5 (.t 2)⟩, ⟨some 31, none, .load none (.t 30)⟩, ⟨some 32, none, .faddr 5 (.t 3)⟩, ⟨some 33, none, .load none (.t 32)⟩, ⟨some 34, none, .cmp .neq (.t 31) (.t 33)⟩])
        (.cond (.t 34) (.seq (.ops [⟨some 4, none, .mov (.c (.bool false))⟩])
          (.ret))
         (.skip)))
       (.seq (.seq (.ops [⟨some 35, none, .faddr 6 (.t 2)⟩, ⟨some 36, none, .load none (.t 35)⟩, ⟨some 37, none, .faddr 6 (.t 3)⟩, ⟨some 38, none, .load none (.t 37)⟩, ⟨some 39, none, .callr laws_eqIntS [.t 36, .t 38]⟩, ⟨some 40, none, .not (.t 39)⟩])
         (.cond (.t 40) (.seq (.ops [⟨some 4, none, .mov (.c (.bool false))⟩])
           (.ret))
          (.skip)))
        (.seq (.ops [⟨some 4, none, .mov (.c (.bool true))⟩])
         (.ret)))))))))
def s_laws_eqTac : SFn := ⟨2, 41, c_laws_eqTac, [.t 4]⟩
/-- slices.ContainsFunc[[]int,int] -/
def c_slices_ContainsFunc_int_int : SCode :=
 .seq (.ops [⟨some 4, none, .mov (.c (.bool false))⟩])
 (.seq (.ops [⟨some 5, none, .mov (.t 0)⟩, ⟨some 6, none, .mov (.t 1)⟩, ⟨some 7, none, .calli (.f slices_IndexFunc_int_int) [.t 5, .t 6]⟩, ⟨some 8, none, .cmp .geq (.t 7) (.c (.int .i64 0))⟩, ⟨some 4, none, .mov (.t 8)⟩])
  (.ret))
def s_slices_ContainsFunc_int_int : SFn := ⟨2, 9, c_slices_ContainsFunc_int_int, [.t 4]⟩
/-- loop.example/g00286/spec.l10Has -/
def c_spec_l10Has : SCode :=
 .seq (.ops [⟨some 2, none, .mov (.c (.int .i64 0))⟩])
 (.seq (.seq (.ops [⟨some 3, none, .mov (.t 0)⟩, ⟨some 4, none, .callr spec_l1In [.t 3, .c (.int .i64 1), .c (.int .i64 28)]⟩, ⟨some 5, none, .not (.t 4)⟩])
   (.cond (.t 5) (.seq (.ops [⟨some 2, none, .mov (.c (.int .i64 0))⟩])
     (.ret))
    (.skip)))
  (.seq (.ops [⟨some 6, none, .lit 1 [.c (.int .i64 0), .c (.int .i64 9), .c (.int .i64 3), .c (.int .i64 7), .c (.int .i64 7), .c (.int .i64 7), .c (.int .i64 7), .c (.int .i64 7), .c (.int .i64 8), .c (.int .i64 8), .c (.int .i64 10), .c (.int .i64 49), .c (.int .i64 2), .c (.int .i64 2), .c (.int .i64 48), .c (.int .i64 3), .c (.int .i64 6), .c (.int .i64 3), .c (.int .i64 2), .c (.int .i64 45), .c (.int .i64 3), .c (.int .i64 6), .c (.int .i64 39), .c (.int .i64 1), .c (.int .i64 17), .c (.int .i64 2), .c (.int .i64 6), .c (.int .i64 6), .c (.int .i64 2)]⟩, ⟨some 7, none, .mov (.t 0)⟩, ⟨some 8, none, .ixa 1 (.t 6) (.t 7)⟩, ⟨some 9, none, .load none (.t 8)⟩, ⟨some 2, none, .mov (.t 9)⟩])
   (.ret)))
def s_spec_l10Has : SFn := ⟨1, 10, c_spec_l10Has, [.t 2]⟩
def b_spec_l10Args_0 : SCode :=
 .seq (.seq (.ops [⟨some 12, none, .mov (.t 4)⟩, ⟨some 13, none, .mov (.t 3)⟩, ⟨some 14, none, .cmp .lss (.t 12) (.t 13)⟩])
  (.cond (.t 14) (.skip)
   (.seq (.keep [3]) (.exit 1))))
 (.seq (.block 2 (.seq (.ops [⟨some 17, none, .faddr 6 (.t 1)⟩, ⟨some 18, none, .load none (.t 17)⟩, ⟨some 19, none, .mov (.t 4)⟩, ⟨some 20, none, .ixa 1 (.t 18) (.t 19)⟩, ⟨some 21, none, .load none (.t 20)⟩, ⟨some 22, none, .callr spec_l1In [.t 21, .c (.int .i64 1), .c (.int .i64 2)]⟩, ⟨some 23, none, .not (.t 22)⟩, ⟨some 24, none, .mov (.t 23)⟩, ⟨some 25, (some (24, false)), .mov (.t 4)⟩, ⟨some 26, (some (24, false)), .ari .add (.t 25) (.c (.int .i64 2))⟩, ⟨some 27, (some (24, false)), .mov (.t 3)⟩, ⟨some 28, (some (24, false)), .cmp .lss (.t 26) (.t 27)⟩, ⟨some 29, (some (24, false)), .mov (.t 28)⟩, ⟨some 30, (some (29, true)), .faddr 6 (.t 1)⟩, ⟨some 31, (some (29, true)), .load none (.t 30)⟩, ⟨some 32, (some (29, true)), .mov (.t 4)⟩, ⟨some 33, (some (29, true)), .ixa 1 (.t 31) (.t 32)⟩, ⟨some 34, (some (29, true)), .load none (.t 33)⟩, ⟨some 35, (some (29, true)), .cmp .eql (.t 34) (.c (.int .i64 1))⟩, ⟨some 36, (some (24, false)), .pick (.t 29) (.t 35) (.c (.bool false))⟩, ⟨some 37, (some (24, false)), .mov (.t 36)⟩, ⟨some 38, (some (37, true)), .faddr 6 (.t 1)⟩, ⟨some 39, (some (37, true)), .load none (.t 38)⟩, ⟨some 40, (some (37, true)), .mov (.t 4)⟩, ⟨some 41, (some (37, true)), .ari .add (.t 40) (.c (.int .i64 2))⟩, ⟨some 42, (some (37, true)), .ixa 1 (.t 39) (.t 41)⟩, ⟨some 43, (some (37, true)), .load none (.t 42)⟩, ⟨some 44, (some (37, true)), .cmp .neq (.t 43) (.c (.int .i64 0))⟩, ⟨some 45, (some (24, false)), .pick (.t 37) (.t 44) (.c (.bool false))⟩, ⟨some 46, none, .pick (.t 24) (.c (.bool true)) (.t 45)⟩])
    (.cond (.t 46) (.seq (.ops [⟨some 2, none, .mov (.c (.bool false))⟩])
      (.seq (.keep [2]) .ret))
     (.skip))))
  (.ops [⟨some 15, none, .mov (.t 4)⟩, ⟨some 16, none, .ari .add (.t 15) (.c (.int .i64 3))⟩, ⟨some 4, none, .mov (.t 16)⟩]))
/-- loop.example/g00286/spec.l10Args -/
def c_spec_l10Args : SCode :=
 .seq (.ops [⟨some 1, none, .vbox 7 (.t 0)⟩, ⟨some 2, none, .mov (.c (.bool false))⟩])
 (.seq (.ops [⟨some 5, none, .faddr 6 (.t 1)⟩, ⟨some 6, none, .load none (.t 5)⟩, ⟨some 7, none, .len (.t 6)⟩, ⟨some 3, none, .mov (.t 7)⟩])
  (.seq (.seq (.ops [⟨some 8, none, .faddr 0 (.t 1)⟩, ⟨some 9, none, .load none (.t 8)⟩])
    (.block 0 (.seq (.ops [⟨some 11, none, .cmp .eql (.t 9) (.c (.int .i64 19))⟩, ⟨some 10, none, .mov (.t 11)⟩])
      (.cond (.t 10) (.seq (.seq (.ops [⟨some 4, none, .mov (.c (.int .i64 0))⟩])
         (.block 1 (.loop [1, 3, 4] b_spec_l10Args_0)))
        (.seq (.ops [⟨some 47, none, .mov (.t 3)⟩, ⟨some 48, none, .cmp .eql (.t 47) (.c (.int .i64 3))⟩, ⟨some 49, none, .mov (.t 48)⟩, ⟨some 50, (some (49, false)), .mov (.t 3)⟩, ⟨some 51, (some (49, false)), .cmp .eql (.t 50) (.c (.int .i64 6))⟩, ⟨some 52, none, .pick (.t 49) (.c (.bool true)) (.t 51)⟩, ⟨some 53, none, .mov (.t 52)⟩, ⟨some 54, (some (53, false)), .mov (.t 3)⟩, ⟨some 55, (some (53, false)), .cmp .eql (.t 54) (.c (.int .i64 9))⟩, ⟨some 56, none, .pick (.t 53) (.c (.bool true)) (.t 55)⟩, ⟨some 2, none, .mov (.t 56)⟩])
         (.ret)))
       (.seq (.ops [⟨some 58, none, .cmp .eql (.t 9) (.c (.int .i64 22))⟩, ⟨some 57, none, .mov (.t 58)⟩])
        (.cond (.t 57) (.seq (.ops [⟨some 59, none, .mov (.t 3)⟩, ⟨some 60, none, .cmp .eql (.t 59) (.c (.int .i64 1))⟩, ⟨some 2, none, .mov (.t 60)⟩])
          (.ret))
         (.seq (.seq (.ops [⟨some 62, none, .cmp .eql (.t 9) (.c (.int .i64 11))⟩, ⟨some 61, none, .mov (.t 62)⟩])
           (.cond (.t 61) (.skip)
            (.ops [⟨some 63, none, .cmp .eql (.t 9) (.c (.int .i64 14))⟩, ⟨some 61, none, .mov (.t 63)⟩])))
          (.cond (.t 61) (.seq (.ops [⟨some 64, none, .mov (.t 3)⟩, ⟨some 65, none, .cmp .leq (.t 64) (.c (.int .i64 4))⟩, ⟨some 2, none, .mov (.t 65)⟩])
            (.ret))
           (.skip)))))))))
   (.seq (.ops [⟨some 66, none, .mov (.t 3)⟩, ⟨some 67, none, .cmp .eql (.t 66) (.c (.int .i64 0))⟩, ⟨some 2, none, .mov (.t 67)⟩])
    (.ret))))
def s_spec_l10Args : SFn := ⟨1, 68, c_spec_l10Args, [.t 2]⟩
def b_spec_l10Regs_0 : SCode :=
 .seq (.seq (.ops [⟨some 12, none, .mov (.t 6)⟩, ⟨some 13, none, .mov (.t 5)⟩, ⟨some 14, none, .len (.t 13)⟩, ⟨some 15, none, .cmp .lss (.t 12) (.t 14)⟩])
  (.cond (.t 15) (.skip)
   (.seq (.keep []) (.exit 0))))
 (.seq (.block 1 (.seq (.ops [⟨some 18, none, .mov (.t 5)⟩, ⟨some 19, none, .mov (.t 6)⟩, ⟨some 20, none, .ixa 1 (.t 18) (.t 19)⟩, ⟨some 21, none, .load none (.t 20)⟩, ⟨some 22, none, .mov (.t 1)⟩, ⟨some 23, none, .ari .sub (.t 22) (.c (.int .i64 1))⟩, ⟨some 24, none, .callr spec_l1In [.t 21, .c (.int .i64 0), .t 23]⟩, ⟨some 25, none, .not (.t 24)⟩])
    (.cond (.t 25) (.seq (.ops [⟨some 4, none, .mov (.c (.bool false))⟩])
      (.seq (.keep [4]) .ret))
     (.skip))))
  (.ops [⟨some 16, none, .mov (.t 6)⟩, ⟨some 17, none, .ari .add (.t 16) (.c (.int .i64 1))⟩, ⟨some 6, none, .mov (.t 17)⟩]))
/-- loop.example/g00286/spec.l10Regs -/
def c_spec_l10Regs : SCode :=
 .seq (.ops [⟨some 2, none, .vbox 7 (.t 0)⟩, ⟨some 4, none, .mov (.c (.bool false))⟩])
 (.seq (.opsd [⟨⟨some 7, none, .load (some 7) (.t 2)⟩, 0, []⟩, ⟨⟨some 9, none, .load (some 7) (.t 2)⟩, 2, []⟩, ⟨⟨some 8, none, .call spec_Sets [.t 7]⟩, 1, [⟨some 9, none, .load (some 7) (.t 2)⟩]⟩, ⟨⟨some 10, none, .call spec_Uses [.t 9]⟩, 3, []⟩, ⟨⟨some 11, none, .app 1 8 (.t 8) (.t 10)⟩, 4, []⟩, ⟨⟨some 5, none, .mov (.t 11)⟩, 5, []⟩])
  (.seq (.seq (.ops [⟨some 6, none, .mov (.c (.int .i64 0))⟩])
    (.block 0 (.loop [1, 5, 6] b_spec_l10Regs_0)))
   (.seq (.ops [⟨some 4, none, .mov (.c (.bool true))⟩])
    (.ret))))
def s_spec_l10Regs : SFn := ⟨2, 26, c_spec_l10Regs, [.t 4]⟩
/-- loop.example/g00286/spec.l20Reg -/
def c_spec_l20Reg : SCode :=
 .seq (.ops [⟨some 2, none, .mov (.c (.int .i64 0))⟩])
 (.seq (.ops [⟨some 3, none, .mov (.t 0)⟩, ⟨some 4, none, .nck (.t 3)⟩, ⟨some 5, none, .faddr 0 (.t 4)⟩, ⟨some 6, none, .faddr 2 (.t 5)⟩, ⟨some 7, none, .load none (.t 6)⟩, ⟨some 8, none, .ari .add (.t 7) (.c (.int .i64 1))⟩, ⟨some 9, none, .nck (.t 3)⟩, ⟨some 10, none, .faddr 0 (.t 9)⟩, ⟨some 11, none, .faddr 2 (.t 10)⟩, ⟨none, none, .store 1 (.t 11) (.t 8)⟩])
  (.seq (.ops [⟨some 12, none, .mov (.t 0)⟩, ⟨some 13, none, .nck (.t 12)⟩, ⟨some 14, none, .faddr 0 (.t 13)⟩, ⟨some 15, none, .faddr 2 (.t 14)⟩, ⟨some 16, none, .load none (.t 15)⟩, ⟨some 17, none, .ari .sub (.t 16) (.c (.int .i64 1))⟩, ⟨some 2, none, .mov (.t 17)⟩])
   (.ret)))
def s_spec_l20Reg : SFn := ⟨1, 18, c_spec_l20Reg, [.t 2]⟩
/-- loop.example/g00286/spec.l20Store -/
def c_spec_l20Store : SCode :=
 .seq (.ops [⟨some 10, none, .mov (.t 0)⟩, ⟨some 11, none, .mov (.t 2)⟩, ⟨some 12, none, .callb spec_l20Num [.t 10, .t 11] [true, false]⟩, ⟨some 8, none, .mov (.t 12)⟩])
 (.seq (.ops [⟨some 13, none, .mov (.t 0)⟩, ⟨some 14, none, .callb spec_l20Reg [.t 13] [true]⟩, ⟨some 9, none, .mov (.t 14)⟩])
  (.seq (.ops [⟨some 15, none, .mov (.t 0)⟩, ⟨some 16, none, .mov (.t 9)⟩, ⟨some 17, none, .mov (.t 1)⟩, ⟨some 18, none, .mov (.t 8)⟩, ⟨some 19, none, .build [.v (.int .i64 0), .v (.int .i64 0), .v (.int .i64 0), .v (.int .i64 0), .v (.int .i64 0), .v (.string ⟨#[]⟩), .s 1 []] [(0, 1, .c (.int .i64 3)), (1, 1, .t 16), (2, 1, .t 17), (3, 1, .t 18)]⟩, ⟨some 20, none, .callb spec_l20Put [.t 15, .t 19] [true, true]⟩])
   (.ops [⟨some 21, none, .mov (.t 0)⟩, ⟨some 22, none, .mov (.t 9)⟩, ⟨some 23, none, .mov (.t 3)⟩, ⟨some 24, none, .build [.v (.int .i64 0), .v (.int .i64 0), .v (.int .i64 0), .v (.int .i64 0), .v (.int .i64 0), .v (.string ⟨#[]⟩), .s 1 []] [(0, 1, .c (.int .i64 21)), (2, 1, .t 22), (3, 1, .t 23)]⟩, ⟨some 25, none, .callb spec_l20Put [.t 21, .t 24] [true, true]⟩])))
def s_spec_l20Store : SFn := ⟨4, 26, c_spec_l20Store, []⟩
/-- loop.example/g00286/spec.l20Num -/
def c_spec_l20Num : SCode :=
 .seq (.ops [⟨some 4, none, .mov (.c (.int .i64 0))⟩])
 (.seq (.ops [⟨some 6, none, .mov (.t 0)⟩, ⟨some 7, none, .callb spec_l20Reg [.t 6] [true]⟩, ⟨some 5, none, .mov (.t 7)⟩])
  (.seq (.ops [⟨some 8, none, .mov (.t 0)⟩, ⟨some 9, none, .mov (.t 5)⟩, ⟨some 10, none, .mov (.t 1)⟩, ⟨some 11, none, .build [.v (.int .i64 0), .v (.int .i64 0), .v (.int .i64 0), .v (.int .i64 0), .v (.int .i64 0), .v (.string ⟨#[]⟩), .s 1 []] [(0, 1, .c (.int .i64 1)), (1, 1, .t 9), (4, 1, .t 10)]⟩, ⟨some 12, none, .callb spec_l20Put [.t 8, .t 11] [true, true]⟩])
   (.seq (.ops [⟨some 13, none, .mov (.t 5)⟩, ⟨some 4, none, .mov (.t 13)⟩])
    (.ret))))
def s_spec_l20Num : SFn := ⟨2, 14, c_spec_l20Num, [.t 4]⟩
/-- slices.Clone[[]int,int] -/
def c_slices_Clone_int_int : SCode :=
 .clone 1 [⟨some 5, none, .lit 1 []⟩, ⟨some 6, none, .mov (.t 0)⟩, ⟨some 7, none, .app 1 8 (.t 5) (.t 6)⟩, ⟨some 2, none, .mov (.t 7)⟩]
def s_slices_Clone_int_int : SFn := ⟨1, 8, c_slices_Clone_int_int, [.t 2]⟩
/-- loop.example/g00286/impl.owns -/
def c_impl_owns : SCode :=
 .seq (.ops [⟨some 2, none, .mov (.c (.string ⟨#[]⟩))⟩])
 (.seq (.seq (.ops [⟨some 3, none, .mov (.t 0)⟩])
   (.block 0 (.seq (.ops [⟨some 5, none, .cmp .eql (.t 3) (.c (.int .i64 1))⟩, ⟨some 4, none, .mov (.t 5)⟩])
     (.cond (.t 4) (.seq (.ops [⟨some 2, none, .mov (.c (.string ⟨#[68, 78]⟩))⟩])
       (.ret))
      (.seq (.seq (.ops [⟨some 7, none, .cmp .eql (.t 3) (.c (.int .i64 2))⟩, ⟨some 6, none, .mov (.t 7)⟩])
        (.cond (.t 6) (.skip)
         (.seq (.ops [⟨some 8, none, .cmp .eql (.t 3) (.c (.int .i64 15))⟩, ⟨some 6, none, .mov (.t 8)⟩])
          (.cond (.t 6) (.skip)
           (.seq (.ops [⟨some 9, none, .cmp .eql (.t 3) (.c (.int .i64 17))⟩, ⟨some 6, none, .mov (.t 9)⟩])
            (.cond (.t 6) (.skip)
             (.ops [⟨some 10, none, .cmp .eql (.t 3) (.c (.int .i64 20))⟩, ⟨some 6, none, .mov (.t 10)⟩])))))))
       (.cond (.t 6) (.seq (.ops [⟨some 2, none, .mov (.c (.string ⟨#[68, 65]⟩))⟩])
         (.ret))
        (.seq (.seq (.ops [⟨some 12, none, .cmp .eql (.t 3) (.c (.int .i64 3))⟩, ⟨some 11, none, .mov (.t 12)⟩])
          (.cond (.t 11) (.skip)
           (.seq (.ops [⟨some 13, none, .cmp .eql (.t 3) (.c (.int .i64 4))⟩, ⟨some 11, none, .mov (.t 13)⟩])
            (.cond (.t 11) (.skip)
             (.seq (.ops [⟨some 14, none, .cmp .eql (.t 3) (.c (.int .i64 5))⟩, ⟨some 11, none, .mov (.t 14)⟩])
              (.cond (.t 11) (.skip)
               (.seq (.ops [⟨some 15, none, .cmp .eql (.t 3) (.c (.int .i64 6))⟩, ⟨some 11, none, .mov (.t 15)⟩])
                (.cond (.t 11) (.skip)
                 (.ops [⟨some 16, none, .cmp .eql (.t 3) (.c (.int .i64 7))⟩, ⟨some 11, none, .mov (.t 16)⟩])))))))))
         (.cond (.t 11) (.seq (.ops [⟨some 2, none, .mov (.c (.string ⟨#[68, 65, 66]⟩))⟩])
           (.ret))
          (.seq (.seq (.ops [⟨some 18, none, .cmp .eql (.t 3) (.c (.int .i64 8))⟩, ⟨some 17, none, .mov (.t 18)⟩])
            (.cond (.t 17) (.skip)
             (.ops [⟨some 19, none, .cmp .eql (.t 3) (.c (.int .i64 9))⟩, ⟨some 17, none, .mov (.t 19)⟩])))
           (.cond (.t 17) (.seq (.ops [⟨some 2, none, .mov (.c (.string ⟨#[78]⟩))⟩])
             (.ret))
            (.seq (.ops [⟨some 21, none, .cmp .eql (.t 3) (.c (.int .i64 10))⟩, ⟨some 20, none, .mov (.t 21)⟩])
             (.cond (.t 20) (.seq (.ops [⟨some 2, none, .mov (.c (.string ⟨#[65, 78]⟩))⟩])
               (.ret))
              (.seq (.ops [⟨some 23, none, .cmp .eql (.t 3) (.c (.int .i64 11))⟩, ⟨some 22, none, .mov (.t 23)⟩])
               (.cond (.t 22) (.seq (.ops [⟨some 2, none, .mov (.c (.string ⟨#[68, 83, 88]⟩))⟩])
                 (.ret))
                (.seq (.seq (.ops [⟨some 25, none, .cmp .eql (.t 3) (.c (.int .i64 12))⟩, ⟨some 24, none, .mov (.t 25)⟩])
                  (.cond (.t 24) (.skip)
                   (.seq (.ops [⟨some 26, none, .cmp .eql (.t 3) (.c (.int .i64 13))⟩, ⟨some 24, none, .mov (.t 26)⟩])
                    (.cond (.t 24) (.skip)
                     (.seq (.ops [⟨some 27, none, .cmp .eql (.t 3) (.c (.int .i64 18))⟩, ⟨some 24, none, .mov (.t 27)⟩])
                      (.cond (.t 24) (.skip)
                       (.seq (.ops [⟨some 28, none, .cmp .eql (.t 3) (.c (.int .i64 25))⟩, ⟨some 24, none, .mov (.t 28)⟩])
                        (.cond (.t 24) (.skip)
                         (.ops [⟨some 29, none, .cmp .eql (.t 3) (.c (.int .i64 28))⟩, ⟨some 24, none, .mov (.t 29)⟩])))))))))
                 (.cond (.t 24) (.seq (.ops [⟨some 2, none, .mov (.c (.string ⟨#[65]⟩))⟩])
                   (.ret))
                  (.seq (.ops [⟨some 31, none, .cmp .eql (.t 3) (.c (.int .i64 14))⟩, ⟨some 30, none, .mov (.t 31)⟩])
                   (.cond (.t 30) (.seq (.ops [⟨some 2, none, .mov (.c (.string ⟨#[83, 88]⟩))⟩])
                     (.ret))
                    (.seq (.seq (.ops [⟨some 33, none, .cmp .eql (.t 3) (.c (.int .i64 16))⟩, ⟨some 32, none, .mov (.t 33)⟩])
                      (.cond (.t 32) (.skip)
                       (.seq (.ops [⟨some 34, none, .cmp .eql (.t 3) (.c (.int .i64 21))⟩, ⟨some 32, none, .mov (.t 34)⟩])
                        (.cond (.t 32) (.skip)
                         (.seq (.ops [⟨some 35, none, .cmp .eql (.t 3) (.c (.int .i64 26))⟩, ⟨some 32, none, .mov (.t 35)⟩])
                          (.cond (.t 32) (.skip)
                           (.ops [⟨some 36, none, .cmp .eql (.t 3) (.c (.int .i64 27))⟩, ⟨some 32, none, .mov (.t 36)⟩])))))))
                     (.cond (.t 32) (.seq (.ops [⟨some 2, none, .mov (.c (.string ⟨#[65, 66]⟩))⟩])
                       (.ret))
                      (.seq (.ops [⟨some 38, none, .cmp .eql (.t 3) (.c (.int .i64 19))⟩, ⟨some 37, none, .mov (.t 38)⟩])
                       (.cond (.t 37) (.seq (.ops [⟨some 2, none, .mov (.c (.string ⟨#[68, 66, 78, 88]⟩))⟩])
                         (.ret))
                        (.seq (.ops [⟨some 40, none, .cmp .eql (.t 3) (.c (.int .i64 22))⟩, ⟨some 39, none, .mov (.t 40)⟩])
                         (.cond (.t 39) (.seq (.ops [⟨some 2, none, .mov (.c (.string ⟨#[68, 65, 66, 88]⟩))⟩])
                           (.ret))
                          (.seq (.ops [⟨some 42, none, .cmp .eql (.t 3) (.c (.int .i64 23))⟩, ⟨some 41, none, .mov (.t 42)⟩])
                           (.cond (.t 41) (.seq (.ops [⟨some 2, none, .mov (.c (.string ⟨#[68]⟩))⟩])
                             (.ret))
                            (.seq (.ops [⟨some 44, none, .cmp .eql (.t 3) (.c (.int .i64 24))⟩, ⟨some 43, none, .mov (.t 44)⟩])
                             (.cond (.t 43) (.seq (.ops [⟨some 2, none, .mov (.c (.string ⟨#[68, 83]⟩))⟩])
                               (.ret))
                              (.skip)))))))))))))))))))))))))))))
  (.seq (.ops [⟨some 2, none, .mov (.c (.string ⟨#[]⟩))⟩])
   (.ret)))
def s_impl_owns : SFn := ⟨1, 45, c_impl_owns, [.t 2]⟩
def b_impl_argsOk_0 : SCode :=
 .seq (.seq (.ops [⟨some 10, none, .mov (.t 5)⟩, ⟨some 11, none, .ari .add (.t 10) (.c (.int .i64 2))⟩, ⟨some 12, none, .faddr 6 (.t 2)⟩, ⟨some 13, none, .load none (.t 12)⟩, ⟨some 14, none, .len (.t 13)⟩, ⟨some 15, none, .cmp .lss (.t 11) (.t 14)⟩])
  (.cond (.t 15) (.skip)
   (.seq (.keep [2]) (.exit 1))))
 (.seq (.block 2 (.seq (.ops [⟨some 18, none, .faddr 6 (.t 2)⟩, ⟨some 19, none, .load none (.t 18)⟩, ⟨some 20, none, .mov (.t 5)⟩, ⟨some 21, none, .ixa 1 (.t 19) (.t 20)⟩, ⟨some 22, none, .load none (.t 21)⟩, ⟨some 23, none, .callr impl_within [.t 22, .c (.int .i64 1), .c (.int .i64 2)]⟩, ⟨some 24, none, .not (.t 23)⟩, ⟨some 25, none, .mov (.t 24)⟩, ⟨some 26, (some (25, false)), .faddr 6 (.t 2)⟩, ⟨some 27, (some (25, false)), .load none (.t 26)⟩, ⟨some 28, (some (25, false)), .mov (.t 5)⟩, ⟨some 29, (some (25, false)), .ixa 1 (.t 27) (.t 28)⟩, ⟨some 30, (some (25, false)), .load none (.t 29)⟩, ⟨some 31, (some (25, false)), .cmp .eql (.t 30) (.c (.int .i64 1))⟩, ⟨some 32, (some (25, false)), .mov (.t 31)⟩, ⟨some 33, (some (32, true)), .faddr 6 (.t 2)⟩, ⟨some 34, (some (32, true)), .load none (.t 33)⟩, ⟨some 35, (some (32, true)), .mov (.t 5)⟩, ⟨some 36, (some (32, true)), .ari .add (.t 35) (.c (.int .i64 2))⟩, ⟨some 37, (some (32, true)), .ixa 1 (.t 34) (.t 36)⟩, ⟨some 38, (some (32, true)), .load none (.t 37)⟩, ⟨some 39, (some (32, true)), .cmp .neq (.t 38) (.c (.int .i64 0))⟩, ⟨some 40, (some (25, false)), .pick (.t 32) (.t 39) (.c (.bool false))⟩, ⟨some 41, none, .pick (.t 25) (.c (.bool true)) (.t 40)⟩])
    (.cond (.t 41) (.seq (.ops [⟨some 4, none, .mov (.c (.bool false))⟩])
      (.seq (.keep [4]) .ret))
     (.skip))))
  (.ops [⟨some 16, none, .mov (.t 5)⟩, ⟨some 17, none, .ari .add (.t 16) (.c (.int .i64 3))⟩, ⟨some 5, none, .mov (.t 17)⟩]))
/-- loop.example/g00286/impl.argsOk -/
def c_impl_argsOk : SCode :=
 .seq (.ops [⟨some 2, none, .vbox 7 (.t 0)⟩, ⟨some 4, none, .mov (.c (.bool false))⟩])
 (.seq (.block 0 (.seq (.ops [⟨some 7, none, .faddr 0 (.t 2)⟩, ⟨some 8, none, .load none (.t 7)⟩, ⟨some 9, none, .cmp .eql (.t 8) (.c (.int .i64 19))⟩, ⟨some 6, none, .mov (.t 9)⟩])
    (.cond (.t 6) (.seq (.seq (.ops [⟨some 5, none, .mov (.c (.int .i64 0))⟩])
       (.block 1 (.loop [2, 5] b_impl_argsOk_0)))
      (.seq (.ops [⟨some 42, none, .faddr 6 (.t 2)⟩, ⟨some 43, none, .load none (.t 42)⟩, ⟨some 44, none, .len (.t 43)⟩, ⟨some 45, none, .ari .rem (.t 44) (.c (.int .i64 3))⟩, ⟨some 46, none, .cmp .eql (.t 45) (.c (.int .i64 0))⟩, ⟨some 47, none, .mov (.t 46)⟩, ⟨some 48, (some (47, true)), .faddr 6 (.t 2)⟩, ⟨some 49, (some (47, true)), .load none (.t 48)⟩, ⟨some 50, (some (47, true)), .len (.t 49)⟩, ⟨some 51, (some (47, true)), .callr impl_within [.t 50, .c (.int .i64 3), .c (.int .i64 9)]⟩, ⟨some 52, none, .pick (.t 47) (.t 51) (.c (.bool false))⟩, ⟨some 53, none, .mov (.t 52)⟩, ⟨some 54, (some (53, true)), .faddr 4 (.t 2)⟩, ⟨some 55, (some (53, true)), .load none (.t 54)⟩, ⟨some 56, (some (53, true)), .callr impl_within [.t 55, .c (.int .i64 0), .c (.int .i64 1)]⟩, ⟨some 57, none, .pick (.t 53) (.t 56) (.c (.bool false))⟩, ⟨some 4, none, .mov (.t 57)⟩])
       (.ret)))
     (.seq (.ops [⟨some 59, none, .faddr 0 (.t 2)⟩, ⟨some 60, none, .load none (.t 59)⟩, ⟨some 61, none, .cmp .eql (.t 60) (.c (.int .i64 22))⟩, ⟨some 58, none, .mov (.t 61)⟩])
      (.cond (.t 58) (.seq (.ops [⟨some 62, none, .faddr 6 (.t 2)⟩, ⟨some 63, none, .load none (.t 62)⟩, ⟨some 64, none, .len (.t 63)⟩, ⟨some 65, none, .cmp .eql (.t 64) (.c (.int .i64 1))⟩, ⟨some 4, none, .mov (.t 65)⟩])
        (.ret))
       (.seq (.ops [⟨some 67, none, .faddr 0 (.t 2)⟩, ⟨some 68, none, .load none (.t 67)⟩, ⟨some 69, none, .callr impl_owned [.t 68, .c (.int .u8 88)]⟩, ⟨some 70, none, .not (.t 69)⟩, ⟨some 66, none, .mov (.t 70)⟩])
        (.cond (.t 66) (.seq (.ops [⟨some 71, none, .faddr 6 (.t 2)⟩, ⟨some 72, none, .load none (.t 71)⟩, ⟨some 73, none, .len (.t 72)⟩, ⟨some 74, none, .cmp .eql (.t 73) (.c (.int .i64 0))⟩, ⟨some 4, none, .mov (.t 74)⟩])
          (.ret))
         (.skip))))))))
  (.seq (.ops [⟨some 75, none, .faddr 6 (.t 2)⟩, ⟨some 76, none, .load none (.t 75)⟩, ⟨some 77, none, .len (.t 76)⟩, ⟨some 78, none, .cmp .leq (.t 77) (.c (.int .i64 4))⟩, ⟨some 4, none, .mov (.t 78)⟩])
   (.ret)))
def s_impl_argsOk : SFn := ⟨2, 79, c_impl_argsOk, [.t 4]⟩
/-- loop.example/g00286/impl.owned -/
def c_impl_owned : SCode :=
 .seq (.ops [⟨some 4, none, .mov (.c (.bool false))⟩])
 (.seq (.ops [⟨some 5, none, .mov (.t 0)⟩, ⟨some 6, none, .callr impl_owns [.t 5]⟩, ⟨some 7, none, .bos (.t 6)⟩, ⟨some 8, none, .mov (.t 1)⟩, ⟨some 9, none, .callr slices_Contains_byte_byte [.t 7, .t 8]⟩, ⟨some 4, none, .mov (.t 9)⟩])
  (.ret))
def s_impl_owned : SFn := ⟨2, 10, c_impl_owned, [.t 4]⟩
/-- loop.example/g00286/impl.Sets -/
def c_impl_Sets : SCode :=
 .seq (.ops [⟨some 1, none, .vbox 7 (.t 0)⟩, ⟨some 2, none, .mov (.n 1)⟩])
 (.seq (.block 0 (.seq (.ops [⟨some 4, none, .faddr 0 (.t 1)⟩, ⟨some 5, none, .load none (.t 4)⟩, ⟨some 6, none, .cmp .eql (.t 5) (.c (.int .i64 19))⟩, ⟨some 3, none, .mov (.t 6)⟩])
    (.cond (.t 3) (.seq (.ops [⟨some 7, none, .faddr 1 (.t 1)⟩, ⟨some 8, none, .load none (.t 7)⟩, ⟨some 9, none, .faddr 3 (.t 1)⟩, ⟨some 10, none, .load none (.t 9)⟩, ⟨some 11, none, .lit 1 [.t 8, .t 10]⟩, ⟨some 2, none, .mov (.t 11)⟩])
      (.ret))
     (.seq (.ops [⟨some 13, none, .faddr 0 (.t 1)⟩, ⟨some 14, none, .load none (.t 13)⟩, ⟨some 15, none, .callr impl_owned [.t 14, .c (.int .u8 68)]⟩, ⟨some 12, none, .mov (.t 15)⟩])
      (.cond (.t 12) (.seq (.ops [⟨some 16, none, .faddr 1 (.t 1)⟩, ⟨some 17, none, .load none (.t 16)⟩, ⟨some 18, none, .lit 1 [.t 17]⟩, ⟨some 2, none, .mov (.t 18)⟩])
        (.ret))
       (.skip))))))
  (.seq (.ops [⟨some 2, none, .mov (.n 1)⟩])
   (.ret)))
def s_impl_Sets : SFn := ⟨1, 19, c_impl_Sets, [.t 2]⟩
def b_impl_Uses_0 : SCode :=
 .seq (.ops [⟨some 14, none, .cmp .lss (.t 13) (.t 12)⟩])
 (.seq (.cond (.t 14) (.skip)
   (.seq (.keep [3]) (.exit 0)))
  (.seq (.block 1 (.seq (.ops [⟨some 15, none, .mov (.t 13)⟩, ⟨some 16, none, .ixa 1 (.t 11) (.t 13)⟩, ⟨some 17, none, .load none (.t 16)⟩, ⟨some 4, none, .mov (.t 15)⟩, ⟨some 5, none, .mov (.t 17)⟩])
     (.seq (.ops [⟨some 18, none, .mov (.t 4)⟩, ⟨some 19, none, .ari .rem (.t 18) (.c (.int .i64 3))⟩, ⟨some 20, none, .cmp .eql (.t 19) (.c (.int .i64 1))⟩, ⟨some 21, none, .mov (.t 20)⟩, ⟨some 22, (some (21, false)), .mov (.t 4)⟩, ⟨some 23, (some (21, false)), .ari .rem (.t 22) (.c (.int .i64 3))⟩, ⟨some 24, (some (21, false)), .cmp .eql (.t 23) (.c (.int .i64 2))⟩, ⟨some 25, (some (21, false)), .mov (.t 24)⟩, ⟨some 26, (some (25, true)), .faddr 6 (.t 1)⟩, ⟨some 27, (some (25, true)), .load none (.t 26)⟩, ⟨some 28, (some (25, true)), .mov (.t 4)⟩, ⟨some 29, (some (25, true)), .ari .sub (.t 28) (.c (.int .i64 2))⟩, ⟨some 30, (some (25, true)), .ixa 1 (.t 27) (.t 29)⟩, ⟨some 31, (some (25, true)), .load none (.t 30)⟩, ⟨some 32, (some (25, true)), .cmp .eql (.t 31) (.c (.int .i64 2))⟩, ⟨some 33, (some (21, false)), .pick (.t 25) (.t 32) (.c (.bool false))⟩, ⟨some 34, none, .pick (.t 21) (.c (.bool true)) (.t 33)⟩])
      (.cond (.t 34) (.ops [⟨some 35, none, .mov (.t 3)⟩, ⟨some 36, none, .mov (.t 5)⟩, ⟨some 37, none, .lit 1 [.t 36]⟩, ⟨some 38, none, .app 1 8 (.t 35) (.t 37)⟩, ⟨some 3, none, .mov (.t 38)⟩])
       (.skip)))))
   (.ops [⟨some 39, none, .ari .add (.t 13) (.c (.int .i64 1))⟩, ⟨some 13, none, .mov (.t 39)⟩])))
/-- loop.example/g00286/impl.Uses -/
def c_impl_Uses : SCode :=
 .seq (.ops [⟨some 1, none, .vbox 7 (.t 0)⟩, ⟨some 2, none, .mov (.n 1)⟩])
 (.seq (.ops [⟨some 6, none, .lit 1 []⟩, ⟨some 3, none, .mov (.t 6)⟩])
  (.seq (.seq (.ops [⟨some 7, none, .faddr 0 (.t 1)⟩, ⟨some 8, none, .load none (.t 7)⟩, ⟨some 9, none, .cmp .eql (.t 8) (.c (.int .i64 19))⟩])
    (.cond (.t 9) (.seq (.seq (.ops [⟨some 10, none, .faddr 6 (.t 1)⟩, ⟨some 11, none, .load none (.t 10)⟩, ⟨some 12, none, .len (.t 11)⟩, ⟨some 13, none, .mov (.c (.int .i64 0))⟩])
       (.block 0 (.loop [1, 3, 11, 12, 13] b_impl_Uses_0)))
      (.seq (.ops [⟨some 40, none, .mov (.t 3)⟩, ⟨some 2, none, .mov (.t 40)⟩])
       (.ret)))
     (.skip)))
   (.seq (.seq (.ops [⟨some 41, none, .faddr 0 (.t 1)⟩, ⟨some 42, none, .load none (.t 41)⟩, ⟨some 43, none, .callr impl_owned [.t 42, .c (.int .u8 65)]⟩])
     (.cond (.t 43) (.ops [⟨some 44, none, .mov (.t 3)⟩, ⟨some 45, none, .faddr 2 (.t 1)⟩, ⟨some 46, none, .load none (.t 45)⟩, ⟨some 47, none, .lit 1 [.t 46]⟩, ⟨some 48, none, .app 1 8 (.t 44) (.t 47)⟩, ⟨some 3, none, .mov (.t 48)⟩])
      (.skip)))
    (.seq (.seq (.ops [⟨some 49, none, .faddr 0 (.t 1)⟩, ⟨some 50, none, .load none (.t 49)⟩, ⟨some 51, none, .callr impl_owned [.t 50, .c (.int .u8 66)]⟩])
      (.cond (.t 51) (.ops [⟨some 52, none, .mov (.t 3)⟩, ⟨some 53, none, .faddr 3 (.t 1)⟩, ⟨some 54, none, .load none (.t 53)⟩, ⟨some 55, none, .lit 1 [.t 54]⟩, ⟨some 56, none, .app 1 8 (.t 52) (.t 55)⟩, ⟨some 3, none, .mov (.t 56)⟩])
       (.skip)))
     (.seq (.seq (.ops [⟨some 57, none, .faddr 0 (.t 1)⟩, ⟨some 58, none, .load none (.t 57)⟩, ⟨some 59, none, .callr impl_owned [.t 58, .c (.int .u8 88)]⟩])
       (.cond (.t 59) (.ops [⟨some 60, none, .mov (.t 3)⟩, ⟨some 61, none, .faddr 6 (.t 1)⟩, ⟨some 62, none, .load none (.t 61)⟩, ⟨some 63, none, .app 1 8 (.t 60) (.t 62)⟩, ⟨some 3, none, .mov (.t 63)⟩])
        (.skip)))
      (.seq (.ops [⟨some 64, none, .mov (.t 3)⟩, ⟨some 2, none, .mov (.t 64)⟩])
       (.ret)))))))
def s_impl_Uses : SFn := ⟨1, 65, c_impl_Uses, [.t 2]⟩
/-- loop.example/g00286/impl.tacOk$1 -/
def c_impl_tacOk_1 : SCode :=
 .seq (.ops [⟨some 3, none, .mov (.c (.bool false))⟩])
 (.seq (.ops [⟨some 4, none, .mov (.t 0)⟩, ⟨some 5, none, .load none (.t 1)⟩, ⟨some 6, none, .ari .sub (.t 5) (.c (.int .i64 1))⟩, ⟨some 7, none, .callr impl_within [.t 4, .c (.int .i64 0), .t 6]⟩, ⟨some 8, none, .not (.t 7)⟩, ⟨some 3, none, .mov (.t 8)⟩])
  (.ret))
def s_impl_tacOk_1 : SFn := ⟨2, 9, c_impl_tacOk_1, [.t 3]⟩
def b_slices_IndexFunc_impl_Tac_impl_Tac_0 : SCode :=
 .seq (.ops [⟨some 9, none, .cmp .lss (.t 8) (.t 7)⟩])
 (.seq (.cond (.t 9) (.skip)
   (.seq (.keep []) (.exit 0)))
  (.seq (.block 1 (.seq (.ops [⟨some 10, none, .mov (.t 8)⟩, ⟨some 5, none, .mov (.t 10)⟩])
     (.seq (.ops [⟨some 11, none, .mov (.t 1)⟩, ⟨some 12, none, .mov (.t 0)⟩, ⟨some 13, none, .mov (.t 5)⟩, ⟨some 14, none, .ixa 7 (.t 12) (.t 13)⟩, ⟨some 15, none, .load (some 7) (.t 14)⟩, ⟨some 16, none, .calli (.t 11) [.t 15]⟩])
      (.cond (.t 16) (.seq (.ops [⟨some 17, none, .mov (.t 5)⟩, ⟨some 4, none, .mov (.t 17)⟩])
        (.seq (.keep [4]) .ret))
       (.skip)))))
   (.ops [⟨some 18, none, .ari .add (.t 8) (.c (.int .i64 1))⟩, ⟨some 8, none, .mov (.t 18)⟩])))
/-- slices.IndexFunc[[]loop.example/g00286/impl.Tac,loop.example/g00286/impl.Tac] -/
def c_slices_IndexFunc_impl_Tac_impl_Tac : SCode :=
 .seq (.ops [⟨some 4, none, .mov (.c (.int .i64 0))⟩])
 (.seq (.seq (.ops [⟨some 6, none, .mov (.t 0)⟩, ⟨some 7, none, .len (.t 6)⟩, ⟨some 8, none, .mov (.c (.int .i64 0))⟩])
   (.block 0 (.loop [0, 1, 7, 8] b_slices_IndexFunc_impl_Tac_impl_Tac_0)))
  (.seq (.ops [⟨some 4, none, .mov (.c (.int .i64 (-1)))⟩])
   (.ret)))
def s_slices_IndexFunc_impl_Tac_impl_Tac : SFn := ⟨2, 19, c_slices_IndexFunc_impl_Tac_impl_Tac, [.t 4]⟩
/-- loop.example/g00286/impl.labelAt$1 -/
def c_impl_labelAt_1 : SCode :=
 .seq (.ops [⟨some 2, none, .vbox 7 (.t 0)⟩, ⟨some 3, none, .mov (.c (.bool false))⟩])
 (.seq (.ops [⟨some 4, none, .faddr 0 (.t 2)⟩, ⟨some 5, none, .load none (.t 4)⟩, ⟨some 6, none, .cmp .eql (.t 5) (.c (.int .i64 8))⟩, ⟨some 7, none, .mov (.t 6)⟩, ⟨some 8, (some (7, true)), .faddr 4 (.t 2)⟩, ⟨some 9, (some (7, true)), .load none (.t 8)⟩, ⟨some 10, (some (7, true)), .load none (.t 1)⟩, ⟨some 11, (some (7, true)), .cmp .eql (.t 9) (.t 10)⟩, ⟨some 12, none, .pick (.t 7) (.t 11) (.c (.bool false))⟩, ⟨some 3, none, .mov (.t 12)⟩])
  (.ret))
def s_impl_labelAt_1 : SFn := ⟨2, 13, c_impl_labelAt_1, [.t 3]⟩
/-- (*loop.example/g00286/impl.joiner).set -/
def c_impl_joiner_set : SCode :=
 .seq (.ops [⟨some 3, none, .box 7 (.t 1)⟩, ⟨some 4, none, .mov (.c (.int .i64 0))⟩])
 (.seq (.ops [⟨some 5, none, .mov (.t 0)⟩, ⟨some 6, none, .nck (.t 5)⟩, ⟨some 7, none, .faddr 1 (.t 6)⟩, ⟨some 8, none, .load none (.t 7)⟩, ⟨some 9, none, .faddr 1 (.t 3)⟩, ⟨none, none, .store 1 (.t 9) (.t 8)⟩])
  (.seq (.ops [⟨some 10, none, .mov (.t 0)⟩, ⟨some 11, none, .nck (.t 10)⟩, ⟨some 12, none, .faddr 1 (.t 11)⟩, ⟨some 13, none, .load none (.t 12)⟩, ⟨some 14, none, .ari .add (.t 13) (.c (.int .i64 1))⟩, ⟨some 15, none, .nck (.t 10)⟩, ⟨some 16, none, .faddr 1 (.t 15)⟩, ⟨none, none, .store 1 (.t 16) (.t 14)⟩])
   (.seq (.ops [⟨some 17, none, .mov (.t 0)⟩, ⟨some 18, none, .load (some 7) (.t 3)⟩, ⟨some 19, none, .callb impl_joiner_put [.t 17, .t 18] [true, true]⟩])
    (.seq (.ops [⟨some 20, none, .faddr 1 (.t 3)⟩, ⟨some 21, none, .load none (.t 20)⟩, ⟨some 4, none, .mov (.t 21)⟩])
     (.ret)))))
def s_impl_joiner_set : SFn := ⟨2, 22, c_impl_joiner_set, [.t 4]⟩
/-- (*loop.example/g00286/impl.joiner).field -/
def c_impl_joiner_field : SCode :=
 .seq (.ops [⟨some 6, none, .mov (.c (.int .i64 0))⟩])
 (.seq (.ops [⟨some 8, none, .mov (.t 0)⟩, ⟨some 9, none, .mov (.t 2)⟩, ⟨some 10, none, .callb impl_joiner_num [.t 8, .t 9] [true, false]⟩, ⟨some 7, none, .mov (.t 10)⟩])
  (.seq (.ops [⟨some 11, none, .mov (.t 0)⟩, ⟨some 12, none, .mov (.t 1)⟩, ⟨some 13, none, .mov (.t 7)⟩, ⟨some 14, none, .build [.v (.int .i64 0), .v (.int .i64 0), .v (.int .i64 0), .v (.int .i64 0), .v (.int .i64 0), .v (.string ⟨#[]⟩), .s 1 []] [(0, 1, .c (.int .i64 3)), (2, 1, .t 12), (3, 1, .t 13)]⟩, ⟨some 15, none, .callb impl_joiner_set [.t 11, .t 14] [true, true]⟩, ⟨some 6, none, .mov (.t 15)⟩])
   (.ret)))
def s_impl_joiner_field : SFn := ⟨3, 16, c_impl_joiner_field, [.t 6]⟩
/-- (*loop.example/g00286/impl.joiner).num -/
def c_impl_joiner_num : SCode :=
 .seq (.ops [⟨some 4, none, .mov (.c (.int .i64 0))⟩])
 (.seq (.ops [⟨some 5, none, .mov (.t 0)⟩, ⟨some 6, none, .mov (.t 1)⟩, ⟨some 7, none, .build [.v (.int .i64 0), .v (.int .i64 0), .v (.int .i64 0), .v (.int .i64 0), .v (.int .i64 0), .v (.string ⟨#[]⟩), .s 1 []] [(0, 1, .c (.int .i64 1)), (4, 1, .t 6)]⟩, ⟨some 8, none, .callb impl_joiner_set [.t 5, .t 7] [true, true]⟩, ⟨some 4, none, .mov (.t 8)⟩])
  (.ret))
def s_impl_joiner_num : SFn := ⟨2, 9, c_impl_joiner_num, [.t 4]⟩
def b_slices_IndexFunc_int_int_0 : SCode :=
 .seq (.ops [⟨some 9, none, .cmp .lss (.t 8) (.t 7)⟩])
 (.seq (.cond (.t 9) (.skip)
   (.seq (.keep []) (.exit 0)))
  (.seq (.block 1 (.seq (.ops [⟨some 10, none, .mov (.t 8)⟩, ⟨some 5, none, .mov (.t 10)⟩])
     (.seq (.ops [⟨some 11, none, .mov (.t 1)⟩, ⟨some 12, none, .mov (.t 0)⟩, ⟨some 13, none, .mov (.t 5)⟩, ⟨some 14, none, .ixa 1 (.t 12) (.t 13)⟩, ⟨some 15, none, .load none (.t 14)⟩, ⟨some 16, none, .calli (.t 11) [.t 15]⟩])
      (.cond (.t 16) (.seq (.ops [⟨some 17, none, .mov (.t 5)⟩, ⟨some 4, none, .mov (.t 17)⟩])
        (.seq (.keep [4]) .ret))
       (.skip)))))
   (.ops [⟨some 18, none, .ari .add (.t 8) (.c (.int .i64 1))⟩, ⟨some 8, none, .mov (.t 18)⟩])))
/-- slices.IndexFunc[[]int,int] -/
def c_slices_IndexFunc_int_int : SCode :=
 .seq (.ops [⟨some 4, none, .mov (.c (.int .i64 0))⟩])
 (.seq (.seq (.ops [⟨some 6, none, .mov (.t 0)⟩, ⟨some 7, none, .len (.t 6)⟩, ⟨some 8, none, .mov (.c (.int .i64 0))⟩])
   (.block 0 (.loop [0, 1, 7, 8] b_slices_IndexFunc_int_int_0)))
  (.seq (.ops [⟨some 4, none, .mov (.c (.int .i64 (-1)))⟩])
   (.ret)))
def s_slices_IndexFunc_int_int : SFn := ⟨2, 19, c_slices_IndexFunc_int_int, [.t 4]⟩
/-- loop.example/g00286/spec.Sets -/
def c_spec_Sets : SCode :=
 .seq (.ops [⟨some 1, none, .vbox 7 (.t 0)⟩, ⟨some 2, none, .mov (.n 1)⟩])
 (.seq (.ops [⟨some 4, none, .lit 1 []⟩, ⟨some 3, none, .mov (.t 4)⟩])
  (.seq (.seq (.ops [⟨some 5, none, .faddr 0 (.t 1)⟩, ⟨some 6, none, .load none (.t 5)⟩, ⟨some 7, none, .callr spec_l10Has [.t 6]⟩, ⟨some 8, none, .ari .and (.t 7) (.c (.int .i64 1))⟩, ⟨some 9, none, .cmp .neq (.t 8) (.c (.int .i64 0))⟩])
    (.cond (.t 9) (.ops [⟨some 10, none, .mov (.t 3)⟩, ⟨some 11, none, .faddr 1 (.t 1)⟩, ⟨some 12, none, .load none (.t 11)⟩, ⟨some 13, none, .lit 1 [.t 12]⟩, ⟨some 14, none, .app 1 8 (.t 10) (.t 13)⟩, ⟨some 3, none, .mov (.t 14)⟩])
     (.skip)))
   (.seq (.seq (.ops [⟨some 15, none, .faddr 0 (.t 1)⟩, ⟨some 16, none, .load none (.t 15)⟩, ⟨some 17, none, .cmp .eql (.t 16) (.c (.int .i64 19))⟩])
     (.cond (.t 17) (.ops [⟨some 18, none, .mov (.t 3)⟩, ⟨some 19, none, .faddr 3 (.t 1)⟩, ⟨some 20, none, .load none (.t 19)⟩, ⟨some 21, none, .lit 1 [.t 20]⟩, ⟨some 22, none, .app 1 8 (.t 18) (.t 21)⟩, ⟨some 3, none, .mov (.t 22)⟩])
      (.skip)))
    (.seq (.ops [⟨some 23, none, .mov (.t 3)⟩, ⟨some 2, none, .mov (.t 23)⟩])
     (.ret)))))
def s_spec_Sets : SFn := ⟨1, 24, c_spec_Sets, [.t 2]⟩
def b_spec_Uses_0 : SCode :=
 .seq (.seq (.ops [⟨some 31, none, .mov (.t 5)⟩, ⟨some 32, none, .faddr 6 (.t 1)⟩, ⟨some 33, none, .load none (.t 32)⟩, ⟨some 34, none, .len (.t 33)⟩, ⟨some 35, none, .cmp .lss (.t 31) (.t 34)⟩, ⟨some 36, none, .mov (.t 35)⟩, ⟨some 37, (some (36, true)), .mov (.t 4)⟩, ⟨some 38, (some (36, true)), .ari .and (.t 37) (.c (.int .i64 32))⟩, ⟨some 39, (some (36, true)), .cmp .neq (.t 38) (.c (.int .i64 0))⟩, ⟨some 40, none, .pick (.t 36) (.t 39) (.c (.bool false))⟩])
  (.cond (.t 40) (.skip)
   (.seq (.keep [3]) (.exit 0))))
 (.seq (.block 1 (.seq (.ops [⟨some 43, none, .faddr 0 (.t 1)⟩, ⟨some 44, none, .load none (.t 43)⟩, ⟨some 45, none, .cmp .neq (.t 44) (.c (.int .i64 19))⟩, ⟨some 46, none, .mov (.t 45)⟩, ⟨some 47, (some (46, false)), .mov (.t 5)⟩, ⟨some 48, (some (46, false)), .ari .rem (.t 47) (.c (.int .i64 3))⟩, ⟨some 49, (some (46, false)), .cmp .eql (.t 48) (.c (.int .i64 1))⟩, ⟨some 50, none, .pick (.t 46) (.c (.bool true)) (.t 49)⟩, ⟨some 51, none, .mov (.t 50)⟩, ⟨some 52, (some (51, false)), .mov (.t 5)⟩, ⟨some 53, (some (51, false)), .ari .rem (.t 52) (.c (.int .i64 3))⟩, ⟨some 54, (some (51, false)), .cmp .eql (.t 53) (.c (.int .i64 2))⟩, ⟨some 55, (some (51, false)), .mov (.t 54)⟩, ⟨some 56, (some (55, true)), .faddr 6 (.t 1)⟩, ⟨some 57, (some (55, true)), .load none (.t 56)⟩, ⟨some 58, (some (55, true)), .mov (.t 5)⟩, ⟨some 59, (some (55, true)), .ari .sub (.t 58) (.c (.int .i64 2))⟩, ⟨some 60, (some (55, true)), .ixa 1 (.t 57) (.t 59)⟩, ⟨some 61, (some (55, true)), .load none (.t 60)⟩, ⟨some 62, (some (55, true)), .cmp .eql (.t 61) (.c (.int .i64 2))⟩, ⟨some 63, (some (51, false)), .pick (.t 55) (.t 62) (.c (.bool false))⟩, ⟨some 64, none, .pick (.t 51) (.c (.bool true)) (.t 63)⟩])
    (.cond (.t 64) (.ops [⟨some 65, none, .mov (.t 3)⟩, ⟨some 66, none, .faddr 6 (.t 1)⟩, ⟨some 67, none, .load none (.t 66)⟩, ⟨some 68, none, .mov (.t 5)⟩, ⟨some 69, none, .ixa 1 (.t 67) (.t 68)⟩, ⟨some 70, none, .load none (.t 69)⟩, ⟨some 71, none, .lit 1 [.t 70]⟩, ⟨some 72, none, .app 1 8 (.t 65) (.t 71)⟩, ⟨some 3, none, .mov (.t 72)⟩])
     (.skip))))
  (.ops [⟨some 41, none, .mov (.t 5)⟩, ⟨some 42, none, .ari .add (.t 41) (.c (.int .i64 1))⟩, ⟨some 5, none, .mov (.t 42)⟩]))
/-- loop.example/g00286/spec.Uses -/
def c_spec_Uses : SCode :=
 .seq (.ops [⟨some 1, none, .vbox 7 (.t 0)⟩, ⟨some 2, none, .mov (.n 1)⟩])
 (.seq (.ops [⟨some 6, none, .lit 1 []⟩, ⟨some 3, none, .mov (.t 6)⟩])
  (.seq (.ops [⟨some 7, none, .faddr 0 (.t 1)⟩, ⟨some 8, none, .load none (.t 7)⟩, ⟨some 9, none, .callr spec_l10Has [.t 8]⟩, ⟨some 4, none, .mov (.t 9)⟩])
   (.seq (.seq (.ops [⟨some 10, none, .mov (.t 4)⟩, ⟨some 11, none, .ari .and (.t 10) (.c (.int .i64 2))⟩, ⟨some 12, none, .cmp .neq (.t 11) (.c (.int .i64 0))⟩])
     (.cond (.t 12) (.ops [⟨some 13, none, .mov (.t 3)⟩, ⟨some 14, none, .faddr 2 (.t 1)⟩, ⟨some 15, none, .load none (.t 14)⟩, ⟨some 16, none, .lit 1 [.t 15]⟩, ⟨some 17, none, .app 1 8 (.t 13) (.t 16)⟩, ⟨some 3, none, .mov (.t 17)⟩])
      (.skip)))
    (.seq (.seq (.ops [⟨some 18, none, .mov (.t 4)⟩, ⟨some 19, none, .ari .and (.t 18) (.c (.int .i64 4))⟩, ⟨some 20, none, .cmp .neq (.t 19) (.c (.int .i64 0))⟩, ⟨some 21, none, .mov (.t 20)⟩, ⟨some 22, (some (21, true)), .faddr 0 (.t 1)⟩, ⟨some 23, (some (21, true)), .load none (.t 22)⟩, ⟨some 24, (some (21, true)), .cmp .neq (.t 23) (.c (.int .i64 19))⟩, ⟨some 25, none, .pick (.t 21) (.t 24) (.c (.bool false))⟩])
      (.cond (.t 25) (.ops [⟨some 26, none, .mov (.t 3)⟩, ⟨some 27, none, .faddr 3 (.t 1)⟩, ⟨some 28, none, .load none (.t 27)⟩, ⟨some 29, none, .lit 1 [.t 28]⟩, ⟨some 30, none, .app 1 8 (.t 26) (.t 29)⟩, ⟨some 3, none, .mov (.t 30)⟩])
       (.skip)))
     (.seq (.seq (.ops [⟨some 5, none, .mov (.c (.int .i64 0))⟩])
       (.block 0 (.loop [1, 3, 4, 5] b_spec_Uses_0)))
      (.seq (.ops [⟨some 73, none, .mov (.t 3)⟩, ⟨some 2, none, .mov (.t 73)⟩])
       (.ret)))))))
def s_spec_Uses : SFn := ⟨1, 74, c_spec_Uses, [.t 2]⟩
/-- slices.Contains[[]byte,byte] -/
def c_slices_Contains_byte_byte : SCode :=
 .seq (.ops [⟨some 4, none, .mov (.c (.bool false))⟩])
 (.seq (.ops [⟨some 5, none, .mov (.t 0)⟩, ⟨some 6, none, .mov (.t 1)⟩, ⟨some 7, none, .callr slices_Index_byte_byte [.t 5, .t 6]⟩, ⟨some 8, none, .cmp .geq (.t 7) (.c (.int .i64 0))⟩, ⟨some 4, none, .mov (.t 8)⟩])
  (.ret))
def s_slices_Contains_byte_byte : SFn := ⟨2, 9, c_slices_Contains_byte_byte, [.t 4]⟩
def b_slices_Index_byte_byte_0 : SCode :=
 .seq (.ops [⟨some 9, none, .cmp .lss (.t 8) (.t 7)⟩])
 (.seq (.cond (.t 9) (.skip)
   (.seq (.keep []) (.exit 0)))
  (.seq (.block 1 (.seq (.ops [⟨some 10, none, .mov (.t 8)⟩, ⟨some 5, none, .mov (.t 10)⟩])
     (.seq (.ops [⟨some 11, none, .mov (.t 1)⟩, ⟨some 12, none, .mov (.t 0)⟩, ⟨some 13, none, .mov (.t 5)⟩, ⟨some 14, none, .ixa 1 (.t 12) (.t 13)⟩, ⟨some 15, none, .load none (.t 14)⟩, ⟨some 16, none, .cmp .eql (.t 11) (.t 15)⟩])
      (.cond (.t 16) (.seq (.ops [⟨some 17, none, .mov (.t 5)⟩, ⟨some 4, none, .mov (.t 17)⟩])
        (.seq (.keep [4]) .ret))
       (.skip)))))
   (.ops [⟨some 18, none, .ari .add (.t 8) (.c (.int .i64 1))⟩, ⟨some 8, none, .mov (.t 18)⟩])))
/-- slices.Index[[]byte,byte] -/
def c_slices_Index_byte_byte : SCode :=
 .seq (.ops [⟨some 4, none, .mov (.c (.int .i64 0))⟩])
 (.seq (.seq (.ops [⟨some 6, none, .mov (.t 0)⟩, ⟨some 7, none, .len (.t 6)⟩, ⟨some 8, none, .mov (.c (.int .i64 0))⟩])
   (.block 0 (.loop [0, 1, 7, 8] b_slices_Index_byte_byte_0)))
  (.seq (.ops [⟨some 4, none, .mov (.c (.int .i64 (-1)))⟩])
   (.ret)))
def s_slices_Index_byte_byte : SFn := ⟨2, 19, c_slices_Index_byte_byte, [.t 4]⟩
def tabL0 : List (Nat × SFn) := [(7, s_laws_FnExactJoin), (34, s_laws_szUnit), (35, s_spec_Join), (36, s_laws_toUnit), (37, s_impl_Join), (38, s_laws_eqUnit), (39, s_laws_markUnit), (40, s_laws_heldUnit), (57, s_laws_markText), (58, s_laws_szIntS), (64, s_laws_toIntS), (70, s_laws_eqIntS), (73, s_spec_l1In), (75, s_impl_within), (76, s_laws_markIntS), (79, s_laws_heldIntS), (93, s_laws_szTacS), (94, s_spec_UnitOk), (95, s_spec_l10Copy), (96, s_spec_l20Place), (97, s_laws_toTacS), (98, s_impl_copyUnit), (99, s_impl_UnitOk), (100, s_impl_joiner_place), (101, s_laws_eqTacS), (102, s_laws_markTacS), (103, s_laws_heldTacS), (122, s_spec_WordOk), (126, s_impl_WordOk), (147, s_laws_szTac), (148, s_spec_l1Min), (149, s_spec_l10Place), (150, s_spec_l10Label), (151, s_spec_l10Code), (152, s_spec_l20New), (153, s_spec_l20Go), (154, s_spec_l20Call), (155, s_spec_l20Select), (156, s_spec_l20Put), (157, s_spec_l10Tac)]
def tabL1 : List (Nat × SFn) := [(158, s_laws_toTac), (159, s_impl_copyTac), (160, s_impl_tacOk), (161, s_impl_labelAt), (162, s_impl_ends), (163, s_impl_joiner_call), (164, s_impl_joiner_begin), (165, s_impl_joiner_put), (166, s_impl_joiner_choose), (167, s_laws_eqTac), (184, s_slices_ContainsFunc_int_int), (194, s_spec_l10Has), (195, s_spec_l10Args), (196, s_spec_l10Regs), (197, s_spec_l20Reg), (198, s_spec_l20Store), (199, s_spec_l20Num), (200, s_slices_Clone_int_int), (201, s_impl_owns), (202, s_impl_argsOk), (203, s_impl_owned), (204, s_impl_Sets), (205, s_impl_Uses), (206, s_impl_tacOk_1), (207, s_slices_IndexFunc_impl_Tac_impl_Tac), (208, s_impl_labelAt_1), (209, s_impl_joiner_set), (210, s_impl_joiner_field), (211, s_impl_joiner_num), (229, s_slices_IndexFunc_int_int), (235, s_spec_Sets), (236, s_spec_Uses), (237, s_slices_Contains_byte_byte), (251, s_slices_Index_byte_byte)]
def tabL : List (Nat × SFn) := tabL0 ++ tabL1
def tab (f : Nat) : Option SFn := (tabL.find? fun p => p.1 == f).map fun p => p.2
theorem t_laws_FnExactJoin : tab laws_FnExactJoin = some s_laws_FnExactJoin := rfl
theorem t_laws_szUnit : tab laws_szUnit = some s_laws_szUnit := rfl
theorem t_spec_Join : tab spec_Join = some s_spec_Join := rfl
theorem t_laws_toUnit : tab laws_toUnit = some s_laws_toUnit := rfl
theorem t_impl_Join : tab impl_Join = some s_impl_Join := rfl
theorem t_laws_eqUnit : tab laws_eqUnit = some s_laws_eqUnit := rfl
theorem t_laws_markUnit : tab laws_markUnit = some s_laws_markUnit := rfl
theorem t_laws_heldUnit : tab laws_heldUnit = some s_laws_heldUnit := rfl
theorem t_laws_markText : tab laws_markText = some s_laws_markText := rfl
theorem t_laws_szIntS : tab laws_szIntS = some s_laws_szIntS := rfl
theorem t_laws_toIntS : tab laws_toIntS = some s_laws_toIntS := rfl
theorem t_laws_eqIntS : tab laws_eqIntS = some s_laws_eqIntS := rfl
theorem t_spec_l1In : tab spec_l1In = some s_spec_l1In := rfl
theorem t_impl_within : tab impl_within = some s_impl_within := rfl
theorem t_laws_markIntS : tab laws_markIntS = some s_laws_markIntS := rfl
theorem t_laws_heldIntS : tab laws_heldIntS = some s_laws_heldIntS := rfl
theorem t_laws_szTacS : tab laws_szTacS = some s_laws_szTacS := rfl
theorem t_spec_UnitOk : tab spec_UnitOk = some s_spec_UnitOk := rfl
theorem t_spec_l10Copy : tab spec_l10Copy = some s_spec_l10Copy := rfl
theorem t_spec_l20Place : tab spec_l20Place = some s_spec_l20Place := rfl
theorem t_laws_toTacS : tab laws_toTacS = some s_laws_toTacS := rfl
theorem t_impl_copyUnit : tab impl_copyUnit = some s_impl_copyUnit := rfl
theorem t_impl_UnitOk : tab impl_UnitOk = some s_impl_UnitOk := rfl
theorem t_impl_joiner_place : tab impl_joiner_place = some s_impl_joiner_place := rfl
theorem t_laws_eqTacS : tab laws_eqTacS = some s_laws_eqTacS := rfl
theorem t_laws_markTacS : tab laws_markTacS = some s_laws_markTacS := rfl
theorem t_laws_heldTacS : tab laws_heldTacS = some s_laws_heldTacS := rfl
theorem t_spec_WordOk : tab spec_WordOk = some s_spec_WordOk := rfl
theorem t_impl_WordOk : tab impl_WordOk = some s_impl_WordOk := rfl
theorem t_laws_szTac : tab laws_szTac = some s_laws_szTac := rfl
theorem t_spec_l1Min : tab spec_l1Min = some s_spec_l1Min := rfl
theorem t_spec_l10Place : tab spec_l10Place = some s_spec_l10Place := rfl
theorem t_spec_l10Label : tab spec_l10Label = some s_spec_l10Label := rfl
theorem t_spec_l10Code : tab spec_l10Code = some s_spec_l10Code := rfl
theorem t_spec_l20New : tab spec_l20New = some s_spec_l20New := rfl
theorem t_spec_l20Go : tab spec_l20Go = some s_spec_l20Go := rfl
theorem t_spec_l20Call : tab spec_l20Call = some s_spec_l20Call := rfl
theorem t_spec_l20Select : tab spec_l20Select = some s_spec_l20Select := rfl
theorem t_spec_l20Put : tab spec_l20Put = some s_spec_l20Put := rfl
theorem t_spec_l10Tac : tab spec_l10Tac = some s_spec_l10Tac := rfl
theorem t_laws_toTac : tab laws_toTac = some s_laws_toTac := rfl
theorem t_impl_copyTac : tab impl_copyTac = some s_impl_copyTac := rfl
theorem t_impl_tacOk : tab impl_tacOk = some s_impl_tacOk := rfl
theorem t_impl_labelAt : tab impl_labelAt = some s_impl_labelAt := rfl
theorem t_impl_ends : tab impl_ends = some s_impl_ends := rfl
theorem t_impl_joiner_call : tab impl_joiner_call = some s_impl_joiner_call := rfl
theorem t_impl_joiner_begin : tab impl_joiner_begin = some s_impl_joiner_begin := rfl
theorem t_impl_joiner_put : tab impl_joiner_put = some s_impl_joiner_put := rfl
theorem t_impl_joiner_choose : tab impl_joiner_choose = some s_impl_joiner_choose := rfl
theorem t_laws_eqTac : tab laws_eqTac = some s_laws_eqTac := rfl
theorem t_slices_ContainsFunc_int_int : tab slices_ContainsFunc_int_int = some s_slices_ContainsFunc_int_int := rfl
theorem t_spec_l10Has : tab spec_l10Has = some s_spec_l10Has := rfl
theorem t_spec_l10Args : tab spec_l10Args = some s_spec_l10Args := rfl
theorem t_spec_l10Regs : tab spec_l10Regs = some s_spec_l10Regs := rfl
theorem t_spec_l20Reg : tab spec_l20Reg = some s_spec_l20Reg := rfl
theorem t_spec_l20Store : tab spec_l20Store = some s_spec_l20Store := rfl
theorem t_spec_l20Num : tab spec_l20Num = some s_spec_l20Num := rfl
theorem t_slices_Clone_int_int : tab slices_Clone_int_int = some s_slices_Clone_int_int := rfl
theorem t_impl_owns : tab impl_owns = some s_impl_owns := rfl
theorem t_impl_argsOk : tab impl_argsOk = some s_impl_argsOk := rfl
theorem t_impl_owned : tab impl_owned = some s_impl_owned := rfl
theorem t_impl_Sets : tab impl_Sets = some s_impl_Sets := rfl
theorem t_impl_Uses : tab impl_Uses = some s_impl_Uses := rfl
theorem t_impl_tacOk_1 : tab impl_tacOk_1 = some s_impl_tacOk_1 := rfl
theorem t_slices_IndexFunc_impl_Tac_impl_Tac : tab slices_IndexFunc_impl_Tac_impl_Tac = some s_slices_IndexFunc_impl_Tac_impl_Tac := rfl
theorem t_impl_labelAt_1 : tab impl_labelAt_1 = some s_impl_labelAt_1 := rfl
theorem t_impl_joiner_set : tab impl_joiner_set = some s_impl_joiner_set := rfl
theorem t_impl_joiner_field : tab impl_joiner_field = some s_impl_joiner_field := rfl
theorem t_impl_joiner_num : tab impl_joiner_num = some s_impl_joiner_num := rfl
theorem t_slices_IndexFunc_int_int : tab slices_IndexFunc_int_int = some s_slices_IndexFunc_int_int := rfl
theorem t_spec_Sets : tab spec_Sets = some s_spec_Sets := rfl
theorem t_spec_Uses : tab spec_Uses = some s_spec_Uses := rfl
theorem t_slices_Contains_byte_byte : tab slices_Contains_byte_byte = some s_slices_Contains_byte_byte := rfl
theorem t_slices_Index_byte_byte : tab slices_Index_byte_byte = some s_slices_Index_byte_byte := rfl
end Go.Ev.G
