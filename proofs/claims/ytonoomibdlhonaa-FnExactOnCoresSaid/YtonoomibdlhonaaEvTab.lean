/- The slim code of the functions that the statements of this cut reach: written by gen.py. Not trusted: YtonoomibdlhonaaEvChk.lean checks it against the given program. -/
import Derived.Test.YtonoomibdlhonaaEvRow
namespace Go.Ev.G
set_option linter.all false
abbrev laws_FnExactNoteText : Nat := 3
abbrev laws_FnExactImageText : Nat := 4
abbrev laws_FnExactPlaceOf : Nat := 5
abbrev laws_FnExactBodyText : Nat := 6
abbrev laws_FnExactLocked : Nat := 7
abbrev laws_FnExactOnCores : Nat := 8
abbrev spec_NoteText : Nat := 9
abbrev laws_toNote : Nat := 10
abbrev impl_NoteText : Nat := 11
abbrev laws_szInsS : Nat := 12
abbrev spec_ImageText : Nat := 13
abbrev laws_toInsS : Nat := 14
abbrev impl_ImageText : Nat := 15
abbrev laws_eqInsS : Nat := 16
abbrev laws_szLineS : Nat := 17
abbrev spec_PlaceOf : Nat := 18
abbrev laws_toLineS : Nat := 19
abbrev impl_PlaceOf : Nat := 20
abbrev laws_eqLineS : Nat := 21
abbrev laws_szBody : Nat := 22
abbrev spec_BodyText : Nat := 23
abbrev laws_toBody : Nat := 24
abbrev impl_BodyText : Nat := 25
abbrev laws_eqBody : Nat := 26
abbrev laws_szMachine : Nat := 27
abbrev spec_Locked : Nat := 28
abbrev laws_toMachine : Nat := 29
abbrev impl_Locked : Nat := 30
abbrev laws_eqMachine : Nat := 31
abbrev spec_OnCores : Nat := 32
abbrev impl_OnCores : Nat := 33
abbrev laws_eqIntS : Nat := 34
abbrev laws_markMachine : Nat := 35
abbrev laws_markIntS : Nat := 36
abbrev laws_heldIntS : Nat := 37
abbrev spec_l1In : Nat := 38
abbrev spec_Digits : Nat := 39
abbrev impl_within : Nat := 40
abbrev impl_Digits : Nat := 41
abbrev laws_toIns : Nat := 42
abbrev laws_eqIns : Nat := 43
abbrev laws_szLine : Nat := 44
abbrev laws_toLine : Nat := 45
abbrev impl_lineAt : Nat := 46
abbrev laws_eqLine : Nat := 47
abbrev laws_szFrameS : Nat := 48
abbrev laws_toFrameS : Nat := 49
abbrev laws_eqFrameS : Nat := 50
abbrev laws_szIntS : Nat := 51
abbrev laws_szCoreS : Nat := 52
abbrev laws_szNoteS : Nat := 53
abbrev laws_toIntS : Nat := 54
abbrev laws_toCoreS : Nat := 55
abbrev laws_toNoteS : Nat := 56
abbrev laws_eqCoreS : Nat := 57
abbrev laws_eqNoteS : Nat := 58
abbrev spec_l26Body : Nat := 59
abbrev impl_bodyOf : Nat := 60
abbrev laws_markInsS : Nat := 61
abbrev laws_markCoreS : Nat := 62
abbrev laws_markNoteS : Nat := 63
abbrev laws_szFrame : Nat := 64
abbrev laws_toFrame : Nat := 65
abbrev laws_eqFrame : Nat := 66
abbrev laws_szCore : Nat := 67
abbrev laws_toCore : Nat := 68
abbrev laws_eqCore : Nat := 69
abbrev laws_eqNote : Nat := 70
/-- loop.example/g00286/laws.FnExactNoteText -/
def c_laws_FnExactNoteText : SCode :=
 .seq (.ops [⟨some 1, none, .vbox 2 (.t 0)⟩, ⟨some 2, none, .mov (.c (.bool false))⟩])
 (.seq (.ops [⟨some 5, none, .load (some 2) (.t 1)⟩, ⟨some 6, none, .callr laws_toNote [.t 5]⟩, ⟨some 7, none, .callr spec_NoteText [.t 6]⟩, ⟨some 3, none, .mov (.t 7)⟩])
  (.seq (.ops [⟨some 8, none, .load (some 2) (.t 1)⟩, ⟨some 9, none, .callr laws_toNote [.t 8]⟩, ⟨some 10, none, .callr impl_NoteText [.t 9]⟩, ⟨some 4, none, .mov (.t 10)⟩])
   (.seq (.seq (.ops [⟨some 11, none, .mov (.t 4)⟩, ⟨some 12, none, .mov (.t 3)⟩, ⟨some 13, none, .cmp .neq (.t 11) (.t 12)⟩])
     (.cond (.t 13) (.seq (.ops [⟨some 2, none, .mov (.c (.bool false))⟩])
       (.ret))
      (.skip)))
    (.seq (.ops [⟨some 2, none, .mov (.c (.bool true))⟩])
     (.ret)))))
def s_laws_FnExactNoteText : SFn := ⟨1, 14, c_laws_FnExactNoteText, [.t 2]⟩
/-- loop.example/g00286/laws.FnExactImageText -/
def c_laws_FnExactImageText : SCode :=
 .seq (.ops [⟨some 2, none, .mov (.c (.bool false))⟩])
 (.seq (.ops [⟨some 3, none, .mov (.c (.int .i64 1048576))⟩])
  (.seq (.ops [⟨some 7, none, .mov (.t 0)⟩, ⟨some 8, none, .mov (.t 3)⟩, ⟨some 9, none, .callr laws_szInsS [.t 7, .t 8]⟩, ⟨some 3, none, .mov (.t 9)⟩])
   (.seq (.seq (.ops [⟨some 10, none, .mov (.t 3)⟩, ⟨some 11, none, .cmp .lss (.t 10) (.c (.int .i64 0))⟩])
     (.cond (.t 11) (.seq (.ops [⟨some 2, none, .mov (.c (.bool true))⟩])
       (.ret))
      (.skip)))
    (.seq (.ops [⟨some 12, none, .mov (.t 0)⟩, ⟨some 13, none, .callr laws_toInsS [.t 12]⟩, ⟨some 14, none, .callr spec_ImageText [.t 13]⟩, ⟨some 4, none, .mov (.t 14)⟩])
     (.seq (.ops [⟨some 15, none, .mov (.t 0)⟩, ⟨some 16, none, .callr laws_toInsS [.t 15]⟩, ⟨some 5, none, .mov (.t 16)⟩])
      (.seq (.ops [⟨some 17, none, .mov (.t 5)⟩, ⟨some 18, none, .callr impl_ImageText [.t 17]⟩, ⟨some 6, none, .mov (.t 18)⟩])
       (.seq (.seq (.ops [⟨some 19, none, .mov (.t 6)⟩, ⟨some 20, none, .mov (.t 4)⟩, ⟨some 21, none, .cmp .neq (.t 19) (.t 20)⟩])
         (.cond (.t 21) (.seq (.ops [⟨some 2, none, .mov (.c (.bool false))⟩])
           (.ret))
          (.skip)))
        (.seq (.seq (.ops [⟨some 22, none, .mov (.t 5)⟩, ⟨some 23, none, .mov (.t 0)⟩, ⟨some 24, none, .callr laws_toInsS [.t 23]⟩, ⟨some 25, none, .callr laws_eqInsS [.t 22, .t 24]⟩, ⟨some 26, none, .not (.t 25)⟩])
          (.cond (.t 26) (.seq (.ops [⟨some 2, none, .mov (.c (.bool false))⟩])
            (.ret))
           (.skip)))
         (.seq (.ops [⟨some 2, none, .mov (.c (.bool true))⟩])
          (.ret))))))))))
def s_laws_FnExactImageText : SFn := ⟨1, 27, c_laws_FnExactImageText, [.t 2]⟩
/-- loop.example/g00286/laws.FnExactPlaceOf -/
def c_laws_FnExactPlaceOf : SCode :=
 .seq (.ops [⟨some 4, none, .mov (.c (.bool false))⟩])
 (.seq (.seq (.ops [⟨some 9, none, .mov (.t 1)⟩, ⟨some 10, none, .slen (.t 9)⟩, ⟨some 11, none, .cmp .gtr (.t 10) (.c (.int .i64 1048576))⟩])
   (.cond (.t 11) (.seq (.ops [⟨some 4, none, .mov (.c (.bool true))⟩])
     (.ret))
    (.skip)))
  (.seq (.ops [⟨some 5, none, .mov (.c (.int .i64 1048576))⟩])
   (.seq (.ops [⟨some 12, none, .mov (.t 0)⟩, ⟨some 13, none, .mov (.t 5)⟩, ⟨some 14, none, .callr laws_szLineS [.t 12, .t 13]⟩, ⟨some 5, none, .mov (.t 14)⟩])
    (.seq (.seq (.ops [⟨some 15, none, .mov (.t 5)⟩, ⟨some 16, none, .cmp .lss (.t 15) (.c (.int .i64 0))⟩])
      (.cond (.t 16) (.seq (.ops [⟨some 4, none, .mov (.c (.bool true))⟩])
        (.ret))
       (.skip)))
     (.seq (.ops [⟨some 17, none, .mov (.t 0)⟩, ⟨some 18, none, .callr laws_toLineS [.t 17]⟩, ⟨some 19, none, .mov (.t 1)⟩, ⟨some 20, none, .callr spec_PlaceOf [.t 18, .t 19]⟩, ⟨some 6, none, .mov (.t 20)⟩])
      (.seq (.ops [⟨some 21, none, .mov (.t 0)⟩, ⟨some 22, none, .callr laws_toLineS [.t 21]⟩, ⟨some 7, none, .mov (.t 22)⟩])
       (.seq (.ops [⟨some 23, none, .mov (.t 7)⟩, ⟨some 24, none, .mov (.t 1)⟩, ⟨some 25, none, .callr impl_PlaceOf [.t 23, .t 24]⟩, ⟨some 8, none, .mov (.t 25)⟩])
        (.seq (.seq (.ops [⟨some 26, none, .mov (.t 8)⟩, ⟨some 27, none, .mov (.t 6)⟩, ⟨some 28, none, .cmp .neq (.t 26) (.t 27)⟩])
          (.cond (.t 28) (.seq (.ops [⟨some 4, none, .mov (.c (.bool false))⟩])
            (.ret))
           (.skip)))
         (.seq (.seq (.ops [⟨some 29, none, .mov (.t 7)⟩, ⟨some 30, none, .mov (.t 0)⟩, ⟨some 31, none, .callr laws_toLineS [.t 30]⟩, ⟨some 32, none, .callr laws_eqLineS [.t 29, .t 31]⟩, ⟨some 33, none, .not (.t 32)⟩])
           (.cond (.t 33) (.seq (.ops [⟨some 4, none, .mov (.c (.bool false))⟩])
             (.ret))
            (.skip)))
          (.seq (.ops [⟨some 4, none, .mov (.c (.bool true))⟩])
           (.ret)))))))))))
def s_laws_FnExactPlaceOf : SFn := ⟨2, 34, c_laws_FnExactPlaceOf, [.t 4]⟩
/-- loop.example/g00286/laws.FnExactBodyText -/
def c_laws_FnExactBodyText : SCode :=
 .seq (.ops [⟨some 1, none, .vbox 8 (.t 0)⟩, ⟨some 2, none, .mov (.c (.bool false))⟩])
 (.seq (.ops [⟨some 3, none, .mov (.c (.int .i64 1048576))⟩])
  (.seq (.ops [⟨some 7, none, .load (some 8) (.t 1)⟩, ⟨some 8, none, .mov (.t 3)⟩, ⟨some 9, none, .callr laws_szBody [.t 7, .t 8]⟩, ⟨some 3, none, .mov (.t 9)⟩])
   (.seq (.seq (.ops [⟨some 10, none, .mov (.t 3)⟩, ⟨some 11, none, .cmp .lss (.t 10) (.c (.int .i64 0))⟩])
     (.cond (.t 11) (.seq (.ops [⟨some 2, none, .mov (.c (.bool true))⟩])
       (.ret))
      (.skip)))
    (.seq (.ops [⟨some 12, none, .load (some 8) (.t 1)⟩, ⟨some 13, none, .callr laws_toBody [.t 12]⟩, ⟨some 14, none, .callr spec_BodyText [.t 13]⟩, ⟨some 4, none, .mov (.t 14)⟩])
     (.seq (.ops [⟨some 15, none, .load (some 8) (.t 1)⟩, ⟨some 16, none, .callr laws_toBody [.t 15]⟩, ⟨some 5, none, .alloc [.s 4 [], .v (.bool false), .v (.bool false), .v (.int .i64 0), .v (.int .i64 0), .v (.int .i64 0), .v (.int .i64 0), .v (.int .i64 0)]⟩, ⟨none, none, .store 8 (.t 5) (.t 16)⟩])
      (.seq (.ops [⟨some 17, none, .load (some 8) (.t 5)⟩, ⟨some 18, none, .callr impl_BodyText [.t 17]⟩, ⟨some 6, none, .mov (.t 18)⟩])
       (.seq (.seq (.ops [⟨some 19, none, .mov (.t 6)⟩, ⟨some 20, none, .mov (.t 4)⟩, ⟨some 21, none, .cmp .neq (.t 19) (.t 20)⟩])
         (.cond (.t 21) (.seq (.ops [⟨some 2, none, .mov (.c (.bool false))⟩])
           (.ret))
          (.skip)))
        (.seq (.seq (.ops [⟨some 22, none, .load (some 8) (.t 5)⟩, ⟨some 23, none, .load (some 8) (.t 1)⟩, ⟨some 24, none, .callr laws_toBody [.t 23]⟩, ⟨some 25, none, .callr laws_eqBody [.t 22, .t 24]⟩, ⟨some 26, none, .not (.t 25)⟩])
          (.cond (.t 26) (.seq (.ops [⟨some 2, none, .mov (.c (.bool false))⟩])
            (.ret))
           (.skip)))
         (.seq (.ops [⟨some 2, none, .mov (.c (.bool true))⟩])
          (.ret))))))))))
def s_laws_FnExactBodyText : SFn := ⟨1, 27, c_laws_FnExactBodyText, [.t 2]⟩
/-- loop.example/g00286/laws.FnExactLocked -/
def c_laws_FnExactLocked : SCode :=
 .seq (.ops [⟨some 1, none, .vbox 7 (.t 0)⟩, ⟨some 2, none, .mov (.c (.bool false))⟩])
 (.seq (.ops [⟨some 3, none, .mov (.c (.int .i64 1048576))⟩])
  (.seq (.ops [⟨some 7, none, .load (some 7) (.t 1)⟩, ⟨some 8, none, .mov (.t 3)⟩, ⟨some 9, none, .callr laws_szMachine [.t 7, .t 8]⟩, ⟨some 3, none, .mov (.t 9)⟩])
   (.seq (.seq (.ops [⟨some 10, none, .mov (.t 3)⟩, ⟨some 11, none, .cmp .lss (.t 10) (.c (.int .i64 0))⟩])
     (.cond (.t 11) (.seq (.ops [⟨some 2, none, .mov (.c (.bool true))⟩])
       (.ret))
      (.skip)))
    (.seq (.ops [⟨some 12, none, .load (some 7) (.t 1)⟩, ⟨some 13, none, .callr laws_toMachine [.t 12]⟩, ⟨some 14, none, .callr spec_Locked [.t 13]⟩, ⟨some 4, none, .mov (.t 14)⟩])
     (.seq (.ops [⟨some 15, none, .load (some 7) (.t 1)⟩, ⟨some 16, none, .callr laws_toMachine [.t 15]⟩, ⟨some 5, none, .alloc [.s 6 [], .s 1 [], .s 3 [], .s 1 [], .s 2 [], .v (.bool false), .v (.int .i64 0)]⟩, ⟨none, none, .store 7 (.t 5) (.t 16)⟩])
      (.seq (.ops [⟨some 17, none, .load (some 7) (.t 5)⟩, ⟨some 18, none, .callr impl_Locked [.t 17]⟩, ⟨some 6, none, .mov (.t 18)⟩])
       (.seq (.seq (.ops [⟨some 19, none, .mov (.t 6)⟩, ⟨some 20, none, .mov (.t 4)⟩, ⟨some 21, none, .cmpb .neq (.t 19) (.t 20)⟩])
         (.cond (.t 21) (.seq (.ops [⟨some 2, none, .mov (.c (.bool false))⟩])
           (.ret))
          (.skip)))
        (.seq (.seq (.ops [⟨some 22, none, .load (some 7) (.t 5)⟩, ⟨some 23, none, .load (some 7) (.t 1)⟩, ⟨some 24, none, .callr laws_toMachine [.t 23]⟩, ⟨some 25, none, .callr laws_eqMachine [.t 22, .t 24]⟩, ⟨some 26, none, .not (.t 25)⟩])
          (.cond (.t 26) (.seq (.ops [⟨some 2, none, .mov (.c (.bool false))⟩])
            (.ret))
           (.skip)))
         (.seq (.ops [⟨some 2, none, .mov (.c (.bool true))⟩])
          (.ret))))))))))
def s_laws_FnExactLocked : SFn := ⟨1, 27, c_laws_FnExactLocked, [.t 2]⟩
/-- loop.example/g00286/laws.FnExactOnCores -/
def c_laws_FnExactOnCores : SCode :=
 .seq (.ops [⟨some 1, none, .vbox 7 (.t 0)⟩, ⟨some 2, none, .mov (.c (.bool false))⟩])
 (.seq (.ops [⟨some 3, none, .mov (.c (.int .i64 1048576))⟩])
  (.seq (.ops [⟨some 11, none, .load (some 7) (.t 1)⟩, ⟨some 12, none, .mov (.t 3)⟩, ⟨some 13, none, .callr laws_szMachine [.t 11, .t 12]⟩, ⟨some 3, none, .mov (.t 13)⟩])
   (.seq (.seq (.ops [⟨some 14, none, .mov (.t 3)⟩, ⟨some 15, none, .cmp .lss (.t 14) (.c (.int .i64 0))⟩])
     (.cond (.t 15) (.seq (.ops [⟨some 2, none, .mov (.c (.bool true))⟩])
       (.ret))
      (.skip)))
    (.seq (.ops [⟨some 16, none, .load (some 7) (.t 1)⟩, ⟨some 17, none, .callr laws_toMachine [.t 16]⟩, ⟨some 18, none, .callr spec_OnCores [.t 17]⟩, ⟨some 4, none, .mov (.t 18)⟩])
     (.seq (.ops [⟨some 19, none, .load (some 7) (.t 1)⟩, ⟨some 20, none, .call laws_toMachine [.t 19]⟩, ⟨some 5, none, .alloc [.s 6 [], .s 1 [], .s 3 [], .s 1 [], .s 2 [], .v (.bool false), .v (.int .i64 0)]⟩, ⟨none, none, .store 7 (.t 5) (.t 20)⟩])
      (.seq (.ops [⟨some 21, none, .load (some 7) (.t 5)⟩, ⟨some 22, none, .call impl_OnCores [.t 21]⟩, ⟨some 6, none, .mov (.t 22)⟩])
       (.seq (.seq (.ops [⟨some 23, none, .mov (.t 6)⟩, ⟨some 24, none, .mov (.t 4)⟩, ⟨some 25, none, .callr laws_eqIntS [.t 23, .t 24]⟩, ⟨some 26, none, .not (.t 25)⟩])
         (.cond (.t 26) (.seq (.ops [⟨some 2, none, .mov (.c (.bool false))⟩])
           (.ret))
          (.skip)))
        (.seq (.seq (.ops [⟨some 27, none, .load (some 7) (.t 5)⟩, ⟨some 28, none, .load (some 7) (.t 1)⟩, ⟨some 29, none, .callr laws_toMachine [.t 28]⟩, ⟨some 30, none, .callr laws_eqMachine [.t 27, .t 29]⟩, ⟨some 31, none, .not (.t 30)⟩])
          (.cond (.t 31) (.seq (.ops [⟨some 2, none, .mov (.c (.bool false))⟩])
            (.ret))
           (.skip)))
         (.seq (.ops [⟨some 7, none, .mov (.c (.int .i64 1))⟩])
          (.seq (.ops [⟨some 32, none, .load (some 7) (.t 5)⟩, ⟨some 33, none, .mov (.t 7)⟩, ⟨some 34, none, .callb laws_markMachine [.t 32, .t 33] [true, false]⟩, ⟨some 7, none, .mov (.t 34)⟩])
           (.seq (.seq (.ops [⟨some 35, none, .mov (.t 7)⟩, ⟨some 36, none, .cmp .lss (.t 35) (.c (.int .i64 0))⟩, ⟨some 37, none, .mov (.t 36)⟩, ⟨some 38, (some (37, false)), .mov (.t 6)⟩, ⟨some 39, (some (37, false)), .mov (.t 4)⟩, ⟨some 40, (some (37, false)), .callr laws_eqIntS [.t 38, .t 39]⟩, ⟨some 41, (some (37, false)), .not (.t 40)⟩, ⟨some 42, none, .pick (.t 37) (.c (.bool true)) (.t 41)⟩])
             (.cond (.t 42) (.seq (.ops [⟨some 2, none, .mov (.c (.bool false))⟩])
               (.ret))
              (.skip)))
            (.seq (.ops [⟨some 8, none, .mov (.c (.int .i64 1))⟩])
             (.seq (.ops [⟨some 43, none, .mov (.t 6)⟩, ⟨some 44, none, .mov (.t 8)⟩, ⟨some 45, none, .callb laws_markIntS [.t 43, .t 44] [true, false]⟩, ⟨some 8, none, .mov (.t 45)⟩])
              (.seq (.ops [⟨some 9, none, .mov (.c (.int .i64 1))⟩])
               (.seq (.ops [⟨some 46, none, .mov (.t 6)⟩, ⟨some 47, none, .mov (.t 9)⟩, ⟨some 48, none, .callr laws_heldIntS [.t 46, .t 47]⟩, ⟨some 9, none, .mov (.t 48)⟩])
                (.seq (.seq (.ops [⟨some 49, none, .mov (.t 9)⟩, ⟨some 50, none, .cmp .lss (.t 49) (.c (.int .i64 0))⟩])
                  (.cond (.t 50) (.seq (.ops [⟨some 2, none, .mov (.c (.bool false))⟩])
                    (.ret))
                   (.skip)))
                 (.seq (.seq (.ops [⟨some 51, none, .mov (.t 9)⟩, ⟨some 52, none, .mov (.t 8)⟩, ⟨some 53, none, .cmp .neq (.t 51) (.t 52)⟩])
                   (.cond (.t 53) (.seq (.ops [⟨some 2, none, .mov (.c (.bool false))⟩])
                     (.ret))
                    (.skip)))
                  (.seq (.ops [⟨some 54, none, .load (some 7) (.t 1)⟩, ⟨some 55, none, .callr laws_toMachine [.t 54]⟩, ⟨some 56, none, .callr impl_OnCores [.t 55]⟩, ⟨some 10, none, .mov (.t 56)⟩])
                   (.seq (.seq (.ops [⟨some 57, none, .mov (.t 10)⟩, ⟨some 58, none, .mov (.t 4)⟩, ⟨some 59, none, .callr laws_eqIntS [.t 57, .t 58]⟩, ⟨some 60, none, .not (.t 59)⟩])
                     (.cond (.t 60) (.seq (.ops [⟨some 2, none, .mov (.c (.bool false))⟩])
                       (.ret))
                      (.skip)))
                    (.seq (.ops [⟨some 9, none, .mov (.c (.int .i64 1))⟩])
                     (.seq (.ops [⟨some 61, none, .mov (.t 6)⟩, ⟨some 62, none, .mov (.t 9)⟩, ⟨some 63, none, .callr laws_heldIntS [.t 61, .t 62]⟩, ⟨some 9, none, .mov (.t 63)⟩])
                      (.seq (.seq (.ops [⟨some 64, none, .mov (.t 9)⟩, ⟨some 65, none, .cmp .lss (.t 64) (.c (.int .i64 0))⟩])
                        (.cond (.t 65) (.seq (.ops [⟨some 2, none, .mov (.c (.bool false))⟩])
                          (.ret))
                         (.skip)))
                       (.seq (.seq (.ops [⟨some 66, none, .mov (.t 9)⟩, ⟨some 67, none, .mov (.t 8)⟩, ⟨some 68, none, .cmp .neq (.t 66) (.t 67)⟩])
                         (.cond (.t 68) (.seq (.ops [⟨some 2, none, .mov (.c (.bool false))⟩])
                           (.ret))
                          (.skip)))
                        (.seq (.ops [⟨some 2, none, .mov (.c (.bool true))⟩])
                         (.ret)))))))))))))))))))))))))
def s_laws_FnExactOnCores : SFn := ⟨1, 69, c_laws_FnExactOnCores, [.t 2]⟩
/-- loop.example/g00286/spec.NoteText -/
def c_spec_NoteText : SCode :=
 .seq (.ops [⟨some 1, none, .vbox 2 (.t 0)⟩, ⟨some 2, none, .mov (.c (.string ⟨#[]⟩))⟩])
 (.seq (.ops [⟨some 5, none, .lit 1 [.c (.string ⟨#[110, 111, 110, 101]⟩), .c (.string ⟨#[112, 114, 105, 110, 116]⟩), .c (.string ⟨#[103, 111]⟩), .c (.string ⟨#[109, 97, 107, 101]⟩), .c (.string ⟨#[115, 101, 110, 100]⟩), .c (.string ⟨#[114, 101, 99, 118]⟩), .c (.string ⟨#[99, 108, 111, 115, 101]⟩), .c (.string ⟨#[115, 101, 108, 101, 99, 116]⟩), .c (.string ⟨#[101, 110, 100]⟩), .c (.string ⟨#[101, 120, 105, 116]⟩), .c (.string ⟨#[115, 116, 117, 99, 107]⟩)]⟩, ⟨some 3, none, .mov (.t 5)⟩])
  (.seq (.ops [⟨some 6, none, .faddr 1 (.t 1)⟩, ⟨some 7, none, .load none (.t 6)⟩, ⟨some 4, none, .mov (.t 7)⟩])
   (.seq (.seq (.ops [⟨some 8, none, .mov (.t 4)⟩, ⟨some 9, none, .callr spec_l1In [.t 8, .c (.int .i64 0), .c (.int .i64 10)]⟩, ⟨some 10, none, .not (.t 9)⟩])
     (.cond (.t 10) (.ops [⟨some 4, none, .mov (.c (.int .i64 0))⟩])
      (.skip)))
    (.seq (.ops [⟨some 11, none, .faddr 0 (.t 1)⟩, ⟨some 12, none, .load none (.t 11)⟩, ⟨some 13, none, .callr spec_Digits [.t 12]⟩, ⟨some 14, none, .cat (.t 13) (.c (.string ⟨#[32]⟩))⟩, ⟨some 15, none, .mov (.t 3)⟩, ⟨some 16, none, .mov (.t 4)⟩, ⟨some 17, none, .ixa 1 (.t 15) (.t 16)⟩, ⟨some 18, none, .load none (.t 17)⟩, ⟨some 19, none, .cat (.t 14) (.t 18)⟩, ⟨some 2, none, .mov (.t 19)⟩])
     (.ret)))))
def s_spec_NoteText : SFn := ⟨1, 20, c_spec_NoteText, [.t 2]⟩
/-- loop.example/g00286/laws.toNote -/
def c_laws_toNote : SCode :=
 .seq (.ops [⟨some 1, none, .vbox 2 (.t 0)⟩, ⟨some 2, none, .alloc [.v (.int .i64 0), .v (.int .i64 0)]⟩])
 (.seq (.ops [⟨some 3, none, .alloc [.v (.int .i64 0), .v (.int .i64 0)]⟩])
  (.seq (.ops [⟨some 4, none, .faddr 0 (.t 1)⟩, ⟨some 5, none, .load none (.t 4)⟩, ⟨some 6, none, .faddr 0 (.t 3)⟩, ⟨none, none, .store 1 (.t 6) (.t 5)⟩])
   (.seq (.ops [⟨some 7, none, .faddr 1 (.t 1)⟩, ⟨some 8, none, .load none (.t 7)⟩, ⟨some 9, none, .faddr 1 (.t 3)⟩, ⟨none, none, .store 1 (.t 9) (.t 8)⟩])
    (.seq (.ops [⟨some 10, none, .load (some 2) (.t 3)⟩, ⟨none, none, .store 2 (.t 2) (.t 10)⟩])
     (.ret)))))
def s_laws_toNote : SFn := ⟨1, 11, c_laws_toNote, [.c 2 (some 2)]⟩
/-- loop.example/g00286/impl.NoteText -/
def c_impl_NoteText : SCode :=
 .seq (.ops [⟨some 1, none, .vbox 2 (.t 0)⟩, ⟨some 2, none, .mov (.c (.string ⟨#[]⟩))⟩])
 (.seq (.ops [⟨some 3, none, .mov (.c (.string ⟨#[110, 111, 110, 101]⟩))⟩])
  (.seq (.seq (.ops [⟨some 4, none, .faddr 1 (.t 1)⟩, ⟨some 5, none, .load none (.t 4)⟩, ⟨some 6, none, .callr impl_within [.t 5, .c (.int .i64 1), .c (.int .i64 10)]⟩])
    (.cond (.t 6) (.ops [⟨some 7, none, .lit 1 [.c (.string ⟨#[112, 114, 105, 110, 116]⟩), .c (.string ⟨#[103, 111]⟩), .c (.string ⟨#[109, 97, 107, 101]⟩), .c (.string ⟨#[115, 101, 110, 100]⟩), .c (.string ⟨#[114, 101, 99, 118]⟩), .c (.string ⟨#[99, 108, 111, 115, 101]⟩), .c (.string ⟨#[115, 101, 108, 101, 99, 116]⟩), .c (.string ⟨#[101, 110, 100]⟩), .c (.string ⟨#[101, 120, 105, 116]⟩), .c (.string ⟨#[115, 116, 117, 99, 107]⟩)]⟩, ⟨some 8, none, .faddr 1 (.t 1)⟩, ⟨some 9, none, .load none (.t 8)⟩, ⟨some 10, none, .ari .sub (.t 9) (.c (.int .i64 1))⟩, ⟨some 11, none, .ixa 1 (.t 7) (.t 10)⟩, ⟨some 12, none, .load none (.t 11)⟩, ⟨some 3, none, .mov (.t 12)⟩])
     (.skip)))
   (.seq (.ops [⟨some 13, none, .faddr 0 (.t 1)⟩, ⟨some 14, none, .load none (.t 13)⟩, ⟨some 15, none, .callr impl_Digits [.t 14]⟩, ⟨some 16, none, .cat (.t 15) (.c (.string ⟨#[32]⟩))⟩, ⟨some 17, none, .mov (.t 3)⟩, ⟨some 18, none, .cat (.t 16) (.t 17)⟩, ⟨some 2, none, .mov (.t 18)⟩])
    (.ret))))
def s_impl_NoteText : SFn := ⟨1, 19, c_impl_NoteText, [.t 2]⟩
/-- loop.example/g00286/laws.szInsS -/
def c_laws_szInsS : SCode :=
 .seq (.ops [⟨some 4, none, .mov (.c (.int .i64 0))⟩])
 (.seq (.ops [⟨some 5, none, .mov (.t 1)⟩, ⟨some 6, none, .mov (.t 0)⟩, ⟨some 7, none, .len (.t 6)⟩, ⟨some 8, none, .ari .sub (.t 5) (.t 7)⟩, ⟨some 1, none, .mov (.t 8)⟩])
  (.seq (.seq (.ops [⟨some 9, none, .mov (.t 1)⟩, ⟨some 10, none, .cmp .lss (.t 9) (.c (.int .i64 0))⟩])
    (.cond (.t 10) (.seq (.ops [⟨some 4, none, .mov (.c (.int .i64 (-1)))⟩])
      (.ret))
     (.skip)))
   (.seq (.ops [⟨some 11, none, .mov (.t 1)⟩, ⟨some 4, none, .mov (.t 11)⟩])
    (.ret))))
def s_laws_szInsS : SFn := ⟨2, 12, c_laws_szInsS, [.t 4]⟩
def b_spec_ImageText_0 : SCode :=
 .seq (.seq (.ops [⟨some 48, none, .mov (.t 9)⟩, ⟨some 49, none, .mov (.t 8)⟩, ⟨some 50, none, .len (.t 49)⟩, ⟨some 51, none, .cmp .lss (.t 48) (.t 50)⟩])
  (.cond (.t 51) (.skip)
   (.seq (.keep [0, 3, 4, 5]) (.exit 2))))
 (.seq (.block 3 (.ops [⟨some 54, none, .mov (.t 4)⟩, ⟨some 55, none, .cat (.t 54) (.c (.string ⟨#[32]⟩))⟩, ⟨some 56, none, .mov (.t 8)⟩, ⟨some 57, none, .mov (.t 9)⟩, ⟨some 58, none, .ixa 1 (.t 56) (.t 57)⟩, ⟨some 59, none, .load none (.t 58)⟩, ⟨some 60, none, .callr spec_Digits [.t 59]⟩, ⟨some 61, none, .cat (.t 55) (.t 60)⟩, ⟨some 4, none, .mov (.t 61)⟩]))
  (.ops [⟨some 52, none, .mov (.t 9)⟩, ⟨some 53, none, .ari .add (.t 52) (.c (.int .i64 1))⟩, ⟨some 9, none, .mov (.t 53)⟩]))
def b_spec_ImageText_1 : SCode :=
 .seq (.seq (.ops [⟨some 11, none, .mov (.t 5)⟩, ⟨some 12, none, .mov (.t 0)⟩, ⟨some 13, none, .len (.t 12)⟩, ⟨some 14, none, .cmp .lss (.t 11) (.t 13)⟩])
  (.cond (.t 14) (.skip)
   (.seq (.keep [4]) (.exit 0))))
 (.seq (.block 1 (.seq (.ops [⟨some 17, none, .mov (.t 0)⟩, ⟨some 18, none, .mov (.t 5)⟩, ⟨some 19, none, .ixa 6 (.t 17) (.t 18)⟩, ⟨some 20, none, .load (some 6) (.t 19)⟩, ⟨some 6, none, .alloc [.v (.int .i64 0), .v (.int .i64 0), .v (.int .i64 0), .v (.int .i64 0), .v (.int .i64 0), .v (.int .i64 0)]⟩, ⟨none, none, .store 6 (.t 6) (.t 20)⟩])
    (.seq (.ops [⟨some 7, none, .mov (.c (.string ⟨#[]⟩))⟩])
     (.seq (.seq (.ops [⟨some 21, none, .faddr 0 (.t 6)⟩, ⟨some 22, none, .load none (.t 21)⟩, ⟨some 23, none, .callr spec_l1In [.t 22, .c (.int .i64 1), .c (.int .i64 19)]⟩])
       (.cond (.t 23) (.ops [⟨some 24, none, .mov (.t 3)⟩, ⟨some 25, none, .faddr 0 (.t 6)⟩, ⟨some 26, none, .load none (.t 25)⟩, ⟨some 27, none, .ari .sub (.t 26) (.c (.int .i64 1))⟩, ⟨some 28, none, .ixa 1 (.t 24) (.t 27)⟩, ⟨some 29, none, .load none (.t 28)⟩, ⟨some 7, none, .mov (.t 29)⟩])
        (.skip)))
      (.seq (.ops [⟨some 30, none, .mov (.t 4)⟩, ⟨some 31, none, .mov (.t 5)⟩, ⟨some 32, none, .callr spec_Digits [.t 31]⟩, ⟨some 33, none, .cat (.t 30) (.t 32)⟩, ⟨some 34, none, .cat (.t 33) (.c (.string ⟨#[32]⟩))⟩, ⟨some 35, none, .mov (.t 7)⟩, ⟨some 36, none, .cat (.t 34) (.t 35)⟩, ⟨some 4, none, .mov (.t 36)⟩])
       (.seq (.ops [⟨some 37, none, .faddr 1 (.t 6)⟩, ⟨some 38, none, .load none (.t 37)⟩, ⟨some 39, none, .faddr 2 (.t 6)⟩, ⟨some 40, none, .load none (.t 39)⟩, ⟨some 41, none, .faddr 3 (.t 6)⟩, ⟨some 42, none, .load none (.t 41)⟩, ⟨some 43, none, .faddr 4 (.t 6)⟩, ⟨some 44, none, .load none (.t 43)⟩, ⟨some 45, none, .faddr 5 (.t 6)⟩, ⟨some 46, none, .load none (.t 45)⟩, ⟨some 47, none, .lit 1 [.t 38, .t 40, .t 42, .t 44, .t 46]⟩, ⟨some 8, none, .mov (.t 47)⟩])
        (.seq (.seq (.ops [⟨some 9, none, .mov (.c (.int .i64 0))⟩])
          (.block 2 (.loop [0, 3, 4, 5, 8, 9] b_spec_ImageText_0)))
         (.ops [⟨some 62, none, .mov (.t 4)⟩, ⟨some 63, none, .cat (.t 62) (.c (.string ⟨#[10]⟩))⟩, ⟨some 4, none, .mov (.t 63)⟩]))))))))
  (.ops [⟨some 15, none, .mov (.t 5)⟩, ⟨some 16, none, .ari .add (.t 15) (.c (.int .i64 1))⟩, ⟨some 5, none, .mov (.t 16)⟩]))
/-- loop.example/g00286/spec.ImageText -/
def c_spec_ImageText : SCode :=
 .seq (.ops [⟨some 2, none, .mov (.c (.string ⟨#[]⟩))⟩])
 (.seq (.ops [⟨some 10, none, .lit 1 [.c (.string ⟨#[108, 105]⟩), .c (.string ⟨#[109, 111, 118]⟩), .c (.string ⟨#[97, 100, 100]⟩), .c (.string ⟨#[115, 117, 98]⟩), .c (.string ⟨#[109, 117, 108]⟩), .c (.string ⟨#[108, 116]⟩), .c (.string ⟨#[101, 113]⟩), .c (.string ⟨#[108, 100]⟩), .c (.string ⟨#[115, 116]⟩), .c (.string ⟨#[99, 97, 115]⟩), .c (.string ⟨#[106, 109, 112]⟩), .c (.string ⟨#[106, 122]⟩), .c (.string ⟨#[99, 97, 108, 108]⟩), .c (.string ⟨#[114, 101, 116]⟩), .c (.string ⟨#[111, 117, 116]⟩), .c (.string ⟨#[110, 111, 116, 101]⟩), .c (.string ⟨#[115, 119, 97, 112]⟩), .c (.string ⟨#[99, 111, 114, 101]⟩), .c (.string ⟨#[104, 97, 108, 116]⟩)]⟩, ⟨some 3, none, .mov (.t 10)⟩])
  (.seq (.ops [⟨some 4, none, .mov (.c (.string ⟨#[]⟩))⟩])
   (.seq (.seq (.ops [⟨some 5, none, .mov (.c (.int .i64 0))⟩])
     (.block 0 (.loop [0, 3, 4, 5] b_spec_ImageText_1)))
    (.seq (.ops [⟨some 64, none, .mov (.t 4)⟩, ⟨some 2, none, .mov (.t 64)⟩])
     (.ret)))))
def s_spec_ImageText : SFn := ⟨1, 65, c_spec_ImageText, [.t 2]⟩
def b_laws_toInsS_0 : SCode :=
 .seq (.seq (.ops [⟨some 8, none, .mov (.t 4)⟩, ⟨some 9, none, .mov (.t 0)⟩, ⟨some 10, none, .len (.t 9)⟩, ⟨some 11, none, .cmp .lss (.t 8) (.t 10)⟩])
  (.cond (.t 11) (.skip)
   (.seq (.keep [3]) (.exit 0))))
 (.seq (.block 1 (.ops [⟨some 14, none, .mov (.t 3)⟩, ⟨some 15, none, .mov (.t 4)⟩, ⟨some 16, none, .mov (.t 0)⟩, ⟨some 17, none, .mov (.t 4)⟩, ⟨some 18, none, .ixa 6 (.t 16) (.t 17)⟩, ⟨some 19, none, .load (some 6) (.t 18)⟩, ⟨some 20, none, .callr laws_toIns [.t 19]⟩, ⟨some 21, none, .ixa 6 (.t 14) (.t 15)⟩, ⟨none, none, .store 6 (.t 21) (.t 20)⟩]))
  (.ops [⟨some 12, none, .mov (.t 4)⟩, ⟨some 13, none, .ari .add (.t 12) (.c (.int .i64 1))⟩, ⟨some 4, none, .mov (.t 13)⟩]))
/-- loop.example/g00286/laws.toInsS -/
def c_laws_toInsS : SCode :=
 .seq (.ops [⟨some 2, none, .mov (.n 6)⟩])
 (.seq (.ops [⟨some 5, none, .mov (.t 0)⟩, ⟨some 6, none, .len (.t 5)⟩, ⟨some 7, none, .mk 6 48 [.v (.int .i64 0), .v (.int .i64 0), .v (.int .i64 0), .v (.int .i64 0), .v (.int .i64 0), .v (.int .i64 0)] (.t 6)⟩, ⟨some 3, none, .mov (.t 7)⟩])
  (.seq (.seq (.ops [⟨some 4, none, .mov (.c (.int .i64 0))⟩])
    (.block 0 (.loop [0, 3, 4] b_laws_toInsS_0)))
   (.seq (.ops [⟨some 22, none, .mov (.t 3)⟩, ⟨some 2, none, .mov (.t 22)⟩])
    (.ret))))
def s_laws_toInsS : SFn := ⟨1, 23, c_laws_toInsS, [.t 2]⟩
def b_impl_ImageText_0 : SCode :=
 .seq (.ops [⟨some 47, none, .cmp .lss (.t 46) (.t 45)⟩])
 (.seq (.cond (.t 47) (.skip)
   (.seq (.keep [3, 4, 11, 12, 13]) (.exit 2)))
  (.seq (.block 3 (.seq (.ops [⟨some 48, none, .ixa 1 (.t 44) (.t 46)⟩, ⟨some 49, none, .load none (.t 48)⟩, ⟨some 9, none, .mov (.t 49)⟩])
     (.ops [⟨some 50, none, .mov (.t 4)⟩, ⟨some 51, none, .mov (.t 9)⟩, ⟨some 52, none, .callr impl_Digits [.t 51]⟩, ⟨some 53, none, .cat (.c (.string ⟨#[32]⟩)) (.t 52)⟩, ⟨some 54, none, .cat (.t 50) (.t 53)⟩, ⟨some 4, none, .mov (.t 54)⟩])))
   (.ops [⟨some 55, none, .ari .add (.t 46) (.c (.int .i64 1))⟩, ⟨some 46, none, .mov (.t 55)⟩])))
def b_impl_ImageText_1 : SCode :=
 .seq (.ops [⟨some 14, none, .cmp .lss (.t 13) (.t 12)⟩])
 (.seq (.cond (.t 14) (.skip)
   (.seq (.keep [4]) (.exit 0)))
  (.seq (.block 1 (.seq (.ops [⟨some 15, none, .mov (.t 13)⟩, ⟨some 16, none, .ixa 6 (.t 11) (.t 13)⟩, ⟨some 17, none, .load (some 6) (.t 16)⟩, ⟨some 6, none, .alloc [.v (.int .i64 0), .v (.int .i64 0), .v (.int .i64 0), .v (.int .i64 0), .v (.int .i64 0), .v (.int .i64 0)]⟩, ⟨some 5, none, .mov (.t 15)⟩, ⟨none, none, .store 6 (.t 6) (.t 17)⟩])
     (.seq (.ops [⟨some 7, none, .mov (.c (.string ⟨#[]⟩))⟩])
      (.seq (.seq (.ops [⟨some 18, none, .faddr 0 (.t 6)⟩, ⟨some 19, none, .load none (.t 18)⟩, ⟨some 20, none, .callr impl_within [.t 19, .c (.int .i64 1), .c (.int .i64 19)]⟩])
        (.cond (.t 20) (.ops [⟨some 21, none, .mov (.t 3)⟩, ⟨some 22, none, .faddr 0 (.t 6)⟩, ⟨some 23, none, .load none (.t 22)⟩, ⟨some 24, none, .ari .sub (.t 23) (.c (.int .i64 1))⟩, ⟨some 25, none, .ixa 1 (.t 21) (.t 24)⟩, ⟨some 26, none, .load none (.t 25)⟩, ⟨some 7, none, .mov (.t 26)⟩])
         (.skip)))
       (.seq (.ops [⟨some 27, none, .mov (.t 4)⟩, ⟨some 28, none, .mov (.t 5)⟩, ⟨some 29, none, .callr impl_Digits [.t 28]⟩, ⟨some 30, none, .cat (.t 29) (.c (.string ⟨#[32]⟩))⟩, ⟨some 31, none, .mov (.t 7)⟩, ⟨some 32, none, .cat (.t 30) (.t 31)⟩, ⟨some 33, none, .cat (.t 27) (.t 32)⟩, ⟨some 4, none, .mov (.t 33)⟩])
        (.seq (.seq (.ops [⟨some 34, none, .faddr 1 (.t 6)⟩, ⟨some 35, none, .load none (.t 34)⟩, ⟨some 36, none, .faddr 2 (.t 6)⟩, ⟨some 37, none, .load none (.t 36)⟩, ⟨some 38, none, .faddr 3 (.t 6)⟩, ⟨some 39, none, .load none (.t 38)⟩, ⟨some 40, none, .faddr 4 (.t 6)⟩, ⟨some 41, none, .load none (.t 40)⟩, ⟨some 42, none, .faddr 5 (.t 6)⟩, ⟨some 43, none, .load none (.t 42)⟩, ⟨some 44, none, .lit 1 [.t 35, .t 37, .t 39, .t 41, .t 43]⟩, ⟨some 45, none, .len (.t 44)⟩, ⟨some 46, none, .mov (.c (.int .i64 0))⟩])
          (.block 2 (.loop [3, 4, 11, 12, 13, 44, 45, 46] b_impl_ImageText_0)))
         (.ops [⟨some 56, none, .mov (.t 4)⟩, ⟨some 57, none, .cat (.t 56) (.c (.string ⟨#[10]⟩))⟩, ⟨some 4, none, .mov (.t 57)⟩])))))))
   (.ops [⟨some 58, none, .ari .add (.t 13) (.c (.int .i64 1))⟩, ⟨some 13, none, .mov (.t 58)⟩])))
/-- loop.example/g00286/impl.ImageText -/
def c_impl_ImageText : SCode :=
 .seq (.ops [⟨some 2, none, .mov (.c (.string ⟨#[]⟩))⟩])
 (.seq (.ops [⟨some 10, none, .lit 1 [.c (.string ⟨#[108, 105]⟩), .c (.string ⟨#[109, 111, 118]⟩), .c (.string ⟨#[97, 100, 100]⟩), .c (.string ⟨#[115, 117, 98]⟩), .c (.string ⟨#[109, 117, 108]⟩), .c (.string ⟨#[108, 116]⟩), .c (.string ⟨#[101, 113]⟩), .c (.string ⟨#[108, 100]⟩), .c (.string ⟨#[115, 116]⟩), .c (.string ⟨#[99, 97, 115]⟩), .c (.string ⟨#[106, 109, 112]⟩), .c (.string ⟨#[106, 122]⟩), .c (.string ⟨#[99, 97, 108, 108]⟩), .c (.string ⟨#[114, 101, 116]⟩), .c (.string ⟨#[111, 117, 116]⟩), .c (.string ⟨#[110, 111, 116, 101]⟩), .c (.string ⟨#[115, 119, 97, 112]⟩), .c (.string ⟨#[99, 111, 114, 101]⟩), .c (.string ⟨#[104, 97, 108, 116]⟩)]⟩, ⟨some 3, none, .mov (.t 10)⟩])
  (.seq (.ops [⟨some 4, none, .mov (.c (.string ⟨#[]⟩))⟩])
   (.seq (.seq (.ops [⟨some 11, none, .mov (.t 0)⟩, ⟨some 12, none, .len (.t 11)⟩, ⟨some 13, none, .mov (.c (.int .i64 0))⟩])
     (.block 0 (.loop [3, 4, 11, 12, 13] b_impl_ImageText_1)))
    (.seq (.ops [⟨some 59, none, .mov (.t 4)⟩, ⟨some 2, none, .mov (.t 59)⟩])
     (.ret)))))
def s_impl_ImageText : SFn := ⟨1, 60, c_impl_ImageText, [.t 2]⟩
def b_laws_eqInsS_0 : SCode :=
 .seq (.seq (.ops [⟨some 11, none, .mov (.t 5)⟩, ⟨some 12, none, .mov (.t 0)⟩, ⟨some 13, none, .len (.t 12)⟩, ⟨some 14, none, .cmp .lss (.t 11) (.t 13)⟩])
  (.cond (.t 14) (.skip)
   (.seq (.keep []) (.exit 0))))
 (.seq (.block 1 (.seq (.ops [⟨some 17, none, .mov (.t 0)⟩, ⟨some 18, none, .mov (.t 5)⟩, ⟨some 19, none, .ixa 6 (.t 17) (.t 18)⟩, ⟨some 20, none, .load (some 6) (.t 19)⟩, ⟨some 21, none, .mov (.t 1)⟩, ⟨some 22, none, .mov (.t 5)⟩, ⟨some 23, none, .ixa 6 (.t 21) (.t 22)⟩, ⟨some 24, none, .load (some 6) (.t 23)⟩, ⟨some 25, none, .callr laws_eqIns [.t 20, .t 24]⟩, ⟨some 26, none, .not (.t 25)⟩])
    (.cond (.t 26) (.seq (.ops [⟨some 4, none, .mov (.c (.bool false))⟩])
      (.seq (.keep [4]) .ret))
     (.skip))))
  (.ops [⟨some 15, none, .mov (.t 5)⟩, ⟨some 16, none, .ari .add (.t 15) (.c (.int .i64 1))⟩, ⟨some 5, none, .mov (.t 16)⟩]))
/-- loop.example/g00286/laws.eqInsS -/
def c_laws_eqInsS : SCode :=
 .seq (.ops [⟨some 4, none, .mov (.c (.bool false))⟩])
 (.seq (.seq (.ops [⟨some 6, none, .mov (.t 0)⟩, ⟨some 7, none, .len (.t 6)⟩, ⟨some 8, none, .mov (.t 1)⟩, ⟨some 9, none, .len (.t 8)⟩, ⟨some 10, none, .cmp .neq (.t 7) (.t 9)⟩])
   (.cond (.t 10) (.seq (.ops [⟨some 4, none, .mov (.c (.bool false))⟩])
     (.ret))
    (.skip)))
  (.seq (.seq (.ops [⟨some 5, none, .mov (.c (.int .i64 0))⟩])
    (.block 0 (.loop [0, 1, 5] b_laws_eqInsS_0)))
   (.seq (.ops [⟨some 4, none, .mov (.c (.bool true))⟩])
    (.ret))))
def s_laws_eqInsS : SFn := ⟨2, 27, c_laws_eqInsS, [.t 4]⟩
def b_laws_szLineS_0 : SCode :=
 .seq (.seq (.ops [⟨some 12, none, .mov (.t 5)⟩, ⟨some 13, none, .mov (.t 0)⟩, ⟨some 14, none, .len (.t 13)⟩, ⟨some 15, none, .cmp .lss (.t 12) (.t 14)⟩])
  (.cond (.t 15) (.skip)
   (.seq (.keep [1]) (.exit 0))))
 (.seq (.block 1 (.seq (.ops [⟨some 18, none, .mov (.t 0)⟩, ⟨some 19, none, .mov (.t 5)⟩, ⟨some 20, none, .ixa 8 (.t 18) (.t 19)⟩, ⟨some 21, none, .load (some 8) (.t 20)⟩, ⟨some 22, none, .mov (.t 1)⟩, ⟨some 23, none, .callr laws_szLine [.t 21, .t 22]⟩, ⟨some 1, none, .mov (.t 23)⟩])
    (.seq (.ops [⟨some 24, none, .mov (.t 1)⟩, ⟨some 25, none, .cmp .lss (.t 24) (.c (.int .i64 0))⟩])
     (.cond (.t 25) (.seq (.ops [⟨some 4, none, .mov (.c (.int .i64 (-1)))⟩])
       (.seq (.keep [4]) .ret))
      (.skip)))))
  (.ops [⟨some 16, none, .mov (.t 5)⟩, ⟨some 17, none, .ari .add (.t 16) (.c (.int .i64 1))⟩, ⟨some 5, none, .mov (.t 17)⟩]))
/-- loop.example/g00286/laws.szLineS -/
def c_laws_szLineS : SCode :=
 .seq (.ops [⟨some 4, none, .mov (.c (.int .i64 0))⟩])
 (.seq (.ops [⟨some 6, none, .mov (.t 1)⟩, ⟨some 7, none, .mov (.t 0)⟩, ⟨some 8, none, .len (.t 7)⟩, ⟨some 9, none, .ari .sub (.t 6) (.t 8)⟩, ⟨some 1, none, .mov (.t 9)⟩])
  (.seq (.seq (.ops [⟨some 10, none, .mov (.t 1)⟩, ⟨some 11, none, .cmp .lss (.t 10) (.c (.int .i64 0))⟩])
    (.cond (.t 11) (.seq (.ops [⟨some 4, none, .mov (.c (.int .i64 (-1)))⟩])
      (.ret))
     (.skip)))
   (.seq (.seq (.ops [⟨some 5, none, .mov (.c (.int .i64 0))⟩])
     (.block 0 (.loop [0, 1, 5] b_laws_szLineS_0)))
    (.seq (.ops [⟨some 26, none, .mov (.t 1)⟩, ⟨some 4, none, .mov (.t 26)⟩])
     (.ret)))))
def s_laws_szLineS : SFn := ⟨2, 27, c_laws_szLineS, [.t 4]⟩
def b_spec_PlaceOf_0 : SCode :=
 .seq (.seq (.ops [⟨some 7, none, .mov (.t 6)⟩, ⟨some 8, none, .mov (.t 0)⟩, ⟨some 9, none, .len (.t 8)⟩, ⟨some 10, none, .cmp .lss (.t 7) (.t 9)⟩])
  (.cond (.t 10) (.skip)
   (.seq (.keep []) (.exit 0))))
 (.seq (.block 1 (.seq (.ops [⟨some 13, none, .mov (.t 0)⟩, ⟨some 14, none, .mov (.t 6)⟩, ⟨some 15, none, .ixa 8 (.t 13) (.t 14)⟩, ⟨some 16, none, .faddr 0 (.t 15)⟩, ⟨some 17, none, .load none (.t 16)⟩, ⟨some 18, none, .cmp .eql (.t 17) (.c (.string ⟨#[]⟩))⟩])
    (.cond (.t 18) (.ops [⟨some 19, none, .mov (.t 5)⟩, ⟨some 20, none, .ari .add (.t 19) (.c (.int .i64 1))⟩, ⟨some 5, none, .mov (.t 20)⟩])
     (.seq (.ops [⟨some 21, none, .mov (.t 0)⟩, ⟨some 22, none, .mov (.t 6)⟩, ⟨some 23, none, .ixa 8 (.t 21) (.t 22)⟩, ⟨some 24, none, .faddr 0 (.t 23)⟩, ⟨some 25, none, .load none (.t 24)⟩, ⟨some 26, none, .mov (.t 1)⟩, ⟨some 27, none, .cmp .eql (.t 25) (.t 26)⟩])
      (.cond (.t 27) (.seq (.ops [⟨some 28, none, .mov (.t 5)⟩, ⟨some 4, none, .mov (.t 28)⟩])
        (.seq (.keep [4]) .ret))
       (.skip))))))
  (.ops [⟨some 11, none, .mov (.t 6)⟩, ⟨some 12, none, .ari .add (.t 11) (.c (.int .i64 1))⟩, ⟨some 6, none, .mov (.t 12)⟩]))
/-- loop.example/g00286/spec.PlaceOf -/
def c_spec_PlaceOf : SCode :=
 .seq (.ops [⟨some 4, none, .mov (.c (.int .i64 0))⟩])
 (.seq (.ops [⟨some 5, none, .mov (.c (.int .i64 0))⟩])
  (.seq (.seq (.ops [⟨some 6, none, .mov (.c (.int .i64 0))⟩])
    (.block 0 (.loop [0, 1, 5, 6] b_spec_PlaceOf_0)))
   (.seq (.ops [⟨some 4, none, .mov (.c (.int .i64 (-1)))⟩])
    (.ret))))
def s_spec_PlaceOf : SFn := ⟨2, 29, c_spec_PlaceOf, [.t 4]⟩
def b_laws_toLineS_0 : SCode :=
 .seq (.seq (.ops [⟨some 8, none, .mov (.t 4)⟩, ⟨some 9, none, .mov (.t 0)⟩, ⟨some 10, none, .len (.t 9)⟩, ⟨some 11, none, .cmp .lss (.t 8) (.t 10)⟩])
  (.cond (.t 11) (.skip)
   (.seq (.keep [3]) (.exit 0))))
 (.seq (.block 1 (.ops [⟨some 14, none, .mov (.t 3)⟩, ⟨some 15, none, .mov (.t 4)⟩, ⟨some 16, none, .mov (.t 0)⟩, ⟨some 17, none, .mov (.t 4)⟩, ⟨some 18, none, .ixa 8 (.t 16) (.t 17)⟩, ⟨some 19, none, .load (some 8) (.t 18)⟩, ⟨some 20, none, .callr laws_toLine [.t 19]⟩, ⟨some 21, none, .ixa 8 (.t 14) (.t 15)⟩, ⟨none, none, .store 8 (.t 21) (.t 20)⟩]))
  (.ops [⟨some 12, none, .mov (.t 4)⟩, ⟨some 13, none, .ari .add (.t 12) (.c (.int .i64 1))⟩, ⟨some 4, none, .mov (.t 13)⟩]))
/-- loop.example/g00286/laws.toLineS -/
def c_laws_toLineS : SCode :=
 .seq (.ops [⟨some 2, none, .mov (.n 8)⟩])
 (.seq (.ops [⟨some 5, none, .mov (.t 0)⟩, ⟨some 6, none, .len (.t 5)⟩, ⟨some 7, none, .mk 8 80 [.v (.string ⟨#[]⟩), .v (.int .i64 0), .v (.int .i64 0), .v (.int .i64 0), .v (.int .i64 0), .v (.int .i64 0), .v (.int .i64 0), .v (.string ⟨#[]⟩)] (.t 6)⟩, ⟨some 3, none, .mov (.t 7)⟩])
  (.seq (.seq (.ops [⟨some 4, none, .mov (.c (.int .i64 0))⟩])
    (.block 0 (.loop [0, 3, 4] b_laws_toLineS_0)))
   (.seq (.ops [⟨some 22, none, .mov (.t 3)⟩, ⟨some 2, none, .mov (.t 22)⟩])
    (.ret))))
def s_laws_toLineS : SFn := ⟨1, 23, c_laws_toLineS, [.t 2]⟩
/-- loop.example/g00286/impl.PlaceOf -/
def c_impl_PlaceOf : SCode :=
 .seq (.ops [⟨some 4, none, .mov (.c (.int .i64 0))⟩])
 (.seq (.seq (.ops [⟨some 7, none, .mov (.t 1)⟩, ⟨some 8, none, .cmp .eql (.t 7) (.c (.string ⟨#[]⟩))⟩])
   (.cond (.t 8) (.seq (.ops [⟨some 4, none, .mov (.c (.int .i64 (-1)))⟩])
     (.ret))
    (.skip)))
  (.seq (.ops [⟨some 10, none, .mov (.t 0)⟩, ⟨some 11, none, .mov (.t 1)⟩, ⟨some 12, none, .callr impl_lineAt [.t 10, .t 11]⟩, ⟨some 9, none, .mov (.t 12)⟩, ⟨some 13, none, .ext (.t 9) 0⟩, ⟨some 14, none, .ext (.t 9) 1⟩, ⟨some 5, none, .mov (.t 13)⟩, ⟨some 6, none, .mov (.t 14)⟩])
   (.seq (.ops [⟨some 15, none, .mov (.t 5)⟩, ⟨some 4, none, .mov (.t 15)⟩])
    (.ret))))
def s_impl_PlaceOf : SFn := ⟨2, 16, c_impl_PlaceOf, [.t 4]⟩
def b_laws_eqLineS_0 : SCode :=
 .seq (.seq (.ops [⟨some 11, none, .mov (.t 5)⟩, ⟨some 12, none, .mov (.t 0)⟩, ⟨some 13, none, .len (.t 12)⟩, ⟨some 14, none, .cmp .lss (.t 11) (.t 13)⟩])
  (.cond (.t 14) (.skip)
   (.seq (.keep []) (.exit 0))))
 (.seq (.block 1 (.seq (.ops [⟨some 17, none, .mov (.t 0)⟩, ⟨some 18, none, .mov (.t 5)⟩, ⟨some 19, none, .ixa 8 (.t 17) (.t 18)⟩, ⟨some 20, none, .load (some 8) (.t 19)⟩, ⟨some 21, none, .mov (.t 1)⟩, ⟨some 22, none, .mov (.t 5)⟩, ⟨some 23, none, .ixa 8 (.t 21) (.t 22)⟩, ⟨some 24, none, .load (some 8) (.t 23)⟩, ⟨some 25, none, .callr laws_eqLine [.t 20, .t 24]⟩, ⟨some 26, none, .not (.t 25)⟩])
    (.cond (.t 26) (.seq (.ops [⟨some 4, none, .mov (.c (.bool false))⟩])
      (.seq (.keep [4]) .ret))
     (.skip))))
  (.ops [⟨some 15, none, .mov (.t 5)⟩, ⟨some 16, none, .ari .add (.t 15) (.c (.int .i64 1))⟩, ⟨some 5, none, .mov (.t 16)⟩]))
/-- loop.example/g00286/laws.eqLineS -/
def c_laws_eqLineS : SCode :=
 .seq (.ops [⟨some 4, none, .mov (.c (.bool false))⟩])
 (.seq (.seq (.ops [⟨some 6, none, .mov (.t 0)⟩, ⟨some 7, none, .len (.t 6)⟩, ⟨some 8, none, .mov (.t 1)⟩, ⟨some 9, none, .len (.t 8)⟩, ⟨some 10, none, .cmp .neq (.t 7) (.t 9)⟩])
   (.cond (.t 10) (.seq (.ops [⟨some 4, none, .mov (.c (.bool false))⟩])
     (.ret))
    (.skip)))
  (.seq (.seq (.ops [⟨some 5, none, .mov (.c (.int .i64 0))⟩])
    (.block 0 (.loop [0, 1, 5] b_laws_eqLineS_0)))
   (.seq (.ops [⟨some 4, none, .mov (.c (.bool true))⟩])
    (.ret))))
def s_laws_eqLineS : SFn := ⟨2, 27, c_laws_eqLineS, [.t 4]⟩
/-- loop.example/g00286/laws.szBody -/
def c_laws_szBody : SCode :=
 .seq (.ops [⟨some 2, none, .vbox 8 (.t 0)⟩, ⟨some 4, none, .mov (.c (.int .i64 0))⟩])
 (.seq (.ops [⟨some 5, none, .faddr 0 (.t 2)⟩, ⟨some 6, none, .load none (.t 5)⟩, ⟨some 7, none, .mov (.t 1)⟩, ⟨some 8, none, .callr laws_szFrameS [.t 6, .t 7]⟩, ⟨some 1, none, .mov (.t 8)⟩])
  (.seq (.seq (.ops [⟨some 9, none, .mov (.t 1)⟩, ⟨some 10, none, .cmp .lss (.t 9) (.c (.int .i64 0))⟩])
    (.cond (.t 10) (.seq (.ops [⟨some 4, none, .mov (.c (.int .i64 (-1)))⟩])
      (.ret))
     (.skip)))
   (.seq (.ops [⟨some 11, none, .mov (.t 1)⟩, ⟨some 4, none, .mov (.t 11)⟩])
    (.ret))))
def s_laws_szBody : SFn := ⟨2, 12, c_laws_szBody, [.t 4]⟩
def b_spec_BodyText_0 : SCode :=
 .seq (.seq (.ops [⟨some 11, none, .mov (.t 4)⟩, ⟨some 12, none, .faddr 0 (.t 1)⟩, ⟨some 13, none, .load none (.t 12)⟩, ⟨some 14, none, .len (.t 13)⟩, ⟨some 15, none, .cmp .lss (.t 11) (.t 14)⟩])
  (.cond (.t 15) (.skip)
   (.seq (.keep [3]) (.exit 1))))
 (.seq (.block 2 (.ops [⟨some 18, none, .mov (.t 3)⟩, ⟨some 19, none, .cat (.t 18) (.c (.string ⟨#[32]⟩))⟩, ⟨some 20, none, .faddr 0 (.t 1)⟩, ⟨some 21, none, .load none (.t 20)⟩, ⟨some 22, none, .mov (.t 4)⟩, ⟨some 23, none, .ixa 4 (.t 21) (.t 22)⟩, ⟨some 24, none, .faddr 0 (.t 23)⟩, ⟨some 25, none, .load none (.t 24)⟩, ⟨some 26, none, .callr spec_Digits [.t 25]⟩, ⟨some 27, none, .cat (.t 19) (.t 26)⟩, ⟨some 28, none, .cat (.t 27) (.c (.string ⟨#[58]⟩))⟩, ⟨some 29, none, .faddr 0 (.t 1)⟩, ⟨some 30, none, .load none (.t 29)⟩, ⟨some 31, none, .mov (.t 4)⟩, ⟨some 32, none, .ixa 4 (.t 30) (.t 31)⟩, ⟨some 33, none, .faddr 1 (.t 32)⟩, ⟨some 34, none, .load none (.t 33)⟩, ⟨some 35, none, .callr spec_Digits [.t 34]⟩, ⟨some 36, none, .cat (.t 28) (.t 35)⟩, ⟨some 3, none, .mov (.t 36)⟩]))
  (.ops [⟨some 16, none, .mov (.t 4)⟩, ⟨some 17, none, .ari .add (.t 16) (.c (.int .i64 1))⟩, ⟨some 4, none, .mov (.t 17)⟩]))
/-- loop.example/g00286/spec.BodyText -/
def c_spec_BodyText : SCode :=
 .seq (.ops [⟨some 1, none, .vbox 8 (.t 0)⟩, ⟨some 2, none, .mov (.c (.string ⟨#[]⟩))⟩])
 (.seq (.ops [⟨some 3, none, .mov (.c (.string ⟨#[111, 112, 101, 110]⟩))⟩])
  (.seq (.block 0 (.seq (.ops [⟨some 6, none, .faddr 1 (.t 1)⟩, ⟨some 7, none, .load none (.t 6)⟩, ⟨some 5, none, .mov (.t 7)⟩])
     (.cond (.t 5) (.ops [⟨some 3, none, .mov (.c (.string ⟨#[101, 110, 100, 101, 100]⟩))⟩])
      (.seq (.ops [⟨some 9, none, .faddr 2 (.t 1)⟩, ⟨some 10, none, .load none (.t 9)⟩, ⟨some 8, none, .mov (.t 10)⟩])
       (.cond (.t 8) (.ops [⟨some 3, none, .mov (.c (.string ⟨#[119, 97, 105, 116, 115]⟩))⟩])
        (.skip))))))
   (.seq (.seq (.ops [⟨some 4, none, .mov (.c (.int .i64 0))⟩])
     (.block 1 (.loop [1, 3, 4] b_spec_BodyText_0)))
    (.seq (.ops [⟨some 37, none, .mov (.t 3)⟩, ⟨some 2, none, .mov (.t 37)⟩])
     (.ret)))))
def s_spec_BodyText : SFn := ⟨1, 38, c_spec_BodyText, [.t 2]⟩
/-- loop.example/g00286/laws.toBody -/
def c_laws_toBody : SCode :=
 .seq (.ops [⟨some 1, none, .vbox 8 (.t 0)⟩, ⟨some 2, none, .alloc [.s 4 [], .v (.bool false), .v (.bool false), .v (.int .i64 0), .v (.int .i64 0), .v (.int .i64 0), .v (.int .i64 0), .v (.int .i64 0)]⟩])
 (.seq (.ops [⟨some 3, none, .alloc [.s 4 [], .v (.bool false), .v (.bool false), .v (.int .i64 0), .v (.int .i64 0), .v (.int .i64 0), .v (.int .i64 0), .v (.int .i64 0)]⟩])
  (.seq (.ops [⟨some 4, none, .faddr 0 (.t 1)⟩, ⟨some 5, none, .load none (.t 4)⟩, ⟨some 6, none, .call laws_toFrameS [.t 5]⟩, ⟨some 7, none, .faddr 0 (.t 3)⟩, ⟨none, none, .store 1 (.t 7) (.t 6)⟩])
   (.seq (.ops [⟨some 8, none, .faddr 1 (.t 1)⟩, ⟨some 9, none, .load none (.t 8)⟩, ⟨some 10, none, .faddr 1 (.t 3)⟩, ⟨none, none, .store 1 (.t 10) (.t 9)⟩])
    (.seq (.ops [⟨some 11, none, .faddr 2 (.t 1)⟩, ⟨some 12, none, .load none (.t 11)⟩, ⟨some 13, none, .faddr 2 (.t 3)⟩, ⟨none, none, .store 1 (.t 13) (.t 12)⟩])
     (.seq (.ops [⟨some 14, none, .faddr 3 (.t 1)⟩, ⟨some 15, none, .load none (.t 14)⟩, ⟨some 16, none, .faddr 3 (.t 3)⟩, ⟨none, none, .store 1 (.t 16) (.t 15)⟩])
      (.seq (.ops [⟨some 17, none, .faddr 4 (.t 1)⟩, ⟨some 18, none, .load none (.t 17)⟩, ⟨some 19, none, .faddr 4 (.t 3)⟩, ⟨none, none, .store 1 (.t 19) (.t 18)⟩])
       (.seq (.ops [⟨some 20, none, .faddr 5 (.t 1)⟩, ⟨some 21, none, .load none (.t 20)⟩, ⟨some 22, none, .faddr 5 (.t 3)⟩, ⟨none, none, .store 1 (.t 22) (.t 21)⟩])
        (.seq (.ops [⟨some 23, none, .faddr 6 (.t 1)⟩, ⟨some 24, none, .load none (.t 23)⟩, ⟨some 25, none, .faddr 6 (.t 3)⟩, ⟨none, none, .store 1 (.t 25) (.t 24)⟩])
         (.seq (.ops [⟨some 26, none, .faddr 7 (.t 1)⟩, ⟨some 27, none, .load none (.t 26)⟩, ⟨some 28, none, .faddr 7 (.t 3)⟩, ⟨none, none, .store 1 (.t 28) (.t 27)⟩])
          (.seq (.ops [⟨some 29, none, .load (some 8) (.t 3)⟩, ⟨none, none, .store 8 (.t 2) (.t 29)⟩])
           (.ret)))))))))))
def s_laws_toBody : SFn := ⟨1, 30, c_laws_toBody, [.c 2 (some 8)]⟩
def b_impl_BodyText_0 : SCode :=
 .seq (.ops [⟨some 16, none, .cmp .lss (.t 15) (.t 14)⟩])
 (.seq (.cond (.t 16) (.skip)
   (.seq (.keep [3]) (.exit 1)))
  (.seq (.block 2 (.seq (.ops [⟨some 17, none, .ixa 4 (.t 13) (.t 15)⟩, ⟨some 18, none, .load (some 4) (.t 17)⟩, ⟨some 5, none, .alloc [.v (.int .i64 0), .v (.int .i64 0), .s 1 [], .v (.int .i64 0)]⟩, ⟨none, none, .store 4 (.t 5) (.t 18)⟩])
     (.ops [⟨some 19, none, .mov (.t 3)⟩, ⟨some 20, none, .faddr 0 (.t 5)⟩, ⟨some 21, none, .load none (.t 20)⟩, ⟨some 22, none, .callr impl_Digits [.t 21]⟩, ⟨some 23, none, .cat (.c (.string ⟨#[32]⟩)) (.t 22)⟩, ⟨some 24, none, .cat (.t 23) (.c (.string ⟨#[58]⟩))⟩, ⟨some 25, none, .faddr 1 (.t 5)⟩, ⟨some 26, none, .load none (.t 25)⟩, ⟨some 27, none, .callr impl_Digits [.t 26]⟩, ⟨some 28, none, .cat (.t 24) (.t 27)⟩, ⟨some 29, none, .cat (.t 19) (.t 28)⟩, ⟨some 3, none, .mov (.t 29)⟩])))
   (.ops [⟨some 30, none, .ari .add (.t 15) (.c (.int .i64 1))⟩, ⟨some 15, none, .mov (.t 30)⟩])))
/-- loop.example/g00286/impl.BodyText -/
def c_impl_BodyText : SCode :=
 .seq (.ops [⟨some 1, none, .vbox 8 (.t 0)⟩, ⟨some 2, none, .mov (.c (.string ⟨#[]⟩))⟩])
 (.seq (.ops [⟨some 3, none, .mov (.c (.string ⟨#[111, 112, 101, 110]⟩))⟩])
  (.seq (.block 0 (.seq (.ops [⟨some 7, none, .faddr 1 (.t 1)⟩, ⟨some 8, none, .load none (.t 7)⟩, ⟨some 6, none, .mov (.t 8)⟩])
     (.cond (.t 6) (.ops [⟨some 3, none, .mov (.c (.string ⟨#[101, 110, 100, 101, 100]⟩))⟩])
      (.seq (.ops [⟨some 10, none, .faddr 2 (.t 1)⟩, ⟨some 11, none, .load none (.t 10)⟩, ⟨some 9, none, .mov (.t 11)⟩])
       (.cond (.t 9) (.ops [⟨some 3, none, .mov (.c (.string ⟨#[119, 97, 105, 116, 115]⟩))⟩])
        (.skip))))))
   (.seq (.seq (.ops [⟨some 12, none, .faddr 0 (.t 1)⟩, ⟨some 13, none, .load none (.t 12)⟩, ⟨some 14, none, .len (.t 13)⟩, ⟨some 15, none, .mov (.c (.int .i64 0))⟩])
     (.block 1 (.loop [3, 13, 14, 15] b_impl_BodyText_0)))
    (.seq (.ops [⟨some 31, none, .mov (.t 3)⟩, ⟨some 2, none, .mov (.t 31)⟩])
     (.ret)))))
def s_impl_BodyText : SFn := ⟨1, 32, c_impl_BodyText, [.t 2]⟩
/-- loop.example/g00286/laws.eqBody -/
def c_laws_eqBody : SCode :=
 .seq (.ops [⟨some 2, none, .vbox 8 (.t 0)⟩, ⟨some 3, none, .vbox 8 (.t 1)⟩, ⟨some 4, none, .mov (.c (.bool false))⟩])
 (.seq (.seq (.ops [⟨some 5, none, .faddr 0 (.t 2)⟩, ⟨some 6, none, .load none (.t 5)⟩, ⟨some 7, none, .faddr 0 (.t 3)⟩, ⟨some 8, none, .load none (.t 7)⟩, ⟨some 9, none, .callr laws_eqFrameS [.t 6, .t 8]⟩, ⟨some 10, none, .not (.t 9)⟩])
   (.cond (.t 10) (.seq (.ops [⟨some 4, none, .mov (.c (.bool false))⟩])
     (.ret))
    (.skip)))
  (.seq (.seq (.ops [⟨some 11, none, .faddr 1 (.t 2)⟩, ⟨some 12, none, .load none (.t 11)⟩, ⟨some 13, none, .faddr 1 (.t 3)⟩, ⟨some 14, none, .load none (.t 13)⟩, ⟨some 15, none, .cmpb .neq (.t 12) (.t 14)⟩])
    (.cond (.t 15) (.seq (.ops [⟨some 4, none, .mov (.c (.bool false))⟩])
      (.ret))
     (.skip)))
   (.seq (.seq (.ops [⟨some 16, none, .faddr 2 (.t 2)⟩, ⟨some 17, none, .load none (.t 16)⟩, ⟨some 18, none, .faddr 2 (.t 3)⟩, ⟨some 19, none, .load none (.t 18)⟩, ⟨some 20, none, .cmpb .neq (.t 17) (.t 19)⟩])
     (.cond (.t 20) (.seq (.ops [⟨some 4, none, .mov (.c (.bool false))⟩])
       (.ret))
      (.skip)))
    (.seq (.seq (.ops [⟨some 21, none, .faddr 3 (.t 2)⟩, ⟨some 22, none, .load none (.t 21)⟩, ⟨some 23, none, .faddr 3 (.t 3)⟩, ⟨some 24, none, .load none (.t 23)⟩, ⟨some 25, none, .cmp .neq (.t 22) (.t 24)⟩])
      (.cond (.t 25) (.seq (.ops [⟨some 4, none, .mov (.c (.bool false))⟩])
        (.ret))
       (.skip)))
     (.seq (.seq (.ops [⟨some 26, none, .faddr 4 (.t 2)⟩, ⟨some 27, none, .load none (.t 26)⟩, ⟨some 28, none, .faddr 4 (.t 3)⟩, ⟨some 29, none, .load none (.t 28)⟩, ⟨some 30, none, .cmp .neq (.t 27) (.t 29)⟩])
       (.cond (.t 30) (.seq (.ops [⟨some 4, none, .mov (.c (.bool false))⟩])
         (.ret))
        (.skip)))
      (.seq (.seq (.ops [⟨some 31, none, .faddr 5 (.t 2)⟩, ⟨some 32, none, .load none (.t 31)⟩, ⟨some 33, none, .faddr 5 (.t 3)⟩, ⟨some 34, none, .load none (.t 33)⟩, ⟨some 35, none, .cmp .neq (.t 32) (.t 34)⟩])
        (.cond (.t 35) (.seq (.ops [⟨some 4, none, .mov (.c (.bool false))⟩])
          (.ret))
         (.skip)))
       (.seq (.seq (.ops [⟨some 36, none, .faddr 6 (.t 2)⟩, ⟨some 37, none, .load none (.t 36)⟩, ⟨some 38, none, .faddr 6 (.t 3)⟩, ⟨some 39, none, .load none (.t 38)⟩, ⟨some 40, none, .cmp .neq (.t 37) (.t 39)⟩])
         (.cond (.t 40) (.seq (.ops [⟨some 4, none, .mov (.c (.bool false))⟩])
           (.ret))
          (.skip)))
        (.seq (.seq (.ops [⟨some 41, none, .faddr 7 (.t 2)⟩, ⟨some 42, none, .load none (.t 41)⟩, ⟨some 43, none, .faddr 7 (.t 3)⟩, ⟨some 44, none, .load none (.t 43)⟩, ⟨some 45, none, .cmp .neq (.t 42) (.t 44)⟩])
          (.cond (.t 45) (.seq (.ops [⟨some 4, none, .mov (.c (.bool false))⟩])
            (.ret))
           (.skip)))
         (.seq (.ops [⟨some 4, none, .mov (.c (.bool true))⟩])
          (.ret))))))))))
def s_laws_eqBody : SFn := ⟨2, 46, c_laws_eqBody, [.t 4]⟩
/-- loop.example/g00286/laws.szMachine -/
def c_laws_szMachine : SCode :=
 .seq (.ops [⟨some 2, none, .vbox 7 (.t 0)⟩, ⟨some 4, none, .mov (.c (.int .i64 0))⟩])
 (.seq (.ops [⟨some 5, none, .faddr 0 (.t 2)⟩, ⟨some 6, none, .load none (.t 5)⟩, ⟨some 7, none, .mov (.t 1)⟩, ⟨some 8, none, .callr laws_szInsS [.t 6, .t 7]⟩, ⟨some 1, none, .mov (.t 8)⟩])
  (.seq (.seq (.ops [⟨some 9, none, .mov (.t 1)⟩, ⟨some 10, none, .cmp .lss (.t 9) (.c (.int .i64 0))⟩])
    (.cond (.t 10) (.seq (.ops [⟨some 4, none, .mov (.c (.int .i64 (-1)))⟩])
      (.ret))
     (.skip)))
   (.seq (.ops [⟨some 11, none, .faddr 1 (.t 2)⟩, ⟨some 12, none, .load none (.t 11)⟩, ⟨some 13, none, .mov (.t 1)⟩, ⟨some 14, none, .callr laws_szIntS [.t 12, .t 13]⟩, ⟨some 1, none, .mov (.t 14)⟩])
    (.seq (.seq (.ops [⟨some 15, none, .mov (.t 1)⟩, ⟨some 16, none, .cmp .lss (.t 15) (.c (.int .i64 0))⟩])
      (.cond (.t 16) (.seq (.ops [⟨some 4, none, .mov (.c (.int .i64 (-1)))⟩])
        (.ret))
       (.skip)))
     (.seq (.ops [⟨some 17, none, .faddr 2 (.t 2)⟩, ⟨some 18, none, .load none (.t 17)⟩, ⟨some 19, none, .mov (.t 1)⟩, ⟨some 20, none, .callr laws_szCoreS [.t 18, .t 19]⟩, ⟨some 1, none, .mov (.t 20)⟩])
      (.seq (.seq (.ops [⟨some 21, none, .mov (.t 1)⟩, ⟨some 22, none, .cmp .lss (.t 21) (.c (.int .i64 0))⟩])
        (.cond (.t 22) (.seq (.ops [⟨some 4, none, .mov (.c (.int .i64 (-1)))⟩])
          (.ret))
         (.skip)))
       (.seq (.ops [⟨some 23, none, .faddr 3 (.t 2)⟩, ⟨some 24, none, .load none (.t 23)⟩, ⟨some 25, none, .mov (.t 1)⟩, ⟨some 26, none, .callr laws_szIntS [.t 24, .t 25]⟩, ⟨some 1, none, .mov (.t 26)⟩])
        (.seq (.seq (.ops [⟨some 27, none, .mov (.t 1)⟩, ⟨some 28, none, .cmp .lss (.t 27) (.c (.int .i64 0))⟩])
          (.cond (.t 28) (.seq (.ops [⟨some 4, none, .mov (.c (.int .i64 (-1)))⟩])
            (.ret))
           (.skip)))
         (.seq (.ops [⟨some 29, none, .faddr 4 (.t 2)⟩, ⟨some 30, none, .load none (.t 29)⟩, ⟨some 31, none, .mov (.t 1)⟩, ⟨some 32, none, .callr laws_szNoteS [.t 30, .t 31]⟩, ⟨some 1, none, .mov (.t 32)⟩])
          (.seq (.seq (.ops [⟨some 33, none, .mov (.t 1)⟩, ⟨some 34, none, .cmp .lss (.t 33) (.c (.int .i64 0))⟩])
            (.cond (.t 34) (.seq (.ops [⟨some 4, none, .mov (.c (.int .i64 (-1)))⟩])
              (.ret))
             (.skip)))
           (.seq (.ops [⟨some 35, none, .mov (.t 1)⟩, ⟨some 4, none, .mov (.t 35)⟩])
            (.ret))))))))))))
def s_laws_szMachine : SFn := ⟨2, 36, c_laws_szMachine, [.t 4]⟩
/-- loop.example/g00286/spec.Locked -/
def c_spec_Locked : SCode :=
 .seq (.ops [⟨some 1, none, .vbox 7 (.t 0)⟩, ⟨some 2, none, .mov (.c (.bool false))⟩])
 (.seq (.ops [⟨some 3, none, .faddr 1 (.t 1)⟩, ⟨some 4, none, .load none (.t 3)⟩, ⟨some 5, none, .len (.t 4)⟩, ⟨some 6, none, .cmp .gtr (.t 5) (.c (.int .i64 0))⟩, ⟨some 7, none, .mov (.t 6)⟩, ⟨some 8, (some (7, true)), .faddr 1 (.t 1)⟩, ⟨some 9, (some (7, true)), .load none (.t 8)⟩, ⟨some 10, (some (7, true)), .ixa 1 (.t 9) (.c (.int .i64 0))⟩, ⟨some 11, (some (7, true)), .load none (.t 10)⟩, ⟨some 12, (some (7, true)), .cmp .eql (.t 11) (.c (.int .i64 1))⟩, ⟨some 13, none, .pick (.t 7) (.t 12) (.c (.bool false))⟩, ⟨some 2, none, .mov (.t 13)⟩])
  (.ret))
def s_spec_Locked : SFn := ⟨1, 14, c_spec_Locked, [.t 2]⟩
/-- loop.example/g00286/laws.toMachine -/
def c_laws_toMachine : SCode :=
 .seq (.ops [⟨some 1, none, .vbox 7 (.t 0)⟩, ⟨some 2, none, .alloc [.s 6 [], .s 1 [], .s 3 [], .s 1 [], .s 2 [], .v (.bool false), .v (.int .i64 0)]⟩])
 (.seq (.ops [⟨some 3, none, .alloc [.s 6 [], .s 1 [], .s 3 [], .s 1 [], .s 2 [], .v (.bool false), .v (.int .i64 0)]⟩])
  (.seq (.ops [⟨some 4, none, .faddr 0 (.t 1)⟩, ⟨some 5, none, .load none (.t 4)⟩, ⟨some 6, none, .call laws_toInsS [.t 5]⟩, ⟨some 7, none, .faddr 0 (.t 3)⟩, ⟨none, none, .store 1 (.t 7) (.t 6)⟩])
   (.seq (.ops [⟨some 8, none, .faddr 1 (.t 1)⟩, ⟨some 9, none, .load none (.t 8)⟩, ⟨some 10, none, .call laws_toIntS [.t 9]⟩, ⟨some 11, none, .faddr 1 (.t 3)⟩, ⟨none, none, .store 1 (.t 11) (.t 10)⟩])
    (.seq (.ops [⟨some 12, none, .faddr 2 (.t 1)⟩, ⟨some 13, none, .load none (.t 12)⟩, ⟨some 14, none, .call laws_toCoreS [.t 13]⟩, ⟨some 15, none, .faddr 2 (.t 3)⟩, ⟨none, none, .store 1 (.t 15) (.t 14)⟩])
     (.seq (.ops [⟨some 16, none, .faddr 3 (.t 1)⟩, ⟨some 17, none, .load none (.t 16)⟩, ⟨some 18, none, .call laws_toIntS [.t 17]⟩, ⟨some 19, none, .faddr 3 (.t 3)⟩, ⟨none, none, .store 1 (.t 19) (.t 18)⟩])
      (.seq (.ops [⟨some 20, none, .faddr 4 (.t 1)⟩, ⟨some 21, none, .load none (.t 20)⟩, ⟨some 22, none, .call laws_toNoteS [.t 21]⟩, ⟨some 23, none, .faddr 4 (.t 3)⟩, ⟨none, none, .store 1 (.t 23) (.t 22)⟩])
       (.seq (.ops [⟨some 24, none, .faddr 5 (.t 1)⟩, ⟨some 25, none, .load none (.t 24)⟩, ⟨some 26, none, .faddr 5 (.t 3)⟩, ⟨none, none, .store 1 (.t 26) (.t 25)⟩])
        (.seq (.ops [⟨some 27, none, .faddr 6 (.t 1)⟩, ⟨some 28, none, .load none (.t 27)⟩, ⟨some 29, none, .faddr 6 (.t 3)⟩, ⟨none, none, .store 1 (.t 29) (.t 28)⟩])
         (.seq (.ops [⟨some 30, none, .load (some 7) (.t 3)⟩, ⟨none, none, .store 7 (.t 2) (.t 30)⟩])
          (.ret))))))))))
def s_laws_toMachine : SFn := ⟨1, 31, c_laws_toMachine, [.c 2 (some 7)]⟩
/-- loop.example/g00286/impl.Locked -/
def c_impl_Locked : SCode :=
 .seq (.ops [⟨some 1, none, .vbox 7 (.t 0)⟩, ⟨some 2, none, .mov (.c (.bool false))⟩])
 (.seq (.ops [⟨some 3, none, .faddr 1 (.t 1)⟩, ⟨some 4, none, .load none (.t 3)⟩, ⟨some 5, none, .len (.t 4)⟩, ⟨some 6, none, .cmp .gtr (.t 5) (.c (.int .i64 0))⟩, ⟨some 7, none, .mov (.t 6)⟩, ⟨some 8, (some (7, true)), .faddr 1 (.t 1)⟩, ⟨some 9, (some (7, true)), .load none (.t 8)⟩, ⟨some 10, (some (7, true)), .ixa 1 (.t 9) (.c (.int .i64 0))⟩, ⟨some 11, (some (7, true)), .load none (.t 10)⟩, ⟨some 12, (some (7, true)), .cmp .eql (.t 11) (.c (.int .i64 1))⟩, ⟨some 13, none, .pick (.t 7) (.t 12) (.c (.bool false))⟩, ⟨some 2, none, .mov (.t 13)⟩])
  (.ret))
def s_impl_Locked : SFn := ⟨1, 14, c_impl_Locked, [.t 2]⟩
/-- loop.example/g00286/laws.eqMachine -/
def c_laws_eqMachine : SCode :=
 .seq (.ops [⟨some 2, none, .vbox 7 (.t 0)⟩, ⟨some 3, none, .vbox 7 (.t 1)⟩, ⟨some 4, none, .mov (.c (.bool false))⟩])
 (.seq (.seq (.ops [⟨some 5, none, .faddr 0 (.t 2)⟩, ⟨some 6, none, .load none (.t 5)⟩, ⟨some 7, none, .faddr 0 (.t 3)⟩, ⟨some 8, none, .load none (.t 7)⟩, ⟨some 9, none, .callr laws_eqInsS [.t 6, .t 8]⟩, ⟨some 10, none, .not (.t 9)⟩])
   (.cond (.t 10) (.seq (.ops [⟨some 4, none, .mov (.c (.bool false))⟩])
     (.ret))
    (.skip)))
  (.seq (.seq (.ops [⟨some 11, none, .faddr 1 (.t 2)⟩, ⟨some 12, none, .load none (.t 11)⟩, ⟨some 13, none, .faddr 1 (.t 3)⟩, ⟨some 14, none, .load none (.t 13)⟩, ⟨some 15, none, .callr laws_eqIntS [.t 12, .t 14]⟩, ⟨some 16, none, .not (.t 15)⟩])
    (.cond (.t 16) (.seq (.ops [⟨some 4, none, .mov (.c (.bool false))⟩])
      (.ret))
     (.skip)))
   (.seq (.seq (.ops [⟨some 17, none, .faddr 2 (.t 2)⟩, ⟨some 18, none, .load none (.t 17)⟩, ⟨some 19, none, .faddr 2 (.t 3)⟩, ⟨some 20, none, .load none (.t 19)⟩, ⟨some 21, none, .callr laws_eqCoreS [.t 18, .t 20]⟩, ⟨some 22, none, .not (.t 21)⟩])
     (.cond (.t 22) (.seq (.ops [⟨some 4, none, .mov (.c (.bool false))⟩])
       (.ret))
      (.skip)))
    (.seq (.seq (.ops [⟨some 23, none, .faddr 3 (.t 2)⟩, ⟨some 24, none, .load none (.t 23)⟩, ⟨some 25, none, .faddr 3 (.t 3)⟩, ⟨some 26, none, .load none (.t 25)⟩, ⟨some 27, none, .callr laws_eqIntS [.t 24, .t 26]⟩, ⟨some 28, none, .not (.t 27)⟩])
      (.cond (.t 28) (.seq (.ops [⟨some 4, none, .mov (.c (.bool false))⟩])
        (.ret))
       (.skip)))
     (.seq (.seq (.ops [⟨some 29, none, .faddr 4 (.t 2)⟩, ⟨some 30, none, .load none (.t 29)⟩, ⟨some 31, none, .faddr 4 (.t 3)⟩, ⟨some 32, none, .load none (.t 31)⟩, ⟨some 33, none, .callr laws_eqNoteS [.t 30, .t 32]⟩, ⟨some 34, none, .not (.t 33)⟩])
       (.cond (.t 34) (.seq (.ops [⟨some 4, none, .mov (.c (.bool false))⟩])
         (.ret))
        (.skip)))
      (.seq (.seq (.ops [⟨some 35, none, .faddr 5 (.t 2)⟩, ⟨some 36, none, .load none (.t 35)⟩, ⟨some 37, none, .faddr 5 (.t 3)⟩, ⟨some 38, none, .load none (.t 37)⟩, ⟨some 39, none, .cmpb .neq (.t 36) (.t 38)⟩])
        (.cond (.t 39) (.seq (.ops [⟨some 4, none, .mov (.c (.bool false))⟩])
          (.ret))
         (.skip)))
       (.seq (.seq (.ops [⟨some 40, none, .faddr 6 (.t 2)⟩, ⟨some 41, none, .load none (.t 40)⟩, ⟨some 42, none, .faddr 6 (.t 3)⟩, ⟨some 43, none, .load none (.t 42)⟩, ⟨some 44, none, .cmp .neq (.t 41) (.t 43)⟩])
         (.cond (.t 44) (.seq (.ops [⟨some 4, none, .mov (.c (.bool false))⟩])
           (.ret))
          (.skip)))
        (.seq (.ops [⟨some 4, none, .mov (.c (.bool true))⟩])
         (.ret)))))))))
def s_laws_eqMachine : SFn := ⟨2, 45, c_laws_eqMachine, [.t 4]⟩
def b_spec_OnCores_0 : SCode :=
 .seq (.seq (.ops [⟨some 7, none, .mov (.t 4)⟩, ⟨some 8, none, .faddr 2 (.t 1)⟩, ⟨some 9, none, .load none (.t 8)⟩, ⟨some 10, none, .len (.t 9)⟩, ⟨some 11, none, .cmp .lss (.t 7) (.t 10)⟩])
  (.cond (.t 11) (.skip)
   (.seq (.keep [3]) (.exit 0))))
 (.seq (.block 1 (.seq (.ops [⟨some 14, none, .mov (.t 4)⟩, ⟨some 15, none, .ari .mul (.c (.int .i64 40)) (.t 14)⟩, ⟨some 16, none, .ari .add (.c (.int .i64 16)) (.t 15)⟩, ⟨some 17, none, .ari .add (.t 16) (.c (.int .i64 2))⟩, ⟨some 5, none, .mov (.t 17)⟩])
    (.seq (.ops [⟨some 18, none, .mov (.t 5)⟩, ⟨some 19, none, .faddr 1 (.t 1)⟩, ⟨some 20, none, .load none (.t 19)⟩, ⟨some 21, none, .len (.t 20)⟩, ⟨some 22, none, .cmp .geq (.t 18) (.t 21)⟩])
     (.cond (.t 22) (.ops [⟨some 23, none, .mov (.t 3)⟩, ⟨some 24, none, .lit 1 [.c (.int .i64 (-1))]⟩, ⟨some 25, none, .app 1 8 (.t 23) (.t 24)⟩, ⟨some 3, none, .mov (.t 25)⟩])
      (.ops [⟨some 26, none, .mov (.t 3)⟩, ⟨some 27, none, .faddr 1 (.t 1)⟩, ⟨some 28, none, .load none (.t 27)⟩, ⟨some 29, none, .mov (.t 5)⟩, ⟨some 30, none, .ixa 1 (.t 28) (.t 29)⟩, ⟨some 31, none, .load none (.t 30)⟩, ⟨some 32, none, .callr spec_l26Body [.t 31]⟩, ⟨some 33, none, .lit 1 [.t 32]⟩, ⟨some 34, none, .app 1 8 (.t 26) (.t 33)⟩, ⟨some 3, none, .mov (.t 34)⟩])))))
  (.ops [⟨some 12, none, .mov (.t 4)⟩, ⟨some 13, none, .ari .add (.t 12) (.c (.int .i64 1))⟩, ⟨some 4, none, .mov (.t 13)⟩]))
/-- loop.example/g00286/spec.OnCores -/
def c_spec_OnCores : SCode :=
 .seq (.ops [⟨some 1, none, .vbox 7 (.t 0)⟩, ⟨some 2, none, .mov (.n 1)⟩])
 (.seq (.ops [⟨some 6, none, .lit 1 []⟩, ⟨some 3, none, .mov (.t 6)⟩])
  (.seq (.seq (.ops [⟨some 4, none, .mov (.c (.int .i64 0))⟩])
    (.block 0 (.loop [1, 3, 4] b_spec_OnCores_0)))
   (.seq (.ops [⟨some 35, none, .mov (.t 3)⟩, ⟨some 2, none, .mov (.t 35)⟩])
    (.ret))))
def s_spec_OnCores : SFn := ⟨1, 36, c_spec_OnCores, [.t 2]⟩
def b_impl_OnCores_0 : SCode :=
 .seq (.ops [⟨some 12, none, .cmp .lss (.t 11) (.t 10)⟩])
 (.seq (.cond (.t 12) (.skip)
   (.seq (.keep [3]) (.exit 0)))
  (.seq (.block 1 (.seq (.ops [⟨some 13, none, .mov (.t 11)⟩, ⟨some 4, none, .mov (.t 13)⟩])
     (.seq (.ops [⟨some 5, none, .mov (.c (.int .i64 (-1)))⟩])
      (.seq (.seq (.ops [⟨some 14, none, .mov (.t 4)⟩, ⟨some 15, none, .ari .mul (.t 14) (.c (.int .i64 40))⟩, ⟨some 16, none, .ari .add (.c (.int .i64 16)) (.t 15)⟩, ⟨some 17, none, .ari .add (.t 16) (.c (.int .i64 2))⟩, ⟨some 6, none, .mov (.t 17)⟩])
        (.seq (.ops [⟨some 18, none, .mov (.t 6)⟩, ⟨some 19, none, .faddr 1 (.t 1)⟩, ⟨some 20, none, .load none (.t 19)⟩, ⟨some 21, none, .len (.t 20)⟩, ⟨some 22, none, .cmp .lss (.t 18) (.t 21)⟩])
         (.cond (.t 22) (.ops [⟨some 23, none, .faddr 1 (.t 1)⟩, ⟨some 24, none, .load none (.t 23)⟩, ⟨some 25, none, .mov (.t 6)⟩, ⟨some 26, none, .ixa 1 (.t 24) (.t 25)⟩, ⟨some 27, none, .load none (.t 26)⟩, ⟨some 28, none, .callr impl_bodyOf [.t 27]⟩, ⟨some 5, none, .mov (.t 28)⟩])
          (.skip))))
       (.ops [⟨some 29, none, .mov (.t 3)⟩, ⟨some 30, none, .mov (.t 5)⟩, ⟨some 31, none, .lit 1 [.t 30]⟩, ⟨some 32, none, .app 1 8 (.t 29) (.t 31)⟩, ⟨some 3, none, .mov (.t 32)⟩])))))
   (.ops [⟨some 33, none, .ari .add (.t 11) (.c (.int .i64 1))⟩, ⟨some 11, none, .mov (.t 33)⟩])))
/-- loop.example/g00286/impl.OnCores -/
def c_impl_OnCores : SCode :=
 .seq (.ops [⟨some 1, none, .vbox 7 (.t 0)⟩, ⟨some 2, none, .mov (.n 1)⟩])
 (.seq (.ops [⟨some 7, none, .lit 1 []⟩, ⟨some 3, none, .mov (.t 7)⟩])
  (.seq (.seq (.ops [⟨some 8, none, .faddr 2 (.t 1)⟩, ⟨some 9, none, .load none (.t 8)⟩, ⟨some 10, none, .len (.t 9)⟩, ⟨some 11, none, .mov (.c (.int .i64 0))⟩])
    (.block 0 (.loop [1, 3, 10, 11] b_impl_OnCores_0)))
   (.seq (.ops [⟨some 34, none, .mov (.t 3)⟩, ⟨some 2, none, .mov (.t 34)⟩])
    (.ret))))
def s_impl_OnCores : SFn := ⟨1, 35, c_impl_OnCores, [.t 2]⟩
def b_laws_eqIntS_0 : SCode :=
 .seq (.seq (.ops [⟨some 11, none, .mov (.t 5)⟩, ⟨some 12, none, .mov (.t 0)⟩, ⟨some 13, none, .len (.t 12)⟩, ⟨some 14, none, .cmp .lss (.t 11) (.t 13)⟩])
  (.cond (.t 14) (.skip)
   (.seq (.keep []) (.exit 0))))
 (.seq (.block 1 (.seq (.ops [⟨some 17, none, .mov (.t 0)⟩, ⟨some 18, none, .mov (.t 5)⟩, ⟨some 19, none, .ixa 1 (.t 17) (.t 18)⟩, ⟨some 20, none, .load none (.t 19)⟩, ⟨some 21, none, .mov (.t 1)⟩, ⟨some 22, none, .mov (.t 5)⟩, ⟨some 23, none, .ixa 1 (.t 21) (.t 22)⟩, ⟨some 24, none, .load none (.t 23)⟩, ⟨some 25, none, .cmp .neq (.t 20) (.t 24)⟩])
    (.cond (.t 25) (.seq (.ops [⟨some 4, none, .mov (.c (.bool false))⟩])
      (.seq (.keep [4]) .ret))
     (.skip))))
  (.ops [⟨some 15, none, .mov (.t 5)⟩, ⟨some 16, none, .ari .add (.t 15) (.c (.int .i64 1))⟩, ⟨some 5, none, .mov (.t 16)⟩]))
/-- loop.example/g00286/laws.eqIntS -/
def c_laws_eqIntS : SCode :=
 .seq (.ops [⟨some 4, none, .mov (.c (.bool false))⟩])
 (.seq (.seq (.ops [⟨some 6, none, .mov (.t 0)⟩, ⟨some 7, none, .len (.t 6)⟩, ⟨some 8, none, .mov (.t 1)⟩, ⟨some 9, none, .len (.t 8)⟩, ⟨some 10, none, .cmp .neq (.t 7) (.t 9)⟩])
   (.cond (.t 10) (.seq (.ops [⟨some 4, none, .mov (.c (.bool false))⟩])
     (.ret))
    (.skip)))
  (.seq (.seq (.ops [⟨some 5, none, .mov (.c (.int .i64 0))⟩])
    (.block 0 (.loop [0, 1, 5] b_laws_eqIntS_0)))
   (.seq (.ops [⟨some 4, none, .mov (.c (.bool true))⟩])
    (.ret))))
def s_laws_eqIntS : SFn := ⟨2, 26, c_laws_eqIntS, [.t 4]⟩
/-- loop.example/g00286/laws.markMachine -/
def c_laws_markMachine : SCode :=
 .seq (.ops [⟨some 2, none, .vbox 7 (.t 0)⟩, ⟨some 4, none, .mov (.c (.int .i64 0))⟩])
 (.seq (.ops [⟨some 5, none, .faddr 0 (.t 2)⟩, ⟨some 6, none, .load none (.t 5)⟩, ⟨some 7, none, .mov (.t 1)⟩, ⟨some 8, none, .callb laws_markInsS [.t 6, .t 7] [true, false]⟩, ⟨some 1, none, .mov (.t 8)⟩])
  (.seq (.ops [⟨some 9, none, .faddr 1 (.t 2)⟩, ⟨some 10, none, .load none (.t 9)⟩, ⟨some 11, none, .mov (.t 1)⟩, ⟨some 12, none, .callb laws_markIntS [.t 10, .t 11] [true, false]⟩, ⟨some 1, none, .mov (.t 12)⟩])
   (.seq (.ops [⟨some 13, none, .faddr 2 (.t 2)⟩, ⟨some 14, none, .load none (.t 13)⟩, ⟨some 15, none, .mov (.t 1)⟩, ⟨some 16, none, .callb laws_markCoreS [.t 14, .t 15] [true, false]⟩, ⟨some 1, none, .mov (.t 16)⟩])
    (.seq (.ops [⟨some 17, none, .faddr 3 (.t 2)⟩, ⟨some 18, none, .load none (.t 17)⟩, ⟨some 19, none, .mov (.t 1)⟩, ⟨some 20, none, .callb laws_markIntS [.t 18, .t 19] [true, false]⟩, ⟨some 1, none, .mov (.t 20)⟩])
     (.seq (.ops [⟨some 21, none, .faddr 4 (.t 2)⟩, ⟨some 22, none, .load none (.t 21)⟩, ⟨some 23, none, .mov (.t 1)⟩, ⟨some 24, none, .callb laws_markNoteS [.t 22, .t 23] [true, false]⟩, ⟨some 1, none, .mov (.t 24)⟩])
      (.seq (.ops [⟨some 25, none, .mov (.t 1)⟩, ⟨some 4, none, .mov (.t 25)⟩])
       (.ret)))))))
def s_laws_markMachine : SFn := ⟨2, 26, c_laws_markMachine, [.t 4]⟩
def b_laws_markIntS_0 : SCode :=
 .seq (.seq (.ops [⟨some 6, none, .mov (.t 5)⟩, ⟨some 7, none, .mov (.t 0)⟩, ⟨some 8, none, .len (.t 7)⟩, ⟨some 9, none, .cmp .lss (.t 6) (.t 8)⟩])
  (.cond (.t 9) (.skip)
   (.seq (.keep [1]) (.exit 0))))
 (.seq (.block 1 (.seq (.ops [⟨some 12, none, .mov (.t 0)⟩, ⟨some 13, none, .mov (.t 5)⟩, ⟨some 14, none, .mov (.t 1)⟩, ⟨some 15, none, .ixa 1 (.t 12) (.t 13)⟩, ⟨none, none, .store 1 (.t 15) (.t 14)⟩])
    (.ops [⟨some 16, none, .mov (.t 1)⟩, ⟨some 17, none, .ari .add (.t 16) (.c (.int .i64 1))⟩, ⟨some 1, none, .mov (.t 17)⟩])))
  (.ops [⟨some 10, none, .mov (.t 5)⟩, ⟨some 11, none, .ari .add (.t 10) (.c (.int .i64 1))⟩, ⟨some 5, none, .mov (.t 11)⟩]))
/-- loop.example/g00286/laws.markIntS -/
def c_laws_markIntS : SCode :=
 .seq (.ops [⟨some 4, none, .mov (.c (.int .i64 0))⟩])
 (.seq (.seq (.ops [⟨some 5, none, .mov (.c (.int .i64 0))⟩])
   (.block 0 (.loop [0, 1, 5] b_laws_markIntS_0)))
  (.seq (.ops [⟨some 18, none, .mov (.t 1)⟩, ⟨some 4, none, .mov (.t 18)⟩])
   (.ret)))
def s_laws_markIntS : SFn := ⟨2, 19, c_laws_markIntS, [.t 4]⟩
def b_laws_heldIntS_0 : SCode :=
 .seq (.seq (.ops [⟨some 6, none, .mov (.t 5)⟩, ⟨some 7, none, .mov (.t 0)⟩, ⟨some 8, none, .len (.t 7)⟩, ⟨some 9, none, .cmp .lss (.t 6) (.t 8)⟩])
  (.cond (.t 9) (.skip)
   (.seq (.keep [1]) (.exit 0))))
 (.seq (.block 1 (.seq (.seq (.ops [⟨some 12, none, .mov (.t 0)⟩, ⟨some 13, none, .mov (.t 5)⟩, ⟨some 14, none, .ixa 1 (.t 12) (.t 13)⟩, ⟨some 15, none, .load none (.t 14)⟩, ⟨some 16, none, .mov (.t 1)⟩, ⟨some 17, none, .cmp .neq (.t 15) (.t 16)⟩])
     (.cond (.t 17) (.seq (.ops [⟨some 4, none, .mov (.c (.int .i64 (-1)))⟩])
       (.seq (.keep [4]) .ret))
      (.skip)))
    (.ops [⟨some 18, none, .mov (.t 1)⟩, ⟨some 19, none, .ari .add (.t 18) (.c (.int .i64 1))⟩, ⟨some 1, none, .mov (.t 19)⟩])))
  (.ops [⟨some 10, none, .mov (.t 5)⟩, ⟨some 11, none, .ari .add (.t 10) (.c (.int .i64 1))⟩, ⟨some 5, none, .mov (.t 11)⟩]))
/-- loop.example/g00286/laws.heldIntS -/
def c_laws_heldIntS : SCode :=
 .seq (.ops [⟨some 4, none, .mov (.c (.int .i64 0))⟩])
 (.seq (.seq (.ops [⟨some 5, none, .mov (.c (.int .i64 0))⟩])
   (.block 0 (.loop [0, 1, 5] b_laws_heldIntS_0)))
  (.seq (.ops [⟨some 20, none, .mov (.t 1)⟩, ⟨some 4, none, .mov (.t 20)⟩])
   (.ret)))
def s_laws_heldIntS : SFn := ⟨2, 21, c_laws_heldIntS, [.t 4]⟩
/-- loop.example/g00286/spec.l1In -/
def c_spec_l1In : SCode :=
 .seq (.ops [⟨some 6, none, .mov (.c (.bool false))⟩])
 (.seq (.ops [⟨some 7, none, .mov (.t 0)⟩, ⟨some 8, none, .mov (.t 1)⟩, ⟨some 9, none, .cmp .geq (.t 7) (.t 8)⟩, ⟨some 10, none, .mov (.t 9)⟩, ⟨some 11, (some (10, true)), .mov (.t 0)⟩, ⟨some 12, (some (10, true)), .mov (.t 2)⟩, ⟨some 13, (some (10, true)), .cmp .leq (.t 11) (.t 12)⟩, ⟨some 14, none, .pick (.t 10) (.t 13) (.c (.bool false))⟩, ⟨some 6, none, .mov (.t 14)⟩])
  (.ret))
def s_spec_l1In : SFn := ⟨3, 15, c_spec_l1In, [.t 6]⟩
def b_spec_Digits_0 : SCode :=
 .seq (.seq (.ops [⟨some 10, none, .mov (.t 0)⟩, ⟨some 11, none, .cmp .neq (.t 10) (.c (.int .i64 0))⟩])
  (.cond (.t 11) (.skip)
   (.seq (.keep [3, 4]) (.exit 0))))
 (.block 1 (.seq (.ops [⟨some 12, none, .mov (.t 0)⟩, ⟨some 13, none, .ari .rem (.t 12) (.c (.int .i64 10))⟩, ⟨some 5, none, .mov (.t 13)⟩])
   (.seq (.seq (.ops [⟨some 14, none, .mov (.t 5)⟩, ⟨some 15, none, .cmp .lss (.t 14) (.c (.int .i64 0))⟩])
     (.cond (.t 15) (.ops [⟨some 16, none, .mov (.t 5)⟩, ⟨some 17, none, .ari .sub (.c (.int .i64 0)) (.t 16)⟩, ⟨some 5, none, .mov (.t 17)⟩])
      (.skip)))
    (.seq (.ops [⟨some 18, none, .mov (.t 5)⟩, ⟨some 19, none, .ari .add (.c (.int .i64 48)) (.t 18)⟩, ⟨some 20, none, .conv .u8 (.t 19)⟩, ⟨some 21, none, .lit 1 [.t 20]⟩, ⟨some 22, none, .sob (.t 21)⟩, ⟨some 23, none, .mov (.t 4)⟩, ⟨some 24, none, .cat (.t 22) (.t 23)⟩, ⟨some 4, none, .mov (.t 24)⟩])
     (.ops [⟨some 25, none, .mov (.t 0)⟩, ⟨some 26, none, .ari .quo (.t 25) (.c (.int .i64 10))⟩, ⟨some 0, none, .mov (.t 26)⟩])))))
/-- loop.example/g00286/spec.Digits -/
def c_spec_Digits : SCode :=
 .seq (.ops [⟨some 2, none, .mov (.c (.string ⟨#[]⟩))⟩])
 (.seq (.seq (.ops [⟨some 6, none, .mov (.t 0)⟩, ⟨some 7, none, .cmp .eql (.t 6) (.c (.int .i64 0))⟩])
   (.cond (.t 7) (.seq (.ops [⟨some 2, none, .mov (.c (.string ⟨#[48]⟩))⟩])
     (.ret))
    (.skip)))
  (.seq (.ops [⟨some 8, none, .mov (.t 0)⟩, ⟨some 9, none, .cmp .lss (.t 8) (.c (.int .i64 0))⟩, ⟨some 3, none, .mov (.t 9)⟩])
   (.seq (.ops [⟨some 4, none, .mov (.c (.string ⟨#[]⟩))⟩])
    (.seq (.block 0 (.loop [0, 3, 4] b_spec_Digits_0))
     (.seq (.seq (.ops [⟨some 27, none, .mov (.t 3)⟩])
       (.cond (.t 27) (.seq (.ops [⟨some 28, none, .mov (.t 4)⟩, ⟨some 29, none, .cat (.c (.string ⟨#[45]⟩)) (.t 28)⟩, ⟨some 2, none, .mov (.t 29)⟩])
         (.ret))
        (.skip)))
      (.seq (.ops [⟨some 30, none, .mov (.t 4)⟩, ⟨some 2, none, .mov (.t 30)⟩])
       (.ret)))))))
def s_spec_Digits : SFn := ⟨1, 31, c_spec_Digits, [.t 2]⟩
/-- loop.example/g00286/impl.within -/
def c_impl_within : SCode :=
 .seq (.ops [⟨some 6, none, .mov (.c (.bool false))⟩])
 (.seq (.ops [⟨some 7, none, .mov (.t 0)⟩, ⟨some 8, none, .mov (.t 1)⟩, ⟨some 9, none, .cmp .geq (.t 7) (.t 8)⟩, ⟨some 10, none, .mov (.t 9)⟩, ⟨some 11, (some (10, true)), .mov (.t 0)⟩, ⟨some 12, (some (10, true)), .mov (.t 2)⟩, ⟨some 13, (some (10, true)), .cmp .leq (.t 11) (.t 12)⟩, ⟨some 14, none, .pick (.t 10) (.t 13) (.c (.bool false))⟩, ⟨some 6, none, .mov (.t 14)⟩])
  (.ret))
def s_impl_within : SFn := ⟨3, 15, c_impl_within, [.t 6]⟩
/-- loop.example/g00286/impl.Digits -/
def c_impl_Digits : SCode :=
 .seq (.ops [⟨some 2, none, .mov (.c (.string ⟨#[]⟩))⟩])
 (.seq (.block 0 (.seq (.ops [⟨some 4, none, .mov (.t 0)⟩, ⟨some 5, none, .cmp .lss (.t 4) (.c (.int .i64 0))⟩, ⟨some 6, none, .mov (.t 5)⟩, ⟨some 7, (some (6, true)), .mov (.t 0)⟩, ⟨some 8, (some (6, true)), .cmp .gtr (.t 7) (.c (.int .i64 (-10)))⟩, ⟨some 9, none, .pick (.t 6) (.t 8) (.c (.bool false))⟩, ⟨some 3, none, .mov (.t 9)⟩])
    (.cond (.t 3) (.seq (.ops [⟨some 10, none, .mov (.t 0)⟩, ⟨some 11, none, .neg (.t 10)⟩, ⟨some 12, none, .callr impl_Digits [.t 11]⟩, ⟨some 13, none, .cat (.c (.string ⟨#[45]⟩)) (.t 12)⟩, ⟨some 2, none, .mov (.t 13)⟩])
      (.ret))
     (.seq (.ops [⟨some 15, none, .mov (.t 0)⟩, ⟨some 16, none, .cmp .lss (.t 15) (.c (.int .i64 0))⟩, ⟨some 14, none, .mov (.t 16)⟩])
      (.cond (.t 14) (.seq (.ops [⟨some 17, none, .mov (.t 0)⟩, ⟨some 18, none, .ari .quo (.t 17) (.c (.int .i64 10))⟩, ⟨some 19, none, .callr impl_Digits [.t 18]⟩, ⟨some 20, none, .mov (.t 0)⟩, ⟨some 21, none, .ari .rem (.t 20) (.c (.int .i64 10))⟩, ⟨some 22, none, .neg (.t 21)⟩, ⟨some 23, none, .callr impl_Digits [.t 22]⟩, ⟨some 24, none, .cat (.t 19) (.t 23)⟩, ⟨some 2, none, .mov (.t 24)⟩])
        (.ret))
       (.seq (.ops [⟨some 26, none, .mov (.t 0)⟩, ⟨some 27, none, .cmp .lss (.t 26) (.c (.int .i64 10))⟩, ⟨some 25, none, .mov (.t 27)⟩])
        (.cond (.t 25) (.seq (.ops [⟨some 28, none, .mov (.t 0)⟩, ⟨some 29, none, .ari .add (.c (.int .i64 48)) (.t 28)⟩, ⟨some 30, none, .conv .i32 (.t 29)⟩, ⟨some 31, none, .rune (.t 30)⟩, ⟨some 2, none, .mov (.t 31)⟩])
          (.ret))
         (.skip))))))))
  (.seq (.ops [⟨some 32, none, .mov (.t 0)⟩, ⟨some 33, none, .ari .quo (.t 32) (.c (.int .i64 10))⟩, ⟨some 34, none, .callr impl_Digits [.t 33]⟩, ⟨some 35, none, .mov (.t 0)⟩, ⟨some 36, none, .ari .rem (.t 35) (.c (.int .i64 10))⟩, ⟨some 37, none, .ari .add (.c (.int .i64 48)) (.t 36)⟩, ⟨some 38, none, .conv .i32 (.t 37)⟩, ⟨some 39, none, .rune (.t 38)⟩, ⟨some 40, none, .cat (.t 34) (.t 39)⟩, ⟨some 2, none, .mov (.t 40)⟩])
   (.ret)))
def s_impl_Digits : SFn := ⟨1, 41, c_impl_Digits, [.t 2]⟩
/-- loop.example/g00286/laws.toIns -/
def c_laws_toIns : SCode :=
 .seq (.ops [⟨some 1, none, .vbox 6 (.t 0)⟩, ⟨some 2, none, .alloc [.v (.int .i64 0), .v (.int .i64 0), .v (.int .i64 0), .v (.int .i64 0), .v (.int .i64 0), .v (.int .i64 0)]⟩])
 (.seq (.ops [⟨some 3, none, .alloc [.v (.int .i64 0), .v (.int .i64 0), .v (.int .i64 0), .v (.int .i64 0), .v (.int .i64 0), .v (.int .i64 0)]⟩])
  (.seq (.ops [⟨some 4, none, .faddr 0 (.t 1)⟩, ⟨some 5, none, .load none (.t 4)⟩, ⟨some 6, none, .faddr 0 (.t 3)⟩, ⟨none, none, .store 1 (.t 6) (.t 5)⟩])
   (.seq (.ops [⟨some 7, none, .faddr 1 (.t 1)⟩, ⟨some 8, none, .load none (.t 7)⟩, ⟨some 9, none, .faddr 1 (.t 3)⟩, ⟨none, none, .store 1 (.t 9) (.t 8)⟩])
    (.seq (.ops [⟨some 10, none, .faddr 2 (.t 1)⟩, ⟨some 11, none, .load none (.t 10)⟩, ⟨some 12, none, .faddr 2 (.t 3)⟩, ⟨none, none, .store 1 (.t 12) (.t 11)⟩])
     (.seq (.ops [⟨some 13, none, .faddr 3 (.t 1)⟩, ⟨some 14, none, .load none (.t 13)⟩, ⟨some 15, none, .faddr 3 (.t 3)⟩, ⟨none, none, .store 1 (.t 15) (.t 14)⟩])
      (.seq (.ops [⟨some 16, none, .faddr 4 (.t 1)⟩, ⟨some 17, none, .load none (.t 16)⟩, ⟨some 18, none, .faddr 4 (.t 3)⟩, ⟨none, none, .store 1 (.t 18) (.t 17)⟩])
       (.seq (.ops [⟨some 19, none, .faddr 5 (.t 1)⟩, ⟨some 20, none, .load none (.t 19)⟩, ⟨some 21, none, .faddr 5 (.t 3)⟩, ⟨none, none, .store 1 (.t 21) (.t 20)⟩])
        (.seq (.ops [⟨some 22, none, .load (some 6) (.t 3)⟩, ⟨none, none, .store 6 (.t 2) (.t 22)⟩])
         (.ret)))))))))
def s_laws_toIns : SFn := ⟨1, 23, c_laws_toIns, [.c 2 (some 6)]⟩
/-- loop.example/g00286/laws.eqIns -/
def c_laws_eqIns : SCode :=
 .seq (.ops [⟨some 2, none, .vbox 6 (.t 0)⟩, ⟨some 3, none, .vbox 6 (.t 1)⟩, ⟨some 4, none, .mov (.c (.bool false))⟩])
 (.seq (.seq (.ops [⟨some 5, none, .faddr 0 (.t 2)⟩, ⟨some 6, none, .load none (.t 5)⟩, ⟨some 7, none, .faddr 0 (.t 3)⟩, ⟨some 8, none, .load none (.t 7)⟩, ⟨some 9, none, .cmp .neq (.t 6) (.t 8)⟩])
   (.cond (.t 9) (.seq (.ops [⟨some 4, none, .mov (.c (.bool false))⟩])
     (.ret))
    (.skip)))
  (.seq (.seq (.ops [⟨some 10, none, .faddr 1 (.t 2)⟩, ⟨some 11, none, .load none (.t 10)⟩, ⟨some 12, none, .faddr 1 (.t 3)⟩, ⟨some 13, none, .load none (.t 12)⟩, ⟨some 14, none, .cmp .neq (.t 11) (.t 13)⟩])
    (.cond (.t 14) (.seq (.ops [⟨some 4, none, .mov (.c (.bool false))⟩])
      (.ret))
     (.skip)))
   (.seq (.seq (.ops [⟨some 15, none, .faddr 2 (.t 2)⟩, ⟨some 16, none, .load none (.t 15)⟩, ⟨some 17, none, .faddr 2 (.t 3)⟩, ⟨some 18, none, .load none (.t 17)⟩, ⟨some 19, none, .cmp .neq (.t 16) (.t 18)⟩])
     (.cond (.t 19) (.seq (.ops [⟨some 4, none, .mov (.c (.bool false))⟩])
       (.ret))
      (.skip)))
    (.seq (.seq (.ops [⟨some 20, none, .faddr 3 (.t 2)⟩, ⟨some 21, none, .load none (.t 20)⟩, ⟨some 22, none, .faddr 3 (.t 3)⟩, ⟨some 23, none, .load none (.t 22)⟩, ⟨some 24, none, .cmp .neq (.t 21) (.t 23)⟩])
      (.cond (.t 24) (.seq (.ops [⟨some 4, none, .mov (.c (.bool false))⟩])
        (.ret))
       (.skip)))
     (.seq (.seq (.ops [⟨some 25, none, .faddr 4 (.t 2)⟩, ⟨some 26, none, .load none (.t 25)⟩, ⟨some 27, none, .faddr 4 (.t 3)⟩, ⟨some 28, none, .load none (.t 27)⟩, ⟨some 29, none, .cmp .neq (.t 26) (.t 28)⟩])
       (.cond (.t 29) (.seq (.ops [⟨some 4, none, .mov (.c (.bool false))⟩])
         (.ret))
        (.skip)))
      (.seq (.seq (.ops [⟨some 30, none, .faddr 5 (.t 2)⟩, ⟨some 31, none, .load none (.t 30)⟩, ⟨some 32, none, .faddr 5 (.t 3)⟩, ⟨some 33, none, .load none (.t 32)⟩, ⟨some 34, none, .cmp .neq (.t 31) (.t 33)⟩])
        (.cond (.t 34) (.seq (.ops [⟨some 4, none, .mov (.c (.bool false))⟩])
          (.ret))
         (.skip)))
       (.seq (.ops [⟨some 4, none, .mov (.c (.bool true))⟩])
        (.ret))))))))
def s_laws_eqIns : SFn := ⟨2, 35, c_laws_eqIns, [.t 4]⟩
/-- loop.example/g00286/laws.szLine -/
def c_laws_szLine : SCode :=
 .seq (.ops [⟨some 2, none, .vbox 8 (.t 0)⟩, ⟨some 4, none, .mov (.c (.int .i64 0))⟩])
 (.seq (.ops [⟨some 5, none, .mov (.t 1)⟩, ⟨some 6, none, .faddr 0 (.t 2)⟩, ⟨some 7, none, .load none (.t 6)⟩, ⟨some 8, none, .slen (.t 7)⟩, ⟨some 9, none, .ari .sub (.t 5) (.t 8)⟩, ⟨some 1, none, .mov (.t 9)⟩])
  (.seq (.seq (.ops [⟨some 10, none, .mov (.t 1)⟩, ⟨some 11, none, .cmp .lss (.t 10) (.c (.int .i64 0))⟩])
    (.cond (.t 11) (.seq (.ops [⟨some 4, none, .mov (.c (.int .i64 (-1)))⟩])
      (.ret))
     (.skip)))
   (.seq (.ops [⟨some 12, none, .mov (.t 1)⟩, ⟨some 13, none, .faddr 7 (.t 2)⟩, ⟨some 14, none, .load none (.t 13)⟩, ⟨some 15, none, .slen (.t 14)⟩, ⟨some 16, none, .ari .sub (.t 12) (.t 15)⟩, ⟨some 1, none, .mov (.t 16)⟩])
    (.seq (.seq (.ops [⟨some 17, none, .mov (.t 1)⟩, ⟨some 18, none, .cmp .lss (.t 17) (.c (.int .i64 0))⟩])
      (.cond (.t 18) (.seq (.ops [⟨some 4, none, .mov (.c (.int .i64 (-1)))⟩])
        (.ret))
       (.skip)))
     (.seq (.ops [⟨some 19, none, .mov (.t 1)⟩, ⟨some 4, none, .mov (.t 19)⟩])
      (.ret))))))
def s_laws_szLine : SFn := ⟨2, 20, c_laws_szLine, [.t 4]⟩
/-- loop.example/g00286/laws.toLine -/
def c_laws_toLine : SCode :=
 .seq (.ops [⟨some 1, none, .vbox 8 (.t 0)⟩, ⟨some 2, none, .alloc [.v (.string ⟨#[]⟩), .v (.int .i64 0), .v (.int .i64 0), .v (.int .i64 0), .v (.int .i64 0), .v (.int .i64 0), .v (.int .i64 0), .v (.string ⟨#[]⟩)]⟩])
 (.seq (.ops [⟨some 3, none, .alloc [.v (.string ⟨#[]⟩), .v (.int .i64 0), .v (.int .i64 0), .v (.int .i64 0), .v (.int .i64 0), .v (.int .i64 0), .v (.int .i64 0), .v (.string ⟨#[]⟩)]⟩])
  (.seq (.ops [⟨some 4, none, .faddr 0 (.t 1)⟩, ⟨some 5, none, .load none (.t 4)⟩, ⟨some 6, none, .faddr 0 (.t 3)⟩, ⟨none, none, .store 1 (.t 6) (.t 5)⟩])
   (.seq (.ops [⟨some 7, none, .faddr 1 (.t 1)⟩, ⟨some 8, none, .load (some 6) (.t 7)⟩, ⟨some 9, none, .callr laws_toIns [.t 8]⟩, ⟨some 10, none, .faddr 1 (.t 3)⟩, ⟨none, none, .store 6 (.t 10) (.t 9)⟩])
    (.seq (.ops [⟨some 11, none, .faddr 7 (.t 1)⟩, ⟨some 12, none, .load none (.t 11)⟩, ⟨some 13, none, .faddr 7 (.t 3)⟩, ⟨none, none, .store 1 (.t 13) (.t 12)⟩])
     (.seq (.ops [⟨some 14, none, .load (some 8) (.t 3)⟩, ⟨none, none, .store 8 (.t 2) (.t 14)⟩])
      (.ret))))))
def s_laws_toLine : SFn := ⟨1, 15, c_laws_toLine, [.c 2 (some 8)]⟩
def b_impl_lineAt_0 : SCode :=
 .seq (.ops [⟨some 14, none, .cmp .lss (.t 13) (.t 12)⟩])
 (.seq (.cond (.t 14) (.skip)
   (.seq (.keep [6, 7]) (.exit 0)))
  (.seq (.block 1 (.seq (.ops [⟨some 15, none, .ixa 8 (.t 11) (.t 13)⟩, ⟨some 16, none, .load (some 8) (.t 15)⟩, ⟨some 10, none, .alloc [.v (.string ⟨#[]⟩), .v (.int .i64 0), .v (.int .i64 0), .v (.int .i64 0), .v (.int .i64 0), .v (.int .i64 0), .v (.int .i64 0), .v (.string ⟨#[]⟩)]⟩, ⟨none, none, .store 8 (.t 10) (.t 16)⟩])
     (.block 2 (.seq (.ops [⟨some 18, none, .faddr 0 (.t 10)⟩, ⟨some 19, none, .load none (.t 18)⟩, ⟨some 20, none, .cmp .eql (.t 19) (.c (.string ⟨#[]⟩))⟩, ⟨some 17, none, .mov (.t 20)⟩])
       (.cond (.t 17) (.ops [⟨some 21, none, .mov (.t 8)⟩, ⟨some 22, none, .ari .add (.t 21) (.c (.int .i64 1))⟩, ⟨some 8, none, .mov (.t 22)⟩])
        (.seq (.ops [⟨some 24, none, .faddr 0 (.t 10)⟩, ⟨some 25, none, .load none (.t 24)⟩, ⟨some 26, none, .mov (.t 1)⟩, ⟨some 27, none, .cmp .eql (.t 25) (.t 26)⟩, ⟨some 23, none, .mov (.t 27)⟩])
         (.cond (.t 23) (.seq (.seq (.ops [⟨some 28, none, .mov (.t 7)⟩, ⟨some 29, none, .cmp .eql (.t 28) (.c (.int .i64 0))⟩])
            (.cond (.t 29) (.ops [⟨some 30, none, .mov (.t 8)⟩, ⟨some 6, none, .mov (.t 30)⟩])
             (.skip)))
           (.ops [⟨some 31, none, .mov (.t 7)⟩, ⟨some 32, none, .ari .add (.t 31) (.c (.int .i64 1))⟩, ⟨some 7, none, .mov (.t 32)⟩]))
          (.skip))))))))
   (.ops [⟨some 33, none, .ari .add (.t 13) (.c (.int .i64 1))⟩, ⟨some 13, none, .mov (.t 33)⟩])))
/-- loop.example/g00286/impl.lineAt -/
def c_impl_lineAt : SCode :=
 .seq (.ops [⟨some 4, none, .mov (.c (.int .i64 0))⟩, ⟨some 5, none, .mov (.c (.bool false))⟩])
 (.seq (.ops [⟨some 6, none, .mov (.c (.int .i64 (-1)))⟩, ⟨some 7, none, .mov (.c (.int .i64 0))⟩, ⟨some 8, none, .mov (.c (.int .i64 0))⟩])
  (.seq (.seq (.ops [⟨some 11, none, .mov (.t 0)⟩, ⟨some 12, none, .len (.t 11)⟩, ⟨some 13, none, .mov (.c (.int .i64 0))⟩])
    (.block 0 (.loop [1, 6, 7, 8, 11, 12, 13] b_impl_lineAt_0)))
   (.seq (.ops [⟨some 34, none, .mov (.t 6)⟩, ⟨some 35, none, .mov (.t 7)⟩, ⟨some 36, none, .cmp .eql (.t 35) (.c (.int .i64 1))⟩, ⟨some 4, none, .mov (.t 34)⟩, ⟨some 5, none, .mov (.t 36)⟩])
    (.ret))))
def s_impl_lineAt : SFn := ⟨2, 37, c_impl_lineAt, [.t 4, .t 5]⟩
/-- loop.example/g00286/laws.eqLine -/
def c_laws_eqLine : SCode :=
 .seq (.ops [⟨some 2, none, .vbox 8 (.t 0)⟩, ⟨some 3, none, .vbox 8 (.t 1)⟩, ⟨some 4, none, .mov (.c (.bool false))⟩])
 (.seq (.seq (.ops [⟨some 5, none, .faddr 0 (.t 2)⟩, ⟨some 6, none, .load none (.t 5)⟩, ⟨some 7, none, .faddr 0 (.t 3)⟩, ⟨some 8, none, .load none (.t 7)⟩, ⟨some 9, none, .cmp .neq (.t 6) (.t 8)⟩])
   (.cond (.t 9) (.seq (.ops [⟨some 4, none, .mov (.c (.bool false))⟩])
     (.ret))
    (.skip)))
  (.seq (.seq (.ops [⟨some 10, none, .faddr 1 (.t 2)⟩, ⟨some 11, none, .load (some 6) (.t 10)⟩, ⟨some 12, none, .faddr 1 (.t 3)⟩, ⟨some 13, none, .load (some 6) (.t 12)⟩, ⟨some 14, none, .callr laws_eqIns [.t 11, .t 13]⟩, ⟨some 15, none, .not (.t 14)⟩])
    (.cond (.t 15) (.seq (.ops [⟨some 4, none, .mov (.c (.bool false))⟩])
      (.ret))
     (.skip)))
   (.seq (.seq (.ops [⟨some 16, none, .faddr 7 (.t 2)⟩, ⟨some 17, none, .load none (.t 16)⟩, ⟨some 18, none, .faddr 7 (.t 3)⟩, ⟨some 19, none, .load none (.t 18)⟩, ⟨some 20, none, .cmp .neq (.t 17) (.t 19)⟩])
     (.cond (.t 20) (.seq (.ops [⟨some 4, none, .mov (.c (.bool false))⟩])
       (.ret))
      (.skip)))
    (.seq (.ops [⟨some 4, none, .mov (.c (.bool true))⟩])
     (.ret)))))
def s_laws_eqLine : SFn := ⟨2, 21, c_laws_eqLine, [.t 4]⟩
def b_laws_szFrameS_0 : SCode :=
 .seq (.seq (.ops [⟨some 12, none, .mov (.t 5)⟩, ⟨some 13, none, .mov (.t 0)⟩, ⟨some 14, none, .len (.t 13)⟩, ⟨some 15, none, .cmp .lss (.t 12) (.t 14)⟩])
  (.cond (.t 15) (.skip)
   (.seq (.keep [1]) (.exit 0))))
 (.seq (.block 1 (.seq (.ops [⟨some 18, none, .mov (.t 0)⟩, ⟨some 19, none, .mov (.t 5)⟩, ⟨some 20, none, .ixa 4 (.t 18) (.t 19)⟩, ⟨some 21, none, .load (some 4) (.t 20)⟩, ⟨some 22, none, .mov (.t 1)⟩, ⟨some 23, none, .callr laws_szFrame [.t 21, .t 22]⟩, ⟨some 1, none, .mov (.t 23)⟩])
    (.seq (.ops [⟨some 24, none, .mov (.t 1)⟩, ⟨some 25, none, .cmp .lss (.t 24) (.c (.int .i64 0))⟩])
     (.cond (.t 25) (.seq (.ops [⟨some 4, none, .mov (.c (.int .i64 (-1)))⟩])
       (.seq (.keep [4]) .ret))
      (.skip)))))
  (.ops [⟨some 16, none, .mov (.t 5)⟩, ⟨some 17, none, .ari .add (.t 16) (.c (.int .i64 1))⟩, ⟨some 5, none, .mov (.t 17)⟩]))
/-- loop.example/g00286/laws.szFrameS -/
def c_laws_szFrameS : SCode :=
 .seq (.ops [⟨some 4, none, .mov (.c (.int .i64 0))⟩])
 (.seq (.ops [⟨some 6, none, .mov (.t 1)⟩, ⟨some 7, none, .mov (.t 0)⟩, ⟨some 8, none, .len (.t 7)⟩, ⟨some 9, none, .ari .sub (.t 6) (.t 8)⟩, ⟨some 1, none, .mov (.t 9)⟩])
  (.seq (.seq (.ops [⟨some 10, none, .mov (.t 1)⟩, ⟨some 11, none, .cmp .lss (.t 10) (.c (.int .i64 0))⟩])
    (.cond (.t 11) (.seq (.ops [⟨some 4, none, .mov (.c (.int .i64 (-1)))⟩])
      (.ret))
     (.skip)))
   (.seq (.seq (.ops [⟨some 5, none, .mov (.c (.int .i64 0))⟩])
     (.block 0 (.loop [0, 1, 5] b_laws_szFrameS_0)))
    (.seq (.ops [⟨some 26, none, .mov (.t 1)⟩, ⟨some 4, none, .mov (.t 26)⟩])
     (.ret)))))
def s_laws_szFrameS : SFn := ⟨2, 27, c_laws_szFrameS, [.t 4]⟩
def b_laws_toFrameS_0 : SCode :=
 .seq (.seq (.ops [⟨some 8, none, .mov (.t 4)⟩, ⟨some 9, none, .mov (.t 0)⟩, ⟨some 10, none, .len (.t 9)⟩, ⟨some 11, none, .cmp .lss (.t 8) (.t 10)⟩])
  (.cond (.t 11) (.skip)
   (.seq (.keep [3]) (.exit 0))))
 (.seq (.block 1 (.ops [⟨some 14, none, .mov (.t 3)⟩, ⟨some 15, none, .mov (.t 4)⟩, ⟨some 16, none, .mov (.t 0)⟩, ⟨some 17, none, .mov (.t 4)⟩, ⟨some 18, none, .ixa 4 (.t 16) (.t 17)⟩, ⟨some 19, none, .load (some 4) (.t 18)⟩, ⟨some 20, none, .call laws_toFrame [.t 19]⟩, ⟨some 21, none, .ixa 4 (.t 14) (.t 15)⟩, ⟨none, none, .store 4 (.t 21) (.t 20)⟩]))
  (.ops [⟨some 12, none, .mov (.t 4)⟩, ⟨some 13, none, .ari .add (.t 12) (.c (.int .i64 1))⟩, ⟨some 4, none, .mov (.t 13)⟩]))
/-- loop.example/g00286/laws.toFrameS -/
def c_laws_toFrameS : SCode :=
 .seq (.ops [⟨some 2, none, .mov (.n 4)⟩])
 (.seq (.ops [⟨some 5, none, .mov (.t 0)⟩, ⟨some 6, none, .len (.t 5)⟩, ⟨some 7, none, .mk 4 48 [.v (.int .i64 0), .v (.int .i64 0), .s 1 [], .v (.int .i64 0)] (.t 6)⟩, ⟨some 3, none, .mov (.t 7)⟩])
  (.seq (.seq (.ops [⟨some 4, none, .mov (.c (.int .i64 0))⟩])
    (.block 0 (.loop [0, 3, 4] b_laws_toFrameS_0)))
   (.seq (.ops [⟨some 22, none, .mov (.t 3)⟩, ⟨some 2, none, .mov (.t 22)⟩])
    (.ret))))
def s_laws_toFrameS : SFn := ⟨1, 23, c_laws_toFrameS, [.t 2]⟩
def b_laws_eqFrameS_0 : SCode :=
 .seq (.seq (.ops [⟨some 11, none, .mov (.t 5)⟩, ⟨some 12, none, .mov (.t 0)⟩, ⟨some 13, none, .len (.t 12)⟩, ⟨some 14, none, .cmp .lss (.t 11) (.t 13)⟩])
  (.cond (.t 14) (.skip)
   (.seq (.keep []) (.exit 0))))
 (.seq (.block 1 (.seq (.ops [⟨some 17, none, .mov (.t 0)⟩, ⟨some 18, none, .mov (.t 5)⟩, ⟨some 19, none, .ixa 4 (.t 17) (.t 18)⟩, ⟨some 20, none, .load (some 4) (.t 19)⟩, ⟨some 21, none, .mov (.t 1)⟩, ⟨some 22, none, .mov (.t 5)⟩, ⟨some 23, none, .ixa 4 (.t 21) (.t 22)⟩, ⟨some 24, none, .load (some 4) (.t 23)⟩, ⟨some 25, none, .callr laws_eqFrame [.t 20, .t 24]⟩, ⟨some 26, none, .not (.t 25)⟩])
    (.cond (.t 26) (.seq (.ops [⟨some 4, none, .mov (.c (.bool false))⟩])
      (.seq (.keep [4]) .ret))
     (.skip))))
  (.ops [⟨some 15, none, .mov (.t 5)⟩, ⟨some 16, none, .ari .add (.t 15) (.c (.int .i64 1))⟩, ⟨some 5, none, .mov (.t 16)⟩]))
/-- loop.example/g00286/laws.eqFrameS -/
def c_laws_eqFrameS : SCode :=
 .seq (.ops [⟨some 4, none, .mov (.c (.bool false))⟩])
 (.seq (.seq (.ops [⟨some 6, none, .mov (.t 0)⟩, ⟨some 7, none, .len (.t 6)⟩, ⟨some 8, none, .mov (.t 1)⟩, ⟨some 9, none, .len (.t 8)⟩, ⟨some 10, none, .cmp .neq (.t 7) (.t 9)⟩])
   (.cond (.t 10) (.seq (.ops [⟨some 4, none, .mov (.c (.bool false))⟩])
     (.ret))
    (.skip)))
  (.seq (.seq (.ops [⟨some 5, none, .mov (.c (.int .i64 0))⟩])
    (.block 0 (.loop [0, 1, 5] b_laws_eqFrameS_0)))
   (.seq (.ops [⟨some 4, none, .mov (.c (.bool true))⟩])
    (.ret))))
def s_laws_eqFrameS : SFn := ⟨2, 27, c_laws_eqFrameS, [.t 4]⟩
/-- loop.example/g00286/laws.szIntS -/
def c_laws_szIntS : SCode :=
 .seq (.ops [⟨some 4, none, .mov (.c (.int .i64 0))⟩])
 (.seq (.ops [⟨some 5, none, .mov (.t 1)⟩, ⟨some 6, none, .mov (.t 0)⟩, ⟨some 7, none, .len (.t 6)⟩, ⟨some 8, none, .ari .sub (.t 5) (.t 7)⟩, ⟨some 1, none, .mov (.t 8)⟩])
  (.seq (.seq (.ops [⟨some 9, none, .mov (.t 1)⟩, ⟨some 10, none, .cmp .lss (.t 9) (.c (.int .i64 0))⟩])
    (.cond (.t 10) (.seq (.ops [⟨some 4, none, .mov (.c (.int .i64 (-1)))⟩])
      (.ret))
     (.skip)))
   (.seq (.ops [⟨some 11, none, .mov (.t 1)⟩, ⟨some 4, none, .mov (.t 11)⟩])
    (.ret))))
def s_laws_szIntS : SFn := ⟨2, 12, c_laws_szIntS, [.t 4]⟩
def b_laws_szCoreS_0 : SCode :=
 .seq (.seq (.ops [⟨some 12, none, .mov (.t 5)⟩, ⟨some 13, none, .mov (.t 0)⟩, ⟨some 14, none, .len (.t 13)⟩, ⟨some 15, none, .cmp .lss (.t 12) (.t 14)⟩])
  (.cond (.t 15) (.skip)
   (.seq (.keep [1]) (.exit 0))))
 (.seq (.block 1 (.seq (.ops [⟨some 18, none, .mov (.t 0)⟩, ⟨some 19, none, .mov (.t 5)⟩, ⟨some 20, none, .ixa 3 (.t 18) (.t 19)⟩, ⟨some 21, none, .load (some 3) (.t 20)⟩, ⟨some 22, none, .mov (.t 1)⟩, ⟨some 23, none, .callr laws_szCore [.t 21, .t 22]⟩, ⟨some 1, none, .mov (.t 23)⟩])
    (.seq (.ops [⟨some 24, none, .mov (.t 1)⟩, ⟨some 25, none, .cmp .lss (.t 24) (.c (.int .i64 0))⟩])
     (.cond (.t 25) (.seq (.ops [⟨some 4, none, .mov (.c (.int .i64 (-1)))⟩])
       (.seq (.keep [4]) .ret))
      (.skip)))))
  (.ops [⟨some 16, none, .mov (.t 5)⟩, ⟨some 17, none, .ari .add (.t 16) (.c (.int .i64 1))⟩, ⟨some 5, none, .mov (.t 17)⟩]))
/-- loop.example/g00286/laws.szCoreS -/
def c_laws_szCoreS : SCode :=
 .seq (.ops [⟨some 4, none, .mov (.c (.int .i64 0))⟩])
 (.seq (.ops [⟨some 6, none, .mov (.t 1)⟩, ⟨some 7, none, .mov (.t 0)⟩, ⟨some 8, none, .len (.t 7)⟩, ⟨some 9, none, .ari .sub (.t 6) (.t 8)⟩, ⟨some 1, none, .mov (.t 9)⟩])
  (.seq (.seq (.ops [⟨some 10, none, .mov (.t 1)⟩, ⟨some 11, none, .cmp .lss (.t 10) (.c (.int .i64 0))⟩])
    (.cond (.t 11) (.seq (.ops [⟨some 4, none, .mov (.c (.int .i64 (-1)))⟩])
      (.ret))
     (.skip)))
   (.seq (.seq (.ops [⟨some 5, none, .mov (.c (.int .i64 0))⟩])
     (.block 0 (.loop [0, 1, 5] b_laws_szCoreS_0)))
    (.seq (.ops [⟨some 26, none, .mov (.t 1)⟩, ⟨some 4, none, .mov (.t 26)⟩])
     (.ret)))))
def s_laws_szCoreS : SFn := ⟨2, 27, c_laws_szCoreS, [.t 4]⟩
/-- loop.example/g00286/laws.szNoteS -/
def c_laws_szNoteS : SCode :=
 .seq (.ops [⟨some 4, none, .mov (.c (.int .i64 0))⟩])
 (.seq (.ops [⟨some 5, none, .mov (.t 1)⟩, ⟨some 6, none, .mov (.t 0)⟩, ⟨some 7, none, .len (.t 6)⟩, ⟨some 8, none, .ari .sub (.t 5) (.t 7)⟩, ⟨some 1, none, .mov (.t 8)⟩])
  (.seq (.seq (.ops [⟨some 9, none, .mov (.t 1)⟩, ⟨some 10, none, .cmp .lss (.t 9) (.c (.int .i64 0))⟩])
    (.cond (.t 10) (.seq (.ops [⟨some 4, none, .mov (.c (.int .i64 (-1)))⟩])
      (.ret))
     (.skip)))
   (.seq (.ops [⟨some 11, none, .mov (.t 1)⟩, ⟨some 4, none, .mov (.t 11)⟩])
    (.ret))))
def s_laws_szNoteS : SFn := ⟨2, 12, c_laws_szNoteS, [.t 4]⟩
def b_laws_toIntS_0 : SCode :=
 .seq (.seq (.ops [⟨some 8, none, .mov (.t 4)⟩, ⟨some 9, none, .mov (.t 0)⟩, ⟨some 10, none, .len (.t 9)⟩, ⟨some 11, none, .cmp .lss (.t 8) (.t 10)⟩])
  (.cond (.t 11) (.skip)
   (.seq (.keep [3]) (.exit 0))))
 (.seq (.block 1 (.ops [⟨some 14, none, .mov (.t 3)⟩, ⟨some 15, none, .mov (.t 4)⟩, ⟨some 16, none, .mov (.t 0)⟩, ⟨some 17, none, .mov (.t 4)⟩, ⟨some 18, none, .ixa 1 (.t 16) (.t 17)⟩, ⟨some 19, none, .load none (.t 18)⟩, ⟨some 20, none, .ixa 1 (.t 14) (.t 15)⟩, ⟨none, none, .store 1 (.t 20) (.t 19)⟩]))
  (.ops [⟨some 12, none, .mov (.t 4)⟩, ⟨some 13, none, .ari .add (.t 12) (.c (.int .i64 1))⟩, ⟨some 4, none, .mov (.t 13)⟩]))
/-- loop.example/g00286/laws.toIntS -/
def c_laws_toIntS : SCode :=
 .seq (.ops [⟨some 2, none, .mov (.n 1)⟩])
 (.seq (.ops [⟨some 5, none, .mov (.t 0)⟩, ⟨some 6, none, .len (.t 5)⟩, ⟨some 7, none, .mk 1 8 [.v (.int .i64 0)] (.t 6)⟩, ⟨some 3, none, .mov (.t 7)⟩])
  (.seq (.seq (.ops [⟨some 4, none, .mov (.c (.int .i64 0))⟩])
    (.block 0 (.loop [0, 3, 4] b_laws_toIntS_0)))
   (.seq (.ops [⟨some 21, none, .mov (.t 3)⟩, ⟨some 2, none, .mov (.t 21)⟩])
    (.ret))))
def s_laws_toIntS : SFn := ⟨1, 22, c_laws_toIntS, [.t 2]⟩
def b_laws_toCoreS_0 : SCode :=
 .seq (.seq (.ops [⟨some 8, none, .mov (.t 4)⟩, ⟨some 9, none, .mov (.t 0)⟩, ⟨some 10, none, .len (.t 9)⟩, ⟨some 11, none, .cmp .lss (.t 8) (.t 10)⟩])
  (.cond (.t 11) (.skip)
   (.seq (.keep [3]) (.exit 0))))
 (.seq (.block 1 (.ops [⟨some 14, none, .mov (.t 3)⟩, ⟨some 15, none, .mov (.t 4)⟩, ⟨some 16, none, .mov (.t 0)⟩, ⟨some 17, none, .mov (.t 4)⟩, ⟨some 18, none, .ixa 3 (.t 16) (.t 17)⟩, ⟨some 19, none, .load (some 3) (.t 18)⟩, ⟨some 20, none, .call laws_toCore [.t 19]⟩, ⟨some 21, none, .ixa 3 (.t 14) (.t 15)⟩, ⟨none, none, .store 3 (.t 21) (.t 20)⟩]))
  (.ops [⟨some 12, none, .mov (.t 4)⟩, ⟨some 13, none, .ari .add (.t 12) (.c (.int .i64 1))⟩, ⟨some 4, none, .mov (.t 13)⟩]))
/-- loop.example/g00286/laws.toCoreS -/
def c_laws_toCoreS : SCode :=
 .seq (.ops [⟨some 2, none, .mov (.n 3)⟩])
 (.seq (.ops [⟨some 5, none, .mov (.t 0)⟩, ⟨some 6, none, .len (.t 5)⟩, ⟨some 7, none, .mk 3 40 [.v (.int .i64 0), .v (.int .i64 0), .s 1 []] (.t 6)⟩, ⟨some 3, none, .mov (.t 7)⟩])
  (.seq (.seq (.ops [⟨some 4, none, .mov (.c (.int .i64 0))⟩])
    (.block 0 (.loop [0, 3, 4] b_laws_toCoreS_0)))
   (.seq (.ops [⟨some 22, none, .mov (.t 3)⟩, ⟨some 2, none, .mov (.t 22)⟩])
    (.ret))))
def s_laws_toCoreS : SFn := ⟨1, 23, c_laws_toCoreS, [.t 2]⟩
def b_laws_toNoteS_0 : SCode :=
 .seq (.seq (.ops [⟨some 8, none, .mov (.t 4)⟩, ⟨some 9, none, .mov (.t 0)⟩, ⟨some 10, none, .len (.t 9)⟩, ⟨some 11, none, .cmp .lss (.t 8) (.t 10)⟩])
  (.cond (.t 11) (.skip)
   (.seq (.keep [3]) (.exit 0))))
 (.seq (.block 1 (.ops [⟨some 14, none, .mov (.t 3)⟩, ⟨some 15, none, .mov (.t 4)⟩, ⟨some 16, none, .mov (.t 0)⟩, ⟨some 17, none, .mov (.t 4)⟩, ⟨some 18, none, .ixa 2 (.t 16) (.t 17)⟩, ⟨some 19, none, .load (some 2) (.t 18)⟩, ⟨some 20, none, .callr laws_toNote [.t 19]⟩, ⟨some 21, none, .ixa 2 (.t 14) (.t 15)⟩, ⟨none, none, .store 2 (.t 21) (.t 20)⟩]))
  (.ops [⟨some 12, none, .mov (.t 4)⟩, ⟨some 13, none, .ari .add (.t 12) (.c (.int .i64 1))⟩, ⟨some 4, none, .mov (.t 13)⟩]))
/-- loop.example/g00286/laws.toNoteS -/
def c_laws_toNoteS : SCode :=
 .seq (.ops [⟨some 2, none, .mov (.n 2)⟩])
 (.seq (.ops [⟨some 5, none, .mov (.t 0)⟩, ⟨some 6, none, .len (.t 5)⟩, ⟨some 7, none, .mk 2 16 [.v (.int .i64 0), .v (.int .i64 0)] (.t 6)⟩, ⟨some 3, none, .mov (.t 7)⟩])
  (.seq (.seq (.ops [⟨some 4, none, .mov (.c (.int .i64 0))⟩])
    (.block 0 (.loop [0, 3, 4] b_laws_toNoteS_0)))
   (.seq (.ops [⟨some 22, none, .mov (.t 3)⟩, ⟨some 2, none, .mov (.t 22)⟩])
    (.ret))))
def s_laws_toNoteS : SFn := ⟨1, 23, c_laws_toNoteS, [.t 2]⟩
def b_laws_eqCoreS_0 : SCode :=
 .seq (.seq (.ops [⟨some 11, none, .mov (.t 5)⟩, ⟨some 12, none, .mov (.t 0)⟩, ⟨some 13, none, .len (.t 12)⟩, ⟨some 14, none, .cmp .lss (.t 11) (.t 13)⟩])
  (.cond (.t 14) (.skip)
   (.seq (.keep []) (.exit 0))))
 (.seq (.block 1 (.seq (.ops [⟨some 17, none, .mov (.t 0)⟩, ⟨some 18, none, .mov (.t 5)⟩, ⟨some 19, none, .ixa 3 (.t 17) (.t 18)⟩, ⟨some 20, none, .load (some 3) (.t 19)⟩, ⟨some 21, none, .mov (.t 1)⟩, ⟨some 22, none, .mov (.t 5)⟩, ⟨some 23, none, .ixa 3 (.t 21) (.t 22)⟩, ⟨some 24, none, .load (some 3) (.t 23)⟩, ⟨some 25, none, .callr laws_eqCore [.t 20, .t 24]⟩, ⟨some 26, none, .not (.t 25)⟩])
    (.cond (.t 26) (.seq (.ops [⟨some 4, none, .mov (.c (.bool false))⟩])
      (.seq (.keep [4]) .ret))
     (.skip))))
  (.ops [⟨some 15, none, .mov (.t 5)⟩, ⟨some 16, none, .ari .add (.t 15) (.c (.int .i64 1))⟩, ⟨some 5, none, .mov (.t 16)⟩]))
/-- loop.example/g00286/laws.eqCoreS -/
def c_laws_eqCoreS : SCode :=
 .seq (.ops [⟨some 4, none, .mov (.c (.bool false))⟩])
 (.seq (.seq (.ops [⟨some 6, none, .mov (.t 0)⟩, ⟨some 7, none, .len (.t 6)⟩, ⟨some 8, none, .mov (.t 1)⟩, ⟨some 9, none, .len (.t 8)⟩, ⟨some 10, none, .cmp .neq (.t 7) (.t 9)⟩])
   (.cond (.t 10) (.seq (.ops [⟨some 4, none, .mov (.c (.bool false))⟩])
     (.ret))
    (.skip)))
  (.seq (.seq (.ops [⟨some 5, none, .mov (.c (.int .i64 0))⟩])
    (.block 0 (.loop [0, 1, 5] b_laws_eqCoreS_0)))
   (.seq (.ops [⟨some 4, none, .mov (.c (.bool true))⟩])
    (.ret))))
def s_laws_eqCoreS : SFn := ⟨2, 27, c_laws_eqCoreS, [.t 4]⟩
def b_laws_eqNoteS_0 : SCode :=
 .seq (.seq (.ops [⟨some 11, none, .mov (.t 5)⟩, ⟨some 12, none, .mov (.t 0)⟩, ⟨some 13, none, .len (.t 12)⟩, ⟨some 14, none, .cmp .lss (.t 11) (.t 13)⟩])
  (.cond (.t 14) (.skip)
   (.seq (.keep []) (.exit 0))))
 (.seq (.block 1 (.seq (.ops [⟨some 17, none, .mov (.t 0)⟩, ⟨some 18, none, .mov (.t 5)⟩, ⟨some 19, none, .ixa 2 (.t 17) (.t 18)⟩, ⟨some 20, none, .load (some 2) (.t 19)⟩, ⟨some 21, none, .mov (.t 1)⟩, ⟨some 22, none, .mov (.t 5)⟩, ⟨some 23, none, .ixa 2 (.t 21) (.t 22)⟩, ⟨some 24, none, .load (some 2) (.t 23)⟩, ⟨some 25, none, .callr laws_eqNote [.t 20, .t 24]⟩, ⟨some 26, none, .not (.t 25)⟩])
    (.cond (.t 26) (.seq (.ops [⟨some 4, none, .mov (.c (.bool false))⟩])
      (.seq (.keep [4]) .ret))
     (.skip))))
  (.ops [⟨some 15, none, .mov (.t 5)⟩, ⟨some 16, none, .ari .add (.t 15) (.c (.int .i64 1))⟩, ⟨some 5, none, .mov (.t 16)⟩]))
/-- loop.example/g00286/laws.eqNoteS -/
def c_laws_eqNoteS : SCode :=
 .seq (.ops [⟨some 4, none, .mov (.c (.bool false))⟩])
 (.seq (.seq (.ops [⟨some 6, none, .mov (.t 0)⟩, ⟨some 7, none, .len (.t 6)⟩, ⟨some 8, none, .mov (.t 1)⟩, ⟨some 9, none, .len (.t 8)⟩, ⟨some 10, none, .cmp .neq (.t 7) (.t 9)⟩])
   (.cond (.t 10) (.seq (.ops [⟨some 4, none, .mov (.c (.bool false))⟩])
     (.ret))
    (.skip)))
  (.seq (.seq (.ops [⟨some 5, none, .mov (.c (.int .i64 0))⟩])
    (.block 0 (.loop [0, 1, 5] b_laws_eqNoteS_0)))
   (.seq (.ops [⟨some 4, none, .mov (.c (.bool true))⟩])
    (.ret))))
def s_laws_eqNoteS : SFn := ⟨2, 27, c_laws_eqNoteS, [.t 4]⟩
/-- loop.example/g00286/spec.l26Body -/
def c_spec_l26Body : SCode :=
 .seq (.ops [⟨some 2, none, .mov (.c (.int .i64 0))⟩])
 (.seq (.ops [⟨some 4, none, .mov (.t 0)⟩, ⟨some 5, none, .ari .sub (.t 4) (.c (.int .i64 1000))⟩, ⟨some 6, none, .ari .quo (.t 5) (.c (.int .i64 200))⟩, ⟨some 3, none, .mov (.t 6)⟩])
  (.seq (.seq (.ops [⟨some 7, none, .mov (.t 0)⟩, ⟨some 8, none, .cmp .lss (.t 7) (.c (.int .i64 1000))⟩, ⟨some 9, none, .mov (.t 8)⟩, ⟨some 10, (some (9, false)), .mov (.t 3)⟩, ⟨some 11, (some (9, false)), .cmp .geq (.t 10) (.c (.int .i64 6))⟩, ⟨some 12, none, .pick (.t 9) (.c (.bool true)) (.t 11)⟩, ⟨some 13, none, .mov (.t 12)⟩, ⟨some 14, (some (13, false)), .mov (.t 3)⟩, ⟨some 15, (some (13, false)), .ari .mul (.t 14) (.c (.int .i64 200))⟩, ⟨some 16, (some (13, false)), .ari .add (.c (.int .i64 1000)) (.t 15)⟩, ⟨some 17, (some (13, false)), .mov (.t 0)⟩, ⟨some 18, (some (13, false)), .cmp .neq (.t 16) (.t 17)⟩, ⟨some 19, none, .pick (.t 13) (.c (.bool true)) (.t 18)⟩])
    (.cond (.t 19) (.seq (.ops [⟨some 2, none, .mov (.c (.int .i64 (-1)))⟩])
      (.ret))
     (.skip)))
   (.seq (.ops [⟨some 20, none, .mov (.t 3)⟩, ⟨some 2, none, .mov (.t 20)⟩])
    (.ret))))
def s_spec_l26Body : SFn := ⟨1, 21, c_spec_l26Body, [.t 2]⟩
/-- loop.example/g00286/impl.bodyOf -/
def c_impl_bodyOf : SCode :=
 .seq (.ops [⟨some 2, none, .mov (.c (.int .i64 0))⟩])
 (.seq (.ops [⟨some 4, none, .mov (.t 0)⟩, ⟨some 5, none, .ari .sub (.t 4) (.c (.int .i64 1000))⟩, ⟨some 3, none, .mov (.t 5)⟩])
  (.seq (.seq (.ops [⟨some 6, none, .mov (.t 3)⟩, ⟨some 7, none, .cmp .lss (.t 6) (.c (.int .i64 0))⟩, ⟨some 8, none, .mov (.t 7)⟩, ⟨some 9, (some (8, false)), .mov (.t 3)⟩, ⟨some 10, (some (8, false)), .ari .rem (.t 9) (.c (.int .i64 200))⟩, ⟨some 11, (some (8, false)), .cmp .neq (.t 10) (.c (.int .i64 0))⟩, ⟨some 12, none, .pick (.t 8) (.c (.bool true)) (.t 11)⟩, ⟨some 13, none, .mov (.t 12)⟩, ⟨some 14, (some (13, false)), .mov (.t 3)⟩, ⟨some 15, (some (13, false)), .ari .quo (.t 14) (.c (.int .i64 200))⟩, ⟨some 16, (some (13, false)), .cmp .geq (.t 15) (.c (.int .i64 6))⟩, ⟨some 17, none, .pick (.t 13) (.c (.bool true)) (.t 16)⟩])
    (.cond (.t 17) (.seq (.ops [⟨some 2, none, .mov (.c (.int .i64 (-1)))⟩])
      (.ret))
     (.skip)))
   (.seq (.ops [⟨some 18, none, .mov (.t 3)⟩, ⟨some 19, none, .ari .quo (.t 18) (.c (.int .i64 200))⟩, ⟨some 2, none, .mov (.t 19)⟩])
    (.ret))))
def s_impl_bodyOf : SFn := ⟨1, 20, c_impl_bodyOf, [.t 2]⟩
def b_laws_markInsS_0 : SCode :=
 .seq (.seq (.ops [⟨some 6, none, .mov (.t 5)⟩, ⟨some 7, none, .mov (.t 0)⟩, ⟨some 8, none, .len (.t 7)⟩, ⟨some 9, none, .cmp .lss (.t 6) (.t 8)⟩])
  (.cond (.t 9) (.skip)
   (.seq (.keep [1]) (.exit 0))))
 (.seq (.block 1 (.seq (.ops [⟨some 12, none, .mov (.t 0)⟩, ⟨some 13, none, .mov (.t 5)⟩, ⟨some 14, none, .mov (.t 1)⟩, ⟨some 15, none, .ixa 6 (.t 12) (.t 13)⟩, ⟨some 16, none, .faddr 0 (.t 15)⟩, ⟨none, none, .store 1 (.t 16) (.t 14)⟩])
    (.seq (.ops [⟨some 17, none, .mov (.t 1)⟩, ⟨some 18, none, .ari .add (.t 17) (.c (.int .i64 1))⟩, ⟨some 1, none, .mov (.t 18)⟩])
     (.seq (.ops [⟨some 19, none, .mov (.t 0)⟩, ⟨some 20, none, .mov (.t 5)⟩, ⟨some 21, none, .mov (.t 1)⟩, ⟨some 22, none, .ixa 6 (.t 19) (.t 20)⟩, ⟨some 23, none, .faddr 1 (.t 22)⟩, ⟨none, none, .store 1 (.t 23) (.t 21)⟩])
      (.seq (.ops [⟨some 24, none, .mov (.t 1)⟩, ⟨some 25, none, .ari .add (.t 24) (.c (.int .i64 1))⟩, ⟨some 1, none, .mov (.t 25)⟩])
       (.seq (.ops [⟨some 26, none, .mov (.t 0)⟩, ⟨some 27, none, .mov (.t 5)⟩, ⟨some 28, none, .mov (.t 1)⟩, ⟨some 29, none, .ixa 6 (.t 26) (.t 27)⟩, ⟨some 30, none, .faddr 2 (.t 29)⟩, ⟨none, none, .store 1 (.t 30) (.t 28)⟩])
        (.seq (.ops [⟨some 31, none, .mov (.t 1)⟩, ⟨some 32, none, .ari .add (.t 31) (.c (.int .i64 1))⟩, ⟨some 1, none, .mov (.t 32)⟩])
         (.seq (.ops [⟨some 33, none, .mov (.t 0)⟩, ⟨some 34, none, .mov (.t 5)⟩, ⟨some 35, none, .mov (.t 1)⟩, ⟨some 36, none, .ixa 6 (.t 33) (.t 34)⟩, ⟨some 37, none, .faddr 3 (.t 36)⟩, ⟨none, none, .store 1 (.t 37) (.t 35)⟩])
          (.seq (.ops [⟨some 38, none, .mov (.t 1)⟩, ⟨some 39, none, .ari .add (.t 38) (.c (.int .i64 1))⟩, ⟨some 1, none, .mov (.t 39)⟩])
           (.seq (.ops [⟨some 40, none, .mov (.t 0)⟩, ⟨some 41, none, .mov (.t 5)⟩, ⟨some 42, none, .mov (.t 1)⟩, ⟨some 43, none, .ixa 6 (.t 40) (.t 41)⟩, ⟨some 44, none, .faddr 4 (.t 43)⟩, ⟨none, none, .store 1 (.t 44) (.t 42)⟩])
            (.seq (.ops [⟨some 45, none, .mov (.t 1)⟩, ⟨some 46, none, .ari .add (.t 45) (.c (.int .i64 1))⟩, ⟨some 1, none, .mov (.t 46)⟩])
             (.seq (.ops [⟨some 47, none, .mov (.t 0)⟩, ⟨some 48, none, .mov (.t 5)⟩, ⟨some 49, none, .mov (.t 1)⟩, ⟨some 50, none, .ixa 6 (.t 47) (.t 48)⟩, ⟨some 51, none, .faddr 5 (.t 50)⟩, ⟨none, none, .store 1 (.t 51) (.t 49)⟩])
              (.ops [⟨some 52, none, .mov (.t 1)⟩, ⟨some 53, none, .ari .add (.t 52) (.c (.int .i64 1))⟩, ⟨some 1, none, .mov (.t 53)⟩])))))))))))))
  (.ops [⟨some 10, none, .mov (.t 5)⟩, ⟨some 11, none, .ari .add (.t 10) (.c (.int .i64 1))⟩, ⟨some 5, none, .mov (.t 11)⟩]))
/-- loop.example/g00286/laws.markInsS -/
def c_laws_markInsS : SCode :=
 .seq (.ops [⟨some 4, none, .mov (.c (.int .i64 0))⟩])
 (.seq (.seq (.ops [⟨some 5, none, .mov (.c (.int .i64 0))⟩])
   (.block 0 (.loop [0, 1, 5] b_laws_markInsS_0)))
  (.seq (.ops [⟨some 54, none, .mov (.t 1)⟩, ⟨some 4, none, .mov (.t 54)⟩])
   (.ret)))
def s_laws_markInsS : SFn := ⟨2, 55, c_laws_markInsS, [.t 4]⟩
def b_laws_markCoreS_0 : SCode :=
 .seq (.seq (.ops [⟨some 6, none, .mov (.t 5)⟩, ⟨some 7, none, .mov (.t 0)⟩, ⟨some 8, none, .len (.t 7)⟩, ⟨some 9, none, .cmp .lss (.t 6) (.t 8)⟩])
  (.cond (.t 9) (.skip)
   (.seq (.keep [1]) (.exit 0))))
 (.seq (.block 1 (.seq (.ops [⟨some 12, none, .mov (.t 0)⟩, ⟨some 13, none, .mov (.t 5)⟩, ⟨some 14, none, .mov (.t 1)⟩, ⟨some 15, none, .ixa 3 (.t 12) (.t 13)⟩, ⟨some 16, none, .faddr 0 (.t 15)⟩, ⟨none, none, .store 1 (.t 16) (.t 14)⟩])
    (.seq (.ops [⟨some 17, none, .mov (.t 1)⟩, ⟨some 18, none, .ari .add (.t 17) (.c (.int .i64 1))⟩, ⟨some 1, none, .mov (.t 18)⟩])
     (.seq (.ops [⟨some 19, none, .mov (.t 0)⟩, ⟨some 20, none, .mov (.t 5)⟩, ⟨some 21, none, .mov (.t 1)⟩, ⟨some 22, none, .ixa 3 (.t 19) (.t 20)⟩, ⟨some 23, none, .faddr 1 (.t 22)⟩, ⟨none, none, .store 1 (.t 23) (.t 21)⟩])
      (.seq (.ops [⟨some 24, none, .mov (.t 1)⟩, ⟨some 25, none, .ari .add (.t 24) (.c (.int .i64 1))⟩, ⟨some 1, none, .mov (.t 25)⟩])
       (.ops [⟨some 26, none, .mov (.t 0)⟩, ⟨some 27, none, .mov (.t 5)⟩, ⟨some 28, none, .ixa 3 (.t 26) (.t 27)⟩, ⟨some 29, none, .faddr 2 (.t 28)⟩, ⟨some 30, none, .load none (.t 29)⟩, ⟨some 31, none, .mov (.t 1)⟩, ⟨some 32, none, .callb laws_markIntS [.t 30, .t 31] [true, false]⟩, ⟨some 1, none, .mov (.t 32)⟩]))))))
  (.ops [⟨some 10, none, .mov (.t 5)⟩, ⟨some 11, none, .ari .add (.t 10) (.c (.int .i64 1))⟩, ⟨some 5, none, .mov (.t 11)⟩]))
/-- loop.example/g00286/laws.markCoreS -/
def c_laws_markCoreS : SCode :=
 .seq (.ops [⟨some 4, none, .mov (.c (.int .i64 0))⟩])
 (.seq (.seq (.ops [⟨some 5, none, .mov (.c (.int .i64 0))⟩])
   (.block 0 (.loop [0, 1, 5] b_laws_markCoreS_0)))
  (.seq (.ops [⟨some 33, none, .mov (.t 1)⟩, ⟨some 4, none, .mov (.t 33)⟩])
   (.ret)))
def s_laws_markCoreS : SFn := ⟨2, 34, c_laws_markCoreS, [.t 4]⟩
def b_laws_markNoteS_0 : SCode :=
 .seq (.seq (.ops [⟨some 6, none, .mov (.t 5)⟩, ⟨some 7, none, .mov (.t 0)⟩, ⟨some 8, none, .len (.t 7)⟩, ⟨some 9, none, .cmp .lss (.t 6) (.t 8)⟩])
  (.cond (.t 9) (.skip)
   (.seq (.keep [1]) (.exit 0))))
 (.seq (.block 1 (.seq (.ops [⟨some 12, none, .mov (.t 0)⟩, ⟨some 13, none, .mov (.t 5)⟩, ⟨some 14, none, .mov (.t 1)⟩, ⟨some 15, none, .ixa 2 (.t 12) (.t 13)⟩, ⟨some 16, none, .faddr 0 (.t 15)⟩, ⟨none, none, .store 1 (.t 16) (.t 14)⟩])
    (.seq (.ops [⟨some 17, none, .mov (.t 1)⟩, ⟨some 18, none, .ari .add (.t 17) (.c (.int .i64 1))⟩, ⟨some 1, none, .mov (.t 18)⟩])
     (.seq (.ops [⟨some 19, none, .mov (.t 0)⟩, ⟨some 20, none, .mov (.t 5)⟩, ⟨some 21, none, .mov (.t 1)⟩, ⟨some 22, none, .ixa 2 (.t 19) (.t 20)⟩, ⟨some 23, none, .faddr 1 (.t 22)⟩, ⟨none, none, .store 1 (.t 23) (.t 21)⟩])
      (.ops [⟨some 24, none, .mov (.t 1)⟩, ⟨some 25, none, .ari .add (.t 24) (.c (.int .i64 1))⟩, ⟨some 1, none, .mov (.t 25)⟩])))))
  (.ops [⟨some 10, none, .mov (.t 5)⟩, ⟨some 11, none, .ari .add (.t 10) (.c (.int .i64 1))⟩, ⟨some 5, none, .mov (.t 11)⟩]))
/-- loop.example/g00286/laws.markNoteS -/
def c_laws_markNoteS : SCode :=
 .seq (.ops [⟨some 4, none, .mov (.c (.int .i64 0))⟩])
 (.seq (.seq (.ops [⟨some 5, none, .mov (.c (.int .i64 0))⟩])
   (.block 0 (.loop [0, 1, 5] b_laws_markNoteS_0)))
  (.seq (.ops [⟨some 26, none, .mov (.t 1)⟩, ⟨some 4, none, .mov (.t 26)⟩])
   (.ret)))
def s_laws_markNoteS : SFn := ⟨2, 27, c_laws_markNoteS, [.t 4]⟩
/-- loop.example/g00286/laws.szFrame -/
def c_laws_szFrame : SCode :=
 .seq (.ops [⟨some 2, none, .vbox 4 (.t 0)⟩, ⟨some 4, none, .mov (.c (.int .i64 0))⟩])
 (.seq (.ops [⟨some 5, none, .faddr 2 (.t 2)⟩, ⟨some 6, none, .load none (.t 5)⟩, ⟨some 7, none, .mov (.t 1)⟩, ⟨some 8, none, .callr laws_szIntS [.t 6, .t 7]⟩, ⟨some 1, none, .mov (.t 8)⟩])
  (.seq (.seq (.ops [⟨some 9, none, .mov (.t 1)⟩, ⟨some 10, none, .cmp .lss (.t 9) (.c (.int .i64 0))⟩])
    (.cond (.t 10) (.seq (.ops [⟨some 4, none, .mov (.c (.int .i64 (-1)))⟩])
      (.ret))
     (.skip)))
   (.seq (.ops [⟨some 11, none, .mov (.t 1)⟩, ⟨some 4, none, .mov (.t 11)⟩])
    (.ret))))
def s_laws_szFrame : SFn := ⟨2, 12, c_laws_szFrame, [.t 4]⟩
/-- loop.example/g00286/laws.toFrame -/
def c_laws_toFrame : SCode :=
 .seq (.ops [⟨some 1, none, .vbox 4 (.t 0)⟩, ⟨some 2, none, .alloc [.v (.int .i64 0), .v (.int .i64 0), .s 1 [], .v (.int .i64 0)]⟩])
 (.seq (.ops [⟨some 3, none, .alloc [.v (.int .i64 0), .v (.int .i64 0), .s 1 [], .v (.int .i64 0)]⟩])
  (.seq (.ops [⟨some 4, none, .faddr 0 (.t 1)⟩, ⟨some 5, none, .load none (.t 4)⟩, ⟨some 6, none, .faddr 0 (.t 3)⟩, ⟨none, none, .store 1 (.t 6) (.t 5)⟩])
   (.seq (.ops [⟨some 7, none, .faddr 1 (.t 1)⟩, ⟨some 8, none, .load none (.t 7)⟩, ⟨some 9, none, .faddr 1 (.t 3)⟩, ⟨none, none, .store 1 (.t 9) (.t 8)⟩])
    (.seq (.ops [⟨some 10, none, .faddr 2 (.t 1)⟩, ⟨some 11, none, .load none (.t 10)⟩, ⟨some 12, none, .call laws_toIntS [.t 11]⟩, ⟨some 13, none, .faddr 2 (.t 3)⟩, ⟨none, none, .store 1 (.t 13) (.t 12)⟩])
     (.seq (.ops [⟨some 14, none, .faddr 3 (.t 1)⟩, ⟨some 15, none, .load none (.t 14)⟩, ⟨some 16, none, .faddr 3 (.t 3)⟩, ⟨none, none, .store 1 (.t 16) (.t 15)⟩])
      (.seq (.ops [⟨some 17, none, .load (some 4) (.t 3)⟩, ⟨none, none, .store 4 (.t 2) (.t 17)⟩])
       (.ret)))))))
def s_laws_toFrame : SFn := ⟨1, 18, c_laws_toFrame, [.c 2 (some 4)]⟩
/-- loop.example/g00286/laws.eqFrame -/
def c_laws_eqFrame : SCode :=
 .seq (.ops [⟨some 2, none, .vbox 4 (.t 0)⟩, ⟨some 3, none, .vbox 4 (.t 1)⟩, ⟨some 4, none, .mov (.c (.bool false))⟩])
 (.seq (.seq (.ops [⟨some 5, none, .faddr 0 (.t 2)⟩, ⟨some 6, none, .load none (.t 5)⟩, ⟨some 7, none, .faddr 0 (.t 3)⟩, ⟨some 8, none, .load none (.t 7)⟩, ⟨some 9, none, .cmp .neq (.t 6) (.t 8)⟩])
   (.cond (.t 9) (.seq (.ops [⟨some 4, none, .mov (.c (.bool false))⟩])
     (.ret))
    (.skip)))
  (.seq (.seq (.ops [⟨some 10, none, .faddr 1 (.t 2)⟩, ⟨some 11, none, .load none (.t 10)⟩, ⟨some 12, none, .faddr 1 (.t 3)⟩, ⟨some 13, none, .load none (.t 12)⟩, ⟨some 14, none, .cmp .neq (.t 11) (.t 13)⟩])
    (.cond (.t 14) (.seq (.ops [⟨some 4, none, .mov (.c (.bool false))⟩])
      (.ret))
     (.skip)))
   (.seq (.seq (.ops [⟨some 15, none, .faddr 2 (.t 2)⟩, ⟨some 16, none, .load none (.t 15)⟩, ⟨some 17, none, .faddr 2 (.t 3)⟩, ⟨some 18, none, .load none (.t 17)⟩, ⟨some 19, none, .callr laws_eqIntS [.t 16, .t 18]⟩, ⟨some 20, none, .not (.t 19)⟩])
     (.cond (.t 20) (.seq (.ops [⟨some 4, none, .mov (.c (.bool false))⟩])
       (.ret))
      (.skip)))
    (.seq (.seq (.ops [⟨some 21, none, .faddr 3 (.t 2)⟩, ⟨some 22, none, .load none (.t 21)⟩, ⟨some 23, none, .faddr 3 (.t 3)⟩, ⟨some 24, none, .load none (.t 23)⟩, ⟨some 25, none, .cmp .neq (.t 22) (.t 24)⟩])
      (.cond (.t 25) (.seq (.ops [⟨some 4, none, .mov (.c (.bool false))⟩])
        (.ret))
       (.skip)))
     (.seq (.ops [⟨some 4, none, .mov (.c (.bool true))⟩])
      (.ret))))))
def s_laws_eqFrame : SFn := ⟨2, 26, c_laws_eqFrame, [.t 4]⟩
/-- loop.example/g00286/laws.szCore -/
def c_laws_szCore : SCode :=
 .seq (.ops [⟨some 2, none, .vbox 3 (.t 0)⟩, ⟨some 4, none, .mov (.c (.int .i64 0))⟩])
 (.seq (.ops [⟨some 5, none, .faddr 2 (.t 2)⟩, ⟨some 6, none, .load none (.t 5)⟩, ⟨some 7, none, .mov (.t 1)⟩, ⟨some 8, none, .callr laws_szIntS [.t 6, .t 7]⟩, ⟨some 1, none, .mov (.t 8)⟩])
  (.seq (.seq (.ops [⟨some 9, none, .mov (.t 1)⟩, ⟨some 10, none, .cmp .lss (.t 9) (.c (.int .i64 0))⟩])
    (.cond (.t 10) (.seq (.ops [⟨some 4, none, .mov (.c (.int .i64 (-1)))⟩])
      (.ret))
     (.skip)))
   (.seq (.ops [⟨some 11, none, .mov (.t 1)⟩, ⟨some 4, none, .mov (.t 11)⟩])
    (.ret))))
def s_laws_szCore : SFn := ⟨2, 12, c_laws_szCore, [.t 4]⟩
/-- loop.example/g00286/laws.toCore -/
def c_laws_toCore : SCode :=
 .seq (.ops [⟨some 1, none, .vbox 3 (.t 0)⟩, ⟨some 2, none, .alloc [.v (.int .i64 0), .v (.int .i64 0), .s 1 []]⟩])
 (.seq (.ops [⟨some 3, none, .alloc [.v (.int .i64 0), .v (.int .i64 0), .s 1 []]⟩])
  (.seq (.ops [⟨some 4, none, .faddr 0 (.t 1)⟩, ⟨some 5, none, .load none (.t 4)⟩, ⟨some 6, none, .faddr 0 (.t 3)⟩, ⟨none, none, .store 1 (.t 6) (.t 5)⟩])
   (.seq (.ops [⟨some 7, none, .faddr 1 (.t 1)⟩, ⟨some 8, none, .load none (.t 7)⟩, ⟨some 9, none, .faddr 1 (.t 3)⟩, ⟨none, none, .store 1 (.t 9) (.t 8)⟩])
    (.seq (.ops [⟨some 10, none, .faddr 2 (.t 1)⟩, ⟨some 11, none, .load none (.t 10)⟩, ⟨some 12, none, .call laws_toIntS [.t 11]⟩, ⟨some 13, none, .faddr 2 (.t 3)⟩, ⟨none, none, .store 1 (.t 13) (.t 12)⟩])
     (.seq (.ops [⟨some 14, none, .load (some 3) (.t 3)⟩, ⟨none, none, .store 3 (.t 2) (.t 14)⟩])
      (.ret))))))
def s_laws_toCore : SFn := ⟨1, 15, c_laws_toCore, [.c 2 (some 3)]⟩
/-- loop.example/g00286/laws.eqCore -/
def c_laws_eqCore : SCode :=
 .seq (.ops [⟨some 2, none, .vbox 3 (.t 0)⟩, ⟨some 3, none, .vbox 3 (.t 1)⟩, ⟨some 4, none, .mov (.c (.bool false))⟩])
 (.seq (.seq (.ops [⟨some 5, none, .faddr 0 (.t 2)⟩, ⟨some 6, none, .load none (.t 5)⟩, ⟨some 7, none, .faddr 0 (.t 3)⟩, ⟨some 8, none, .load none (.t 7)⟩, ⟨some 9, none, .cmp .neq (.t 6) (.t 8)⟩])
   (.cond (.t 9) (.seq (.ops [⟨some 4, none, .mov (.c (.bool false))⟩])
     (.ret))
    (.skip)))
  (.seq (.seq (.ops [⟨some 10, none, .faddr 1 (.t 2)⟩, ⟨some 11, none, .load none (.t 10)⟩, ⟨some 12, none, .faddr 1 (.t 3)⟩, ⟨some 13, none, .load none (.t 12)⟩, ⟨some 14, none, .cmp .neq (.t 11) (.t 13)⟩])
    (.cond (.t 14) (.seq (.ops [⟨some 4, none, .mov (.c (.bool false))⟩])
      (.ret))
     (.skip)))
   (.seq (.seq (.ops [⟨some 15, none, .faddr 2 (.t 2)⟩, ⟨some 16, none, .load none (.t 15)⟩, ⟨some 17, none, .faddr 2 (.t 3)⟩, ⟨some 18, none, .load none (.t 17)⟩, ⟨some 19, none, .callr laws_eqIntS [.t 16, .t 18]⟩, ⟨some 20, none, .not (.t 19)⟩])
     (.cond (.t 20) (.seq (.ops [⟨some 4, none, .mov (.c (.bool false))⟩])
       (.ret))
      (.skip)))
    (.seq (.ops [⟨some 4, none, .mov (.c (.bool true))⟩])
     (.ret)))))
def s_laws_eqCore : SFn := ⟨2, 21, c_laws_eqCore, [.t 4]⟩
/-- loop.example/g00286/laws.eqNote -/
def c_laws_eqNote : SCode :=
 .seq (.ops [⟨some 2, none, .vbox 2 (.t 0)⟩, ⟨some 3, none, .vbox 2 (.t 1)⟩, ⟨some 4, none, .mov (.c (.bool false))⟩])
 (.seq (.seq (.ops [⟨some 5, none, .faddr 0 (.t 2)⟩, ⟨some 6, none, .load none (.t 5)⟩, ⟨some 7, none, .faddr 0 (.t 3)⟩, ⟨some 8, none, .load none (.t 7)⟩, ⟨some 9, none, .cmp .neq (.t 6) (.t 8)⟩])
   (.cond (.t 9) (.seq (.ops [⟨some 4, none, .mov (.c (.bool false))⟩])
     (.ret))
    (.skip)))
  (.seq (.seq (.ops [⟨some 10, none, .faddr 1 (.t 2)⟩, ⟨some 11, none, .load none (.t 10)⟩, ⟨some 12, none, .faddr 1 (.t 3)⟩, ⟨some 13, none, .load none (.t 12)⟩, ⟨some 14, none, .cmp .neq (.t 11) (.t 13)⟩])
    (.cond (.t 14) (.seq (.ops [⟨some 4, none, .mov (.c (.bool false))⟩])
      (.ret))
     (.skip)))
   (.seq (.ops [⟨some 4, none, .mov (.c (.bool true))⟩])
    (.ret))))
def s_laws_eqNote : SFn := ⟨2, 15, c_laws_eqNote, [.t 4]⟩
def tabL : List (Nat × SFn) := [(3, s_laws_FnExactNoteText), (4, s_laws_FnExactImageText), (5, s_laws_FnExactPlaceOf), (6, s_laws_FnExactBodyText), (7, s_laws_FnExactLocked), (8, s_laws_FnExactOnCores), (9, s_spec_NoteText), (10, s_laws_toNote), (11, s_impl_NoteText), (12, s_laws_szInsS), (13, s_spec_ImageText), (14, s_laws_toInsS), (15, s_impl_ImageText), (16, s_laws_eqInsS), (17, s_laws_szLineS), (18, s_spec_PlaceOf), (19, s_laws_toLineS), (20, s_impl_PlaceOf), (21, s_laws_eqLineS), (22, s_laws_szBody), (23, s_spec_BodyText), (24, s_laws_toBody), (25, s_impl_BodyText), (26, s_laws_eqBody), (27, s_laws_szMachine), (28, s_spec_Locked), (29, s_laws_toMachine), (30, s_impl_Locked), (31, s_laws_eqMachine), (32, s_spec_OnCores), (33, s_impl_OnCores), (34, s_laws_eqIntS), (35, s_laws_markMachine), (36, s_laws_markIntS), (37, s_laws_heldIntS), (38, s_spec_l1In), (39, s_spec_Digits), (40, s_impl_within), (41, s_impl_Digits), (42, s_laws_toIns), (43, s_laws_eqIns), (44, s_laws_szLine), (45, s_laws_toLine), (46, s_impl_lineAt), (47, s_laws_eqLine), (48, s_laws_szFrameS), (49, s_laws_toFrameS), (50, s_laws_eqFrameS), (51, s_laws_szIntS), (52, s_laws_szCoreS), (53, s_laws_szNoteS), (54, s_laws_toIntS), (55, s_laws_toCoreS), (56, s_laws_toNoteS), (57, s_laws_eqCoreS), (58, s_laws_eqNoteS), (59, s_spec_l26Body), (60, s_impl_bodyOf), (61, s_laws_markInsS), (62, s_laws_markCoreS), (63, s_laws_markNoteS), (64, s_laws_szFrame), (65, s_laws_toFrame), (66, s_laws_eqFrame), (67, s_laws_szCore), (68, s_laws_toCore), (69, s_laws_eqCore), (70, s_laws_eqNote)]
def tab (f : Nat) : Option SFn := (tabL.find? fun p => p.1 == f).map fun p => p.2
theorem t_laws_FnExactNoteText : tab laws_FnExactNoteText = some s_laws_FnExactNoteText := rfl
theorem t_laws_FnExactImageText : tab laws_FnExactImageText = some s_laws_FnExactImageText := rfl
theorem t_laws_FnExactPlaceOf : tab laws_FnExactPlaceOf = some s_laws_FnExactPlaceOf := rfl
theorem t_laws_FnExactBodyText : tab laws_FnExactBodyText = some s_laws_FnExactBodyText := rfl
theorem t_laws_FnExactLocked : tab laws_FnExactLocked = some s_laws_FnExactLocked := rfl
theorem t_laws_FnExactOnCores : tab laws_FnExactOnCores = some s_laws_FnExactOnCores := rfl
theorem t_spec_NoteText : tab spec_NoteText = some s_spec_NoteText := rfl
theorem t_laws_toNote : tab laws_toNote = some s_laws_toNote := rfl
theorem t_impl_NoteText : tab impl_NoteText = some s_impl_NoteText := rfl
theorem t_laws_szInsS : tab laws_szInsS = some s_laws_szInsS := rfl
theorem t_spec_ImageText : tab spec_ImageText = some s_spec_ImageText := rfl
theorem t_laws_toInsS : tab laws_toInsS = some s_laws_toInsS := rfl
theorem t_impl_ImageText : tab impl_ImageText = some s_impl_ImageText := rfl
theorem t_laws_eqInsS : tab laws_eqInsS = some s_laws_eqInsS := rfl
theorem t_laws_szLineS : tab laws_szLineS = some s_laws_szLineS := rfl
theorem t_spec_PlaceOf : tab spec_PlaceOf = some s_spec_PlaceOf := rfl
theorem t_laws_toLineS : tab laws_toLineS = some s_laws_toLineS := rfl
theorem t_impl_PlaceOf : tab impl_PlaceOf = some s_impl_PlaceOf := rfl
theorem t_laws_eqLineS : tab laws_eqLineS = some s_laws_eqLineS := rfl
theorem t_laws_szBody : tab laws_szBody = some s_laws_szBody := rfl
theorem t_spec_BodyText : tab spec_BodyText = some s_spec_BodyText := rfl
theorem t_laws_toBody : tab laws_toBody = some s_laws_toBody := rfl
theorem t_impl_BodyText : tab impl_BodyText = some s_impl_BodyText := rfl
theorem t_laws_eqBody : tab laws_eqBody = some s_laws_eqBody := rfl
theorem t_laws_szMachine : tab laws_szMachine = some s_laws_szMachine := rfl
theorem t_spec_Locked : tab spec_Locked = some s_spec_Locked := rfl
theorem t_laws_toMachine : tab laws_toMachine = some s_laws_toMachine := rfl
theorem t_impl_Locked : tab impl_Locked = some s_impl_Locked := rfl
theorem t_laws_eqMachine : tab laws_eqMachine = some s_laws_eqMachine := rfl
theorem t_spec_OnCores : tab spec_OnCores = some s_spec_OnCores := rfl
theorem t_impl_OnCores : tab impl_OnCores = some s_impl_OnCores := rfl
theorem t_laws_eqIntS : tab laws_eqIntS = some s_laws_eqIntS := rfl
theorem t_laws_markMachine : tab laws_markMachine = some s_laws_markMachine := rfl
theorem t_laws_markIntS : tab laws_markIntS = some s_laws_markIntS := rfl
theorem t_laws_heldIntS : tab laws_heldIntS = some s_laws_heldIntS := rfl
theorem t_spec_l1In : tab spec_l1In = some s_spec_l1In := rfl
theorem t_spec_Digits : tab spec_Digits = some s_spec_Digits := rfl
theorem t_impl_within : tab impl_within = some s_impl_within := rfl
theorem t_impl_Digits : tab impl_Digits = some s_impl_Digits := rfl
theorem t_laws_toIns : tab laws_toIns = some s_laws_toIns := rfl
theorem t_laws_eqIns : tab laws_eqIns = some s_laws_eqIns := rfl
theorem t_laws_szLine : tab laws_szLine = some s_laws_szLine := rfl
theorem t_laws_toLine : tab laws_toLine = some s_laws_toLine := rfl
theorem t_impl_lineAt : tab impl_lineAt = some s_impl_lineAt := rfl
theorem t_laws_eqLine : tab laws_eqLine = some s_laws_eqLine := rfl
theorem t_laws_szFrameS : tab laws_szFrameS = some s_laws_szFrameS := rfl
theorem t_laws_toFrameS : tab laws_toFrameS = some s_laws_toFrameS := rfl
theorem t_laws_eqFrameS : tab laws_eqFrameS = some s_laws_eqFrameS := rfl
theorem t_laws_szIntS : tab laws_szIntS = some s_laws_szIntS := rfl
theorem t_laws_szCoreS : tab laws_szCoreS = some s_laws_szCoreS := rfl
theorem t_laws_szNoteS : tab laws_szNoteS = some s_laws_szNoteS := rfl
theorem t_laws_toIntS : tab laws_toIntS = some s_laws_toIntS := rfl
theorem t_laws_toCoreS : tab laws_toCoreS = some s_laws_toCoreS := rfl
theorem t_laws_toNoteS : tab laws_toNoteS = some s_laws_toNoteS := rfl
theorem t_laws_eqCoreS : tab laws_eqCoreS = some s_laws_eqCoreS := rfl
theorem t_laws_eqNoteS : tab laws_eqNoteS = some s_laws_eqNoteS := rfl
theorem t_spec_l26Body : tab spec_l26Body = some s_spec_l26Body := rfl
theorem t_impl_bodyOf : tab impl_bodyOf = some s_impl_bodyOf := rfl
theorem t_laws_markInsS : tab laws_markInsS = some s_laws_markInsS := rfl
theorem t_laws_markCoreS : tab laws_markCoreS = some s_laws_markCoreS := rfl
theorem t_laws_markNoteS : tab laws_markNoteS = some s_laws_markNoteS := rfl
theorem t_laws_szFrame : tab laws_szFrame = some s_laws_szFrame := rfl
theorem t_laws_toFrame : tab laws_toFrame = some s_laws_toFrame := rfl
theorem t_laws_eqFrame : tab laws_eqFrame = some s_laws_eqFrame := rfl
theorem t_laws_szCore : tab laws_szCore = some s_laws_szCore := rfl
theorem t_laws_toCore : tab laws_toCore = some s_laws_toCore := rfl
theorem t_laws_eqCore : tab laws_eqCore = some s_laws_eqCore := rfl
theorem t_laws_eqNote : tab laws_eqNote = some s_laws_eqNote := rfl
end Go.Ev.G
