/- The slim code of the functions that the statements of this cut reach: written by gen.py. Not trusted: YtonoomibdlhonabEvChk.lean checks it against the given program. -/
import Derived.Test.YtonoomibdlhonabEvRow
namespace Go.Ev.G
set_option linter.all false
abbrev laws_FnExactQueue : Nat := 3
abbrev laws_szMachine : Nat := 4
abbrev spec_Queue : Nat := 5
abbrev laws_toMachine : Nat := 6
abbrev impl_Queue : Nat := 7
abbrev laws_eqIntS : Nat := 8
abbrev laws_eqMachine : Nat := 9
abbrev laws_markMachine : Nat := 10
abbrev laws_markIntS : Nat := 11
abbrev laws_heldIntS : Nat := 12
abbrev laws_szInsS : Nat := 13
abbrev laws_szIntS : Nat := 14
abbrev laws_szCoreS : Nat := 15
abbrev laws_szNoteS : Nat := 16
abbrev spec_l26Body : Nat := 17
abbrev laws_toInsS : Nat := 18
abbrev laws_toIntS : Nat := 19
abbrev laws_toCoreS : Nat := 20
abbrev laws_toNoteS : Nat := 21
abbrev impl_bodyOf : Nat := 22
abbrev laws_eqInsS : Nat := 23
abbrev laws_eqCoreS : Nat := 24
abbrev laws_eqNoteS : Nat := 25
abbrev laws_markInsS : Nat := 26
abbrev laws_markCoreS : Nat := 27
abbrev laws_markNoteS : Nat := 28
abbrev laws_szCore : Nat := 29
abbrev laws_toIns : Nat := 30
abbrev laws_toCore : Nat := 31
abbrev laws_toNote : Nat := 32
abbrev laws_eqIns : Nat := 33
abbrev laws_eqCore : Nat := 34
abbrev laws_eqNote : Nat := 35
/-- loop.example/g00286/laws.FnExactQueue -/
def c_laws_FnExactQueue : SCode :=
 .seq (.ops [⟨some 1, none, .vbox 7 (.t 0)⟩, ⟨some 2, none, .mov (.c (.bool false))⟩])
 (.seq (.ops [⟨some 3, none, .mov (.c (.int .i64 1048576))⟩])
  (.seq (.ops [⟨some 11, none, .load (some 7) (.t 1)⟩, ⟨some 12, none, .mov (.t 3)⟩, ⟨some 13, none, .callr laws_szMachine [.t 11, .t 12]⟩, ⟨some 3, none, .mov (.t 13)⟩])
   (.seq (.seq (.ops [⟨some 14, none, .mov (.t 3)⟩, ⟨some 15, none, .cmp .lss (.t 14) (.c (.int .i64 0))⟩])
     (.cond (.t 15) (.seq (.ops [⟨some 2, none, .mov (.c (.bool true))⟩])
       (.ret))
      (.skip)))
    (.seq (.ops [⟨some 16, none, .load (some 7) (.t 1)⟩, ⟨some 17, none, .callr laws_toMachine [.t 16]⟩, ⟨some 18, none, .callr spec_Queue [.t 17]⟩, ⟨some 4, none, .mov (.t 18)⟩])
     (.seq (.ops [⟨some 19, none, .load (some 7) (.t 1)⟩, ⟨some 20, none, .call laws_toMachine [.t 19]⟩, ⟨some 5, none, .alloc [.s 6 [], .s 1 [], .s 3 [], .s 1 [], .s 2 [], .v (.bool false), .v (.int .i64 0)]⟩, ⟨none, none, .store 7 (.t 5) (.t 20)⟩])
      (.seq (.ops [⟨some 21, none, .load (some 7) (.t 5)⟩, ⟨some 22, none, .call impl_Queue [.t 21]⟩, ⟨some 6, none, .mov (.t 22)⟩])
       (.seq (.seq (.ops [⟨some 23, none, .mov (.t 6)⟩, ⟨some 24, none, .mov (.t 4)⟩, ⟨some 25, none, .callr laws_eqIntS [.t 23, .t 24]⟩, ⟨some 26, none, .not (.t 25)⟩])
         (.cond (.t 26) (.seq (.ops [⟨some 2, none, .mov (.c (.bool false))⟩])
           (.ret))
          (.skip)))
        (.seq (.seq (.ops [⟨some 27, none, .load (some 7) (.t 5)⟩, ⟨some 28, none, .load (some 7) (.t 1)⟩, ⟨some 29, none, .callr laws_toMachine [.t 28]⟩, ⟨some 30, none, .callr laws_eqMachine [.t 27, .t 29]⟩, ⟨some 31, none, .not (.t 30)⟩])
          (.cond (.t 31) (.seq (.ops [⟨some 2, none, .mov (.c (.bool false))⟩])
            (.ret))
           (.skip)))
         (.seq (.ops [⟨some 7, none, .mov (.c (.int .i64 1))⟩])
          (.seq (.ops [⟨some 32, none, .load (some 7) (.t 5)⟩, ⟨some 33, none, .mov (.t 7)⟩, ⟨some 34, none, .callb laws_markMachine [.t 32, .t 33] [true, false]⟩, ⟨some 7, none, .mov (.t 34)⟩])
           (.seq (.seq (.ops [⟨some 35, none, .mov (.t 7)⟩, ⟨some 36, none, .cmp .lss (.t 35) (.c (.int .i64 0))⟩, ⟨some 37, none, .mov (.t 36)⟩, ⟨some 38, (some (37, false)), .mov (.t 6)⟩, ⟨some 39, (some (37, false)), .mov (.t 4)⟩, ⟨some 40, (some (37, false)), .callr laws_eqIntS [.t 38, .t 39]⟩, ⟨some 41, (some (37, false)), .not (.t 40)⟩, ⟨some 42, none, .pick (.t 37) (.c (.bool true)) (.t 41)⟩])
             (.cond (.t 42) (.seq (.ops [⟨some 2, none, .mov (.c (.bool false))⟩])
               (.ret))
              (.skip)))
            (.seq (.ops [⟨some 8, none, .mov (.c (.int .i64 1))⟩])
             (.seq (.ops [⟨some 43, none, .mov (.t 6)⟩, ⟨some 44, none, .mov (.t 8)⟩, ⟨some 45, none, .callb laws_markIntS [.t 43, .t 44] [true, false]⟩, ⟨some 8, none, .mov (.t 45)⟩])
              (.seq (.ops [⟨some 9, none, .mov (.c (.int .i64 1))⟩])
               (.seq (.ops [⟨some 46, none, .mov (.t 6)⟩, ⟨some 47, none, .mov (.t 9)⟩, ⟨some 48, none, .callr laws_heldIntS [.t 46, .t 47]⟩, ⟨some 9, none, .mov (.t 48)⟩])
                (.seq (.seq (.ops [⟨some 49, none, .mov (.t 9)⟩, ⟨some 50, none, .cmp .lss (.t 49) (.c (.int .i64 0))⟩])
                  (.cond (.t 50) (.seq (.ops [⟨some 2, none, .mov (.c (.bool false))⟩])
                    (.ret))
                   (.skip)))
                 (.seq (.seq (.ops [⟨some 51, none, .mov (.t 9)⟩, ⟨some 52, none, .mov (.t 8)⟩, ⟨some 53, none, .cmp .neq (.t 51) (.t 52)⟩])
                   (.cond (.t 53) (.seq (.ops [⟨some 2, none, .mov (.c (.bool false))⟩])
                     (.ret))
                    (.skip)))
                  (.seq (.ops [⟨some 54, none, .load (some 7) (.t 1)⟩, ⟨some 55, none, .callr laws_toMachine [.t 54]⟩, ⟨some 56, none, .callr impl_Queue [.t 55]⟩, ⟨some 10, none, .mov (.t 56)⟩])
                   (.seq (.seq (.ops [⟨some 57, none, .mov (.t 10)⟩, ⟨some 58, none, .mov (.t 4)⟩, ⟨some 59, none, .callr laws_eqIntS [.t 57, .t 58]⟩, ⟨some 60, none, .not (.t 59)⟩])
                     (.cond (.t 60) (.seq (.ops [⟨some 2, none, .mov (.c (.bool false))⟩])
                       (.ret))
                      (.skip)))
                    (.seq (.ops [⟨some 9, none, .mov (.c (.int .i64 1))⟩])
                     (.seq (.ops [⟨some 61, none, .mov (.t 6)⟩, ⟨some 62, none, .mov (.t 9)⟩, ⟨some 63, none, .callr laws_heldIntS [.t 61, .t 62]⟩, ⟨some 9, none, .mov (.t 63)⟩])
                      (.seq (.seq (.ops [⟨some 64, none, .mov (.t 9)⟩, ⟨some 65, none, .cmp .lss (.t 64) (.c (.int .i64 0))⟩])
                        (.cond (.t 65) (.seq (.ops [⟨some 2, none, .mov (.c (.bool false))⟩])
                          (.ret))
                         (.skip)))
                       (.seq (.seq (.ops [⟨some 66, none, .mov (.t 9)⟩, ⟨some 67, none, .mov (.t 8)⟩, ⟨some 68, none, .cmp .neq (.t 66) (.t 67)⟩])
                         (.cond (.t 68) (.seq (.ops [⟨some 2, none, .mov (.c (.bool false))⟩])
                           (.ret))
                          (.skip)))
                        (.seq (.ops [⟨some 2, none, .mov (.c (.bool true))⟩])
                         (.ret)))))))))))))))))))))))))
def s_laws_FnExactQueue : SFn := ⟨1, 69, c_laws_FnExactQueue, [.t 2]⟩
/-- loop.example/g00286/laws.szMachine -/
def c_laws_szMachine : SCode :=
 .seq (.ops [⟨some 2, none, .vbox 7 (.t 0)⟩, ⟨some 4, none, .mov (.c (.int .i64 0))⟩])
 (.seq (.ops [⟨some 5, none, .faddr 0 (.t 2)⟩, ⟨some 6, none, .load none (.t 5)⟩, ⟨some 7, none, .mov (.t 1)⟩, ⟨some 8, none, .callr laws_szInsS [.t 6, .t 7]⟩, ⟨some 1, none, .mov (.t 8)⟩])
  (.seq (.seq (.ops [⟨some 9, none, .mov (.t 1)⟩, ⟨some 10, none, .cmp .lss (.t 9) (.c (.int .i64 0))⟩])
    (.cond (.t 10) (.seq (.ops [⟨some 4, none, .mov (.c (.int .i64 (-1)))⟩])
      (.ret))
     (.skip)))
   (.seq (.ops [⟨some 11, none, .faddr 1 (.t 2)⟩, ⟨some 12, none, .load none (.t 11)⟩, ⟨some 13, none, .mov (.t 1)⟩, ⟨some 14, none, .callr laws_szIntS [.t 12, .t 13]⟩, ⟨some 1, none, .mov (.t 14)⟩])
    (.seq (.seq (.ops [⟨some 15, none, .mov (.t 1)⟩, ⟨some 16, none, .cmp .lss (.t 15) (.c (.int .i64 0))⟩])
      (.cond (.t 16) (.seq (.ops [⟨some 4, none, .mov (.c (.int .i64 (-1)))⟩])
        (.ret))
       (.skip)))
     (.seq (.ops [⟨some 17, none, .faddr 2 (.t 2)⟩, ⟨some 18, none, .load none (.t 17)⟩, ⟨some 19, none, .mov (.t 1)⟩, ⟨some 20, none, .callr laws_szCoreS [.t 18, .t 19]⟩, ⟨some 1, none, .mov (.t 20)⟩])
      (.seq (.seq (.ops [⟨some 21, none, .mov (.t 1)⟩, ⟨some 22, none, .cmp .lss (.t 21) (.c (.int .i64 0))⟩])
        (.cond (.t 22) (.seq (.ops [⟨some 4, none, .mov (.c (.int .i64 (-1)))⟩])
          (.ret))
         (.skip)))
       (.seq (.ops [⟨some 23, none, .faddr 3 (.t 2)⟩, ⟨some 24, none, .load none (.t 23)⟩, ⟨some 25, none, .mov (.t 1)⟩, ⟨some 26, none, .callr laws_szIntS [.t 24, .t 25]⟩, ⟨some 1, none, .mov (.t 26)⟩])
        (.seq (.seq (.ops [⟨some 27, none, .mov (.t 1)⟩, ⟨some 28, none, .cmp .lss (.t 27) (.c (.int .i64 0))⟩])
          (.cond (.t 28) (.seq (.ops [⟨some 4, none, .mov (.c (.int .i64 (-1)))⟩])
            (.ret))
           (.skip)))
         (.seq (.ops [⟨some 29, none, .faddr 4 (.t 2)⟩, ⟨some 30, none, .load none (.t 29)⟩, ⟨some 31, none, .mov (.t 1)⟩, ⟨some 32, none, .callr laws_szNoteS [.t 30, .t 31]⟩, ⟨some 1, none, .mov (.t 32)⟩])
          (.seq (.seq (.ops [⟨some 33, none, .mov (.t 1)⟩, ⟨some 34, none, .cmp .lss (.t 33) (.c (.int .i64 0))⟩])
            (.cond (.t 34) (.seq (.ops [⟨some 4, none, .mov (.c (.int .i64 (-1)))⟩])
              (.ret))
             (.skip)))
           (.seq (.ops [⟨some 35, none, .mov (.t 1)⟩, ⟨some 4, none, .mov (.t 35)⟩])
            (.ret))))))))))))
def s_laws_szMachine : SFn := ⟨2, 36, c_laws_szMachine, [.t 4]⟩
def b_spec_Queue_0 : SCode :=
 .seq (.seq (.ops [⟨some 16, none, .mov (.t 4)⟩, ⟨some 17, none, .cmp .neq (.t 16) (.c (.int .i64 0))⟩, ⟨some 18, none, .mov (.t 17)⟩, ⟨some 19, (some (18, true)), .mov (.t 3)⟩, ⟨some 20, (some (18, true)), .len (.t 19)⟩, ⟨some 21, (some (18, true)), .cmp .lss (.t 20) (.c (.int .i64 6))⟩, ⟨some 22, none, .pick (.t 18) (.t 21) (.c (.bool false))⟩])
  (.cond (.t 22) (.skip)
   (.seq (.keep [3]) (.exit 0))))
 (.block 1 (.seq (.ops [⟨some 23, none, .mov (.t 4)⟩, ⟨some 24, none, .callr spec_l26Body [.t 23]⟩, ⟨some 5, none, .mov (.t 24)⟩])
   (.seq (.seq (.ops [⟨some 25, none, .mov (.t 5)⟩, ⟨some 26, none, .cmp .lss (.t 25) (.c (.int .i64 0))⟩])
     (.cond (.t 26) (.seq (.ops [⟨some 27, none, .lit 1 []⟩, ⟨some 2, none, .mov (.t 27)⟩])
       (.seq (.keep [2]) .ret))
      (.skip)))
    (.seq (.ops [⟨some 28, none, .mov (.t 3)⟩, ⟨some 29, none, .mov (.t 5)⟩, ⟨some 30, none, .lit 1 [.t 29]⟩, ⟨some 31, none, .app 1 8 (.t 28) (.t 30)⟩, ⟨some 3, none, .mov (.t 31)⟩])
     (.ops [⟨some 32, none, .faddr 1 (.t 1)⟩, ⟨some 33, none, .load none (.t 32)⟩, ⟨some 34, none, .mov (.t 4)⟩, ⟨some 35, none, .ari .add (.t 34) (.c (.int .i64 2))⟩, ⟨some 36, none, .ixa 1 (.t 33) (.t 35)⟩, ⟨some 37, none, .load none (.t 36)⟩, ⟨some 4, none, .mov (.t 37)⟩])))))
/-- loop.example/g00286/spec.Queue -/
def c_spec_Queue : SCode :=
 .seq (.ops [⟨some 1, none, .vbox 7 (.t 0)⟩, ⟨some 2, none, .mov (.n 1)⟩])
 (.seq (.ops [⟨some 6, none, .lit 1 []⟩, ⟨some 3, none, .mov (.t 6)⟩])
  (.seq (.seq (.ops [⟨some 7, none, .faddr 1 (.t 1)⟩, ⟨some 8, none, .load none (.t 7)⟩, ⟨some 9, none, .len (.t 8)⟩, ⟨some 10, none, .cmp .lss (.t 9) (.c (.int .i64 2200))⟩])
    (.cond (.t 10) (.seq (.ops [⟨some 11, none, .mov (.t 3)⟩, ⟨some 2, none, .mov (.t 11)⟩])
      (.ret))
     (.skip)))
   (.seq (.ops [⟨some 12, none, .faddr 1 (.t 1)⟩, ⟨some 13, none, .load none (.t 12)⟩, ⟨some 14, none, .ixa 1 (.t 13) (.c (.int .i64 1))⟩, ⟨some 15, none, .load none (.t 14)⟩, ⟨some 4, none, .mov (.t 15)⟩])
    (.seq (.block 0 (.loop [1, 3, 4] b_spec_Queue_0))
     (.seq (.ops [⟨some 38, none, .mov (.t 3)⟩, ⟨some 2, none, .mov (.t 38)⟩])
      (.ret))))))
def s_spec_Queue : SFn := ⟨1, 39, c_spec_Queue, [.t 2]⟩
/-- loop.example/g00286/laws.toMachine -/
def c_laws_toMachine : SCode :=
 .seq (.ops [⟨some 1, none, .vbox 7 (.t 0)⟩, ⟨some 2, none, .alloc [.s 6 [], .s 1 [], .s 3 [], .s 1 [], .s 2 [], .v (.bool false), .v (.int .i64 0)]⟩])
 (.seq (.ops [⟨some 3, none, .alloc [.s 6 [], .s 1 [], .s 3 [], .s 1 [], .s 2 [], .v (.bool false), .v (.int .i64 0)]⟩])
  (.seq (.ops [⟨some 4, none, .faddr 0 (.t 1)⟩, ⟨some 5, none, .load none (.t 4)⟩, ⟨some 6, none, .call laws_toInsS [.t 5]⟩, ⟨some 7, none, .faddr 0 (.t 3)⟩, ⟨none, none, .store 1 (.t 7) (.t 6)⟩])
   (.seq (.ops [⟨some 8, none, .faddr 1 (.t 1)⟩, ⟨some 9, none, .load none (.t 8)⟩, ⟨some 10, none, .call laws_toIntS [.t 9]⟩, ⟨some 11, none, .faddr 1 (.t 3)⟩, ⟨none, none, .store 1 (.t 11) (.t 10)⟩])
    (.seq (.ops [⟨some 12, none, .faddr 2 (.t 1)⟩, ⟨some 13, none, .load none (.t 12)⟩, ⟨some 14, none, .call laws_toCoreS [.t 13]⟩, ⟨some 15, none, .faddr 2 (.t 3)⟩, ⟨none, none, .store 1 (.t 15) (.t 14)⟩])
     (.seq (.ops [⟨some 16, none, .faddr 3 (.t 1)⟩, ⟨some 17, none, .load none (.t 16)⟩, ⟨some 18, none, .call laws_toIntS [.t 17]⟩, ⟨some 19, none, .faddr 3 (.t 3)⟩, ⟨none, none, .store 1 (.t 19) (.t 18)⟩])
      (.seq (.ops [⟨some 20, none, .faddr 4 (.t 1)⟩, ⟨some 21, none, .load none (.t 20)⟩, ⟨some 22, none, .call laws_toNoteS [.t 21]⟩, ⟨some 23, none, .faddr 4 (.t 3)⟩, ⟨none, none, .store 1 (.t 23) (.t 22)⟩])
       (.seq (.ops [⟨some 24, none, .faddr 5 (.t 1)⟩, ⟨some 25, none, .load none (.t 24)⟩, ⟨some 26, none, .faddr 5 (.t 3)⟩, ⟨none, none, .store 1 (.t 26) (.t 25)⟩])
        (.seq (.ops [⟨some 27, none, .faddr 6 (.t 1)⟩, ⟨some 28, none, .load none (.t 27)⟩, ⟨some 29, none, .faddr 6 (.t 3)⟩, ⟨none, none, .store 1 (.t 29) (.t 28)⟩])
         (.seq (.ops [⟨some 30, none, .load (some 7) (.t 3)⟩, ⟨none, none, .store 7 (.t 2) (.t 30)⟩])
          (.ret))))))))))
def s_laws_toMachine : SFn := ⟨1, 31, c_laws_toMachine, [.c 2 (some 7)]⟩
def b_impl_Queue_0 : SCode :=
 .seq (.seq (.ops [⟨some 16, none, .mov (.t 4)⟩, ⟨some 17, none, .cmp .neq (.t 16) (.c (.int .i64 0))⟩, ⟨some 18, none, .mov (.t 17)⟩, ⟨some 19, (some (18, true)), .mov (.t 3)⟩, ⟨some 20, (some (18, true)), .len (.t 19)⟩, ⟨some 21, (some (18, true)), .cmp .lss (.t 20) (.c (.int .i64 6))⟩, ⟨some 22, none, .pick (.t 18) (.t 21) (.c (.bool false))⟩])
  (.cond (.t 22) (.skip)
   (.seq (.keep [3]) (.exit 0))))
 (.seq (.block 1 (.seq (.ops [⟨some 29, none, .mov (.t 4)⟩, ⟨some 30, none, .callr impl_bodyOf [.t 29]⟩, ⟨some 5, none, .mov (.t 30)⟩])
    (.seq (.seq (.ops [⟨some 31, none, .mov (.t 5)⟩, ⟨some 32, none, .cmp .lss (.t 31) (.c (.int .i64 0))⟩])
      (.cond (.t 32) (.seq (.ops [⟨some 2, none, .mov (.n 1)⟩])
        (.seq (.keep [2]) .ret))
       (.skip)))
     (.ops [⟨some 33, none, .mov (.t 3)⟩, ⟨some 34, none, .mov (.t 5)⟩, ⟨some 35, none, .lit 1 [.t 34]⟩, ⟨some 36, none, .app 1 8 (.t 33) (.t 35)⟩, ⟨some 3, none, .mov (.t 36)⟩]))))
  (.ops [⟨some 23, none, .faddr 1 (.t 1)⟩, ⟨some 24, none, .load none (.t 23)⟩, ⟨some 25, none, .mov (.t 4)⟩, ⟨some 26, none, .ari .add (.t 25) (.c (.int .i64 2))⟩, ⟨some 27, none, .ixa 1 (.t 24) (.t 26)⟩, ⟨some 28, none, .load none (.t 27)⟩, ⟨some 4, none, .mov (.t 28)⟩]))
/-- loop.example/g00286/impl.Queue -/
def c_impl_Queue : SCode :=
 .seq (.ops [⟨some 1, none, .vbox 7 (.t 0)⟩, ⟨some 2, none, .mov (.n 1)⟩])
 (.seq (.ops [⟨some 6, none, .lit 1 []⟩, ⟨some 3, none, .mov (.t 6)⟩])
  (.seq (.seq (.ops [⟨some 7, none, .faddr 1 (.t 1)⟩, ⟨some 8, none, .load none (.t 7)⟩, ⟨some 9, none, .len (.t 8)⟩, ⟨some 10, none, .cmp .lss (.t 9) (.c (.int .i64 2200))⟩])
    (.cond (.t 10) (.seq (.ops [⟨some 11, none, .mov (.t 3)⟩, ⟨some 2, none, .mov (.t 11)⟩])
      (.ret))
     (.skip)))
   (.seq (.seq (.ops [⟨some 12, none, .faddr 1 (.t 1)⟩, ⟨some 13, none, .load none (.t 12)⟩, ⟨some 14, none, .ixa 1 (.t 13) (.c (.int .i64 1))⟩, ⟨some 15, none, .load none (.t 14)⟩, ⟨some 4, none, .mov (.t 15)⟩])
     (.block 0 (.loop [1, 3, 4] b_impl_Queue_0)))
    (.seq (.ops [⟨some 37, none, .mov (.t 3)⟩, ⟨some 2, none, .mov (.t 37)⟩])
     (.ret)))))
def s_impl_Queue : SFn := ⟨1, 38, c_impl_Queue, [.t 2]⟩
def b_laws_eqIntS_0 : SCode :=
 .seq (.seq (.ops [⟨some 11, none, .mov (.t 5)⟩, ⟨some 12, none, .mov (.t 0)⟩, ⟨some 13, none, .len (.t 12)⟩, ⟨some 14, none, .cmp .lss (.t 11) (.t 13)⟩])
  (.cond (.t 14) (.skip)
   (.seq (.keep []) (.exit 0))))
 (.seq (.block 1 (.seq (.ops [⟨some 17, none, .mov (.t 0)⟩, ⟨some 18, none, .mov (.t 5)⟩, ⟨some 19, none, .ixa 1 (.t 17) (.t 18)⟩, ⟨some 20, none, .load none (.t 19)⟩, ⟨some 21, none, .mov (.t 1)⟩, ⟨some 22, none, .mov (.t 5)⟩, ⟨some 23, none, .ixa 1 (.t 21) (.t 22)⟩, ⟨some 24, none, .load none (.t 23)⟩, ⟨some 25, none, .cmp .neq (.t 20) (.t 24)⟩])
    (.cond (.t 25) (.seq (.ops [⟨some 4, none, .mov (.c (.bool false))⟩])
      (.seq (.keep [4]) .ret))
     (.skip))))
  (.ops [⟨some 15, none, .mov (.t 5)⟩, ⟨some 16, none, .ari .add (.t 15) (.c (.int .i64 1))⟩, ⟨some 5, none, .mov (.t 16)⟩]))
/-- loop.example/g00286/laws.eqIntS -/
def c_laws_eqIntS : SCode :=
 .seq (.ops [⟨some 4, none, .mov (.c (.bool false))⟩])
 (.seq (.seq (.ops [⟨some 6, none, .mov (.t 0)⟩, ⟨some 7, none, .len (.t 6)⟩, ⟨some 8, none, .mov (.t 1)⟩, ⟨some 9, none, .len (.t 8)⟩, ⟨some 10, none, .cmp .neq (.t 7) (.t 9)⟩])
   (.cond (.t 10) (.seq (.ops [⟨some 4, none, .mov (.c (.bool false))⟩])
     (.ret))
    (.skip)))
  (.seq (.seq (.ops [⟨some 5, none, .mov (.c (.int .i64 0))⟩])
    (.block 0 (.loop [0, 1, 5] b_laws_eqIntS_0)))
   (.seq (.ops [⟨some 4, none, .mov (.c (.bool true))⟩])
    (.ret))))
def s_laws_eqIntS : SFn := ⟨2, 26, c_laws_eqIntS, [.t 4]⟩
/-- loop.example/g00286/laws.eqMachine -/
def c_laws_eqMachine : SCode :=
 .seq (.ops [⟨some 2, none, .vbox 7 (.t 0)⟩, ⟨some 3, none, .vbox 7 (.t 1)⟩, ⟨some 4, none, .mov (.c (.bool false))⟩])
 (.seq (.seq (.ops [⟨some 5, none, .faddr 0 (.t 2)⟩, ⟨some 6, none, .load none (.t 5)⟩, ⟨some 7, none, .faddr 0 (.t 3)⟩, ⟨some 8, none, .load none (.t 7)⟩, ⟨some 9, none, .callr laws_eqInsS [.t 6, .t 8]⟩, ⟨some 10, none, .not (.t 9)⟩])
   (.cond (.t 10) (.seq (.ops [⟨some 4, none, .mov (.c (.bool false))⟩])
     (.ret))
    (.skip)))
  (.seq (.seq (.ops [⟨some 11, none, .faddr 1 (.t 2)⟩, ⟨some 12, none, .load none (.t 11)⟩, ⟨some 13, none, .faddr 1 (.t 3)⟩, ⟨some 14, none, .load none (.t 13)⟩, ⟨some 15, none, .callr laws_eqIntS [.t 12, .t 14]⟩, ⟨some 16, none, .not (.t 15)⟩])
    (.cond (.t 16) (.seq (.ops [⟨some 4, none, .mov (.c (.bool false))⟩])
      (.ret))
     (.skip)))
   (.seq (.seq (.ops [⟨some 17, none, .faddr 2 (.t 2)⟩, ⟨some 18, none, .load none (.t 17)⟩, ⟨some 19, none, .faddr 2 (.t 3)⟩, ⟨some 20, none, .load none (.t 19)⟩, ⟨some 21, none, .callr laws_eqCoreS [.t 18, .t 20]⟩, ⟨some 22, none, .not (.t 21)⟩])
     (.cond (.t 22) (.seq (.ops [⟨some 4, none, .mov (.c (.bool false))⟩])
       (.ret))
      (.skip)))
    (.seq (.seq (.ops [⟨some 23, none, .faddr 3 (.t 2)⟩, ⟨some 24, none, .load none (.t 23)⟩, ⟨some 25, none, .faddr 3 (.t 3)⟩, ⟨some 26, none, .load none (.t 25)⟩, ⟨some 27, none, .callr laws_eqIntS [.t 24, .t 26]⟩, ⟨some 28, none, .not (.t 27)⟩])
      (.cond (.t 28) (.seq (.ops [⟨some 4, none, .mov (.c (.bool false))⟩])
        (.ret))
       (.skip)))
     (.seq (.seq (.ops [⟨some 29, none, .faddr 4 (.t 2)⟩, ⟨some 30, none, .load none (.t 29)⟩, ⟨some 31, none, .faddr 4 (.t 3)⟩, ⟨some 32, none, .load none (.t 31)⟩, ⟨some 33, none, .callr laws_eqNoteS [.t 30, .t 32]⟩, ⟨some 34, none, .not (.t 33)⟩])
       (.cond (.t 34) (.seq (.ops [⟨some 4, none, .mov (.c (.bool false))⟩])
         (.ret))
        (.skip)))
      (.seq (.seq (.ops [⟨some 35, none, .faddr 5 (.t 2)⟩, ⟨some 36, none, .load none (.t 35)⟩, ⟨some 37, none, .faddr 5 (.t 3)⟩, ⟨some 38, none, .load none (.t 37)⟩, ⟨some 39, none, .cmpb .neq (.t 36) (.t 38)⟩])
        (.cond (.t 39) (.seq (.ops [⟨some 4, none, .mov (.c (.bool false))⟩])
          (.ret))
         (.skip)))
       (.seq (.seq (.ops [⟨some 40, none, .faddr 6 (.t 2)⟩, ⟨some 41, none, .load none (.t 40)⟩, ⟨some 42, none, .faddr 6 (.t 3)⟩, ⟨some 43, none, .load none (.t 42)⟩, ⟨some 44, none, .cmp .neq (.t 41) (.t 43)⟩])
         (.cond (.t 44) (.seq (.ops [⟨some 4, none, .mov (.c (.bool false))⟩])
           (.ret))
          (.skip)))
        (.seq (.ops [⟨some 4, none, .mov (.c (.bool true))⟩])
         (.ret)))))))))
def s_laws_eqMachine : SFn := ⟨2, 45, c_laws_eqMachine, [.t 4]⟩
/-- loop.example/g00286/laws.markMachine -/
def c_laws_markMachine : SCode :=
 .seq (.ops [⟨some 2, none, .vbox 7 (.t 0)⟩, ⟨some 4, none, .mov (.c (.int .i64 0))⟩])
 (.seq (.ops [⟨some 5, none, .faddr 0 (.t 2)⟩, ⟨some 6, none, .load none (.t 5)⟩, ⟨some 7, none, .mov (.t 1)⟩, ⟨some 8, none, .callb laws_markInsS [.t 6, .t 7] [true, false]⟩, ⟨some 1, none, .mov (.t 8)⟩])
  (.seq (.ops [⟨some 9, none, .faddr 1 (.t 2)⟩, ⟨some 10, none, .load none (.t 9)⟩, ⟨some 11, none, .mov (.t 1)⟩, ⟨some 12, none, .callb laws_markIntS [.t 10, .t 11] [true, false]⟩, ⟨some 1, none, .mov (.t 12)⟩])
   (.seq (.ops [⟨some 13, none, .faddr 2 (.t 2)⟩, ⟨some 14, none, .load none (.t 13)⟩, ⟨some 15, none, .mov (.t 1)⟩, ⟨some 16, none, .callb laws_markCoreS [.t 14, .t 15] [true, false]⟩, ⟨some 1, none, .mov (.t 16)⟩])
    (.seq (.ops [⟨some 17, none, .faddr 3 (.t 2)⟩, ⟨some 18, none, .load none (.t 17)⟩, ⟨some 19, none, .mov (.t 1)⟩, ⟨some 20, none, .callb laws_markIntS [.t 18, .t 19] [true, false]⟩, ⟨some 1, none, .mov (.t 20)⟩])
     (.seq (.ops [⟨some 21, none, .faddr 4 (.t 2)⟩, ⟨some 22, none, .load none (.t 21)⟩, ⟨some 23, none, .mov (.t 1)⟩, ⟨some 24, none, .callb laws_markNoteS [.t 22, .t 23] [true, false]⟩, ⟨some 1, none, .mov (.t 24)⟩])
      (.seq (.ops [⟨some 25, none, .mov (.t 1)⟩, ⟨some 4, none, .mov (.t 25)⟩])
       (.ret)))))))
def s_laws_markMachine : SFn := ⟨2, 26, c_laws_markMachine, [.t 4]⟩
def b_laws_markIntS_0 : SCode :=
 .seq (.seq (.ops [⟨some 6, none, .mov (.t 5)⟩, ⟨some 7, none, .mov (.t 0)⟩, ⟨some 8, none, .len (.t 7)⟩, ⟨some 9, none, .cmp .lss (.t 6) (.t 8)⟩])
  (.cond (.t 9) (.skip)
   (.seq (.keep [1]) (.exit 0))))
 (.seq (.block 1 (.seq (.ops [⟨some 12, none, .mov (.t 0)⟩, ⟨some 13, none, .mov (.t 5)⟩, ⟨some 14, none, .mov (.t 1)⟩, ⟨some 15, none, .ixa 1 (.t 12) (.t 13)⟩, ⟨none, none, .store 1 (.t 15) (.t 14)⟩])
    (.ops [⟨some 16, none, .mov (.t 1)⟩, ⟨some 17, none, .ari .add (.t 16) (.c (.int .i64 1))⟩, ⟨some 1, none, .mov (.t 17)⟩])))
  (.ops [⟨some 10, none, .mov (.t 5)⟩, ⟨some 11, none, .ari .add (.t 10) (.c (.int .i64 1))⟩, ⟨some 5, none, .mov (.t 11)⟩]))
/-- loop.example/g00286/laws.markIntS -/
def c_laws_markIntS : SCode :=
 .seq (.ops [⟨some 4, none, .mov (.c (.int .i64 0))⟩])
 (.seq (.seq (.ops [⟨some 5, none, .mov (.c (.int .i64 0))⟩])
   (.block 0 (.loop [0, 1, 5] b_laws_markIntS_0)))
  (.seq (.ops [⟨some 18, none, .mov (.t 1)⟩, ⟨some 4, none, .mov (.t 18)⟩])
   (.ret)))
def s_laws_markIntS : SFn := ⟨2, 19, c_laws_markIntS, [.t 4]⟩
def b_laws_heldIntS_0 : SCode :=
 .seq (.seq (.ops [⟨some 6, none, .mov (.t 5)⟩, ⟨some 7, none, .mov (.t 0)⟩, ⟨some 8, none, .len (.t 7)⟩, ⟨some 9, none, .cmp .lss (.t 6) (.t 8)⟩])
  (.cond (.t 9) (.skip)
   (.seq (.keep [1]) (.exit 0))))
 (.seq (.block 1 (.seq (.seq (.ops [⟨some 12, none, .mov (.t 0)⟩, ⟨some 13, none, .mov (.t 5)⟩, ⟨some 14, none, .ixa 1 (.t 12) (.t 13)⟩, ⟨some 15, none, .load none (.t 14)⟩, ⟨some 16, none, .mov (.t 1)⟩, ⟨some 17, none, .cmp .neq (.t 15) (.t 16)⟩])
     (.cond (.t 17) (.seq (.ops [⟨some 4, none, .mov (.c (.int .i64 (-1)))⟩])
       (.seq (.keep [4]) .ret))
      (.skip)))
    (.ops [⟨some 18, none, .mov (.t 1)⟩, ⟨some 19, none, .ari .add (.t 18) (.c (.int .i64 1))⟩, ⟨some 1, none, .mov (.t 19)⟩])))
  (.ops [⟨some 10, none, .mov (.t 5)⟩, ⟨some 11, none, .ari .add (.t 10) (.c (.int .i64 1))⟩, ⟨some 5, none, .mov (.t 11)⟩]))
/-- loop.example/g00286/laws.heldIntS -/
def c_laws_heldIntS : SCode :=
 .seq (.ops [⟨some 4, none, .mov (.c (.int .i64 0))⟩])
 (.seq (.seq (.ops [⟨some 5, none, .mov (.c (.int .i64 0))⟩])
   (.block 0 (.loop [0, 1, 5] b_laws_heldIntS_0)))
  (.seq (.ops [⟨some 20, none, .mov (.t 1)⟩, ⟨some 4, none, .mov (.t 20)⟩])
   (.ret)))
def s_laws_heldIntS : SFn := ⟨2, 21, c_laws_heldIntS, [.t 4]⟩
/-- loop.example/g00286/laws.szInsS -/
def c_laws_szInsS : SCode :=
 .seq (.ops [⟨some 4, none, .mov (.c (.int .i64 0))⟩])
 (.seq (.ops [⟨some 5, none, .mov (.t 1)⟩, ⟨some 6, none, .mov (.t 0)⟩, ⟨some 7, none, .len (.t 6)⟩, ⟨some 8, none, .ari .sub (.t 5) (.t 7)⟩, ⟨some 1, none, .mov (.t 8)⟩])
  (.seq (.seq (.ops [⟨some 9, none, .mov (.t 1)⟩, ⟨some 10, none, .cmp .lss (.t 9) (.c (.int .i64 0))⟩])
    (.cond (.t 10) (.seq (.ops [⟨some 4, none, .mov (.c (.int .i64 (-1)))⟩])
      (.ret))
     (.skip)))
   (.seq (.ops [⟨some 11, none, .mov (.t 1)⟩, ⟨some 4, none, .mov (.t 11)⟩])
    (.ret))))
def s_laws_szInsS : SFn := ⟨2, 12, c_laws_szInsS, [.t 4]⟩
/-- loop.example/g00286/laws.szIntS -/
def c_laws_szIntS : SCode :=
 .seq (.ops [⟨some 4, none, .mov (.c (.int .i64 0))⟩])
 (.seq (.ops [⟨some 5, none, .mov (.t 1)⟩, ⟨some 6, none, .mov (.t 0)⟩, ⟨some 7, none, .len (.t 6)⟩, ⟨some 8, none, .ari .sub (.t 5) (.t 7)⟩, ⟨some 1, none, .mov (.t 8)⟩])
  (.seq (.seq (.ops [⟨some 9, none, .mov (.t 1)⟩, ⟨some 10, none, .cmp .lss (.t 9) (.c (.int .i64 0))⟩])
    (.cond (.t 10) (.seq (.ops [⟨some 4, none, .mov (.c (.int .i64 (-1)))⟩])
      (.ret))
     (.skip)))
   (.seq (.ops [⟨some 11, none, .mov (.t 1)⟩, ⟨some 4, none, .mov (.t 11)⟩])
    (.ret))))
def s_laws_szIntS : SFn := ⟨2, 12, c_laws_szIntS, [.t 4]⟩
def b_laws_szCoreS_0 : SCode :=
 .seq (.seq (.ops [⟨some 12, none, .mov (.t 5)⟩, ⟨some 13, none, .mov (.t 0)⟩, ⟨some 14, none, .len (.t 13)⟩, ⟨some 15, none, .cmp .lss (.t 12) (.t 14)⟩])
  (.cond (.t 15) (.skip)
   (.seq (.keep [1]) (.exit 0))))
 (.seq (.block 1 (.seq (.ops [⟨some 18, none, .mov (.t 0)⟩, ⟨some 19, none, .mov (.t 5)⟩, ⟨some 20, none, .ixa 3 (.t 18) (.t 19)⟩, ⟨some 21, none, .load (some 3) (.t 20)⟩, ⟨some 22, none, .mov (.t 1)⟩, ⟨some 23, none, .callr laws_szCore [.t 21, .t 22]⟩, ⟨some 1, none, .mov (.t 23)⟩])
    (.seq (.ops [⟨some 24, none, .mov (.t 1)⟩, ⟨some 25, none, .cmp .lss (.t 24) (.c (.int .i64 0))⟩])
     (.cond (.t 25) (.seq (.ops [⟨some 4, none, .mov (.c (.int .i64 (-1)))⟩])
       (.seq (.keep [4]) .ret))
      (.skip)))))
  (.ops [⟨some 16, none, .mov (.t 5)⟩, ⟨some 17, none, .ari .add (.t 16) (.c (.int .i64 1))⟩, ⟨some 5, none, .mov (.t 17)⟩]))
/-- loop.example/g00286/laws.szCoreS -/
def c_laws_szCoreS : SCode :=
 .seq (.ops [⟨some 4, none, .mov (.c (.int .i64 0))⟩])
 (.seq (.ops [⟨some 6, none, .mov (.t 1)⟩, ⟨some 7, none, .mov (.t 0)⟩, ⟨some 8, none, .len (.t 7)⟩, ⟨some 9, none, .ari .sub (.t 6) (.t 8)⟩, ⟨some 1, none, .mov (.t 9)⟩])
  (.seq (.seq (.ops [⟨some 10, none, .mov (.t 1)⟩, ⟨some 11, none, .cmp .lss (.t 10) (.c (.int .i64 0))⟩])
    (.cond (.t 11) (.seq (.ops [⟨some 4, none, .mov (.c (.int .i64 (-1)))⟩])
      (.ret))
     (.skip)))
   (.seq (.seq (.ops [⟨some 5, none, .mov (.c (.int .i64 0))⟩])
     (.block 0 (.loop [0, 1, 5] b_laws_szCoreS_0)))
    (.seq (.ops [⟨some 26, none, .mov (.t 1)⟩, ⟨some 4, none, .mov (.t 26)⟩])
     (.ret)))))
def s_laws_szCoreS : SFn := ⟨2, 27, c_laws_szCoreS, [.t 4]⟩
/-- loop.example/g00286/laws.szNoteS -/
def c_laws_szNoteS : SCode :=
 .seq (.ops [⟨some 4, none, .mov (.c (.int .i64 0))⟩])
 (.seq (.ops [⟨some 5, none, .mov (.t 1)⟩, ⟨some 6, none, .mov (.t 0)⟩, ⟨some 7, none, .len (.t 6)⟩, ⟨some 8, none, .ari .sub (.t 5) (.t 7)⟩, ⟨some 1, none, .mov (.t 8)⟩])
  (.seq (.seq (.ops [⟨some 9, none, .mov (.t 1)⟩, ⟨some 10, none, .cmp .lss (.t 9) (.c (.int .i64 0))⟩])
    (.cond (.t 10) (.seq (.ops [⟨some 4, none, .mov (.c (.int .i64 (-1)))⟩])
      (.ret))
     (.skip)))
   (.seq (.ops [⟨some 11, none, .mov (.t 1)⟩, ⟨some 4, none, .mov (.t 11)⟩])
    (.ret))))
def s_laws_szNoteS : SFn := ⟨2, 12, c_laws_szNoteS, [.t 4]⟩
/-- loop.example/g00286/spec.l26Body -/
def c_spec_l26Body : SCode :=
 .seq (.ops [⟨some 2, none, .mov (.c (.int .i64 0))⟩])
 (.seq (.ops [⟨some 4, none, .mov (.t 0)⟩, ⟨some 5, none, .ari .sub (.t 4) (.c (.int .i64 1000))⟩, ⟨some 6, none, .ari .quo (.t 5) (.c (.int .i64 200))⟩, ⟨some 3, none, .mov (.t 6)⟩])
  (.seq (.seq (.ops [⟨some 7, none, .mov (.t 0)⟩, ⟨some 8, none, .cmp .lss (.t 7) (.c (.int .i64 1000))⟩, ⟨some 9, none, .mov (.t 8)⟩, ⟨some 10, (some (9, false)), .mov (.t 3)⟩, ⟨some 11, (some (9, false)), .cmp .geq (.t 10) (.c (.int .i64 6))⟩, ⟨some 12, none, .pick (.t 9) (.c (.bool true)) (.t 11)⟩, ⟨some 13, none, .mov (.t 12)⟩, ⟨some 14, (some (13, false)), .mov (.t 3)⟩, ⟨some 15, (some (13, false)), .ari .mul (.t 14) (.c (.int .i64 200))⟩, ⟨some 16, (some (13, false)), .ari .add (.c (.int .i64 1000)) (.t 15)⟩, ⟨some 17, (some (13, false)), .mov (.t 0)⟩, ⟨some 18, (some (13, false)), .cmp .neq (.t 16) (.t 17)⟩, ⟨some 19, none, .pick (.t 13) (.c (.bool true)) (.t 18)⟩])
    (.cond (.t 19) (.seq (.ops [⟨some 2, none, .mov (.c (.int .i64 (-1)))⟩])
      (.ret))
     (.skip)))
   (.seq (.ops [⟨some 20, none, .mov (.t 3)⟩, ⟨some 2, none, .mov (.t 20)⟩])
    (.ret))))
def s_spec_l26Body : SFn := ⟨1, 21, c_spec_l26Body, [.t 2]⟩
def b_laws_toInsS_0 : SCode :=
 .seq (.seq (.ops [⟨some 8, none, .mov (.t 4)⟩, ⟨some 9, none, .mov (.t 0)⟩, ⟨some 10, none, .len (.t 9)⟩, ⟨some 11, none, .cmp .lss (.t 8) (.t 10)⟩])
  (.cond (.t 11) (.skip)
   (.seq (.keep [3]) (.exit 0))))
 (.seq (.block 1 (.ops [⟨some 14, none, .mov (.t 3)⟩, ⟨some 15, none, .mov (.t 4)⟩, ⟨some 16, none, .mov (.t 0)⟩, ⟨some 17, none, .mov (.t 4)⟩, ⟨some 18, none, .ixa 6 (.t 16) (.t 17)⟩, ⟨some 19, none, .load (some 6) (.t 18)⟩, ⟨some 20, none, .callr laws_toIns [.t 19]⟩, ⟨some 21, none, .ixa 6 (.t 14) (.t 15)⟩, ⟨none, none, .store 6 (.t 21) (.t 20)⟩]))
  (.ops [⟨some 12, none, .mov (.t 4)⟩, ⟨some 13, none, .ari .add (.t 12) (.c (.int .i64 1))⟩, ⟨some 4, none, .mov (.t 13)⟩]))
/-- loop.example/g00286/laws.toInsS -/
def c_laws_toInsS : SCode :=
 .seq (.ops [⟨some 2, none, .mov (.n 6)⟩])
 (.seq (.ops [⟨some 5, none, .mov (.t 0)⟩, ⟨some 6, none, .len (.t 5)⟩, ⟨some 7, none, .mk 6 48 [.v (.int .i64 0), .v (.int .i64 0), .v (.int .i64 0), .v (.int .i64 0), .v (.int .i64 0), .v (.int .i64 0)] (.t 6)⟩, ⟨some 3, none, .mov (.t 7)⟩])
  (.seq (.seq (.ops [⟨some 4, none, .mov (.c (.int .i64 0))⟩])
    (.block 0 (.loop [0, 3, 4] b_laws_toInsS_0)))
   (.seq (.ops [⟨some 22, none, .mov (.t 3)⟩, ⟨some 2, none, .mov (.t 22)⟩])
    (.ret))))
def s_laws_toInsS : SFn := ⟨1, 23, c_laws_toInsS, [.t 2]⟩
def b_laws_toIntS_0 : SCode :=
 .seq (.seq (.ops [⟨some 8, none, .mov (.t 4)⟩, ⟨some 9, none, .mov (.t 0)⟩, ⟨some 10, none, .len (.t 9)⟩, ⟨some 11, none, .cmp .lss (.t 8) (.t 10)⟩])
  (.cond (.t 11) (.skip)
   (.seq (.keep [3]) (.exit 0))))
 (.seq (.block 1 (.ops [⟨some 14, none, .mov (.t 3)⟩, ⟨some 15, none, .mov (.t 4)⟩, ⟨some 16, none, .mov (.t 0)⟩, ⟨some 17, none, .mov (.t 4)⟩, ⟨some 18, none, .ixa 1 (.t 16) (.t 17)⟩, ⟨some 19, none, .load none (.t 18)⟩, ⟨some 20, none, .ixa 1 (.t 14) (.t 15)⟩, ⟨none, none, .store 1 (.t 20) (.t 19)⟩]))
  (.ops [⟨some 12, none, .mov (.t 4)⟩, ⟨some 13, none, .ari .add (.t 12) (.c (.int .i64 1))⟩, ⟨some 4, none, .mov (.t 13)⟩]))
/-- loop.example/g00286/laws.toIntS -/
def c_laws_toIntS : SCode :=
 .seq (.ops [⟨some 2, none, .mov (.n 1)⟩])
 (.seq (.ops [⟨some 5, none, .mov (.t 0)⟩, ⟨some 6, none, .len (.t 5)⟩, ⟨some 7, none, .mk 1 8 [.v (.int .i64 0)] (.t 6)⟩, ⟨some 3, none, .mov (.t 7)⟩])
  (.seq (.seq (.ops [⟨some 4, none, .mov (.c (.int .i64 0))⟩])
    (.block 0 (.loop [0, 3, 4] b_laws_toIntS_0)))
   (.seq (.ops [⟨some 21, none, .mov (.t 3)⟩, ⟨some 2, none, .mov (.t 21)⟩])
    (.ret))))
def s_laws_toIntS : SFn := ⟨1, 22, c_laws_toIntS, [.t 2]⟩
def b_laws_toCoreS_0 : SCode :=
 .seq (.seq (.ops [⟨some 8, none, .mov (.t 4)⟩, ⟨some 9, none, .mov (.t 0)⟩, ⟨some 10, none, .len (.t 9)⟩, ⟨some 11, none, .cmp .lss (.t 8) (.t 10)⟩])
  (.cond (.t 11) (.skip)
   (.seq (.keep [3]) (.exit 0))))
 (.seq (.block 1 (.ops [⟨some 14, none, .mov (.t 3)⟩, ⟨some 15, none, .mov (.t 4)⟩, ⟨some 16, none, .mov (.t 0)⟩, ⟨some 17, none, .mov (.t 4)⟩, ⟨some 18, none, .ixa 3 (.t 16) (.t 17)⟩, ⟨some 19, none, .load (some 3) (.t 18)⟩, ⟨some 20, none, .call laws_toCore [.t 19]⟩, ⟨some 21, none, .ixa 3 (.t 14) (.t 15)⟩, ⟨none, none, .store 3 (.t 21) (.t 20)⟩]))
  (.ops [⟨some 12, none, .mov (.t 4)⟩, ⟨some 13, none, .ari .add (.t 12) (.c (.int .i64 1))⟩, ⟨some 4, none, .mov (.t 13)⟩]))
/-- loop.example/g00286/laws.toCoreS -/
def c_laws_toCoreS : SCode :=
 .seq (.ops [⟨some 2, none, .mov (.n 3)⟩])
 (.seq (.ops [⟨some 5, none, .mov (.t 0)⟩, ⟨some 6, none, .len (.t 5)⟩, ⟨some 7, none, .mk 3 40 [.v (.int .i64 0), .v (.int .i64 0), .s 1 []] (.t 6)⟩, ⟨some 3, none, .mov (.t 7)⟩])
  (.seq (.seq (.ops [⟨some 4, none, .mov (.c (.int .i64 0))⟩])
    (.block 0 (.loop [0, 3, 4] b_laws_toCoreS_0)))
   (.seq (.ops [⟨some 22, none, .mov (.t 3)⟩, ⟨some 2, none, .mov (.t 22)⟩])
    (.ret))))
def s_laws_toCoreS : SFn := ⟨1, 23, c_laws_toCoreS, [.t 2]⟩
def b_laws_toNoteS_0 : SCode :=
 .seq (.seq (.ops [⟨some 8, none, .mov (.t 4)⟩, ⟨some 9, none, .mov (.t 0)⟩, ⟨some 10, none, .len (.t 9)⟩, ⟨some 11, none, .cmp .lss (.t 8) (.t 10)⟩])
  (.cond (.t 11) (.skip)
   (.seq (.keep [3]) (.exit 0))))
 (.seq (.block 1 (.ops [⟨some 14, none, .mov (.t 3)⟩, ⟨some 15, none, .mov (.t 4)⟩, ⟨some 16, none, .mov (.t 0)⟩, ⟨some 17, none, .mov (.t 4)⟩, ⟨some 18, none, .ixa 2 (.t 16) (.t 17)⟩, ⟨some 19, none, .load (some 2) (.t 18)⟩, ⟨some 20, none, .callr laws_toNote [.t 19]⟩, ⟨some 21, none, .ixa 2 (.t 14) (.t 15)⟩, ⟨none, none, .store 2 (.t 21) (.t 20)⟩]))
  (.ops [⟨some 12, none, .mov (.t 4)⟩, ⟨some 13, none, .ari .add (.t 12) (.c (.int .i64 1))⟩, ⟨some 4, none, .mov (.t 13)⟩]))
/-- loop.example/g00286/laws.toNoteS -/
def c_laws_toNoteS : SCode :=
 .seq (.ops [⟨some 2, none, .mov (.n 2)⟩])
 (.seq (.ops [⟨some 5, none, .mov (.t 0)⟩, ⟨some 6, none, .len (.t 5)⟩, ⟨some 7, none, .mk 2 16 [.v (.int .i64 0), .v (.int .i64 0)] (.t 6)⟩, ⟨some 3, none, .mov (.t 7)⟩])
  (.seq (.seq (.ops [⟨some 4, none, .mov (.c (.int .i64 0))⟩])
    (.block 0 (.loop [0, 3, 4] b_laws_toNoteS_0)))
   (.seq (.ops [⟨some 22, none, .mov (.t 3)⟩, ⟨some 2, none, .mov (.t 22)⟩])
    (.ret))))
def s_laws_toNoteS : SFn := ⟨1, 23, c_laws_toNoteS, [.t 2]⟩
/-- loop.example/g00286/impl.bodyOf -/
def c_impl_bodyOf : SCode :=
 .seq (.ops [⟨some 2, none, .mov (.c (.int .i64 0))⟩])
 (.seq (.ops [⟨some 4, none, .mov (.t 0)⟩, ⟨some 5, none, .ari .sub (.t 4) (.c (.int .i64 1000))⟩, ⟨some 3, none, .mov (.t 5)⟩])
  (.seq (.seq (.ops [⟨some 6, none, .mov (.t 3)⟩, ⟨some 7, none, .cmp .lss (.t 6) (.c (.int .i64 0))⟩, ⟨some 8, none, .mov (.t 7)⟩, ⟨some 9, (some (8, false)), .mov (.t 3)⟩, ⟨some 10, (some (8, false)), .ari .rem (.t 9) (.c (.int .i64 200))⟩, ⟨some 11, (some (8, false)), .cmp .neq (.t 10) (.c (.int .i64 0))⟩, ⟨some 12, none, .pick (.t 8) (.c (.bool true)) (.t 11)⟩, ⟨some 13, none, .mov (.t 12)⟩, ⟨some 14, (some (13, false)), .mov (.t 3)⟩, ⟨some 15, (some (13, false)), .ari .quo (.t 14) (.c (.int .i64 200))⟩, ⟨some 16, (some (13, false)), .cmp .geq (.t 15) (.c (.int .i64 6))⟩, ⟨some 17, none, .pick (.t 13) (.c (.bool true)) (.t 16)⟩])
    (.cond (.t 17) (.seq (.ops [⟨some 2, none, .mov (.c (.int .i64 (-1)))⟩])
      (.ret))
     (.skip)))
   (.seq (.ops [⟨some 18, none, .mov (.t 3)⟩, ⟨some 19, none, .ari .quo (.t 18) (.c (.int .i64 200))⟩, ⟨some 2, none, .mov (.t 19)⟩])
    (.ret))))
def s_impl_bodyOf : SFn := ⟨1, 20, c_impl_bodyOf, [.t 2]⟩
def b_laws_eqInsS_0 : SCode :=
 .seq (.seq (.ops [⟨some 11, none, .mov (.t 5)⟩, ⟨some 12, none, .mov (.t 0)⟩, ⟨some 13, none, .len (.t 12)⟩, ⟨some 14, none, .cmp .lss (.t 11) (.t 13)⟩])
  (.cond (.t 14) (.skip)
   (.seq (.keep []) (.exit 0))))
 (.seq (.block 1 (.seq (.ops [⟨some 17, none, .mov (.t 0)⟩, ⟨some 18, none, .mov (.t 5)⟩, ⟨some 19, none, .ixa 6 (.t 17) (.t 18)⟩, ⟨some 20, none, .load (some 6) (.t 19)⟩, ⟨some 21, none, .mov (.t 1)⟩, ⟨some 22, none, .mov (.t 5)⟩, ⟨some 23, none, .ixa 6 (.t 21) (.t 22)⟩, ⟨some 24, none, .load (some 6) (.t 23)⟩, ⟨some 25, none, .callr laws_eqIns [.t 20, .t 24]⟩, ⟨some 26, none, .not (.t 25)⟩])
    (.cond (.t 26) (.seq (.ops [⟨some 4, none, .mov (.c (.bool false))⟩])
      (.seq (.keep [4]) .ret))
     (.skip))))
  (.ops [⟨some 15, none, .mov (.t 5)⟩, ⟨some 16, none, .ari .add (.t 15) (.c (.int .i64 1))⟩, ⟨some 5, none, .mov (.t 16)⟩]))
/-- loop.example/g00286/laws.eqInsS -/
def c_laws_eqInsS : SCode :=
 .seq (.ops [⟨some 4, none, .mov (.c (.bool false))⟩])
 (.seq (.seq (.ops [⟨some 6, none, .mov (.t 0)⟩, ⟨some 7, none, .len (.t 6)⟩, ⟨some 8, none, .mov (.t 1)⟩, ⟨some 9, none, .len (.t 8)⟩, ⟨some 10, none, .cmp .neq (.t 7) (.t 9)⟩])
   (.cond (.t 10) (.seq (.ops [⟨some 4, none, .mov (.c (.bool false))⟩])
     (.ret))
    (.skip)))
  (.seq (.seq (.ops [⟨some 5, none, .mov (.c (.int .i64 0))⟩])
    (.block 0 (.loop [0, 1, 5] b_laws_eqInsS_0)))
   (.seq (.ops [⟨some 4, none, .mov (.c (.bool true))⟩])
    (.ret))))
def s_laws_eqInsS : SFn := ⟨2, 27, c_laws_eqInsS, [.t 4]⟩
def b_laws_eqCoreS_0 : SCode :=
 .seq (.seq (.ops [⟨some 11, none, .mov (.t 5)⟩, ⟨some 12, none, .mov (.t 0)⟩, ⟨some 13, none, .len (.t 12)⟩, ⟨some 14, none, .cmp .lss (.t 11) (.t 13)⟩])
  (.cond (.t 14) (.skip)
   (.seq (.keep []) (.exit 0))))
 (.seq (.block 1 (.seq (.ops [⟨some 17, none, .mov (.t 0)⟩, ⟨some 18, none, .mov (.t 5)⟩, ⟨some 19, none, .ixa 3 (.t 17) (.t 18)⟩, ⟨some 20, none, .load (some 3) (.t 19)⟩, ⟨some 21, none, .mov (.t 1)⟩, ⟨some 22, none, .mov (.t 5)⟩, ⟨some 23, none, .ixa 3 (.t 21) (.t 22)⟩, ⟨some 24, none, .load (some 3) (.t 23)⟩, ⟨some 25, none, .callr laws_eqCore [.t 20, .t 24]⟩, ⟨some 26, none, .not (.t 25)⟩])
    (.cond (.t 26) (.seq (.ops [⟨some 4, none, .mov (.c (.bool false))⟩])
      (.seq (.keep [4]) .ret))
     (.skip))))
  (.ops [⟨some 15, none, .mov (.t 5)⟩, ⟨some 16, none, .ari .add (.t 15) (.c (.int .i64 1))⟩, ⟨some 5, none, .mov (.t 16)⟩]))
/-- loop.example/g00286/laws.eqCoreS -/
def c_laws_eqCoreS : SCode :=
 .seq (.ops [⟨some 4, none, .mov (.c (.bool false))⟩])
 (.seq (.seq (.ops [⟨some 6, none, .mov (.t 0)⟩, ⟨some 7, none, .len (.t 6)⟩, ⟨some 8, none, .mov (.t 1)⟩, ⟨some 9, none, .len (.t 8)⟩, ⟨some 10, none, .cmp .neq (.t 7) (.t 9)⟩])
   (.cond (.t 10) (.seq (.ops [⟨some 4, none, .mov (.c (.bool false))⟩])
     (.ret))
    (.skip)))
  (.seq (.seq (.ops [⟨some 5, none, .mov (.c (.int .i64 0))⟩])
    (.block 0 (.loop [0, 1, 5] b_laws_eqCoreS_0)))
   (.seq (.ops [⟨some 4, none, .mov (.c (.bool true))⟩])
    (.ret))))
def s_laws_eqCoreS : SFn := ⟨2, 27, c_laws_eqCoreS, [.t 4]⟩
def b_laws_eqNoteS_0 : SCode :=
 .seq (.seq (.ops [⟨some 11, none, .mov (.t 5)⟩, ⟨some 12, none, .mov (.t 0)⟩, ⟨some 13, none, .len (.t 12)⟩, ⟨some 14, none, .cmp .lss (.t 11) (.t 13)⟩])
  (.cond (.t 14) (.skip)
   (.seq (.keep []) (.exit 0))))
 (.seq (.block 1 (.seq (.ops [⟨some 17, none, .mov (.t 0)⟩, ⟨some 18, none, .mov (.t 5)⟩, ⟨some 19, none, .ixa 2 (.t 17) (.t 18)⟩, ⟨some 20, none, .load (some 2) (.t 19)⟩, ⟨some 21, none, .mov (.t 1)⟩, ⟨some 22, none, .mov (.t 5)⟩, ⟨some 23, none, .ixa 2 (.t 21) (.t 22)⟩, ⟨some 24, none, .load (some 2) (.t 23)⟩, ⟨some 25, none, .callr laws_eqNote [.t 20, .t 24]⟩, ⟨some 26, none, .not (.t 25)⟩])
    (.cond (.t 26) (.seq (.ops [⟨some 4, none, .mov (.c (.bool false))⟩])
      (.seq (.keep [4]) .ret))
     (.skip))))
  (.ops [⟨some 15, none, .mov (.t 5)⟩, ⟨some 16, none, .ari .add (.t 15) (.c (.int .i64 1))⟩, ⟨some 5, none, .mov (.t 16)⟩]))
/-- loop.example/g00286/laws.eqNoteS -/
def c_laws_eqNoteS : SCode :=
 .seq (.ops [⟨some 4, none, .mov (.c (.bool false))⟩])
 (.seq (.seq (.ops [⟨some 6, none, .mov (.t 0)⟩, ⟨some 7, none, .len (.t 6)⟩, ⟨some 8, none, .mov (.t 1)⟩, ⟨some 9, none, .len (.t 8)⟩, ⟨some 10, none, .cmp .neq (.t 7) (.t 9)⟩])
   (.cond (.t 10) (.seq (.ops [⟨some 4, none, .mov (.c (.bool false))⟩])
     (.ret))
    (.skip)))
  (.seq (.seq (.ops [⟨some 5, none, .mov (.c (.int .i64 0))⟩])
    (.block 0 (.loop [0, 1, 5] b_laws_eqNoteS_0)))
   (.seq (.ops [⟨some 4, none, .mov (.c (.bool true))⟩])
    (.ret))))
def s_laws_eqNoteS : SFn := ⟨2, 27, c_laws_eqNoteS, [.t 4]⟩
def b_laws_markInsS_0 : SCode :=
 .seq (.seq (.ops [⟨some 6, none, .mov (.t 5)⟩, ⟨some 7, none, .mov (.t 0)⟩, ⟨some 8, none, .len (.t 7)⟩, ⟨some 9, none, .cmp .lss (.t 6) (.t 8)⟩])
  (.cond (.t 9) (.skip)
   (.seq (.keep [1]) (.exit 0))))
 (.seq (.block 1 (.seq (.ops [⟨some 12, none, .mov (.t 0)⟩, ⟨some 13, none, .mov (.t 5)⟩, ⟨some 14, none, .mov (.t 1)⟩, ⟨some 15, none, .ixa 6 (.t 12) (.t 13)⟩, ⟨some 16, none, .faddr 0 (.t 15)⟩, ⟨none, none, .store 1 (.t 16) (.t 14)⟩])
    (.seq (.ops [⟨some 17, none, .mov (.t 1)⟩, ⟨some 18, none, .ari .add (.t 17) (.c (.int .i64 1))⟩, ⟨some 1, none, .mov (.t 18)⟩])
     (.seq (.ops [⟨some 19, none, .mov (.t 0)⟩, ⟨some 20, none, .mov (.t 5)⟩, ⟨some 21, none, .mov (.t 1)⟩, ⟨some 22, none, .ixa 6 (.t 19) (.t 20)⟩, ⟨some 23, none, .faddr 1 (.t 22)⟩, ⟨none, none, .store 1 (.t 23) (.t 21)⟩])
      (.seq (.ops [⟨some 24, none, .mov (.t 1)⟩, ⟨some 25, none, .ari .add (.t 24) (.c (.int .i64 1))⟩, ⟨some 1, none, .mov (.t 25)⟩])
       (.seq (.ops [⟨some 26, none, .mov (.t 0)⟩, ⟨some 27, none, .mov (.t 5)⟩, ⟨some 28, none, .mov (.t 1)⟩, ⟨some 29, none, .ixa 6 (.t 26) (.t 27)⟩, ⟨some 30, none, .faddr 2 (.t 29)⟩, ⟨none, none, .store 1 (.t 30) (.t 28)⟩])
        (.seq (.ops [⟨some 31, none, .mov (.t 1)⟩, ⟨some 32, none, .ari .add (.t 31) (.c (.int .i64 1))⟩, ⟨some 1, none, .mov (.t 32)⟩])
         (.seq (.ops [⟨some 33, none, .mov (.t 0)⟩, ⟨some 34, none, .mov (.t 5)⟩, ⟨some 35, none, .mov (.t 1)⟩, ⟨some 36, none, .ixa 6 (.t 33) (.t 34)⟩, ⟨some 37, none, .faddr 3 (.t 36)⟩, ⟨none, none, .store 1 (.t 37) (.t 35)⟩])
          (.seq (.ops [⟨some 38, none, .mov (.t 1)⟩, ⟨some 39, none, .ari .add (.t 38) (.c (.int .i64 1))⟩, ⟨some 1, none, .mov (.t 39)⟩])
           (.seq (.ops [⟨some 40, none, .mov (.t 0)⟩, ⟨some 41, none, .mov (.t 5)⟩, ⟨some 42, none, .mov (.t 1)⟩, ⟨some 43, none, .ixa 6 (.t 40) (.t 41)⟩, ⟨some 44, none, .faddr 4 (.t 43)⟩, ⟨none, none, .store 1 (.t 44) (.t 42)⟩])
            (.seq (.ops [⟨some 45, none, .mov (.t 1)⟩, ⟨some 46, none, .ari .add (.t 45) (.c (.int .i64 1))⟩, ⟨some 1, none, .mov (.t 46)⟩])
             (.seq (.ops [⟨some 47, none, .mov (.t 0)⟩, ⟨some 48, none, .mov (.t 5)⟩, ⟨some 49, none, .mov (.t 1)⟩, ⟨some 50, none, .ixa 6 (.t 47) (.t 48)⟩, ⟨some 51, none, .faddr 5 (.t 50)⟩, ⟨none, none, .store 1 (.t 51) (.t 49)⟩])
              (.ops [⟨some 52, none, .mov (.t 1)⟩, ⟨some 53, none, .ari .add (.t 52) (.c (.int .i64 1))⟩, ⟨some 1, none, .mov (.t 53)⟩])))))))))))))
  (.ops [⟨some 10, none, .mov (.t 5)⟩, ⟨some 11, none, .ari .add (.t 10) (.c (.int .i64 1))⟩, ⟨some 5, none, .mov (.t 11)⟩]))
/-- loop.example/g00286/laws.markInsS -/
def c_laws_markInsS : SCode :=
 .seq (.ops [⟨some 4, none, .mov (.c (.int .i64 0))⟩])
 (.seq (.seq (.ops [⟨some 5, none, .mov (.c (.int .i64 0))⟩])
   (.block 0 (.loop [0, 1, 5] b_laws_markInsS_0)))
  (.seq (.ops [⟨some 54, none, .mov (.t 1)⟩, ⟨some 4, none, .mov (.t 54)⟩])
   (.ret)))
def s_laws_markInsS : SFn := ⟨2, 55, c_laws_markInsS, [.t 4]⟩
def b_laws_markCoreS_0 : SCode :=
 .seq (.seq (.ops [⟨some 6, none, .mov (.t 5)⟩, ⟨some 7, none, .mov (.t 0)⟩, ⟨some 8, none, .len (.t 7)⟩, ⟨some 9, none, .cmp .lss (.t 6) (.t 8)⟩])
  (.cond (.t 9) (.skip)
   (.seq (.keep [1]) (.exit 0))))
 (.seq (.block 1 (.seq (.ops [⟨some 12, none, .mov (.t 0)⟩, ⟨some 13, none, .mov (.t 5)⟩, ⟨some 14, none, .mov (.t 1)⟩, ⟨some 15, none, .ixa 3 (.t 12) (.t 13)⟩, ⟨some 16, none, .faddr 0 (.t 15)⟩, ⟨none, none, .store 1 (.t 16) (.t 14)⟩])
    (.seq (.ops [⟨some 17, none, .mov (.t 1)⟩, ⟨some 18, none, .ari .add (.t 17) (.c (.int .i64 1))⟩, ⟨some 1, none, .mov (.t 18)⟩])
     (.seq (.ops [⟨some 19, none, .mov (.t 0)⟩, ⟨some 20, none, .mov (.t 5)⟩, ⟨some 21, none, .mov (.t 1)⟩, ⟨some 22, none, .ixa 3 (.t 19) (.t 20)⟩, ⟨some 23, none, .faddr 1 (.t 22)⟩, ⟨none, none, .store 1 (.t 23) (.t 21)⟩])
      (.seq (.ops [⟨some 24, none, .mov (.t 1)⟩, ⟨some 25, none, .ari .add (.t 24) (.c (.int .i64 1))⟩, ⟨some 1, none, .mov (.t 25)⟩])
       (.ops [⟨some 26, none, .mov (.t 0)⟩, ⟨some 27, none, .mov (.t 5)⟩, ⟨some 28, none, .ixa 3 (.t 26) (.t 27)⟩, ⟨some 29, none, .faddr 2 (.t 28)⟩, ⟨some 30, none, .load none (.t 29)⟩, ⟨some 31, none, .mov (.t 1)⟩, ⟨some 32, none, .callb laws_markIntS [.t 30, .t 31] [true, false]⟩, ⟨some 1, none, .mov (.t 32)⟩]))))))
  (.ops [⟨some 10, none, .mov (.t 5)⟩, ⟨some 11, none, .ari .add (.t 10) (.c (.int .i64 1))⟩, ⟨some 5, none, .mov (.t 11)⟩]))
/-- loop.example/g00286/laws.markCoreS -/
def c_laws_markCoreS : SCode :=
 .seq (.ops [⟨some 4, none, .mov (.c (.int .i64 0))⟩])
 (.seq (.seq (.ops [⟨some 5, none, .mov (.c (.int .i64 0))⟩])
   (.block 0 (.loop [0, 1, 5] b_laws_markCoreS_0)))
  (.seq (.ops [⟨some 33, none, .mov (.t 1)⟩, ⟨some 4, none, .mov (.t 33)⟩])
   (.ret)))
def s_laws_markCoreS : SFn := ⟨2, 34, c_laws_markCoreS, [.t 4]⟩
def b_laws_markNoteS_0 : SCode :=
 .seq (.seq (.ops [⟨some 6, none, .mov (.t 5)⟩, ⟨some 7, none, .mov (.t 0)⟩, ⟨some 8, none, .len (.t 7)⟩, ⟨some 9, none, .cmp .lss (.t 6) (.t 8)⟩])
  (.cond (.t 9) (.skip)
   (.seq (.keep [1]) (.exit 0))))
 (.seq (.block 1 (.seq (.ops [⟨some 12, none, .mov (.t 0)⟩, ⟨some 13, none, .mov (.t 5)⟩, ⟨some 14, none, .mov (.t 1)⟩, ⟨some 15, none, .ixa 2 (.t 12) (.t 13)⟩, ⟨some 16, none, .faddr 0 (.t 15)⟩, ⟨none, none, .store 1 (.t 16) (.t 14)⟩])
    (.seq (.ops [⟨some 17, none, .mov (.t 1)⟩, ⟨some 18, none, .ari .add (.t 17) (.c (.int .i64 1))⟩, ⟨some 1, none, .mov (.t 18)⟩])
     (.seq (.ops [⟨some 19, none, .mov (.t 0)⟩, ⟨some 20, none, .mov (.t 5)⟩, ⟨some 21, none, .mov (.t 1)⟩, ⟨some 22, none, .ixa 2 (.t 19) (.t 20)⟩, ⟨some 23, none, .faddr 1 (.t 22)⟩, ⟨none, none, .store 1 (.t 23) (.t 21)⟩])
      (.ops [⟨some 24, none, .mov (.t 1)⟩, ⟨some 25, none, .ari .add (.t 24) (.c (.int .i64 1))⟩, ⟨some 1, none, .mov (.t 25)⟩])))))
  (.ops [⟨some 10, none, .mov (.t 5)⟩, ⟨some 11, none, .ari .add (.t 10) (.c (.int .i64 1))⟩, ⟨some 5, none, .mov (.t 11)⟩]))
/-- loop.example/g00286/laws.markNoteS -/
def c_laws_markNoteS : SCode :=
 .seq (.ops [⟨some 4, none, .mov (.c (.int .i64 0))⟩])
 (.seq (.seq (.ops [⟨some 5, none, .mov (.c (.int .i64 0))⟩])
   (.block 0 (.loop [0, 1, 5] b_laws_markNoteS_0)))
  (.seq (.ops [⟨some 26, none, .mov (.t 1)⟩, ⟨some 4, none, .mov (.t 26)⟩])
   (.ret)))
def s_laws_markNoteS : SFn := ⟨2, 27, c_laws_markNoteS, [.t 4]⟩
/-- loop.example/g00286/laws.szCore -/
def c_laws_szCore : SCode :=
 .seq (.ops [⟨some 2, none, .vbox 3 (.t 0)⟩, ⟨some 4, none, .mov (.c (.int .i64 0))⟩])
 (.seq (.ops [⟨some 5, none, .faddr 2 (.t 2)⟩, ⟨some 6, none, .load none (.t 5)⟩, ⟨some 7, none, .mov (.t 1)⟩, ⟨some 8, none, .callr laws_szIntS [.t 6, .t 7]⟩, ⟨some 1, none, .mov (.t 8)⟩])
  (.seq (.seq (.ops [⟨some 9, none, .mov (.t 1)⟩, ⟨some 10, none, .cmp .lss (.t 9) (.c (.int .i64 0))⟩])
    (.cond (.t 10) (.seq (.ops [⟨some 4, none, .mov (.c (.int .i64 (-1)))⟩])
      (.ret))
     (.skip)))
   (.seq (.ops [⟨some 11, none, .mov (.t 1)⟩, ⟨some 4, none, .mov (.t 11)⟩])
    (.ret))))
def s_laws_szCore : SFn := ⟨2, 12, c_laws_szCore, [.t 4]⟩
/-- loop.example/g00286/laws.toIns -/
def c_laws_toIns : SCode :=
 .seq (.ops [⟨some 1, none, .vbox 6 (.t 0)⟩, ⟨some 2, none, .alloc [.v (.int .i64 0), .v (.int .i64 0), .v (.int .i64 0), .v (.int .i64 0), .v (.int .i64 0), .v (.int .i64 0)]⟩])
 (.seq (.ops [⟨some 3, none, .alloc [.v (.int .i64 0), .v (.int .i64 0), .v (.int .i64 0), .v (.int .i64 0), .v (.int .i64 0), .v (.int .i64 0)]⟩])
  (.seq (.ops [⟨some 4, none, .faddr 0 (.t 1)⟩, ⟨some 5, none, .load none (.t 4)⟩, ⟨some 6, none, .faddr 0 (.t 3)⟩, ⟨none, none, .store 1 (.t 6) (.t 5)⟩])
   (.seq (.ops [⟨some 7, none, .faddr 1 (.t 1)⟩, ⟨some 8, none, .load none (.t 7)⟩, ⟨some 9, none, .faddr 1 (.t 3)⟩, ⟨none, none, .store 1 (.t 9) (.t 8)⟩])
    (.seq (.ops [⟨some 10, none, .faddr 2 (.t 1)⟩, ⟨some 11, none, .load none (.t 10)⟩, ⟨some 12, none, .faddr 2 (.t 3)⟩, ⟨none, none, .store 1 (.t 12) (.t 11)⟩])
     (.seq (.ops [⟨some 13, none, .faddr 3 (.t 1)⟩, ⟨some 14, none, .load none (.t 13)⟩, ⟨some 15, none, .faddr 3 (.t 3)⟩, ⟨none, none, .store 1 (.t 15) (.t 14)⟩])
      (.seq (.ops [⟨some 16, none, .faddr 4 (.t 1)⟩, ⟨some 17, none, .load none (.t 16)⟩, ⟨some 18, none, .faddr 4 (.t 3)⟩, ⟨none, none, .store 1 (.t 18) (.t 17)⟩])
       (.seq (.ops [⟨some 19, none, .faddr 5 (.t 1)⟩, ⟨some 20, none, .load none (.t 19)⟩, ⟨some 21, none, .faddr 5 (.t 3)⟩, ⟨none, none, .store 1 (.t 21) (.t 20)⟩])
        (.seq (.ops [⟨some 22, none, .load (some 6) (.t 3)⟩, ⟨none, none, .store 6 (.t 2) (.t 22)⟩])
         (.ret)))))))))
def s_laws_toIns : SFn := ⟨1, 23, c_laws_toIns, [.c 2 (some 6)]⟩
/-- loop.example/g00286/laws.toCore -/
def c_laws_toCore : SCode :=
 .seq (.ops [⟨some 1, none, .vbox 3 (.t 0)⟩, ⟨some 2, none, .alloc [.v (.int .i64 0), .v (.int .i64 0), .s 1 []]⟩])
 (.seq (.ops [⟨some 3, none, .alloc [.v (.int .i64 0), .v (.int .i64 0), .s 1 []]⟩])
  (.seq (.ops [⟨some 4, none, .faddr 0 (.t 1)⟩, ⟨some 5, none, .load none (.t 4)⟩, ⟨some 6, none, .faddr 0 (.t 3)⟩, ⟨none, none, .store 1 (.t 6) (.t 5)⟩])
   (.seq (.ops [⟨some 7, none, .faddr 1 (.t 1)⟩, ⟨some 8, none, .load none (.t 7)⟩, ⟨some 9, none, .faddr 1 (.t 3)⟩, ⟨none, none, .store 1 (.t 9) (.t 8)⟩])
    (.seq (.ops [⟨some 10, none, .faddr 2 (.t 1)⟩, ⟨some 11, none, .load none (.t 10)⟩, ⟨some 12, none, .call laws_toIntS [.t 11]⟩, ⟨some 13, none, .faddr 2 (.t 3)⟩, ⟨none, none, .store 1 (.t 13) (.t 12)⟩])
     (.seq (.ops [⟨some 14, none, .load (some 3) (.t 3)⟩, ⟨none, none, .store 3 (.t 2) (.t 14)⟩])
      (.ret))))))
def s_laws_toCore : SFn := ⟨1, 15, c_laws_toCore, [.c 2 (some 3)]⟩
/-- loop.example/g00286/laws.toNote -/
def c_laws_toNote : SCode :=
 .seq (.ops [⟨some 1, none, .vbox 2 (.t 0)⟩, ⟨some 2, none, .alloc [.v (.int .i64 0), .v (.int .i64 0)]⟩])
 (.seq (.ops [⟨some 3, none, .alloc [.v (.int .i64 0), .v (.int .i64 0)]⟩])
  (.seq (.ops [⟨some 4, none, .faddr 0 (.t 1)⟩, ⟨some 5, none, .load none (.t 4)⟩, ⟨some 6, none, .faddr 0 (.t 3)⟩, ⟨none, none, .store 1 (.t 6) (.t 5)⟩])
   (.seq (.ops [⟨some 7, none, .faddr 1 (.t 1)⟩, ⟨some 8, none, .load none (.t 7)⟩, ⟨some 9, none, .faddr 1 (.t 3)⟩, ⟨none, none, .store 1 (.t 9) (.t 8)⟩])
    (.seq (.ops [⟨some 10, none, .load (some 2) (.t 3)⟩, ⟨none, none, .store 2 (.t 2) (.t 10)⟩])
     (.ret)))))
def s_laws_toNote : SFn := ⟨1, 11, c_laws_toNote, [.c 2 (some 2)]⟩
/-- loop.example/g00286/laws.eqIns -/
def c_laws_eqIns : SCode :=
 .seq (.ops [⟨some 2, none, .vbox 6 (.t 0)⟩, ⟨some 3, none, .vbox 6 (.t 1)⟩, ⟨some 4, none, .mov (.c (.bool false))⟩])
 (.seq (.seq (.ops [⟨some 5, none, .faddr 0 (.t 2)⟩, ⟨some 6, none, .load none (.t 5)⟩, ⟨some 7, none, .faddr 0 (.t 3)⟩, ⟨some 8, none, .load none (.t 7)⟩, ⟨some 9, none, .cmp .neq (.t 6) (.t 8)⟩])
   (.cond (.t 9) (.seq (.ops [⟨some 4, none, .mov (.c (.bool false))⟩])
     (.ret))
    (.skip)))
  (.seq (.seq (.ops [⟨some 10, none, .faddr 1 (.t 2)⟩, ⟨some 11, none, .load none (.t 10)⟩, ⟨some 12, none, .faddr 1 (.t 3)⟩, ⟨some 13, none, .load none (.t 12)⟩, ⟨some 14, none, .cmp .neq (.t 11) (.t 13)⟩])
    (.cond (.t 14) (.seq (.ops [⟨some 4, none, .mov (.c (.bool false))⟩])
      (.ret))
     (.skip)))
   (.seq (.seq (.ops [⟨some 15, none, .faddr 2 (.t 2)⟩, ⟨some 16, none, .load none (.t 15)⟩, ⟨some 17, none, .faddr 2 (.t 3)⟩, ⟨some 18, none, .load none (.t 17)⟩, ⟨some 19, none, .cmp .neq (.t 16) (.t 18)⟩])
     (.cond (.t 19) (.seq (.ops [⟨some 4, none, .mov (.c (.bool false))⟩])
       (.ret))
      (.skip)))
    (.seq (.seq (.ops [⟨some 20, none, .faddr 3 (.t 2)⟩, ⟨some 21, none, .load none (.t 20)⟩, ⟨some 22, none, .faddr 3 (.t 3)⟩, ⟨some 23, none, .load none (.t 22)⟩, ⟨some 24, none, .cmp .neq (.t 21) (.t 23)⟩])
      (.cond (.t 24) (.seq (.ops [⟨some 4, none, .mov (.c (.bool false))⟩])
        (.ret))
       (.skip)))
     (.seq (.seq (.ops [⟨some 25, none, .faddr 4 (.t 2)⟩, ⟨some 26, none, .load none (.t 25)⟩, ⟨some 27, none, .faddr 4 (.t 3)⟩, ⟨some 28, none, .load none (.t 27)⟩, ⟨some 29, none, .cmp .neq (.t 26) (.t 28)⟩])
       (.cond (.t 29) (.seq (.ops [⟨some 4, none, .mov (.c (.bool false))⟩])
         (.ret))
        (.skip)))
      (.seq (.seq (.ops [⟨some 30, none, .faddr 5 (.t 2)⟩, ⟨some 31, none, .load none (.t 30)⟩, ⟨some 32, none, .faddr 5 (.t 3)⟩, ⟨some 33, none, .load none (.t 32)⟩, ⟨some 34, none, .cmp .neq (.t 31) (.t 33)⟩])
        (.cond (.t 34) (.seq (.ops [⟨some 4, none, .mov (.c (.bool false))⟩])
          (.ret))
         (.skip)))
       (.seq (.ops [⟨some 4, none, .mov (.c (.bool true))⟩])
        (.ret))))))))
def s_laws_eqIns : SFn := ⟨2, 35, c_laws_eqIns, [.t 4]⟩
/-- loop.example/g00286/laws.eqCore -/
def c_laws_eqCore : SCode :=
 .seq (.ops [⟨some 2, none, .vbox 3 (.t 0)⟩, ⟨some 3, none, .vbox 3 (.t 1)⟩, ⟨some 4, none, .mov (.c (.bool false))⟩])
 (.seq (.seq (.ops [⟨some 5, none, .faddr 0 (.t 2)⟩, ⟨some 6, none, .load none (.t 5)⟩, ⟨some 7, none, .faddr 0 (.t 3)⟩, ⟨some 8, none, .load none (.t 7)⟩, ⟨some 9, none, .cmp .neq (.t 6) (.t 8)⟩])
   (.cond (.t 9) (.seq (.ops [⟨some 4, none, .mov (.c (.bool false))⟩])
     (.ret))
    (.skip)))
  (.seq (.seq (.ops [⟨some 10, none, .faddr 1 (.t 2)⟩, ⟨some 11, none, .load none (.t 10)⟩, ⟨some 12, none, .faddr 1 (.t 3)⟩, ⟨some 13, none, .load none (.t 12)⟩, ⟨some 14, none, .cmp .neq (.t 11) (.t 13)⟩])
    (.cond (.t 14) (.seq (.ops [⟨some 4, none, .mov (.c (.bool false))⟩])
      (.ret))
     (.skip)))
   (.seq (.seq (.ops [⟨some 15, none, .faddr 2 (.t 2)⟩, ⟨some 16, none, .load none (.t 15)⟩, ⟨some 17, none, .faddr 2 (.t 3)⟩, ⟨some 18, none, .load none (.t 17)⟩, ⟨some 19, none, .callr laws_eqIntS [.t 16, .t 18]⟩, ⟨some 20, none, .not (.t 19)⟩])
     (.cond (.t 20) (.seq (.ops [⟨some 4, none, .mov (.c (.bool false))⟩])
       (.ret))
      (.skip)))
    (.seq (.ops [⟨some 4, none, .mov (.c (.bool true))⟩])
     (.ret)))))
def s_laws_eqCore : SFn := ⟨2, 21, c_laws_eqCore, [.t 4]⟩
/-- loop.example/g00286/laws.eqNote -/
def c_laws_eqNote : SCode :=
 .seq (.ops [⟨some 2, none, .vbox 2 (.t 0)⟩, ⟨some 3, none, .vbox 2 (.t 1)⟩, ⟨some 4, none, .mov (.c (.bool false))⟩])
 (.seq (.seq (.ops [⟨some 5, none, .faddr 0 (.t 2)⟩, ⟨some 6, none, .load none (.t 5)⟩, ⟨some 7, none, .faddr 0 (.t 3)⟩, ⟨some 8, none, .load none (.t 7)⟩, ⟨some 9, none, .cmp .neq (.t 6) (.t 8)⟩])
   (.cond (.t 9) (.seq (.ops [⟨some 4, none, .mov (.c (.bool false))⟩])
     (.ret))
    (.skip)))
  (.seq (.seq (.ops [⟨some 10, none, .faddr 1 (.t 2)⟩, ⟨some 11, none, .load none (.t 10)⟩, ⟨some 12, none, .faddr 1 (.t 3)⟩, ⟨some 13, none, .load none (.t 12)⟩, ⟨some 14, none, .cmp .neq (.t 11) (.t 13)⟩])
    (.cond (.t 14) (.seq (.ops [⟨some 4, none, .mov (.c (.bool false))⟩])
      (.ret))
     (.skip)))
   (.seq (.ops [⟨some 4, none, .mov (.c (.bool true))⟩])
    (.ret))))
def s_laws_eqNote : SFn := ⟨2, 15, c_laws_eqNote, [.t 4]⟩
def tabL : List (Nat × SFn) := [(3, s_laws_FnExactQueue), (4, s_laws_szMachine), (5, s_spec_Queue), (6, s_laws_toMachine), (7, s_impl_Queue), (8, s_laws_eqIntS), (9, s_laws_eqMachine), (10, s_laws_markMachine), (11, s_laws_markIntS), (12, s_laws_heldIntS), (13, s_laws_szInsS), (14, s_laws_szIntS), (15, s_laws_szCoreS), (16, s_laws_szNoteS), (17, s_spec_l26Body), (18, s_laws_toInsS), (19, s_laws_toIntS), (20, s_laws_toCoreS), (21, s_laws_toNoteS), (22, s_impl_bodyOf), (23, s_laws_eqInsS), (24, s_laws_eqCoreS), (25, s_laws_eqNoteS), (26, s_laws_markInsS), (27, s_laws_markCoreS), (28, s_laws_markNoteS), (29, s_laws_szCore), (30, s_laws_toIns), (31, s_laws_toCore), (32, s_laws_toNote), (33, s_laws_eqIns), (34, s_laws_eqCore), (35, s_laws_eqNote)]
def tab (f : Nat) : Option SFn := (tabL.find? fun p => p.1 == f).map fun p => p.2
theorem t_laws_FnExactQueue : tab laws_FnExactQueue = some s_laws_FnExactQueue := rfl
theorem t_laws_szMachine : tab laws_szMachine = some s_laws_szMachine := rfl
theorem t_spec_Queue : tab spec_Queue = some s_spec_Queue := rfl
theorem t_laws_toMachine : tab laws_toMachine = some s_laws_toMachine := rfl
theorem t_impl_Queue : tab impl_Queue = some s_impl_Queue := rfl
theorem t_laws_eqIntS : tab laws_eqIntS = some s_laws_eqIntS := rfl
theorem t_laws_eqMachine : tab laws_eqMachine = some s_laws_eqMachine := rfl
theorem t_laws_markMachine : tab laws_markMachine = some s_laws_markMachine := rfl
theorem t_laws_markIntS : tab laws_markIntS = some s_laws_markIntS := rfl
theorem t_laws_heldIntS : tab laws_heldIntS = some s_laws_heldIntS := rfl
theorem t_laws_szInsS : tab laws_szInsS = some s_laws_szInsS := rfl
theorem t_laws_szIntS : tab laws_szIntS = some s_laws_szIntS := rfl
theorem t_laws_szCoreS : tab laws_szCoreS = some s_laws_szCoreS := rfl
theorem t_laws_szNoteS : tab laws_szNoteS = some s_laws_szNoteS := rfl
theorem t_spec_l26Body : tab spec_l26Body = some s_spec_l26Body := rfl
theorem t_laws_toInsS : tab laws_toInsS = some s_laws_toInsS := rfl
theorem t_laws_toIntS : tab laws_toIntS = some s_laws_toIntS := rfl
theorem t_laws_toCoreS : tab laws_toCoreS = some s_laws_toCoreS := rfl
theorem t_laws_toNoteS : tab laws_toNoteS = some s_laws_toNoteS := rfl
theorem t_impl_bodyOf : tab impl_bodyOf = some s_impl_bodyOf := rfl
theorem t_laws_eqInsS : tab laws_eqInsS = some s_laws_eqInsS := rfl
theorem t_laws_eqCoreS : tab laws_eqCoreS = some s_laws_eqCoreS := rfl
theorem t_laws_eqNoteS : tab laws_eqNoteS = some s_laws_eqNoteS := rfl
theorem t_laws_markInsS : tab laws_markInsS = some s_laws_markInsS := rfl
theorem t_laws_markCoreS : tab laws_markCoreS = some s_laws_markCoreS := rfl
theorem t_laws_markNoteS : tab laws_markNoteS = some s_laws_markNoteS := rfl
theorem t_laws_szCore : tab laws_szCore = some s_laws_szCore := rfl
theorem t_laws_toIns : tab laws_toIns = some s_laws_toIns := rfl
theorem t_laws_toCore : tab laws_toCore = some s_laws_toCore := rfl
theorem t_laws_toNote : tab laws_toNote = some s_laws_toNote := rfl
theorem t_laws_eqIns : tab laws_eqIns = some s_laws_eqIns := rfl
theorem t_laws_eqCore : tab laws_eqCore = some s_laws_eqCore := rfl
theorem t_laws_eqNote : tab laws_eqNote = some s_laws_eqNote := rfl
end Go.Ev.G
