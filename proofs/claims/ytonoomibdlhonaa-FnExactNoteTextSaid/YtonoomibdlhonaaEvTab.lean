/- The slim code of the functions that the statements of this cut reach: written by gen.py. Not trusted: YtonoomibdlhonaaEvChk.lean checks it against the given program. -/
import Derived.Test.YtonoomibdlhonaaEvRow
namespace Go.Ev.G
set_option linter.all false
abbrev laws_FnExactNoteText : Nat := 3
abbrev spec_NoteText : Nat := 9
abbrev laws_toNote : Nat := 10
abbrev impl_NoteText : Nat := 11
abbrev spec_l1In : Nat := 38
abbrev spec_Digits : Nat := 39
abbrev impl_within : Nat := 40
abbrev impl_Digits : Nat := 41
/-- loop.example/g00286/laws.FnExactNoteText -/
def c_laws_FnExactNoteText : SCode :=
 .seq (.ops [⟨some 1, none, .box 2 (.t 0)⟩, ⟨some 2, none, .mov (.c (.bool false))⟩])
 (.seq (.ops [⟨some 5, none, .load (some 2) (.t 1)⟩, ⟨some 6, none, .callr laws_toNote [.t 5]⟩, ⟨some 7, none, .callr spec_NoteText [.t 6]⟩, ⟨some 3, none, .mov (.t 7)⟩])
  (.seq (.ops [⟨some 8, none, .load (some 2) (.t 1)⟩, ⟨some 9, none, .callr laws_toNote [.t 8]⟩, ⟨some 10, none, .callr impl_NoteText [.t 9]⟩, ⟨some 4, none, .mov (.t 10)⟩])
   (.seq (.seq (.ops [⟨some 11, none, .mov (.t 4)⟩, ⟨some 12, none, .mov (.t 3)⟩, ⟨some 13, none, .cmp .neq (.t 11) (.t 12)⟩])
     (.cond (.t 13) (.seq (.ops [⟨some 2, none, .mov (.c (.bool false))⟩])
       (.ret))
      (.skip)))
    (.seq (.ops [⟨some 2, none, .mov (.c (.bool true))⟩])
     (.ret)))))
def s_laws_FnExactNoteText : SFn := ⟨1, 14, c_laws_FnExactNoteText, [.t 2]⟩
/-- loop.example/g00286/spec.NoteText -/
def c_spec_NoteText : SCode :=
 .seq (.ops [⟨some 1, none, .box 2 (.t 0)⟩, ⟨some 2, none, .mov (.c (.string ⟨#[]⟩))⟩])
 (.seq (.ops [⟨some 5, none, .lit 1 [.c (.string ⟨#[110, 111, 110, 101]⟩), .c (.string ⟨#[112, 114, 105, 110, 116]⟩), .c (.string ⟨#[103, 111]⟩), .c (.string ⟨#[109, 97, 107, 101]⟩), .c (.string ⟨#[115, 101, 110, 100]⟩), .c (.string ⟨#[114, 101, 99, 118]⟩), .c (.string ⟨#[99, 108, 111, 115, 101]⟩), .c (.string ⟨#[115, 101, 108, 101, 99, 116]⟩), .c (.string ⟨#[101, 110, 100]⟩), .c (.string ⟨#[101, 120, 105, 116]⟩), .c (.string ⟨#[115, 116, 117, 99, 107]⟩)]⟩, ⟨some 3, none, .mov (.t 5)⟩])
  (.seq (.ops [⟨some 6, none, .faddr 1 (.t 1)⟩, ⟨some 7, none, .load none (.t 6)⟩, ⟨some 4, none, .mov (.t 7)⟩])
   (.seq (.seq (.ops [⟨some 8, none, .mov (.t 4)⟩, ⟨some 9, none, .callr spec_l1In [.t 8, .c (.int .i64 0), .c (.int .i64 10)]⟩, ⟨some 10, none, .not (.t 9)⟩])
     (.cond (.t 10) (.ops [⟨some 4, none, .mov (.c (.int .i64 0))⟩])
      (.skip)))
    (.seq (.ops [⟨some 11, none, .faddr 0 (.t 1)⟩, ⟨some 12, none, .load none (.t 11)⟩, ⟨some 13, none, .callr spec_Digits [.t 12]⟩, ⟨some 14, none, .cat (.t 13) (.c (.string ⟨#[32]⟩))⟩, ⟨some 15, none, .mov (.t 3)⟩, ⟨some 16, none, .mov (.t 4)⟩, ⟨some 17, none, .ixa 1 (.t 15) (.t 16)⟩, ⟨some 18, none, .load none (.t 17)⟩, ⟨some 19, none, .cat (.t 14) (.t 18)⟩, ⟨some 2, none, .mov (.t 19)⟩])
     (.ret)))))
def s_spec_NoteText : SFn := ⟨1, 20, c_spec_NoteText, [.t 2]⟩
/-- loop.example/g00286/laws.toNote -/
def c_laws_toNote : SCode :=
 .seq (.ops [⟨some 1, none, .box 2 (.t 0)⟩, ⟨some 2, none, .alloc [.v (.int .i64 0), .v (.int .i64 0)]⟩])
 (.seq (.ops [⟨some 3, none, .alloc [.v (.int .i64 0), .v (.int .i64 0)]⟩])
  (.seq (.ops [⟨some 4, none, .faddr 0 (.t 1)⟩, ⟨some 5, none, .load none (.t 4)⟩, ⟨some 6, none, .faddr 0 (.t 3)⟩, ⟨none, none, .store 1 (.t 6) (.t 5)⟩])
   (.seq (.ops [⟨some 7, none, .faddr 1 (.t 1)⟩, ⟨some 8, none, .load none (.t 7)⟩, ⟨some 9, none, .faddr 1 (.t 3)⟩, ⟨none, none, .store 1 (.t 9) (.t 8)⟩])
    (.seq (.ops [⟨some 10, none, .load (some 2) (.t 3)⟩, ⟨none, none, .store 2 (.t 2) (.t 10)⟩])
     (.ret)))))
def s_laws_toNote : SFn := ⟨1, 11, c_laws_toNote, [.c 2 (some 2)]⟩
/-- loop.example/g00286/impl.NoteText -/
def c_impl_NoteText : SCode :=
 .seq (.ops [⟨some 1, none, .box 2 (.t 0)⟩, ⟨some 2, none, .mov (.c (.string ⟨#[]⟩))⟩])
 (.seq (.ops [⟨some 3, none, .mov (.c (.string ⟨#[110, 111, 110, 101]⟩))⟩])
  (.seq (.seq (.ops [⟨some 4, none, .faddr 1 (.t 1)⟩, ⟨some 5, none, .load none (.t 4)⟩, ⟨some 6, none, .callr impl_within [.t 5, .c (.int .i64 1), .c (.int .i64 10)]⟩])
    (.cond (.t 6) (.ops [⟨some 7, none, .lit 1 [.c (.string ⟨#[112, 114, 105, 110, 116]⟩), .c (.string ⟨#[103, 111]⟩), .c (.string ⟨#[109, 97, 107, 101]⟩), .c (.string ⟨#[115, 101, 110, 100]⟩), .c (.string ⟨#[114, 101, 99, 118]⟩), .c (.string ⟨#[99, 108, 111, 115, 101]⟩), .c (.string ⟨#[115, 101, 108, 101, 99, 116]⟩), .c (.string ⟨#[101, 110, 100]⟩), .c (.string ⟨#[101, 120, 105, 116]⟩), .c (.string ⟨#[115, 116, 117, 99, 107]⟩)]⟩, ⟨some 8, none, .faddr 1 (.t 1)⟩, ⟨some 9, none, .load none (.t 8)⟩, ⟨some 10, none, .ari .sub (.t 9) (.c (.int .i64 1))⟩, ⟨some 11, none, .ixa 1 (.t 7) (.t 10)⟩, ⟨some 12, none, .load none (.t 11)⟩, ⟨some 3, none, .mov (.t 12)⟩])
     (.skip)))
   (.seq (.ops [⟨some 13, none, .faddr 0 (.t 1)⟩, ⟨some 14, none, .load none (.t 13)⟩, ⟨some 15, none, .callr impl_Digits [.t 14]⟩, ⟨some 16, none, .cat (.t 15) (.c (.string ⟨#[32]⟩))⟩, ⟨some 17, none, .mov (.t 3)⟩, ⟨some 18, none, .cat (.t 16) (.t 17)⟩, ⟨some 2, none, .mov (.t 18)⟩])
    (.ret))))
def s_impl_NoteText : SFn := ⟨1, 19, c_impl_NoteText, [.t 2]⟩
/-- loop.example/g00286/spec.l1In -/
def c_spec_l1In : SCode :=
 .seq (.ops [⟨some 6, none, .mov (.c (.bool false))⟩])
 (.seq (.ops [⟨some 7, none, .mov (.t 0)⟩, ⟨some 8, none, .mov (.t 1)⟩, ⟨some 9, none, .cmp .geq (.t 7) (.t 8)⟩, ⟨some 10, none, .mov (.t 9)⟩, ⟨some 11, (some (10, true)), .mov (.t 0)⟩, ⟨some 12, (some (10, true)), .mov (.t 2)⟩, ⟨some 13, (some (10, true)), .cmp .leq (.t 11) (.t 12)⟩, ⟨some 14, none, .pick (.t 10) (.t 13) (.c (.bool false))⟩, ⟨some 6, none, .mov (.t 14)⟩])
  (.ret))
def s_spec_l1In : SFn := ⟨3, 15, c_spec_l1In, [.t 6]⟩
def b_spec_Digits_0 : SCode :=
 .seq (.seq (.ops [⟨some 10, none, .mov (.t 0)⟩, ⟨some 11, none, .cmp .neq (.t 10) (.c (.int .i64 0))⟩])
  (.cond (.t 11) (.skip)
   (.seq (.keep [3, 4]) (.exit 0))))
 (.block 1 (.seq (.ops [⟨some 12, none, .mov (.t 0)⟩, ⟨some 13, none, .ari .rem (.t 12) (.c (.int .i64 10))⟩, ⟨some 5, none, .mov (.t 13)⟩])
   (.seq (.seq (.ops [⟨some 14, none, .mov (.t 5)⟩, ⟨some 15, none, .cmp .lss (.t 14) (.c (.int .i64 0))⟩])
     (.cond (.t 15) (.ops [⟨some 16, none, .mov (.t 5)⟩, ⟨some 17, none, .ari .sub (.c (.int .i64 0)) (.t 16)⟩, ⟨some 5, none, .mov (.t 17)⟩])
      (.skip)))
    (.seq (.ops [⟨some 18, none, .mov (.t 5)⟩, ⟨some 19, none, .ari .add (.c (.int .i64 48)) (.t 18)⟩, ⟨some 20, none, .conv .u8 (.t 19)⟩, ⟨some 21, none, .lit 1 [.t 20]⟩, ⟨some 22, none, .sob (.t 21)⟩, ⟨some 23, none, .mov (.t 4)⟩, ⟨some 24, none, .cat (.t 22) (.t 23)⟩, ⟨some 4, none, .mov (.t 24)⟩])
     (.ops [⟨some 25, none, .mov (.t 0)⟩, ⟨some 26, none, .ari .quo (.t 25) (.c (.int .i64 10))⟩, ⟨some 0, none, .mov (.t 26)⟩])))))
/-- loop.example/g00286/spec.Digits -/
def c_spec_Digits : SCode :=
 .seq (.ops [⟨some 2, none, .mov (.c (.string ⟨#[]⟩))⟩])
 (.seq (.seq (.ops [⟨some 6, none, .mov (.t 0)⟩, ⟨some 7, none, .cmp .eql (.t 6) (.c (.int .i64 0))⟩])
   (.cond (.t 7) (.seq (.ops [⟨some 2, none, .mov (.c (.string ⟨#[48]⟩))⟩])
     (.ret))
    (.skip)))
  (.seq (.ops [⟨some 8, none, .mov (.t 0)⟩, ⟨some 9, none, .cmp .lss (.t 8) (.c (.int .i64 0))⟩, ⟨some 3, none, .mov (.t 9)⟩])
   (.seq (.ops [⟨some 4, none, .mov (.c (.string ⟨#[]⟩))⟩])
    (.seq (.block 0 (.loop [0, 3, 4] b_spec_Digits_0))
     (.seq (.seq (.ops [⟨some 27, none, .mov (.t 3)⟩])
       (.cond (.t 27) (.seq (.ops [⟨some 28, none, .mov (.t 4)⟩, ⟨some 29, none, .cat (.c (.string ⟨#[45]⟩)) (.t 28)⟩, ⟨some 2, none, .mov (.t 29)⟩])
         (.ret))
        (.skip)))
      (.seq (.ops [⟨some 30, none, .mov (.t 4)⟩, ⟨some 2, none, .mov (.t 30)⟩])
       (.ret)))))))
def s_spec_Digits : SFn := ⟨1, 31, c_spec_Digits, [.t 2]⟩
/-- loop.example/g00286/impl.within -/
def c_impl_within : SCode :=
 .seq (.ops [⟨some 6, none, .mov (.c (.bool false))⟩])
 (.seq (.ops [⟨some 7, none, .mov (.t 0)⟩, ⟨some 8, none, .mov (.t 1)⟩, ⟨some 9, none, .cmp .geq (.t 7) (.t 8)⟩, ⟨some 10, none, .mov (.t 9)⟩, ⟨some 11, (some (10, true)), .mov (.t 0)⟩, ⟨some 12, (some (10, true)), .mov (.t 2)⟩, ⟨some 13, (some (10, true)), .cmp .leq (.t 11) (.t 12)⟩, ⟨some 14, none, .pick (.t 10) (.t 13) (.c (.bool false))⟩, ⟨some 6, none, .mov (.t 14)⟩])
  (.ret))
def s_impl_within : SFn := ⟨3, 15, c_impl_within, [.t 6]⟩
/-- loop.example/g00286/impl.Digits -/
def c_impl_Digits : SCode :=
 .seq (.ops [⟨some 2, none, .mov (.c (.string ⟨#[]⟩))⟩])
 (.seq (.block 0 (.seq (.ops [⟨some 4, none, .mov (.t 0)⟩, ⟨some 5, none, .cmp .lss (.t 4) (.c (.int .i64 0))⟩, ⟨some 6, none, .mov (.t 5)⟩, ⟨some 7, (some (6, true)), .mov (.t 0)⟩, ⟨some 8, (some (6, true)), .cmp .gtr (.t 7) (.c (.int .i64 (-10)))⟩, ⟨some 9, none, .pick (.t 6) (.t 8) (.c (.bool false))⟩, ⟨some 3, none, .mov (.t 9)⟩])
    (.cond (.t 3) (.seq (.ops [⟨some 10, none, .mov (.t 0)⟩, ⟨some 11, none, .neg (.t 10)⟩, ⟨some 12, none, .callr impl_Digits [.t 11]⟩, ⟨some 13, none, .cat (.c (.string ⟨#[45]⟩)) (.t 12)⟩, ⟨some 2, none, .mov (.t 13)⟩])
      (.ret))
     (.seq (.ops [⟨some 15, none, .mov (.t 0)⟩, ⟨some 16, none, .cmp .lss (.t 15) (.c (.int .i64 0))⟩, ⟨some 14, none, .mov (.t 16)⟩])
      (.cond (.t 14) (.seq (.ops [⟨some 17, none, .mov (.t 0)⟩, ⟨some 18, none, .ari .quo (.t 17) (.c (.int .i64 10))⟩, ⟨some 19, none, .callr impl_Digits [.t 18]⟩, ⟨some 20, none, .mov (.t 0)⟩, ⟨some 21, none, .ari .rem (.t 20) (.c (.int .i64 10))⟩, ⟨some 22, none, .neg (.t 21)⟩, ⟨some 23, none, .callr impl_Digits [.t 22]⟩, ⟨some 24, none, .cat (.t 19) (.t 23)⟩, ⟨some 2, none, .mov (.t 24)⟩])
        (.ret))
       (.seq (.ops [⟨some 26, none, .mov (.t 0)⟩, ⟨some 27, none, .cmp .lss (.t 26) (.c (.int .i64 10))⟩, ⟨some 25, none, .mov (.t 27)⟩])
        (.cond (.t 25) (.seq (.ops [⟨some 28, none, .mov (.t 0)⟩, ⟨some 29, none, .ari .add (.c (.int .i64 48)) (.t 28)⟩, ⟨some 30, none, .conv .i32 (.t 29)⟩, ⟨some 31, none, .rune (.t 30)⟩, ⟨some 2, none, .mov (.t 31)⟩])
          (.ret))
         (.skip))))))))
  (.seq (.ops [⟨some 32, none, .mov (.t 0)⟩, ⟨some 33, none, .ari .quo (.t 32) (.c (.int .i64 10))⟩, ⟨some 34, none, .callr impl_Digits [.t 33]⟩, ⟨some 35, none, .mov (.t 0)⟩, ⟨some 36, none, .ari .rem (.t 35) (.c (.int .i64 10))⟩, ⟨some 37, none, .ari .add (.c (.int .i64 48)) (.t 36)⟩, ⟨some 38, none, .conv .i32 (.t 37)⟩, ⟨some 39, none, .rune (.t 38)⟩, ⟨some 40, none, .cat (.t 34) (.t 39)⟩, ⟨some 2, none, .mov (.t 40)⟩])
   (.ret)))
def s_impl_Digits : SFn := ⟨1, 41, c_impl_Digits, [.t 2]⟩
def tabL : List (Nat × SFn) := [(3, s_laws_FnExactNoteText), (9, s_spec_NoteText), (10, s_laws_toNote), (11, s_impl_NoteText), (38, s_spec_l1In), (39, s_spec_Digits), (40, s_impl_within), (41, s_impl_Digits)]
def tab (f : Nat) : Option SFn := (tabL.find? fun p => p.1 == f).map fun p => p.2
theorem t_laws_FnExactNoteText : tab laws_FnExactNoteText = some s_laws_FnExactNoteText := rfl
theorem t_spec_NoteText : tab spec_NoteText = some s_spec_NoteText := rfl
theorem t_laws_toNote : tab laws_toNote = some s_laws_toNote := rfl
theorem t_impl_NoteText : tab impl_NoteText = some s_impl_NoteText := rfl
theorem t_spec_l1In : tab spec_l1In = some s_spec_l1In := rfl
theorem t_spec_Digits : tab spec_Digits = some s_spec_Digits := rfl
theorem t_impl_within : tab impl_within = some s_impl_within := rfl
theorem t_impl_Digits : tab impl_Digits = some s_impl_Digits := rfl
end Go.Ev.G
