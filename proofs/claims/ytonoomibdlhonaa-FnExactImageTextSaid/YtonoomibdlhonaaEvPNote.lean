import Derived.Test.YtonoomibdlhonaaEvPWord
set_option linter.all false
namespace Go.Ev.G
set_option maxRecDepth 4000
set_option maxHeartbeats 2000000
theorem laws_toNote_ok (a b : Int) : call tab laws_toNote [.agg [I a, I b]] = some (.agg [I a, I b]) := by
  rw [call_of t_laws_toNote _ rfl, c_laws_toNote]
  simp only [go_sem, Nat.reduceEqDiff, Nat.reduceBEq, Nat.reduceAdd, Nat.reduceSub, Nat.reduceMul, Nat.reduceLeDiff, Nat.reduceLT, ↓reduceIte, reduceCtorEq, Int.reduceEq, Int.reduceLE, Int.reduceLT, Int.reduceToNat, Int.reduceNeg, Int.reduceSub, Int.reduceAdd, Int.reduceMul]

def noteNames : List ByteArray := [⟨#[110, 111, 110, 101]⟩, ⟨#[112, 114, 105, 110, 116]⟩, ⟨#[103, 111]⟩, ⟨#[109, 97, 107, 101]⟩, ⟨#[115, 101, 110, 100]⟩, ⟨#[114, 101, 99, 118]⟩, ⟨#[99, 108, 111, 115, 101]⟩, ⟨#[115, 101, 108, 101, 99, 116]⟩, ⟨#[101, 110, 100]⟩, ⟨#[101, 120, 105, 116]⟩, ⟨#[115, 116, 117, 99, 107]⟩]
def noteName (k : Int) : ByteArray := if 0 ≤ k ∧ k ≤ 10 then noteNames.getD k.toNat ByteArray.empty else ⟨#[110, 111, 110, 101]⟩
theorem nn0 : noteName 0 = ⟨#[110, 111, 110, 101]⟩ := rfl
theorem nn1 : noteName 1 = ⟨#[112, 114, 105, 110, 116]⟩ := rfl
theorem nn2 : noteName 2 = ⟨#[103, 111]⟩ := rfl
theorem nn3 : noteName 3 = ⟨#[109, 97, 107, 101]⟩ := rfl
theorem nn4 : noteName 4 = ⟨#[115, 101, 110, 100]⟩ := rfl
theorem nn5 : noteName 5 = ⟨#[114, 101, 99, 118]⟩ := rfl
theorem nn6 : noteName 6 = ⟨#[99, 108, 111, 115, 101]⟩ := rfl
theorem nn7 : noteName 7 = ⟨#[115, 101, 108, 101, 99, 116]⟩ := rfl
theorem nn8 : noteName 8 = ⟨#[101, 110, 100]⟩ := rfl
theorem nn9 : noteName 9 = ⟨#[101, 120, 105, 116]⟩ := rfl
theorem nn10 : noteName 10 = ⟨#[115, 116, 117, 99, 107]⟩ := rfl
theorem noteName_size (b : Int) : (noteName b).size ≤ 6 := by
  unfold noteName
  split
  · rename_i h
    have : b = 0 ∨ b = 1 ∨ b = 2 ∨ b = 3 ∨ b = 4 ∨ b = 5 ∨ b = 6 ∨ b = 7 ∨ b = 8 ∨ b = 9 ∨ b = 10 := by omega
    rcases this with rfl | rfl | rfl | rfl | rfl | rfl | rfl | rfl | rfl | rfl | rfl <;> decide
  · decide
theorem note_cat {a : Int} (ha : i64 a) (b : Int) : catOk (dig a) ⟨#[32]⟩ ∧ catOk (dig a ++ ⟨#[32]⟩) (noteName b) := by
  have hs := dig_size ha
  have hn := noteName_size b
  refine ⟨?_, ?_⟩
  · show (dig a).size + 1 ≤ _
    omega
  · unfold catOk
    rw [ByteArray.size_append]
    show (dig a).size + 1 + _ ≤ _
    omega
theorem spec_NoteText_ok {a : Int} (ha : i64 a) (b : Int) : call tab spec_NoteText [.agg [I a, I b]] = some (Str (dig a ++ ⟨#[32]⟩ ++ noteName b)) := by
  rw [call_of t_spec_NoteText _ rfl, c_spec_NoteText]
  obtain ⟨hc1, hc2⟩ := note_cat ha b
  have hd := spec_Digits_ok ha
  by_cases h : 0 ≤ b ∧ b ≤ 10
  · have : b = 0 ∨ b = 1 ∨ b = 2 ∨ b = 3 ∨ b = 4 ∨ b = 5 ∨ b = 6 ∨ b = 7 ∨ b = 8 ∨ b = 9 ∨ b = 10 := by omega
    rcases this with rfl | rfl | rfl | rfl | rfl | rfl | rfl | rfl | rfl | rfl | rfl <;> simp only [nn0, nn1, nn2, nn3, nn4, nn5, nn6, nn7, nn8, nn9, nn10] at hc2 ⊢ <;> simp only [go_sem, Nat.reduceEqDiff, Nat.reduceBEq, Nat.reduceAdd, Nat.reduceSub, Nat.reduceMul, Nat.reduceLeDiff, Nat.reduceLT, ↓reduceIte, reduceCtorEq, Int.reduceEq, Int.reduceLE, Int.reduceLT, Int.reduceToNat, Int.reduceNeg, Int.reduceSub, Int.reduceAdd, Int.reduceMul, spec_l1In_ok, hd, hc1, hc2]
  · have hn : noteName b = ⟨#[110, 111, 110, 101]⟩ := by unfold noteName; rw [if_neg h]
    rw [hn] at hc2 ⊢
    have hb : (decide (0 ≤ b) && decide (b ≤ 10)) = false := by
      rw [← Bool.decide_and]
      exact decide_eq_false h
    simp only [go_sem, Nat.reduceEqDiff, Nat.reduceBEq, Nat.reduceAdd, Nat.reduceSub, Nat.reduceMul, Nat.reduceLeDiff, Nat.reduceLT, ↓reduceIte, reduceCtorEq, Int.reduceEq, Int.reduceLE, Int.reduceLT, Int.reduceToNat, Int.reduceNeg, Int.reduceSub, Int.reduceAdd, Int.reduceMul, spec_l1In_ok, hd, hc1, hc2, hb]
theorem impl_NoteText_ok {a : Int} (ha : i64 a) (b : Int) : call tab impl_NoteText [.agg [I a, I b]] = some (Str (dig a ++ ⟨#[32]⟩ ++ noteName b)) := by
  rw [call_of t_impl_NoteText _ rfl, c_impl_NoteText]
  obtain ⟨hc1, hc2⟩ := note_cat ha b
  have hd := impl_Digits_ok ha
  by_cases h : 1 ≤ b ∧ b ≤ 10
  · have hw : IntKind.i64.wrap (b - 1) = b - 1 := w64 (by constructor <;> omega)
    have : b = 1 ∨ b = 2 ∨ b = 3 ∨ b = 4 ∨ b = 5 ∨ b = 6 ∨ b = 7 ∨ b = 8 ∨ b = 9 ∨ b = 10 := by omega
    rcases this with rfl | rfl | rfl | rfl | rfl | rfl | rfl | rfl | rfl | rfl <;> simp only [nn0, nn1, nn2, nn3, nn4, nn5, nn6, nn7, nn8, nn9, nn10] at hc2 ⊢ <;> simp only [Int.reduceSub] at hw <;> simp only [go_sem, Nat.reduceEqDiff, Nat.reduceBEq, Nat.reduceAdd, Nat.reduceSub, Nat.reduceMul, Nat.reduceLeDiff, Nat.reduceLT, ↓reduceIte, reduceCtorEq, Int.reduceEq, Int.reduceLE, Int.reduceLT, Int.reduceToNat, Int.reduceNeg, Int.reduceSub, Int.reduceAdd, Int.reduceMul, impl_within_ok, hd, hc1, hc2, hw]
  · have hn : noteName b = ⟨#[110, 111, 110, 101]⟩ := by
      unfold noteName
      split
      · have : b = 0 := by omega
        subst this
        rfl
      · rfl
    rw [hn] at hc2 ⊢
    have hb : (decide (1 ≤ b) && decide (b ≤ 10)) = false := by
      rw [← Bool.decide_and]
      exact decide_eq_false h
    simp only [go_sem, Nat.reduceEqDiff, Nat.reduceBEq, Nat.reduceAdd, Nat.reduceSub, Nat.reduceMul, Nat.reduceLeDiff, Nat.reduceLT, ↓reduceIte, reduceCtorEq, Int.reduceEq, Int.reduceLE, Int.reduceLT, Int.reduceToNat, Int.reduceNeg, Int.reduceSub, Int.reduceAdd, Int.reduceMul, impl_within_ok, hd, hc1, hc2, hb]
theorem law_FnExactNoteText {a b : Int} (ha : i64 a) : call tab laws_FnExactNoteText [.agg [I a, I b]] = some (B true) := by
  rw [call_of t_laws_FnExactNoteText _ rfl, c_laws_FnExactNoteText]
  simp only [go_sem, Nat.reduceEqDiff, Nat.reduceBEq, Nat.reduceAdd, Nat.reduceSub, Nat.reduceMul, Nat.reduceLeDiff, Nat.reduceLT, ↓reduceIte, reduceCtorEq, Int.reduceEq, Int.reduceLE, Int.reduceLT, Int.reduceToNat, Int.reduceNeg, Int.reduceSub, Int.reduceAdd, Int.reduceMul, laws_toNote_ok, spec_NoteText_ok ha, impl_NoteText_ok ha]
theorem pure_FnExactNoteText (xs : List X) (h : fitXs [(true, [.i .i64, .i .i64])] xs) : call tab laws_FnExactNoteText xs = some (.d (.v (.bool true))) := by
  simp only [fitXs, fitX, fitL, fit] at h
  obtain ⟨x, r, rfl, ⟨ds, rfl, d1, r1, rfl, ⟨a, rfl, ha⟩, d2, r2, rfl, ⟨b, rfl, hb⟩, rfl⟩, rfl⟩ := h
  exact law_FnExactNoteText (wf64 ha)
end Go.Ev.G
