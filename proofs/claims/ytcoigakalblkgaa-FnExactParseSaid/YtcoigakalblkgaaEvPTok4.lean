import Derived.Test.YtcoigakalblkgaaEvPNames2
/- Tokens: letters, digits, numbers. -/
set_option linter.all false
namespace Go.Ev.G
set_option maxRecDepth 8000
set_option maxHeartbeats 4000000
def letterB (c : Int) : Bool := decide (97 ≤ c ∧ c ≤ 122) || decide (65 ≤ c ∧ c ≤ 90)
def digitB (c : Int) : Bool := decide (48 ≤ c ∧ c ≤ 57)
theorem impl_isLetter_ok (c : Int) : call tab impl_isLetter [.d (.v (.int .u8 c))] = some (B (letterB c)) := by
  rw [call_of t_impl_isLetter _ rfl, c_impl_isLetter, letterB]
  ((try simp (maxSteps := 2000000) (implicitDefEqProofs := false) (disch := (first | assumption | omega | (refine ⟨?_, ?_⟩ <;> omega) | (unfold catOk; (try simp only [ByteArray.size_append, size_lit, List.length_cons, List.length_nil]); omega) | (unfold mkOk; omega) | (unfold appOk; (try simp only [List.length_map, List.length_append, List.length_cons, List.length_nil]); omega))) only [go_sem, Nat.reduceEqDiff, Nat.reduceBEq, Nat.reduceAdd, Nat.reduceSub, Nat.reduceMul, Nat.reduceLeDiff, Nat.reduceLT, ↓reduceIte, reduceCtorEq, Int.reduceEq, Int.reduceLE, Int.reduceLT, Int.reduceToNat, Int.reduceNeg, Int.reduceSub, Int.reduceAdd, Int.reduceMul, ltT, ltF, leT, leF, neF, eqT, baT, baF, bvT, bvF, catT, mkT, appT, wrap_id, List.length_map, Int.toNat_natCast, Bool.not_not, condK_n, condK_bt, condK_bf, condK_bg, guardK_nt, guardK_nf, guardK_tT, guardK_fT, guardK_tF, guardK_fF, guardK_tG, guardK_fG, pickK_n, pickK_bt, pickK_bf, pickK_bg]) <;> repeat' ((first | rw [condK_d] | rw [guardK_dt] | rw [guardK_df] | rw [pickK_d] | rw [condK_b] | rw [guardK_bt] | rw [guardK_bf] | rw [pickK_b] | skip); split <;> (try simp (maxSteps := 2000000) (implicitDefEqProofs := false) (disch := (first | assumption | omega | (refine ⟨?_, ?_⟩ <;> omega) | (unfold catOk; (try simp only [ByteArray.size_append, size_lit, List.length_cons, List.length_nil]); omega) | (unfold mkOk; omega) | (unfold appOk; (try simp only [List.length_map, List.length_append, List.length_cons, List.length_nil]); omega))) only [go_sem, Nat.reduceEqDiff, Nat.reduceBEq, Nat.reduceAdd, Nat.reduceSub, Nat.reduceMul, Nat.reduceLeDiff, Nat.reduceLT, ↓reduceIte, reduceCtorEq, Int.reduceEq, Int.reduceLE, Int.reduceLT, Int.reduceToNat, Int.reduceNeg, Int.reduceSub, Int.reduceAdd, Int.reduceMul, ltT, ltF, leT, leF, neF, eqT, baT, baF, bvT, bvF, catT, mkT, appT, wrap_id, List.length_map, Int.toNat_natCast, Bool.not_not, condK_n, condK_bt, condK_bf, condK_bg, guardK_nt, guardK_nf, guardK_tT, guardK_fT, guardK_tF, guardK_fF, guardK_tG, guardK_fG, pickK_n, pickK_bt, pickK_bf, pickK_bg])))
  all_goals simp_all
  all_goals omega
theorem impl_isDigit_ok (c : Int) : call tab impl_isDigit [.d (.v (.int .u8 c))] = some (B (digitB c)) := by
  rw [call_of t_impl_isDigit _ rfl, c_impl_isDigit, digitB]
  ((try simp (maxSteps := 2000000) (implicitDefEqProofs := false) (disch := (first | assumption | omega | (refine ⟨?_, ?_⟩ <;> omega) | (unfold catOk; (try simp only [ByteArray.size_append, size_lit, List.length_cons, List.length_nil]); omega) | (unfold mkOk; omega) | (unfold appOk; (try simp only [List.length_map, List.length_append, List.length_cons, List.length_nil]); omega))) only [go_sem, Nat.reduceEqDiff, Nat.reduceBEq, Nat.reduceAdd, Nat.reduceSub, Nat.reduceMul, Nat.reduceLeDiff, Nat.reduceLT, ↓reduceIte, reduceCtorEq, Int.reduceEq, Int.reduceLE, Int.reduceLT, Int.reduceToNat, Int.reduceNeg, Int.reduceSub, Int.reduceAdd, Int.reduceMul, ltT, ltF, leT, leF, neF, eqT, baT, baF, bvT, bvF, catT, mkT, appT, wrap_id, List.length_map, Int.toNat_natCast, Bool.not_not, condK_n, condK_bt, condK_bf, condK_bg, guardK_nt, guardK_nf, guardK_tT, guardK_fT, guardK_tF, guardK_fF, guardK_tG, guardK_fG, pickK_n, pickK_bt, pickK_bf, pickK_bg]) <;> repeat' ((first | rw [condK_d] | rw [guardK_dt] | rw [guardK_df] | rw [pickK_d] | rw [condK_b] | rw [guardK_bt] | rw [guardK_bf] | rw [pickK_b] | skip); split <;> (try simp (maxSteps := 2000000) (implicitDefEqProofs := false) (disch := (first | assumption | omega | (refine ⟨?_, ?_⟩ <;> omega) | (unfold catOk; (try simp only [ByteArray.size_append, size_lit, List.length_cons, List.length_nil]); omega) | (unfold mkOk; omega) | (unfold appOk; (try simp only [List.length_map, List.length_append, List.length_cons, List.length_nil]); omega))) only [go_sem, Nat.reduceEqDiff, Nat.reduceBEq, Nat.reduceAdd, Nat.reduceSub, Nat.reduceMul, Nat.reduceLeDiff, Nat.reduceLT, ↓reduceIte, reduceCtorEq, Int.reduceEq, Int.reduceLE, Int.reduceLT, Int.reduceToNat, Int.reduceNeg, Int.reduceSub, Int.reduceAdd, Int.reduceMul, ltT, ltF, leT, leF, neF, eqT, baT, baF, bvT, bvF, catT, mkT, appT, wrap_id, List.length_map, Int.toNat_natCast, Bool.not_not, condK_n, condK_bt, condK_bf, condK_bg, guardK_nt, guardK_nf, guardK_tT, guardK_fT, guardK_tF, guardK_fF, guardK_tG, guardK_fG, pickK_n, pickK_bt, pickK_bf, pickK_bg])))
  all_goals simp_all
theorem spec_l5Letter_ok (c : Int) : call tab spec_l5Letter [.d (.v (.int .u8 c))] = some (B (letterB c)) := by
  rw [call_of t_spec_l5Letter _ rfl, c_spec_l5Letter, letterB]
  ((try simp (maxSteps := 2000000) (implicitDefEqProofs := false) (disch := (first | assumption | omega | (refine ⟨?_, ?_⟩ <;> omega) | (unfold catOk; (try simp only [ByteArray.size_append, size_lit, List.length_cons, List.length_nil]); omega) | (unfold mkOk; omega) | (unfold appOk; (try simp only [List.length_map, List.length_append, List.length_cons, List.length_nil]); omega))) only [go_sem, Nat.reduceEqDiff, Nat.reduceBEq, Nat.reduceAdd, Nat.reduceSub, Nat.reduceMul, Nat.reduceLeDiff, Nat.reduceLT, ↓reduceIte, reduceCtorEq, Int.reduceEq, Int.reduceLE, Int.reduceLT, Int.reduceToNat, Int.reduceNeg, Int.reduceSub, Int.reduceAdd, Int.reduceMul, ltT, ltF, leT, leF, neF, eqT, baT, baF, bvT, bvF, catT, mkT, appT, wrap_id, List.length_map, Int.toNat_natCast, Bool.not_not, condK_n, condK_bt, condK_bf, condK_bg, guardK_nt, guardK_nf, guardK_tT, guardK_fT, guardK_tF, guardK_fF, guardK_tG, guardK_fG, pickK_n, pickK_bt, pickK_bf, pickK_bg]) <;> repeat' ((first | rw [condK_d] | rw [guardK_dt] | rw [guardK_df] | rw [pickK_d] | rw [condK_b] | rw [guardK_bt] | rw [guardK_bf] | rw [pickK_b] | skip); split <;> (try simp (maxSteps := 2000000) (implicitDefEqProofs := false) (disch := (first | assumption | omega | (refine ⟨?_, ?_⟩ <;> omega) | (unfold catOk; (try simp only [ByteArray.size_append, size_lit, List.length_cons, List.length_nil]); omega) | (unfold mkOk; omega) | (unfold appOk; (try simp only [List.length_map, List.length_append, List.length_cons, List.length_nil]); omega))) only [go_sem, Nat.reduceEqDiff, Nat.reduceBEq, Nat.reduceAdd, Nat.reduceSub, Nat.reduceMul, Nat.reduceLeDiff, Nat.reduceLT, ↓reduceIte, reduceCtorEq, Int.reduceEq, Int.reduceLE, Int.reduceLT, Int.reduceToNat, Int.reduceNeg, Int.reduceSub, Int.reduceAdd, Int.reduceMul, ltT, ltF, leT, leF, neF, eqT, baT, baF, bvT, bvF, catT, mkT, appT, wrap_id, List.length_map, Int.toNat_natCast, Bool.not_not, condK_n, condK_bt, condK_bf, condK_bg, guardK_nt, guardK_nf, guardK_tT, guardK_fT, guardK_tF, guardK_fF, guardK_tG, guardK_fG, pickK_n, pickK_bt, pickK_bf, pickK_bg])))
  all_goals simp_all
  all_goals omega
theorem spec_l5Digit_ok (c : Int) : call tab spec_l5Digit [.d (.v (.int .u8 c))] = some (B (digitB c)) := by
  rw [call_of t_spec_l5Digit _ rfl, c_spec_l5Digit, digitB]
  ((try simp (maxSteps := 2000000) (implicitDefEqProofs := false) (disch := (first | assumption | omega | (refine ⟨?_, ?_⟩ <;> omega) | (unfold catOk; (try simp only [ByteArray.size_append, size_lit, List.length_cons, List.length_nil]); omega) | (unfold mkOk; omega) | (unfold appOk; (try simp only [List.length_map, List.length_append, List.length_cons, List.length_nil]); omega))) only [go_sem, Nat.reduceEqDiff, Nat.reduceBEq, Nat.reduceAdd, Nat.reduceSub, Nat.reduceMul, Nat.reduceLeDiff, Nat.reduceLT, ↓reduceIte, reduceCtorEq, Int.reduceEq, Int.reduceLE, Int.reduceLT, Int.reduceToNat, Int.reduceNeg, Int.reduceSub, Int.reduceAdd, Int.reduceMul, ltT, ltF, leT, leF, neF, eqT, baT, baF, bvT, bvF, catT, mkT, appT, wrap_id, List.length_map, Int.toNat_natCast, Bool.not_not, condK_n, condK_bt, condK_bf, condK_bg, guardK_nt, guardK_nf, guardK_tT, guardK_fT, guardK_tF, guardK_fF, guardK_tG, guardK_fG, pickK_n, pickK_bt, pickK_bf, pickK_bg]) <;> repeat' ((first | rw [condK_d] | rw [guardK_dt] | rw [guardK_df] | rw [pickK_d] | rw [condK_b] | rw [guardK_bt] | rw [guardK_bf] | rw [pickK_b] | skip); split <;> (try simp (maxSteps := 2000000) (implicitDefEqProofs := false) (disch := (first | assumption | omega | (refine ⟨?_, ?_⟩ <;> omega) | (unfold catOk; (try simp only [ByteArray.size_append, size_lit, List.length_cons, List.length_nil]); omega) | (unfold mkOk; omega) | (unfold appOk; (try simp only [List.length_map, List.length_append, List.length_cons, List.length_nil]); omega))) only [go_sem, Nat.reduceEqDiff, Nat.reduceBEq, Nat.reduceAdd, Nat.reduceSub, Nat.reduceMul, Nat.reduceLeDiff, Nat.reduceLT, ↓reduceIte, reduceCtorEq, Int.reduceEq, Int.reduceLE, Int.reduceLT, Int.reduceToNat, Int.reduceNeg, Int.reduceSub, Int.reduceAdd, Int.reduceMul, ltT, ltF, leT, leF, neF, eqT, baT, baF, bvT, bvF, catT, mkT, appT, wrap_id, List.length_map, Int.toNat_natCast, Bool.not_not, condK_n, condK_bt, condK_bf, condK_bg, guardK_nt, guardK_nf, guardK_tT, guardK_fT, guardK_tF, guardK_fF, guardK_tG, guardK_fG, pickK_n, pickK_bt, pickK_bf, pickK_bg])))
  all_goals simp_all
theorem strc {s : ByteArray} {j : Int} {b : UInt8} {r : List UInt8} (h : s.data.toList.drop j.toNat = b :: r) (h0 : 0 ≤ j) : s[j.toNat]? = some b ∧ j < s.size ∧ s.data.toList.drop (j + 1).toNat = r ∧ (s.size : Int) = j + 1 + r.length := by
  obtain ⟨h1, h2, h3, h4, h5⟩ := dropc h h0
  have h6 : s.data.toList.length = s.size := by rw [Array.length_toList]; rfl
  rw [h6] at h2 h5
  exact ⟨by rw [ba_get]; exact h1, h2, h3, h5⟩
theorem strn {s : ByteArray} {j : Int} (h : s.data.toList.drop j.toNat = []) (h0 : 0 ≤ j) : ¬ j < s.size := by
  have h1 := dropn h h0
  have h6 : s.data.toList.length = s.size := by rw [Array.length_toList]; rfl
  omega
def valL : Int → List UInt8 → Int
  | a, [] => a
  | a, b :: r => valL (10 * a + (b.toNat : Int) - 48) r
def room : Nat → Int
  | 0 => 9999999999 | 1 => 999999999 | 2 => 99999999 | 3 => 9999999 | 4 => 999999 | 5 => 99999 | 6 => 9999 | 7 => 999 | 8 => 99 | 9 => 9 | _ => 0
theorem room_step : ∀ n : Nat, n < 10 → 10 * room (n + 1) + 9 ≤ room n ∧ room (n + 1) ≤ 999999999 ∧ 0 ≤ room (n + 1)
  | 0, _ => by decide
  | 1, _ => by decide
  | 2, _ => by decide
  | 3, _ => by decide
  | 4, _ => by decide
  | 5, _ => by decide
  | 6, _ => by decide
  | 7, _ => by decide
  | 8, _ => by decide
  | 9, _ => by decide
  | n + 10, h => by omega
theorem valL_room : ∀ (Bl : List UInt8) (a : Int), Bl.length ≤ 10 → (∀ b ∈ Bl, digitB b.toNat = true) → 0 ≤ a → a ≤ room Bl.length → 0 ≤ valL a Bl ∧ valL a Bl ≤ 9999999999
  | [], a, _, _, h0, h1 => ⟨h0, h1⟩
  | b :: r, a, hl, hd, h0, h1 => by
    have h2 := hd b (by simp)
    simp only [digitB, decide_eq_true_eq] at h2
    simp only [List.length_cons] at hl h1
    have h3 := room_step r.length (by omega)
    exact valL_room r _ (by omega) (fun c hc => hd c (by simp [hc])) (by omega) (by omega)
theorem spec_Number_l0 (s : ByteArray) : ∀ (Bl : List UInt8) (j a : Int), s.data.toList.drop j.toNat = Bl → 0 ≤ j → Bl.length ≤ 10 → (∀ b ∈ Bl, digitB b.toNat = true) → 0 ≤ a → a ≤ room Bl.length → s.size ≤ 1048576 →
    loopW tab [0, 4, 5, 6] b_spec_Number_0 { env := upd (upd (upd (upd emp 6 (some (I j))) 5 (some (I a))) 4 (some (I 0))) 0 (some (Str s)), heap := emp, fr := 0, next := 0 } = some (.ext 0, { env := upd (upd (upd emp 5 (some (I (valL a Bl)))) 4 (some (I 0))) 0 (some (Str s)), heap := emp, fr := 0, next := 0 })
  | [], j, a, hd, hj, hl, hg, h0, h1, hs => by
    unfold loopW
    conv => lhs; arg 1; unfold b_spec_Number_0
    have h2 := strn hd hj
    simp (maxSteps := 999999) (implicitDefEqProofs := false) (disch := (first | assumption | omega | (unfold appOk; (try simp only [List.length_map, List.length_append, List.length_cons, List.length_nil]); omega))) only [go_sem, simprocAttr, valL]
  | b :: r, j, a, hd, hj, hl, hg, h0, h1, hs => by
    unfold loopW
    conv => lhs; arg 1; unfold b_spec_Number_0
    obtain ⟨g1, g2, g3, g4⟩ := strc hd hj
    have h2 := hg b (by simp)
    simp only [digitB, decide_eq_true_eq] at h2
    simp only [List.length_cons] at hl h1
    have h3 := room_step r.length (by omega)
    have ih := spec_Number_l0 s r (j + 1) (10 * a + (b.toNat : Int) - 48) g3 (by omega) (by omega) (fun c hc => hg c (by simp [hc])) (by omega) (by omega) hs
    rw [valL, ← ih]
    simp (maxSteps := 999999) (implicitDefEqProofs := false) (disch := (first | assumption | omega | (unfold appOk; (try simp only [List.length_map, List.length_append, List.length_cons, List.length_nil]); omega))) only [go_sem, simprocAttr, g1]
theorem impl_Number_l0 (s : ByteArray) : ∀ (Bl : List UInt8) (j a : Int), s.data.toList.drop j.toNat = Bl → 0 ≤ j → Bl.length ≤ 10 → (∀ b ∈ Bl, digitB b.toNat = true) → 0 ≤ a → a ≤ room Bl.length → s.size ≤ 1048576 →
    loopW tab [0, 4, 5, 6, 26, 27] b_impl_Number_0 { env := upd (upd (upd (upd (upd (upd emp 27 (some (I j))) 26 (some (I (s.size : Int)))) 6 (some (I 1))) 5 (some (Str s))) 4 (some (I a))) 0 (some (Str s)), heap := emp, fr := 0, next := 0 } = some (.ext 0, { env := upd (upd (upd emp 6 (some (I 1))) 4 (some (I (valL a Bl)))) 0 (some (Str s)), heap := emp, fr := 0, next := 0 })
  | [], j, a, hd, hj, hl, hg, h0, h1, hs => by
    unfold loopW
    conv => lhs; arg 1; unfold b_impl_Number_0
    have h2 := strn hd hj
    simp (maxSteps := 999999) (implicitDefEqProofs := false) (disch := (first | assumption | omega | (unfold appOk; (try simp only [List.length_map, List.length_append, List.length_cons, List.length_nil]); omega))) only [go_sem, simprocAttr, valL]
  | b :: r, j, a, hd, hj, hl, hg, h0, h1, hs => by
    unfold loopW
    conv => lhs; arg 1; unfold b_impl_Number_0
    obtain ⟨g1, g2, g3, g4⟩ := strc hd hj
    have h2 := hg b (by simp)
    have g5 := impl_isDigit_ok b.toNat
    rw [h2] at g5
    simp only [digitB, decide_eq_true_eq] at h2
    simp only [List.length_cons] at hl h1
    have h3 := room_step r.length (by omega)
    have ih := impl_Number_l0 s r (j + 1) (10 * a + (b.toNat : Int) - 48) g3 (by omega) (by omega) (fun c hc => hg c (by simp [hc])) (by omega) (by omega) hs
    have e : IntKind.u8.wrap ((b.toNat : Int) - 48) = (b.toNat : Int) - 48 := by simp [IntKind.wrap, IntKind.bits, IntKind.signed]; omega
    have e2 : 10 * a + ((b.toNat : Int) - 48) = 10 * a + (b.toNat : Int) - 48 := by omega
    rw [valL, ← ih]
    simp (maxSteps := 999999) (implicitDefEqProofs := false) (disch := (first | assumption | omega | (unfold appOk; (try simp only [List.length_map, List.length_append, List.length_cons, List.length_nil]); omega))) only [go_sem, simprocAttr, g1, g5, e, e2]
def numB (s : ByteArray) : Option Int := if (s.size : Int) ≤ 10 ∧ word (valL 0 s.data.toList) = true ∧ dig (valL 0 s.data.toList) = s then some (valL 0 s.data.toList) else none
structure Digs (s : ByteArray) : Prop where
  ne : s ≠ ⟨#[]⟩
  dg : ∀ b ∈ s.data.toList, digitB b.toNat = true
  sz : s.size ≤ 1048576
theorem Digs.hd {s : ByteArray} (h : Digs s) : ∃ b r, s.data.toList = b :: r ∧ s[0]? = some b ∧ (48 : Int) ≤ b.toNat := by
  cases hl : s.data.toList with
  | nil =>
    have h1 : s.data = #[] := by rw [← Array.toList_eq_nil_iff]; exact hl
    have : s = ⟨#[]⟩ := by cases s; simp only at h1; rw [h1]
    exact absurd this h.ne
  | cons b r =>
    have h2 := h.dg b (by rw [hl]; simp)
    simp only [digitB, decide_eq_true_eq] at h2
    exact ⟨b, r, rfl, by rw [ba_get, hl]; rfl, h2.1⟩
theorem spec_Number_ok (s : ByteArray) (h : Digs s) : call tab spec_Number [Str s] = some (.tup [I ((numB s).getD 0), B (numB s).isSome]) := by
  obtain ⟨b, r, hl, g0, g1⟩ := h.hd
  have h0 := h.ne
  have h2 := h.sz
  have hsz : (s.size : Int) = r.length + 1 := by have h6 : s.data.toList.length = s.size := by rw [Array.length_toList]; rfl
                                                 rw [← h6, hl]; simp
  have hb : ((b.toNat : Int) = 45) = False := by simp; omega
  rw [call_of t_spec_Number _ rfl, c_spec_Number]
  by_cases c1 : (s.size : Int) ≤ 10
  · have hll : s.data.toList.length ≤ 10 := by rw [hl]; simp; omega
    have h3 := spec_Number_l0 s s.data.toList 0 0 rfl (by omega) hll h.dg (by omega) (by rw [hl]; simp only [List.length_cons]; exact (room_step r.length (by omega)).2.2) h2
    have h4 := valL_room s.data.toList 0 hll h.dg (by omega) (by rw [hl]; simp only [List.length_cons]; exact (room_step r.length (by omega)).2.2)
    rw [numB]
    generalize valL 0 s.data.toList = n at *
    have h5 := spec_WordOk_w n
    have h6 := spec_Digits_ok (n := n) ⟨by omega, by omega⟩
    by_cases c2 : word n = true
    · rw [c2] at h5
      by_cases c3 : dig n = s
      · rw [if_pos ⟨c1, c2, c3⟩]
        simp (maxSteps := 999999) (implicitDefEqProofs := false) (disch := (first | assumption | omega | (unfold appOk; (try simp only [List.length_map, List.length_append, List.length_cons, List.length_nil]); omega))) only [go_sem, simprocAttr, g0, hb, h3, h5, h6, Option.getD_some, Option.isSome_some, c3]
      · rw [if_neg (fun h => c3 h.2.2)]
        simp (maxSteps := 999999) (implicitDefEqProofs := false) (disch := (first | assumption | omega | (unfold appOk; (try simp only [List.length_map, List.length_append, List.length_cons, List.length_nil]); omega))) only [go_sem, simprocAttr, g0, hb, h3, h5, h6, Option.getD_none, Option.isSome_none]
    · have c2' : word n = false := by simpa using c2
      rw [c2'] at h5
      rw [if_neg (fun h => c2 h.2.1)]
      simp (maxSteps := 999999) (implicitDefEqProofs := false) (disch := (first | assumption | omega | (unfold appOk; (try simp only [List.length_map, List.length_append, List.length_cons, List.length_nil]); omega))) only [go_sem, simprocAttr, g0, hb, h3, h5, h6, Option.getD_none, Option.isSome_none]
  · rw [numB, if_neg (fun h => c1 h.1)]
    simp (maxSteps := 999999) (implicitDefEqProofs := false) (disch := (first | assumption | omega | (unfold appOk; (try simp only [List.length_map, List.length_append, List.length_cons, List.length_nil]); omega))) only [go_sem, simprocAttr, g0, hb, Option.getD_none, Option.isSome_none]
theorem impl_Number_ok (s : ByteArray) (h : Digs s) : call tab impl_Number [Str s] = some (.tup [I ((numB s).getD 0), B (numB s).isSome]) := by
  obtain ⟨b, r, hl, g0, g1⟩ := h.hd
  have h0 := h.ne
  have h2 := h.sz
  have hsz : (s.size : Int) = r.length + 1 := by have h6 : s.data.toList.length = s.size := by rw [Array.length_toList]; rfl
                                                 rw [← h6, hl]; simp
  have hb : ((b.toNat : Int) = 45) = False := by simp; omega
  rw [call_of t_impl_Number _ rfl, c_impl_Number]
  by_cases c1 : (s.size : Int) ≤ 10
  · have hll : s.data.toList.length ≤ 10 := by rw [hl]; simp; omega
    have h3 := impl_Number_l0 s s.data.toList 0 0 rfl (by omega) hll h.dg (by omega) (by rw [hl]; simp only [List.length_cons]; exact (room_step r.length (by omega)).2.2) h2
    have h4 := valL_room s.data.toList 0 hll h.dg (by omega) (by rw [hl]; simp only [List.length_cons]; exact (room_step r.length (by omega)).2.2)
    rw [numB]
    generalize valL 0 s.data.toList = n at *
    have h5 := impl_WordOk_w n
    have h6 := impl_Digits_ok (n := n) ⟨by omega, by omega⟩
    by_cases c2 : word n = true
    · rw [c2] at h5
      by_cases c3 : dig n = s
      · rw [if_pos ⟨c1, c2, c3⟩]
        simp (maxSteps := 999999) (implicitDefEqProofs := false) (disch := (first | assumption | omega | (unfold appOk; (try simp only [List.length_map, List.length_append, List.length_cons, List.length_nil]); omega))) only [go_sem, simprocAttr, g0, hb, h3, h5, h6, Option.getD_some, Option.isSome_some, c3, Int.mul_one]
      · rw [if_neg (fun h => c3 h.2.2)]
        simp (maxSteps := 999999) (implicitDefEqProofs := false) (disch := (first | assumption | omega | (unfold appOk; (try simp only [List.length_map, List.length_append, List.length_cons, List.length_nil]); omega))) only [go_sem, simprocAttr, g0, hb, h3, h5, h6, Option.getD_none, Option.isSome_none, Int.mul_one]
    · have c2' : word n = false := by simpa using c2
      rw [c2'] at h5
      rw [if_neg (fun h => c2 h.2.1)]
      simp (maxSteps := 999999) (implicitDefEqProofs := false) (disch := (first | assumption | omega | (unfold appOk; (try simp only [List.length_map, List.length_append, List.length_cons, List.length_nil]); omega))) only [go_sem, simprocAttr, g0, hb, h3, h5, h6, Option.getD_none, Option.isSome_none, Int.mul_one]
  · rw [numB, if_neg (fun h => c1 h.1)]
    simp (maxSteps := 999999) (implicitDefEqProofs := false) (disch := (first | assumption | omega | (unfold appOk; (try simp only [List.length_map, List.length_append, List.length_cons, List.length_nil]); omega))) only [go_sem, simprocAttr, g0, hb, Option.getD_none, Option.isSome_none]
end Go.Ev.G

/- Tokens: one token. -/
set_option linter.all false
namespace Go.Ev.G
set_option maxRecDepth 8000
set_option maxHeartbeats 4000000
def runL (p : Int → Bool) : List UInt8 → Nat
  | [] => 0
  | b :: r => if p b.toNat = true then runL p r + 1 else 0
theorem runL_le (p : Int → Bool) : ∀ l, runL p l ≤ l.length
  | [] => by simp [runL]
  | b :: r => by have := runL_le p r; rw [runL]; split <;> simp only [List.length_cons] <;> omega
theorem isLetter_ok (c : Int) (h : Heap) (fr : Nat) (hh : dropF fr h = h) : evCW tab impl_isLetter [.d (.v (.int .u8 c))] h fr = some (B (letterB c), h) := by
  rw [evCW_of t_impl_isLetter _ _ _ rfl, c_impl_isLetter, letterB]
  ((try simp (maxSteps := 2000000) (implicitDefEqProofs := false) (disch := (first | assumption | omega | (refine ⟨?_, ?_⟩ <;> omega) | (unfold catOk; (try simp only [ByteArray.size_append, size_lit, List.length_cons, List.length_nil]); omega) | (unfold mkOk; omega) | (unfold appOk; (try simp only [List.length_map, List.length_append, List.length_cons, List.length_nil]); omega))) only [go_sem, Nat.reduceEqDiff, Nat.reduceBEq, Nat.reduceAdd, Nat.reduceSub, Nat.reduceMul, Nat.reduceLeDiff, Nat.reduceLT, ↓reduceIte, reduceCtorEq, Int.reduceEq, Int.reduceLE, Int.reduceLT, Int.reduceToNat, Int.reduceNeg, Int.reduceSub, Int.reduceAdd, Int.reduceMul, ltT, ltF, leT, leF, neF, eqT, baT, baF, bvT, bvF, catT, mkT, appT, wrap_id, List.length_map, Int.toNat_natCast, Bool.not_not, condK_n, condK_bt, condK_bf, condK_bg, guardK_nt, guardK_nf, guardK_tT, guardK_fT, guardK_tF, guardK_fF, guardK_tG, guardK_fG, pickK_n, pickK_bt, pickK_bf, pickK_bg, hh]) <;> repeat' ((first | rw [condK_d] | rw [guardK_dt] | rw [guardK_df] | rw [pickK_d] | rw [condK_b] | rw [guardK_bt] | rw [guardK_bf] | rw [pickK_b] | skip); split <;> (try simp (maxSteps := 2000000) (implicitDefEqProofs := false) (disch := (first | assumption | omega | (refine ⟨?_, ?_⟩ <;> omega) | (unfold catOk; (try simp only [ByteArray.size_append, size_lit, List.length_cons, List.length_nil]); omega) | (unfold mkOk; omega) | (unfold appOk; (try simp only [List.length_map, List.length_append, List.length_cons, List.length_nil]); omega))) only [go_sem, Nat.reduceEqDiff, Nat.reduceBEq, Nat.reduceAdd, Nat.reduceSub, Nat.reduceMul, Nat.reduceLeDiff, Nat.reduceLT, ↓reduceIte, reduceCtorEq, Int.reduceEq, Int.reduceLE, Int.reduceLT, Int.reduceToNat, Int.reduceNeg, Int.reduceSub, Int.reduceAdd, Int.reduceMul, ltT, ltF, leT, leF, neF, eqT, baT, baF, bvT, bvF, catT, mkT, appT, wrap_id, List.length_map, Int.toNat_natCast, Bool.not_not, condK_n, condK_bt, condK_bf, condK_bg, guardK_nt, guardK_nf, guardK_tT, guardK_fT, guardK_tF, guardK_fF, guardK_tG, guardK_fG, pickK_n, pickK_bt, pickK_bf, pickK_bg, hh])))
  all_goals simp_all
  all_goals omega
theorem isDigit_ok (c : Int) (h : Heap) (fr : Nat) (hh : dropF fr h = h) : evCW tab impl_isDigit [.d (.v (.int .u8 c))] h fr = some (B (digitB c), h) := by
  rw [evCW_of t_impl_isDigit _ _ _ rfl, c_impl_isDigit, digitB]
  ((try simp (maxSteps := 2000000) (implicitDefEqProofs := false) (disch := (first | assumption | omega | (refine ⟨?_, ?_⟩ <;> omega) | (unfold catOk; (try simp only [ByteArray.size_append, size_lit, List.length_cons, List.length_nil]); omega) | (unfold mkOk; omega) | (unfold appOk; (try simp only [List.length_map, List.length_append, List.length_cons, List.length_nil]); omega))) only [go_sem, Nat.reduceEqDiff, Nat.reduceBEq, Nat.reduceAdd, Nat.reduceSub, Nat.reduceMul, Nat.reduceLeDiff, Nat.reduceLT, ↓reduceIte, reduceCtorEq, Int.reduceEq, Int.reduceLE, Int.reduceLT, Int.reduceToNat, Int.reduceNeg, Int.reduceSub, Int.reduceAdd, Int.reduceMul, ltT, ltF, leT, leF, neF, eqT, baT, baF, bvT, bvF, catT, mkT, appT, wrap_id, List.length_map, Int.toNat_natCast, Bool.not_not, condK_n, condK_bt, condK_bf, condK_bg, guardK_nt, guardK_nf, guardK_tT, guardK_fT, guardK_tF, guardK_fF, guardK_tG, guardK_fG, pickK_n, pickK_bt, pickK_bf, pickK_bg, hh]) <;> repeat' ((first | rw [condK_d] | rw [guardK_dt] | rw [guardK_df] | rw [pickK_d] | rw [condK_b] | rw [guardK_bt] | rw [guardK_bf] | rw [pickK_b] | skip); split <;> (try simp (maxSteps := 2000000) (implicitDefEqProofs := false) (disch := (first | assumption | omega | (refine ⟨?_, ?_⟩ <;> omega) | (unfold catOk; (try simp only [ByteArray.size_append, size_lit, List.length_cons, List.length_nil]); omega) | (unfold mkOk; omega) | (unfold appOk; (try simp only [List.length_map, List.length_append, List.length_cons, List.length_nil]); omega))) only [go_sem, Nat.reduceEqDiff, Nat.reduceBEq, Nat.reduceAdd, Nat.reduceSub, Nat.reduceMul, Nat.reduceLeDiff, Nat.reduceLT, ↓reduceIte, reduceCtorEq, Int.reduceEq, Int.reduceLE, Int.reduceLT, Int.reduceToNat, Int.reduceNeg, Int.reduceSub, Int.reduceAdd, Int.reduceMul, ltT, ltF, leT, leF, neF, eqT, baT, baF, bvT, bvF, catT, mkT, appT, wrap_id, List.length_map, Int.toNat_natCast, Bool.not_not, condK_n, condK_bt, condK_bf, condK_bg, guardK_nt, guardK_nf, guardK_tT, guardK_fT, guardK_tF, guardK_fF, guardK_tG, guardK_fG, pickK_n, pickK_bt, pickK_bf, pickK_bg, hh])))
  all_goals simp_all
theorem impl_run_l0 (f : Nat) (p : Int → Bool) (h : Heap) (fr : Nat) (hh : dropF fr h = h) (s : ByteArray) (hs : s.size ≤ 1048576) (a : Int) (ha : 0 ≤ a) (hf : ∀ b : UInt8, evCW tab f [.d (.v (.int .u8 b.toNat))] h (fr + 1) = some (B (p b.toNat), h)) : ∀ (Bl : List UInt8) (j : Int), s.data.toList.drop (a + j).toNat = Bl → 0 ≤ j → a + j ≤ s.size →
    loopW tab [0, 1, 2, 7] b_impl_run_0 { env := upd (upd (upd (upd emp 7 (some (I j))) 2 (some (.d (.v (.func (.func f) #[] #[]))))) 1 (some (I a))) 0 (some (Str s)), heap := h, fr := fr, next := 0 } = 
    some (.ext 0, { env := upd emp 7 (some (I (j + runL p Bl))), heap := h, fr := fr, next := 0 })
  | [], j, hd, hj, hz => by
    unfold loopW
    conv => lhs; arg 1; unfold b_impl_run_0
    have h2 := strn hd (by omega)
    have h3 : 0 ≤ a + j := by omega
    simp (maxSteps := 999999) (implicitDefEqProofs := false) (disch := (first | assumption | omega | (unfold appOk; (try simp only [List.length_map, List.length_append, List.length_cons, List.length_nil]); omega))) only [go_sem, simprocAttr, runL, hh, Int.natCast_zero, Int.add_zero]
  | b :: r, j, hd, hj, hz => by
    unfold loopW
    conv => lhs; arg 1; unfold b_impl_run_0
    obtain ⟨g1, g2, g3, g4⟩ := strc hd (by omega)
    have g5 := hf b
    rw [runL]
    cases hp : p b.toNat <;> rw [hp] at g5
    · simp (maxSteps := 999999) (implicitDefEqProofs := false) (disch := (first | assumption | omega | (unfold appOk; (try simp only [List.length_map, List.length_append, List.length_cons, List.length_nil]); omega))) only [go_sem, simprocAttr, g1, g5, hh, Bool.false_eq_true, if_false, Int.natCast_zero, Int.add_zero]
    · have ih := impl_run_l0 f p h fr hh s hs a ha hf r (j + 1) (by rw [← g3]; congr 1; omega) (by omega) (by omega)
      have e : j + ((runL p r + 1 : Nat) : Int) = j + 1 + (runL p r : Int) := by omega
      simp only [if_true, e]
      rw [← ih]
      simp (maxSteps := 999999) (implicitDefEqProofs := false) (disch := (first | assumption | omega | (unfold appOk; (try simp only [List.length_map, List.length_append, List.length_cons, List.length_nil]); omega))) only [go_sem, simprocAttr, g1, g5, hh]
theorem impl_run_ok (f : Nat) (p : Int → Bool) (h : Heap) (fr : Nat) (hh : dropF fr h = h) (s : ByteArray) (hs : s.size ≤ 1048576) (a : Int) (ha : 0 ≤ a ∧ a ≤ s.size) (hf : ∀ b : UInt8, evCW tab f [.d (.v (.int .u8 b.toNat))] h (fr + 1) = some (B (p b.toNat), h)) :
    evCW tab impl_run [Str s, I a, .d (.v (.func (.func f) #[] #[]))] h fr = some (I (runL p (s.data.toList.drop a.toNat)), h) := by
  have h0 := impl_run_l0 f p h fr hh s hs a ha.1 hf (s.data.toList.drop a.toNat) 0 (by rw [Int.add_zero]) (by omega) (by omega)
  rw [evCW_of t_impl_run _ _ _ rfl, c_impl_run]
  simp only [Int.zero_add] at h0
  simp (maxSteps := 999999) (implicitDefEqProofs := false) (disch := (first | assumption | omega | (unfold appOk; (try simp only [List.length_map, List.length_append, List.length_cons, List.length_nil]); omega))) only [go_sem, simprocAttr, h0, hh]
theorem ix_mem (c : UInt8) : ∀ m : List UInt8, -1 ≤ Lib.indexByte m c ∧ (decide (0 ≤ Lib.indexByte m c) = m.contains c)
  | [] => by simp [Lib.indexByte]
  | b :: m => by
    obtain ⟨h1, h2⟩ := ix_mem c m
    rw [Lib.indexByte, List.contains_cons]
    by_cases e : b = c
    · subst e; simp
    · have e1 : (b == c) = false := by simpa using e
      have e2 : (c == b) = false := by simpa using Ne.symm e
      rw [e1, e2, ← h2]
      simp only [Bool.false_eq_true, if_false, Bool.false_or]
      by_cases e3 : Lib.indexByte m c = -1
      · simp [e3]
      · have e4 : (Lib.indexByte m c == -1) = false := by simpa using e3
        rw [e4]
        simp only [Bool.false_eq_true, if_false]
        exact ⟨by omega, by rw [decide_eq_decide]; omega⟩
theorem strings_IndexByte_ok (s : ByteArray) (b : UInt8) : call tab strings_IndexByte [Str s, .d (.v (.int .u8 b.toNat))] = some (I (Lib.indexByte s.data.toList b)) := by
  have h1 : call tab stringslite_IndexByte [Str s, .d (.v (.int .u8 b.toNat))] = some (I (Lib.indexByte s.data.toList b)) := by
    rw [call_of t_stringslite_IndexByte _ rfl, c_stringslite_IndexByte]
    have e : b.toNat.toUInt8 = b := by simp
    simp (maxSteps := 999999) (implicitDefEqProofs := false) (disch := (first | assumption | omega | (unfold appOk; (try simp only [List.length_map, List.length_append, List.length_cons, List.length_nil]); omega))) only [go_sem, simprocAttr, e]
  rw [call_of t_strings_IndexByte _ rfl, c_strings_IndexByte]
  simp (maxSteps := 999999) (implicitDefEqProofs := false) (disch := (first | assumption | omega | (unfold appOk; (try simp only [List.length_map, List.length_append, List.length_cons, List.length_nil]); omega))) only [go_sem, simprocAttr, h1]
theorem strings_HasPrefix_ok (s q : ByteArray) (hs : s.size ≤ 1048576) (hq : q.size ≤ 1048576) : call tab strings_HasPrefix [Str s, Str q] = some (B (decide ((q.size : Int) ≤ s.size) && decide (s.extract 0 q.size = q))) := by
  have h1 : call tab stringslite_HasPrefix [Str s, Str q] = some (B (decide ((q.size : Int) ≤ s.size) && decide (s.extract 0 q.size = q))) := by
    rw [call_of t_stringslite_HasPrefix _ rfl, c_stringslite_HasPrefix]
    ((try simp (maxSteps := 2000000) (implicitDefEqProofs := false) (disch := (first | assumption | omega | (refine ⟨?_, ?_⟩ <;> omega) | (unfold catOk; (try simp only [ByteArray.size_append, size_lit, List.length_cons, List.length_nil]); omega) | (unfold mkOk; omega) | (unfold appOk; (try simp only [List.length_map, List.length_append, List.length_cons, List.length_nil]); omega))) only [go_sem, Nat.reduceEqDiff, Nat.reduceBEq, Nat.reduceAdd, Nat.reduceSub, Nat.reduceMul, Nat.reduceLeDiff, Nat.reduceLT, ↓reduceIte, reduceCtorEq, Int.reduceEq, Int.reduceLE, Int.reduceLT, Int.reduceToNat, Int.reduceNeg, Int.reduceSub, Int.reduceAdd, Int.reduceMul, ltT, ltF, leT, leF, neF, eqT, baT, baF, bvT, bvF, catT, mkT, appT, wrap_id, List.length_map, Int.toNat_natCast, Bool.not_not, condK_n, condK_bt, condK_bf, condK_bg, guardK_nt, guardK_nf, guardK_tT, guardK_fT, guardK_tF, guardK_fF, guardK_tG, guardK_fG, pickK_n, pickK_bt, pickK_bf, pickK_bg]) <;> repeat' ((first | rw [condK_d] | rw [guardK_dt] | rw [guardK_df] | rw [pickK_d] | rw [condK_b] | rw [guardK_bt] | rw [guardK_bf] | rw [pickK_b] | skip); split <;> (try simp (maxSteps := 2000000) (implicitDefEqProofs := false) (disch := (first | assumption | omega | (refine ⟨?_, ?_⟩ <;> omega) | (unfold catOk; (try simp only [ByteArray.size_append, size_lit, List.length_cons, List.length_nil]); omega) | (unfold mkOk; omega) | (unfold appOk; (try simp only [List.length_map, List.length_append, List.length_cons, List.length_nil]); omega))) only [go_sem, Nat.reduceEqDiff, Nat.reduceBEq, Nat.reduceAdd, Nat.reduceSub, Nat.reduceMul, Nat.reduceLeDiff, Nat.reduceLT, ↓reduceIte, reduceCtorEq, Int.reduceEq, Int.reduceLE, Int.reduceLT, Int.reduceToNat, Int.reduceNeg, Int.reduceSub, Int.reduceAdd, Int.reduceMul, ltT, ltF, leT, leF, neF, eqT, baT, baF, bvT, bvF, catT, mkT, appT, wrap_id, List.length_map, Int.toNat_natCast, Bool.not_not, condK_n, condK_bt, condK_bf, condK_bg, guardK_nt, guardK_nf, guardK_tT, guardK_fT, guardK_tF, guardK_fF, guardK_tG, guardK_fG, pickK_n, pickK_bt, pickK_bf, pickK_bg])))
    all_goals simp_all
  rw [call_of t_strings_HasPrefix _ rfl, c_strings_HasPrefix]
  ((try simp (maxSteps := 2000000) (implicitDefEqProofs := false) (disch := (first | assumption | omega | (refine ⟨?_, ?_⟩ <;> omega) | (unfold catOk; (try simp only [ByteArray.size_append, size_lit, List.length_cons, List.length_nil]); omega) | (unfold mkOk; omega) | (unfold appOk; (try simp only [List.length_map, List.length_append, List.length_cons, List.length_nil]); omega))) only [go_sem, Nat.reduceEqDiff, Nat.reduceBEq, Nat.reduceAdd, Nat.reduceSub, Nat.reduceMul, Nat.reduceLeDiff, Nat.reduceLT, ↓reduceIte, reduceCtorEq, Int.reduceEq, Int.reduceLE, Int.reduceLT, Int.reduceToNat, Int.reduceNeg, Int.reduceSub, Int.reduceAdd, Int.reduceMul, ltT, ltF, leT, leF, neF, eqT, baT, baF, bvT, bvF, catT, mkT, appT, wrap_id, List.length_map, Int.toNat_natCast, Bool.not_not, condK_n, condK_bt, condK_bf, condK_bg, guardK_nt, guardK_nf, guardK_tT, guardK_fT, guardK_tF, guardK_fF, guardK_tG, guardK_fG, pickK_n, pickK_bt, pickK_bf, pickK_bg, h1]) <;> repeat' ((first | rw [condK_d] | rw [guardK_dt] | rw [guardK_df] | rw [pickK_d] | rw [condK_b] | rw [guardK_bt] | rw [guardK_bf] | rw [pickK_b] | skip); split <;> (try simp (maxSteps := 2000000) (implicitDefEqProofs := false) (disch := (first | assumption | omega | (refine ⟨?_, ?_⟩ <;> omega) | (unfold catOk; (try simp only [ByteArray.size_append, size_lit, List.length_cons, List.length_nil]); omega) | (unfold mkOk; omega) | (unfold appOk; (try simp only [List.length_map, List.length_append, List.length_cons, List.length_nil]); omega))) only [go_sem, Nat.reduceEqDiff, Nat.reduceBEq, Nat.reduceAdd, Nat.reduceSub, Nat.reduceMul, Nat.reduceLeDiff, Nat.reduceLT, ↓reduceIte, reduceCtorEq, Int.reduceEq, Int.reduceLE, Int.reduceLT, Int.reduceToNat, Int.reduceNeg, Int.reduceSub, Int.reduceAdd, Int.reduceMul, ltT, ltF, leT, leF, neF, eqT, baT, baF, bvT, bvF, catT, mkT, appT, wrap_id, List.length_map, Int.toNat_natCast, Bool.not_not, condK_n, condK_bt, condK_bf, condK_bg, guardK_nt, guardK_nf, guardK_tT, guardK_fT, guardK_tF, guardK_fF, guardK_tG, guardK_fG, pickK_n, pickK_bt, pickK_bf, pickK_bg, h1])))
def signS : ByteArray := ⟨#[40, 41, 123, 125, 44, 59, 61, 43, 45, 42, 60]⟩
def inS (b : UInt8) : List UInt8 → Bool
  | [] => false
  | x :: xs => decide ((x.toNat : Int) = b.toNat) || inS b xs
theorem inS_mem (b : UInt8) : ∀ m : List UInt8, inS b m = m.contains b
  | [] => rfl
  | x :: xs => by
    rw [inS, inS_mem b xs, List.contains_cons]
    congr 1
    by_cases e : b = x
    · subst e; simp
    · have e1 : (b == x) = false := by simpa using e
      have e2 : ¬ ((x.toNat : Int) = b.toNat) := fun h => e (UInt8.toNat_inj.1 (by omega))
      rw [e1]; simpa using e2
theorem spec_l5Sign_l0 (s sg : ByteArray) (hs : s.size ≤ 1048576) (hg : sg.size ≤ 100) (a : Int) (b : UInt8) (ha : 0 ≤ a ∧ a < s.size) (hb : s[a.toNat]? = some b) : ∀ (Bl : List UInt8) (j : Int), sg.data.toList.drop j.toNat = Bl → 0 ≤ j →
    loopW tab [0, 1, 5, 6] b_spec_l5Sign_0 { env := upd (upd (upd (upd emp 6 (some (I j))) 5 (some (Str sg))) 1 (some (I a))) 0 (some (Str s)), heap := emp, fr := 0, next := 0 } = 
    if inS b Bl = true then some (.ret, { env := upd emp 4 (some (Str (s.extract a.toNat (a + 1).toNat))), heap := emp, fr := 0, next := 0 }) else some (.ext 0, { env := emp, heap := emp, fr := 0, next := 0 })
  | [], j, hd, hj => by
    unfold loopW
    conv => lhs; arg 1; unfold b_spec_l5Sign_0
    have h2 := strn hd hj
    simp only [inS, Bool.false_eq_true, if_false]
    simp (maxSteps := 999999) (implicitDefEqProofs := false) (disch := (first | assumption | omega | (unfold appOk; (try simp only [List.length_map, List.length_append, List.length_cons, List.length_nil]); omega))) only [go_sem, simprocAttr]
  | x :: r, j, hd, hj => by
    unfold loopW
    conv => lhs; arg 1; unfold b_spec_l5Sign_0
    obtain ⟨g1, g2, g3, g4⟩ := strc hd hj
    have ih := spec_l5Sign_l0 s sg hs hg a b ha hb r (j + 1) g3 (by omega)
    rw [inS]
    by_cases c : (x.toNat : Int) = b.toNat
    · simp only [c, decide_true, Bool.true_or, if_true]
      simp (maxSteps := 999999) (implicitDefEqProofs := false) (disch := (first | assumption | omega | (unfold appOk; (try simp only [List.length_map, List.length_append, List.length_cons, List.length_nil]); omega))) only [go_sem, simprocAttr, g1, hb]
    · simp only [c, decide_false, Bool.false_or]
      rw [← ih]
      simp (maxSteps := 999999) (implicitDefEqProofs := false) (disch := (first | assumption | omega | (unfold appOk; (try simp only [List.length_map, List.length_append, List.length_cons, List.length_nil]); omega))) only [go_sem, simprocAttr, g1, hb]
def isE (r : List UInt8) : Bool := match r with
  | x :: _ => decide ((x.toNat : Int) = 61)
  | [] => false
def sgn (s : ByteArray) (a : Int) (b : UInt8) (r : List UInt8) : ByteArray := if (b.toNat : Int) = 61 ∧ isE r = true then ⟨#[61, 61]⟩ else if inS b signS.data.toList = true then s.extract a.toNat (a + 1).toNat else ⟨#[]⟩
theorem spec_l5Sign_ok (s : ByteArray) (hs : s.size ≤ 1048576) (a : Int) (b : UInt8) (r : List UInt8) (ha : 0 ≤ a) (hd : s.data.toList.drop a.toNat = b :: r) : call tab spec_l5Sign [Str s, I a] = some (Str (sgn s a b r)) := by
  obtain ⟨g1, g2, g3, g4⟩ := strc hd ha
  have h0 := spec_l5Sign_l0 s signS hs (by decide) a b ⟨ha, g2⟩ g1 signS.data.toList 0 rfl (by omega)
  rw [call_of t_spec_l5Sign _ rfl, c_spec_l5Sign, sgn]
  simp only [signS] at h0 ⊢
  by_cases c1 : (b.toNat : Int) = 61
  · cases r with
    | nil =>
      simp only [List.length_nil, isE, c1, Bool.false_eq_true, and_false, if_false] at g4 ⊢
      obtain ⟨z, hz⟩ : ∃ z, inS b (ByteArray.mk #[40, 41, 123, 125, 44, 59, 61, 43, 45, 42, 60]).data.toList = z := ⟨_, rfl⟩
      simp only [hz] at h0 ⊢
      cases z <;> simp only [Bool.false_eq_true, if_true, if_false] at h0 ⊢ <;> simp (maxSteps := 999999) (implicitDefEqProofs := false) (disch := (first | assumption | omega | (unfold appOk; (try simp only [List.length_map, List.length_append, List.length_cons, List.length_nil]); omega))) only [go_sem, simprocAttr, g1, h0]
    | cons x r =>
      obtain ⟨k1, k2, k3, k4⟩ := strc g3 (by omega)
      simp only [isE, c1, true_and]
      by_cases c2 : (x.toNat : Int) = 61
      · simp only [c2, decide_true, if_true]
        simp (maxSteps := 999999) (implicitDefEqProofs := false) (disch := (first | assumption | omega | (unfold appOk; (try simp only [List.length_map, List.length_append, List.length_cons, List.length_nil]); omega))) only [go_sem, simprocAttr, g1, k1]
      · simp only [c2, decide_false, Bool.false_eq_true, if_false]
        obtain ⟨z, hz⟩ : ∃ z, inS b (ByteArray.mk #[40, 41, 123, 125, 44, 59, 61, 43, 45, 42, 60]).data.toList = z := ⟨_, rfl⟩
        simp only [hz] at h0 ⊢
        cases z <;> simp only [Bool.false_eq_true, if_true, if_false] at h0 ⊢ <;> simp (maxSteps := 999999) (implicitDefEqProofs := false) (disch := (first | assumption | omega | (unfold appOk; (try simp only [List.length_map, List.length_append, List.length_cons, List.length_nil]); omega))) only [go_sem, simprocAttr, g1, k1, h0]
  · simp only [c1, false_and, if_false]
    obtain ⟨z, hz⟩ : ∃ z, inS b (ByteArray.mk #[40, 41, 123, 125, 44, 59, 61, 43, 45, 42, 60]).data.toList = z := ⟨_, rfl⟩
    simp only [hz] at h0 ⊢
    cases z <;> simp only [Bool.false_eq_true, if_true, if_false] at h0 ⊢ <;> simp (maxSteps := 999999) (implicitDefEqProofs := false) (disch := (first | assumption | omega | (unfold appOk; (try simp only [List.length_map, List.length_append, List.length_cons, List.length_nil]); omega))) only [go_sem, simprocAttr, g1, h0]
theorem ext_list (s : ByteArray) (i j : Nat) : (s.extract i j).data.toList = (s.data.toList.drop i).take (j - i) := by
  simp [ByteArray.data_extract, Array.toList_extract, List.extract_eq_take_drop]
theorem sz_list (s : ByteArray) : s.size = s.data.toList.length := by rw [Array.length_toList]; rfl
theorem runL_all (p : Int → Bool) : ∀ (m : List UInt8), ∀ b ∈ m.take (runL p m), p b.toNat = true
  | [], b, h => by simp [runL] at h
  | x :: m, b, h => by
    rw [runL] at h
    split at h
    · rename_i hx
      rw [List.take_succ_cons] at h
      rcases List.mem_cons.1 h with rfl | h
      · exact hx
      · exact runL_all p m b h
    · simp at h
theorem digs_ext (s : ByteArray) (hs : s.size ≤ 1048576) (a : Int) (b : UInt8) (r : List UInt8) (ha : 0 ≤ a) (hd : s.data.toList.drop a.toNat = b :: r) (hb : digitB b.toNat = true) : Digs (s.extract a.toNat (a + runL digitB (b :: r)).toNat) := by
  have h1 : (s.extract a.toNat (a + runL digitB (b :: r)).toNat).data.toList = (b :: r).take (runL digitB (b :: r)) := by
    rw [ext_list, hd]; congr 1; omega
  refine ⟨fun h => ?_, ?_, ?_⟩
  · rw [h] at h1
    rw [runL, if_pos hb, List.take_succ_cons] at h1
    simp at h1
  · rw [h1]; exact runL_all digitB (b :: r)
  · rw [sz_list, h1, List.length_take]
    have := runL_le digitB (b :: r)
    have h6 := sz_list s
    have h7 : (s.data.toList.drop a.toNat).length = (b :: r).length := by rw [hd]
    rw [List.length_drop] at h7
    omega
abbrev z0 : D := .s 4 [[DI 0, DS noS, DI 0, DI 0]]
theorem spec_l5One_l0 (s : ByteArray) (hs : s.size ≤ 1048576) (a : Int) : ∀ (Bl : List UInt8) (j : Int), s.data.toList.drop j.toNat = Bl → 0 ≤ j → j ≤ s.size →
    loopW tab [0, 1, 4, 7] b_spec_l5One_0 { env := upd (upd (upd (upd emp 7 (some (I j))) 4 (some (.ptr (0, 0) [] 0 0))) 1 (some (I a))) 0 (some (Str s)), heap := upd emp (0, 0) (some z0), fr := 0, next := 1 } = 
    some (.ext 1, { env := upd (upd (upd (upd emp 7 (some (I (j + runL letterB Bl)))) 4 (some (.ptr (0, 0) [] 0 0))) 1 (some (I a))) 0 (some (Str s)), heap := upd emp (0, 0) (some z0), fr := 0, next := 1 })
  | [], j, hd, hj, hz => by
    unfold loopW
    conv => lhs; arg 1; unfold b_spec_l5One_0
    have h2 := strn hd hj
    simp (maxSteps := 999999) (implicitDefEqProofs := false) (disch := (first | assumption | omega | (unfold appOk; (try simp only [List.length_map, List.length_append, List.length_cons, List.length_nil]); omega))) only [go_sem, simprocAttr, runL, Int.natCast_zero, Int.add_zero]
  | b :: r, j, hd, hj, hz => by
    unfold loopW
    conv => lhs; arg 1; unfold b_spec_l5One_0
    obtain ⟨g1, g2, g3, g4⟩ := strc hd hj
    have g5 := spec_l5Letter_ok b.toNat
    rw [runL]
    cases hp : letterB b.toNat <;> rw [hp] at g5
    · simp (maxSteps := 999999) (implicitDefEqProofs := false) (disch := (first | assumption | omega | (unfold appOk; (try simp only [List.length_map, List.length_append, List.length_cons, List.length_nil]); omega))) only [go_sem, simprocAttr, g1, g5, Bool.false_eq_true, if_false, Int.natCast_zero, Int.add_zero]
    · have ih := spec_l5One_l0 s hs a r (j + 1) g3 (by omega) (by omega)
      have e : j + ((runL letterB r + 1 : Nat) : Int) = j + 1 + (runL letterB r : Int) := by omega
      simp only [if_true, e]
      rw [← ih]
      simp (maxSteps := 999999) (implicitDefEqProofs := false) (disch := (first | assumption | omega | (unfold appOk; (try simp only [List.length_map, List.length_append, List.length_cons, List.length_nil]); omega))) only [go_sem, simprocAttr, g1, g5]
theorem spec_l5One_l1 (s : ByteArray) (hs : s.size ≤ 1048576) (a : Int) : ∀ (Bl : List UInt8) (j : Int), s.data.toList.drop j.toNat = Bl → 0 ≤ j → j ≤ s.size →
    loopW tab [0, 1, 4, 7] b_spec_l5One_1 { env := upd (upd (upd (upd emp 7 (some (I j))) 4 (some (.ptr (0, 0) [] 0 0))) 1 (some (I a))) 0 (some (Str s)), heap := upd emp (0, 0) (some z0), fr := 0, next := 1 } = 
    some (.ext 3, { env := upd (upd (upd (upd emp 7 (some (I (j + runL digitB Bl)))) 4 (some (.ptr (0, 0) [] 0 0))) 1 (some (I a))) 0 (some (Str s)), heap := upd emp (0, 0) (some z0), fr := 0, next := 1 })
  | [], j, hd, hj, hz => by
    unfold loopW
    conv => lhs; arg 1; unfold b_spec_l5One_1
    have h2 := strn hd hj
    simp (maxSteps := 999999) (implicitDefEqProofs := false) (disch := (first | assumption | omega | (unfold appOk; (try simp only [List.length_map, List.length_append, List.length_cons, List.length_nil]); omega))) only [go_sem, simprocAttr, runL, Int.natCast_zero, Int.add_zero]
  | b :: r, j, hd, hj, hz => by
    unfold loopW
    conv => lhs; arg 1; unfold b_spec_l5One_1
    obtain ⟨g1, g2, g3, g4⟩ := strc hd hj
    have g5 := spec_l5Digit_ok b.toNat
    rw [runL]
    cases hp : digitB b.toNat <;> rw [hp] at g5
    · simp (maxSteps := 999999) (implicitDefEqProofs := false) (disch := (first | assumption | omega | (unfold appOk; (try simp only [List.length_map, List.length_append, List.length_cons, List.length_nil]); omega))) only [go_sem, simprocAttr, g1, g5, Bool.false_eq_true, if_false, Int.natCast_zero, Int.add_zero]
    · have ih := spec_l5One_l1 s hs a r (j + 1) g3 (by omega) (by omega)
      have e : j + ((runL digitB r + 1 : Nat) : Int) = j + 1 + (runL digitB r : Int) := by omega
      simp only [if_true, e]
      rw [← ih]
      simp (maxSteps := 999999) (implicitDefEqProofs := false) (disch := (first | assumption | omega | (unfold appOk; (try simp only [List.length_map, List.length_append, List.length_cons, List.length_nil]); omega))) only [go_sem, simprocAttr, g1, g5]
def specOne (s : ByteArray) (a : Int) (b : UInt8) (r : List UInt8) : TToken × Int × Bool :=
  if letterB b.toNat = true then (⟨1, s.extract a.toNat (a + runL letterB (b :: r)).toNat, 0, a⟩, a + runL letterB (b :: r), decide ((runL letterB (b :: r) : Int) ≤ 10))
  else if digitB b.toNat = true then (⟨2, noS, (numB (s.extract a.toNat (a + runL digitB (b :: r)).toNat)).getD 0, a⟩, a + runL digitB (b :: r), (numB (s.extract a.toNat (a + runL digitB (b :: r)).toNat)).isSome)
  else (⟨3, sgn s a b r, 0, a⟩, a + (sgn s a b r).size, !decide (sgn s a b r = ⟨#[]⟩))
theorem sgn_size (s : ByteArray) (hs : s.size ≤ 1048576) (a : Int) (b : UInt8) (r : List UInt8) : (sgn s a b r).size ≤ 1048576 := by
  unfold sgn
  split
  · decide
  · split
    · rw [ByteArray.size_extract]; omega
    · decide
theorem spec_l5One_ok (s : ByteArray) (hs : s.size ≤ 1048576) (a : Int) (b : UInt8) (r : List UInt8) (ha : 0 ≤ a) (hd : s.data.toList.drop a.toNat = b :: r) : call tab spec_l5One [Str s, I a] = some (.tup [(specOne s a b r).1.xo, I (specOne s a b r).2.1, B (specOne s a b r).2.2]) := by
  obtain ⟨g1, g2, g3, g4⟩ := strc hd ha
  have g5 := spec_l5Letter_ok b.toNat
  have g6 := spec_l5Digit_ok b.toNat
  have h1 := spec_l5One_l0 s hs a (b :: r) a hd ha (by omega)
  have h2 := spec_l5One_l1 s hs a (b :: r) a hd ha (by omega)
  have h3 := spec_l5Sign_ok s hs a b r ha hd
  have h4 := sgn_size s hs a b r
  have k1 := runL_le letterB (b :: r)
  have k2 := runL_le digitB (b :: r)
  simp only [List.length_cons] at k1 k2
  rw [call_of t_spec_l5One _ rfl, c_spec_l5One, specOne]
  cases c1 : letterB b.toNat <;> rw [c1] at g5
  · cases c2 : digitB b.toNat <;> rw [c2] at g6
    · simp only [Bool.false_eq_true, if_false]
      generalize sgn s a b r = g at *
      simp (maxSteps := 999999) (implicitDefEqProofs := false) (disch := (first | assumption | omega | (unfold appOk; (try simp only [List.length_map, List.length_append, List.length_cons, List.length_nil]); omega))) only [go_sem, simprocAttr, g1, g5, g6, h3]
    · have h5 := spec_Number_ok _ (digs_ext s hs a b r ha hd c2)
      simp only [Bool.false_eq_true, if_false, if_true]
      generalize runL digitB (b :: r) = k at *
      simp (maxSteps := 999999) (implicitDefEqProofs := false) (disch := (first | assumption | omega | (unfold appOk; (try simp only [List.length_map, List.length_append, List.length_cons, List.length_nil]); omega))) only [go_sem, simprocAttr, g1, g5, g6, h2, h5]
  · simp only [if_true]
    generalize runL letterB (b :: r) = k at *
    have e : a + (k : Int) - a = k := by omega
    simp (maxSteps := 999999) (implicitDefEqProofs := false) (disch := (first | assumption | omega | (unfold appOk; (try simp only [List.length_map, List.length_append, List.length_cons, List.length_nil]); omega))) only [go_sem, simprocAttr, g1, g5, h1, e]
end Go.Ev.G

/- Tokens: the program's token. -/
set_option linter.all false
namespace Go.Ev.G
set_option maxRecDepth 8000
set_option maxHeartbeats 4000000
theorem ba_ext {t u : ByteArray} (h : t.data.toList = u.data.toList) : t = u := by
  cases t; cases u
  simp only at h
  rw [Array.toList_inj.1 h]
theorem pre_eq (s : ByteArray) (a : Int) (b : UInt8) (r : List UInt8) (ha : 0 ≤ a) (hd : s.data.toList.drop a.toNat = b :: r) :
    (decide (((⟨#[61, 61]⟩ : ByteArray).size : Int) ≤ (s.extract a.toNat s.size).size) && decide ((s.extract a.toNat s.size).extract 0 (⟨#[61, 61]⟩ : ByteArray).size = ⟨#[61, 61]⟩)) = (decide ((b.toNat : Int) = 61) && isE r) := by
  have h1 : (s.extract a.toNat s.size).data.toList = b :: r := by
    rw [ext_list, hd]
    have h7 : (s.data.toList.drop a.toNat).length = (b :: r).length := by rw [hd]
    rw [List.length_drop, ← sz_list] at h7
    exact List.take_of_length_le (by omega)
  have h2 : (s.extract a.toNat s.size).size = r.length + 1 := by rw [sz_list, h1]; rfl
  have h3 : ((s.extract a.toNat s.size).extract 0 2).data.toList = (b :: r).take 2 := by rw [ext_list, h1]; rfl
  rw [show ((⟨#[61, 61]⟩ : ByteArray).size) = 2 from rfl, h2]
  generalize (s.extract a.toNat s.size).extract 0 2 = t at *
  cases r with
  | nil => simp [isE]
  | cons x r =>
    rw [decide_eq_true (by simp only [List.length_cons]; omega), Bool.true_and]
    simp only [List.take_succ_cons, List.take_zero] at h3
    have e : (t = ⟨#[61, 61]⟩) ↔ ((b.toNat : Int) = 61 ∧ (x.toNat : Int) = 61) := by
      constructor
      · rintro rfl
        simp at h3
        obtain ⟨rfl, rfl⟩ := h3
        decide
      · rintro ⟨h4, h5⟩
        refine ba_ext ?_
        have e0 : (61 : UInt8).toNat = 61 := rfl
        have e1 : b = 61 := UInt8.toNat_inj.1 (by omega)
        have e2 : x = 61 := UInt8.toNat_inj.1 (by omega)
        rw [h3, e1, e2]
    simp only [isE, e, Bool.decide_and]
def tZ : TToken := ⟨0, noS, 0, 0⟩
def implTok (s : ByteArray) (a : Int) (b : UInt8) (r : List UInt8) : TToken :=
  if letterB b.toNat = true then (if (runL letterB (b :: r) : Int) ≤ 10 then ⟨1, s.extract a.toNat (a + runL letterB (b :: r)).toNat, 0, a⟩ else tZ)
  else if digitB b.toNat = true then (if (numB (s.extract a.toNat (a + runL digitB (b :: r)).toNat)).isSome = true then ⟨2, s.extract a.toNat (a + runL digitB (b :: r)).toNat, (numB (s.extract a.toNat (a + runL digitB (b :: r)).toNat)).getD 0, a⟩ else tZ)
  else if sgn s a b r = ⟨#[]⟩ then tZ else ⟨3, sgn s a b r, 0, a⟩
theorem impl_token_ok (s : ByteArray) (hs : s.size ≤ 1048576) (a : Int) (b : UInt8) (r : List UInt8) (ha : 0 ≤ a) (hd : s.data.toList.drop a.toNat = b :: r) : call tab impl_token [Str s, I a] = some (implTok s a b r).xo := by
  obtain ⟨g1, g2, g3, g4⟩ := strc hd ha
  have g5 := impl_isLetter_ok b.toNat
  have g6 := impl_isDigit_ok b.toNat
  have h1 := impl_run_ok impl_isLetter letterB (upd emp (0, 0) (some z0)) 1 (by simp only [dropF_z, dropF_emp]) s hs a ⟨ha, by omega⟩ (fun b => isLetter_ok b.toNat _ 2 (by show dropF (1 + 1) _ = _; rw [dropF_s, dropF_emp]))
  have h2 := impl_run_ok impl_isDigit digitB (upd emp (0, 0) (some z0)) 1 (by simp only [dropF_z, dropF_emp]) s hs a ⟨ha, by omega⟩ (fun b => isDigit_ok b.toNat _ 2 (by show dropF (1 + 1) _ = _; rw [dropF_s, dropF_emp]))
  have k1 := runL_le letterB (b :: r)
  have k2 := runL_le digitB (b :: r)
  simp only [List.length_cons] at k1 k2
  rw [hd] at h1 h2
  rw [call_of t_impl_token _ rfl, c_impl_token, implTok]
  cases c1 : letterB b.toNat <;> rw [c1] at g5
  · cases c2 : digitB b.toNat <;> rw [c2] at g6
    · simp only [Bool.false_eq_true, if_false]
      have h3 := strings_HasPrefix_ok (s.extract a.toNat s.size) ⟨#[61, 61]⟩ (by rw [ByteArray.size_extract]; omega) (by decide)
      rw [pre_eq s a b r ha hd] at h3
      have h4 := strings_IndexByte_ok signS b
      have h5 := (ix_mem b signS.data.toList).2
      rw [← inS_mem] at h5
      obtain ⟨q, hq⟩ : ∃ q, Lib.indexByte signS.data.toList b = q := ⟨_, rfl⟩
      rw [hq] at h4
      simp only [hq] at h5
      rw [signS] at h4
      by_cases c3 : (b.toNat : Int) = 61 ∧ isE r = true
      · rw [decide_eq_true c3.1, c3.2] at h3
        have hsg : sgn s a b r = ⟨#[61, 61]⟩ := by rw [sgn, if_pos c3]
        simp only [hsg]
        rw [if_neg (by decide)]
        simp (maxSteps := 999999) (implicitDefEqProofs := false) (disch := (first | assumption | omega | (unfold appOk; (try simp only [List.length_map, List.length_append, List.length_cons, List.length_nil]); omega))) only [go_sem, simprocAttr, g1, g5, g6, h3]
      · rw [show (decide ((b.toNat : Int) = 61) && isE r) = false by simpa using c3] at h3
        obtain ⟨z, hz⟩ : ∃ z, inS b signS.data.toList = z := ⟨_, rfl⟩
        rw [hz] at h5
        have hsg : sgn s a b r = if z = true then s.extract a.toNat (a + 1).toNat else ⟨#[]⟩ := by simp only [sgn, if_neg c3, hz]
        simp only [hsg]
        cases z
        · have h6 : ¬ 0 ≤ q := of_decide_eq_false h5
          simp only [Bool.false_eq_true, if_false, if_true, tZ]
          simp (maxSteps := 999999) (implicitDefEqProofs := false) (disch := (first | assumption | omega | (unfold appOk; (try simp only [List.length_map, List.length_append, List.length_cons, List.length_nil]); omega))) only [go_sem, simprocAttr, g1, g5, g6, h3, h4]
        · have h6 : 0 ≤ q := of_decide_eq_true h5
          have e0 : (s.extract a.toNat (a + 1).toNat).data.toList = [b] := by
            rw [ext_list, hd, show (a + 1).toNat - a.toNat = 1 by omega]; rfl
          have e1 : ¬ s.extract a.toNat (a + 1).toNat = ⟨#[]⟩ := fun h => by rw [h] at e0; simp at e0
          simp only [if_true, e1, if_false]
          simp (maxSteps := 999999) (implicitDefEqProofs := false) (disch := (first | assumption | omega | (unfold appOk; (try simp only [List.length_map, List.length_append, List.length_cons, List.length_nil]); omega))) only [go_sem, simprocAttr, g1, g5, g6, h3, h4]
    · have h5 := impl_Number_ok _ (digs_ext s hs a b r ha hd c2)
      simp only [Bool.false_eq_true, if_false, if_true]
      generalize runL digitB (b :: r) = k at *
      obtain ⟨w, hw⟩ : ∃ w, numB (s.extract a.toNat (a + k).toNat) = w := ⟨_, rfl⟩
      simp only [hw] at h5 ⊢
      cases w <;> simp only [Option.isSome_none, Option.isSome_some, Option.getD_none, Option.getD_some, Bool.false_eq_true, if_false, if_true, tZ] at h5 ⊢ <;> simp (maxSteps := 999999) (implicitDefEqProofs := false) (disch := (first | assumption | omega | (unfold appOk; (try simp only [List.length_map, List.length_append, List.length_cons, List.length_nil]); omega))) only [go_sem, simprocAttr, g1, g5, g6, h2, h5]
  · simp only [if_true]
    generalize runL letterB (b :: r) = k at *
    have e2 : ((s.extract a.toNat (a + (k : Int)).toNat).size : Int) = k := by rw [ByteArray.size_extract]; omega
    by_cases c3 : (k : Int) ≤ 10
    · rw [if_pos c3]
      simp (maxSteps := 999999) (implicitDefEqProofs := false) (disch := (first | assumption | omega | (unfold appOk; (try simp only [List.length_map, List.length_append, List.length_cons, List.length_nil]); omega))) only [go_sem, simprocAttr, g1, g5, h1, e2]
    · rw [if_neg c3, tZ]
      simp (maxSteps := 999999) (implicitDefEqProofs := false) (disch := (first | assumption | omega | (unfold appOk; (try simp only [List.length_map, List.length_append, List.length_cons, List.length_nil]); omega))) only [go_sem, simprocAttr, g1, g5, h1, e2]
end Go.Ev.G

/- Tokens: all of a text's. -/
set_option linter.all false
namespace Go.Ev.G
set_option maxRecDepth 8000
set_option maxHeartbeats 4000000
theorem drop_len {s : ByteArray} {a : Int} {b : UInt8} {r : List UInt8} (ha : 0 ≤ a) (hd : s.data.toList.drop a.toNat = b :: r) : (s.size : Int) = a + 1 + r.length := (strc hd ha).2.2.2
theorem specOne_to (s : ByteArray) (hs : s.size ≤ 1048576) (a : Int) (b : UInt8) (r : List UInt8) (ha : 0 ≤ a) (hd : s.data.toList.drop a.toNat = b :: r) (h : (specOne s a b r).2.2 = true) : a < (specOne s a b r).2.1 ∧ (specOne s a b r).2.1 ≤ s.size := by
  have hl := drop_len ha hd
  have k1 := runL_le letterB (b :: r)
  have k2 := runL_le digitB (b :: r)
  simp only [List.length_cons] at k1 k2
  unfold specOne at h ⊢
  split at h
  · rename_i c; rw [if_pos c]
    have : 1 ≤ runL letterB (b :: r) := by rw [runL, if_pos c]; omega
    simp only; omega
  · rename_i c; rw [if_neg c]
    split at h
    · rename_i c2; rw [if_pos c2]
      have : 1 ≤ runL digitB (b :: r) := by rw [runL, if_pos c2]; omega
      simp only; omega
    · rename_i c2; rw [if_neg c2]
      simp only [Bool.not_eq_true', decide_eq_false_iff_not] at h
      simp only
      unfold sgn at h ⊢
      split at h
      · rename_i c3; rw [if_pos c3]
        have : (⟨#[61, 61]⟩ : ByteArray).size = 2 := rfl
        cases r with
        | nil => simp [isE] at c3
        | cons x r => simp only [List.length_cons] at hl; omega
      · rename_i c3; rw [if_neg c3]
        split at h
        · rename_i c4; rw [if_pos c4]
          rw [ByteArray.size_extract]; omega
        · exact absurd rfl h
theorem implTok_no (s : ByteArray) (a : Int) (b : UInt8) (r : List UInt8) (h : (specOne s a b r).2.2 = false) : implTok s a b r = tZ := by
  unfold specOne at h
  unfold implTok
  split at h
  · rename_i c; rw [if_pos c]
    simp only [decide_eq_false_iff_not] at h
    rw [if_neg h]
  · rename_i c; rw [if_neg c]
    split at h
    · rename_i c2; rw [if_pos c2]
      simp only at h
      rw [if_neg (by rw [h]; simp)]
    · rename_i c2; rw [if_neg c2]
      simp only [Bool.not_eq_false', decide_eq_true_eq] at h
      rw [if_pos h]
theorem implTok_yes (s : ByteArray) (hs : s.size ≤ 1048576) (a : Int) (b : UInt8) (r : List UInt8) (ha : 0 ≤ a) (hd : s.data.toList.drop a.toNat = b :: r) (h : (specOne s a b r).2.2 = true) :
    ¬ (implTok s a b r).fKind = 0 ∧ a + (implTok s a b r).fText.size = (specOne s a b r).2.1 ∧ specOne s a b r = ((if (implTok s a b r).fKind = 2 then { implTok s a b r with fText := noS } else implTok s a b r), (specOne s a b r).2.1, (specOne s a b r).2.2) := by
  have hl := drop_len ha hd
  have k1 := runL_le letterB (b :: r)
  have k2 := runL_le digitB (b :: r)
  simp only [List.length_cons] at k1 k2
  unfold specOne at h ⊢
  unfold implTok
  split at h
  · rename_i c; simp only [if_pos c]
    simp only [decide_eq_true_eq] at h
    rw [if_pos h]
    simp only [ByteArray.size_extract]
    refine ⟨by omega, by omega, ?_⟩
    rw [if_neg (by omega)]
  · rename_i c; simp only [if_neg c]
    split at h
    · rename_i c2; simp only [if_pos c2]
      simp only at h
      simp only [h, if_true, ByteArray.size_extract]
      exact ⟨by omega, by omega, trivial⟩
    · rename_i c2; simp only [if_neg c2]
      simp only [Bool.not_eq_true', decide_eq_false_iff_not] at h
      rw [if_neg h]
      refine ⟨by simp, by simp, ?_⟩
      rw [if_neg (by simp)]
def toksR (s : ByteArray) : Nat → Int → List TToken × Int
  | 0, _ => ([], -1)
  | n + 1, a => match s.data.toList.drop a.toNat with
    | [] => ([], -1)
    | b :: r => if (b.toNat : Int) = 32 ∨ (b.toNat : Int) = 10 then toksR s n (a + 1)
      else if (specOne s a b r).2.2 = true then ((specOne s a b r).1 :: (toksR s n (specOne s a b r).2.1).1, (toksR s n (specOne s a b r).2.1).2) else ([], a)
theorem spec_Tokens_l0 (s : ByteArray) (hs : s.size ≤ 6000) : ∀ (n : Nat) (a : Int) (A : List TToken), 0 ≤ a → a ≤ s.size → (s.size : Int) - a ≤ n → (A.length : Int) ≤ a →
    loopW tab [0, 4, 5] b_spec_Tokens_0 { env := upd (upd (upd emp 5 (some (I a))) 4 (some (.ref (0, 0) []))) 0 (some (Str s)), heap := upd emp (0, 0) (some (.s 4 (A.map TToken.o))), fr := 0, next := 1 } = 
    if (toksR s n a).2 = -1 then some (.ext 0, { env := upd (upd emp 4 (some (.ref (0, 0) []))) 0 (some (Str s)), heap := upd emp (0, 0) (some (.s 4 ((A ++ (toksR s n a).1).map TToken.o))), fr := 0, next := 1 })
    else some (.ret, { env := upd (upd emp 3 (some (I (toksR s n a).2))) 2 (some (.ref (0, 0) [])), heap := upd emp (0, 0) (some (.s 4 [])), fr := 0, next := 1 })
  | n, a, A, ha, hz, hn, hA => by
    unfold loopW
    conv => lhs; arg 1; unfold b_spec_Tokens_0
    cases hd : s.data.toList.drop a.toNat with
    | nil =>
      have h2 := strn hd ha
      have hq : toksR s n a = ([], -1) := by cases n <;> simp [toksR, hd]
      simp only [hq, if_true, List.append_nil]
      simp (maxSteps := 999999) (implicitDefEqProofs := false) (disch := (first | assumption | omega | (unfold appOk; (try simp only [List.length_map, List.length_append, List.length_cons, List.length_nil]); omega))) only [go_sem, simprocAttr]
    | cons b r =>
      obtain ⟨g1, g2, g3, g4⟩ := strc hd ha
      cases n with
      | zero => omega
      | succ n =>
        rw [toksR, hd]
        simp only
        by_cases c1 : (b.toNat : Int) = 32 ∨ (b.toNat : Int) = 10
        · simp only [if_pos c1]
          have ih := spec_Tokens_l0 s hs n (a + 1) A (by omega) (by omega) (by omega) (by omega)
          rw [← ih]
          rcases c1 with c1 | c1
          · simp (maxSteps := 999999) (implicitDefEqProofs := false) (disch := (first | assumption | omega | (unfold appOk; (try simp only [List.length_map, List.length_append, List.length_cons, List.length_nil]); omega))) only [go_sem, simprocAttr, g1]
          · have c2 : ¬ (b.toNat : Int) = 32 := by omega
            simp (maxSteps := 999999) (implicitDefEqProofs := false) (disch := (first | assumption | omega | (unfold appOk; (try simp only [List.length_map, List.length_append, List.length_cons, List.length_nil]); omega))) only [go_sem, simprocAttr, g1]
        · simp only [if_neg c1]
          have c2 : ¬ (b.toNat : Int) = 32 := fun h => c1 (.inl h)
          have c3 : ¬ (b.toNat : Int) = 10 := fun h => c1 (.inr h)
          have h5 := spec_l5One_ok s (by omega) a b r ha hd
          have h6 := specOne_to s (by omega) a b r ha hd
          generalize specOne s a b r = q at *
          obtain ⟨t, e, ok⟩ := q
          cases ok
          · simp only [Bool.false_eq_true, if_false] at h5 ⊢
            rw [if_neg (by omega)]
            simp (maxSteps := 999999) (implicitDefEqProofs := false) (disch := (first | assumption | omega | (unfold appOk; (try simp only [List.length_map, List.length_append, List.length_cons, List.length_nil]); omega))) only [go_sem, simprocAttr, g1, h5]
          · simp only [if_true] at h5 h6 ⊢
            have h7 := h6 trivial
            have ih := spec_Tokens_l0 s hs n e (A ++ [t]) (by omega) (by omega) (by omega) (by simp; omega)
            simp only [List.map_append, List.map_cons, List.map_nil, List.append_assoc, List.cons_append, List.nil_append, TToken.o] at ih ⊢
            rw [← ih]
            have hA2 : A.length ≤ 6000 := by omega
            simp (maxSteps := 999999) (implicitDefEqProofs := false) (disch := (first | assumption | omega | (unfold appOk; (try simp only [List.length_map, List.length_append, List.length_cons, List.length_nil]); omega))) only [go_sem, simprocAttr, g1, h5]
theorem impl_Tokens_l0 (s : ByteArray) (hs : s.size ≤ 6000) : ∀ (n : Nat) (a : Int) (A : List TToken), 0 ≤ a → a ≤ s.size → (s.size : Int) - a ≤ n → (A.length : Int) ≤ a →
    loopW tab [0, 4, 5] b_impl_Tokens_0 { env := upd (upd (upd emp 5 (some (I a))) 4 (some (.ref (0, 0) []))) 0 (some (Str s)), heap := upd emp (0, 0) (some (.s 4 (A.map TToken.o))), fr := 0, next := 1 } = 
    if (toksR s n a).2 = -1 then some (.ext 0, { env := upd (upd emp 4 (some (.ref (0, 0) []))) 0 (some (Str s)), heap := upd emp (0, 0) (some (.s 4 ((A ++ (toksR s n a).1).map TToken.o))), fr := 0, next := 1 })
    else some (.ret, { env := upd (upd emp 3 (some (I (toksR s n a).2))) 2 (some (.d (.s 4 []))), heap := emp, fr := 0, next := 0 })
  | n, a, A, ha, hz, hn, hA => by
    unfold loopW
    conv => lhs; arg 1; unfold b_impl_Tokens_0
    cases hd : s.data.toList.drop a.toNat with
    | nil =>
      have h2 := strn hd ha
      have hq : toksR s n a = ([], -1) := by cases n <;> simp [toksR, hd]
      simp only [hq, if_true, List.append_nil]
      simp (maxSteps := 999999) (implicitDefEqProofs := false) (disch := (first | assumption | omega | (unfold appOk; (try simp only [List.length_map, List.length_append, List.length_cons, List.length_nil]); omega))) only [go_sem, simprocAttr]
    | cons b r =>
      obtain ⟨g1, g2, g3, g4⟩ := strc hd ha
      cases n with
      | zero => omega
      | succ n =>
        rw [toksR, hd]
        simp only
        by_cases c1 : (b.toNat : Int) = 32 ∨ (b.toNat : Int) = 10
        · simp only [if_pos c1]
          have ih := impl_Tokens_l0 s hs n (a + 1) A (by omega) (by omega) (by omega) (by omega)
          rw [← ih]
          rcases c1 with c1 | c1
          · simp (maxSteps := 999999) (implicitDefEqProofs := false) (disch := (first | assumption | omega | (unfold appOk; (try simp only [List.length_map, List.length_append, List.length_cons, List.length_nil]); omega))) only [go_sem, simprocAttr, g1]
          · have c2 : ¬ (b.toNat : Int) = 32 := by omega
            simp (maxSteps := 999999) (implicitDefEqProofs := false) (disch := (first | assumption | omega | (unfold appOk; (try simp only [List.length_map, List.length_append, List.length_cons, List.length_nil]); omega))) only [go_sem, simprocAttr, g1]
        · simp only [if_neg c1]
          have c2 : ¬ (b.toNat : Int) = 32 := fun h => c1 (.inl h)
          have c3 : ¬ (b.toNat : Int) = 10 := fun h => c1 (.inr h)
          have h5 := impl_token_ok s (by omega) a b r ha hd
          have h6 := specOne_to s (by omega) a b r ha hd
          have h7 := implTok_no s a b r
          have h8 := implTok_yes s (by omega) a b r ha hd
          obtain ⟨q, hq⟩ : ∃ q, specOne s a b r = q := ⟨_, rfl⟩
          obtain ⟨u, hu⟩ : ∃ u, implTok s a b r = u := ⟨_, rfl⟩
          rw [hq] at h6 h7 h8
          rw [hu] at h5 h7 h8
          simp only [hq]
          obtain ⟨t, e, ok⟩ := q
          cases ok
          · have h9 := h7 rfl
            subst h9
            simp only [Bool.false_eq_true, if_false, tZ] at h5 ⊢
            rw [if_neg (by omega)]
            simp (maxSteps := 999999) (implicitDefEqProofs := false) (disch := (first | assumption | omega | (unfold appOk; (try simp only [List.length_map, List.length_append, List.length_cons, List.length_nil]); omega))) only [go_sem, simprocAttr, g1, h5]
          · simp only [if_true] at h6 h8 ⊢
            have h9 := h6 trivial
            obtain ⟨m1, m2, m3⟩ := h8 trivial
            simp only [Prod.mk.injEq, and_true] at m3
            have ih := impl_Tokens_l0 s hs n e (A ++ [t]) (by omega) (by omega) (by omega) (by simp; omega)
            obtain ⟨uk, ut, un, ua⟩ := u
            simp only at m1 m2 m3
            by_cases m4 : uk = 2
            · rw [if_pos m4] at m3
              subst m3
              simp only [List.map_append, List.map_cons, List.map_nil, List.append_assoc, List.cons_append, List.nil_append, TToken.o] at ih ⊢
              rw [← ih, ← m2]
              have hA2 : A.length ≤ 6000 := by omega
              simp (maxSteps := 999999) (implicitDefEqProofs := false) (disch := (first | assumption | omega | (unfold appOk; (try simp only [List.length_map, List.length_append, List.length_cons, List.length_nil]); omega))) only [go_sem, simprocAttr, g1, h5]
            · rw [if_neg m4] at m3
              subst m3
              simp only [List.map_append, List.map_cons, List.map_nil, List.append_assoc, List.cons_append, List.nil_append, TToken.o] at ih ⊢
              rw [← ih, ← m2]
              have hA2 : A.length ≤ 6000 := by omega
              simp (maxSteps := 999999) (implicitDefEqProofs := false) (disch := (first | assumption | omega | (unfold appOk; (try simp only [List.length_map, List.length_append, List.length_cons, List.length_nil]); omega))) only [go_sem, simprocAttr, g1, h5]
theorem toksR_len (s : ByteArray) (hs : s.size ≤ 6000) : ∀ (n : Nat) (a : Int), 0 ≤ a → a ≤ s.size → ((toksR s n a).1.length : Int) ≤ s.size - a ∧ -1 ≤ (toksR s n a).2 ∧ (toksR s n a).2 ≤ s.size
  | 0, a, ha, hz => by simp [toksR]; omega
  | n + 1, a, ha, hz => by
    rw [toksR]
    cases hd : s.data.toList.drop a.toNat with
    | nil => simp; omega
    | cons b r =>
      obtain ⟨g1, g2, g3, g4⟩ := strc hd ha
      simp only
      split
      · have := toksR_len s hs n (a + 1) (by omega) (by omega)
        exact ⟨by omega, this.2.1, this.2.2⟩
      · split
        · rename_i h
          have h6 := specOne_to s (by omega) a b r ha hd h
          have := toksR_len s hs n (specOne s a b r).2.1 (by omega) (by omega)
          simp only [List.length_cons]
          exact ⟨by omega, this.2.1, this.2.2⟩
        · simp; omega
def toksT (s : ByteArray) : List TToken × Int := if (s.size : Int) ≤ 6000 then (if (toksR s s.size 0).2 = -1 then ((toksR s s.size 0).1 ++ [⟨0, noS, 0, s.size⟩], -1) else ([], (toksR s s.size 0).2)) else ([], 0)
theorem spec_Tokens_ok (s : ByteArray) (hs : s.size ≤ 140737488351232) : call tab spec_Tokens [Str s] = some (.tup [.d (.s 4 ((toksT s).1.map TToken.o)), I (toksT s).2]) := by
  rw [call_of t_spec_Tokens _ rfl, c_spec_Tokens, toksT]
  by_cases c1 : (s.size : Int) ≤ 6000
  · have h0 := spec_Tokens_l0 s (by omega) s.size 0 [] (by omega) (by omega) (by omega) (by simp)
    have h1 := toksR_len s (by omega) s.size 0 (by omega) (by omega)
    simp only [if_pos c1]
    generalize toksR s s.size 0 = q at *
    obtain ⟨l1, p⟩ := q
    simp only [List.map_nil, List.nil_append] at h0 h1 ⊢
    by_cases c2 : p = -1
    · simp only [c2, if_true, List.map_append, List.map_cons, List.map_nil, TToken.o] at h0 ⊢
      have hA2 : l1.length ≤ 6000 := by omega
      simp (maxSteps := 999999) (implicitDefEqProofs := false) (disch := (first | assumption | omega | (unfold appOk; (try simp only [List.length_map, List.length_append, List.length_cons, List.length_nil]); omega))) only [go_sem, simprocAttr, h0]
    · simp only [c2, if_false, List.map_nil] at h0 ⊢
      simp (maxSteps := 999999) (implicitDefEqProofs := false) (disch := (first | assumption | omega | (unfold appOk; (try simp only [List.length_map, List.length_append, List.length_cons, List.length_nil]); omega))) only [go_sem, simprocAttr, h0]
  · simp only [if_neg c1]
    simp (maxSteps := 999999) (implicitDefEqProofs := false) (disch := (first | assumption | omega | (unfold appOk; (try simp only [List.length_map, List.length_append, List.length_cons, List.length_nil]); omega))) only [go_sem, simprocAttr, List.map_nil]
theorem impl_Tokens_ok (s : ByteArray) (hs : s.size ≤ 140737488351232) : call tab impl_Tokens [Str s] = some (.tup [.d (.s 4 ((toksT s).1.map TToken.o)), I (toksT s).2]) := by
  rw [call_of t_impl_Tokens _ rfl, c_impl_Tokens, toksT]
  by_cases c1 : (s.size : Int) ≤ 6000
  · have h0 := impl_Tokens_l0 s (by omega) s.size 0 [] (by omega) (by omega) (by omega) (by simp)
    have h1 := toksR_len s (by omega) s.size 0 (by omega) (by omega)
    simp only [if_pos c1]
    generalize toksR s s.size 0 = q at *
    obtain ⟨l1, p⟩ := q
    simp only [List.map_nil, List.nil_append] at h0 h1 ⊢
    by_cases c2 : p = -1
    · simp only [c2, if_true, List.map_append, List.map_cons, List.map_nil, TToken.o] at h0 ⊢
      have hA2 : l1.length ≤ 6000 := by omega
      simp (maxSteps := 999999) (implicitDefEqProofs := false) (disch := (first | assumption | omega | (unfold appOk; (try simp only [List.length_map, List.length_append, List.length_cons, List.length_nil]); omega))) only [go_sem, simprocAttr, h0]
    · simp only [c2, if_false, List.map_nil] at h0 ⊢
      simp (maxSteps := 999999) (implicitDefEqProofs := false) (disch := (first | assumption | omega | (unfold appOk; (try simp only [List.length_map, List.length_append, List.length_cons, List.length_nil]); omega))) only [go_sem, simprocAttr, h0]
  · simp only [if_neg c1]
    simp (maxSteps := 999999) (implicitDefEqProofs := false) (disch := (first | assumption | omega | (unfold appOk; (try simp only [List.length_map, List.length_append, List.length_cons, List.length_nil]); omega))) only [go_sem, simprocAttr, List.map_nil]
end Go.Ev.G
