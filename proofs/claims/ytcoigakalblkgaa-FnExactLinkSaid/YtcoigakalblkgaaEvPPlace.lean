/- The places of names. -/
import Derived.Test.YtcoigakalblkgaaEvQLine
set_option linter.all false
namespace Go.Ev.G
set_option maxRecDepth 8000
set_option maxHeartbeats 4000000
abbrev noS : ByteArray := ⟨#[]⟩
/-- The number of the place that follows a name. -/
def placeL (name : ByteArray) : Int → List TLine → Int
  | _, [] => -1
  | n, x :: xs => if x.fName = noS then placeL name (n + 1) xs else if x.fName = name then n else placeL name n xs
/-- How often a name stands. -/
def nameCt (name : ByteArray) : List TLine → Int
  | [] => 0
  | x :: xs => if x.fName = noS then nameCt name xs else if x.fName = name then nameCt name xs + 1 else nameCt name xs
theorem nameCt_nn (name : ByteArray) : ∀ xs : List TLine, 0 ≤ nameCt name xs ∧ nameCt name xs ≤ xs.length
  | [] => by simp [nameCt]
  | x :: xs => by
    have := nameCt_nn name xs
    simp only [nameCt, List.length_cons]
    split
    · omega
    · split <;> omega
theorem spec_PlaceOf_l0 (lines : List TLine) (name : ByteArray) (hl : lines.length ≤ 1048576) : ∀ (B A : List TLine) (n : Int), lines = A ++ B → 0 ≤ n ∧ n ≤ A.length →
    loopW tab [0, 1, 5, 6] b_spec_PlaceOf_0 { env := upd (upd (upd (upd emp 6 (some (I (A.length : Int)))) 5 (some (I n))) 1 (some (Str name))) 0 (some (.d (.r (lines.map TLine.r)))), heap := emp, fr := 0, next := 0 } = (if placeL name n B = -1 then some (.ext 0, { env := emp, heap := emp, fr := 0, next := 0 }) else some (.ret, { env := upd emp 4 (some (I (placeL name n B))), heap := emp, fr := 0, next := 0 }))
  | [], A, n, h, hn => by
    rw [List.append_nil] at h
    subst h
    unfold loopW
    conv => lhs; arg 1; unfold b_spec_PlaceOf_0
    rw [if_pos (show placeL name n [] = -1 from rfl)]
    simp (maxSteps := 2000000) (implicitDefEqProofs := false) (disch := (first | omega | assumption | (refine ⟨?_, ?_⟩ <;> omega) | (unfold catOk; (try simp only [ByteArray.size_append, size_lit, List.length_cons, List.length_nil]); omega) | (unfold mkOk; omega) | (unfold appOk; (try simp only [List.length_map, List.length_append, List.length_cons, List.length_nil]); omega))) only [go_sem, Nat.reduceEqDiff, Nat.reduceBEq, Nat.reduceAdd, Nat.reduceSub, Nat.reduceMul, Nat.reduceLeDiff, Nat.reduceLT, ↓reduceIte, reduceCtorEq, Int.reduceEq, Int.reduceLE, Int.reduceLT, Int.reduceToNat, Int.reduceNeg, Int.reduceSub, Int.reduceAdd, Int.reduceMul, ltT, ltF, leT, leF, neF, catT, mkT, appT, wrap_id, List.length_map, Int.toNat_natCast]
  | x :: B, A, n, h, hn => by
    unfold loopW
    conv => lhs; arg 1; unfold b_spec_PlaceOf_0
    have hlen : lines.length = A.length + (B.length + 1) := by rw [h]; simp
    have h2 : (lines.map TLine.r)[A.length]? = some x.r := by rw [h]; simp
    simp only [TLine.r] at h2
    by_cases h3 : x.fName = noS
    · have ih := spec_PlaceOf_l0 lines name hl B (A ++ [x]) (n + 1) (by simp [h]) (by simp; omega)
      rw [show (((A ++ [x]).length : Nat) : Int) = (A.length : Int) + 1 by simp] at ih
      have h4 : placeL name n (x :: B) = placeL name (n + 1) B := by rw [placeL, if_pos h3]
      rw [h4]
      simp (maxSteps := 2000000) (implicitDefEqProofs := false) (disch := (first | omega | assumption | (refine ⟨?_, ?_⟩ <;> omega) | (unfold catOk; (try simp only [ByteArray.size_append, size_lit, List.length_cons, List.length_nil]); omega) | (unfold mkOk; omega) | (unfold appOk; (try simp only [List.length_map, List.length_append, List.length_cons, List.length_nil]); omega))) only [go_sem, Nat.reduceEqDiff, Nat.reduceBEq, Nat.reduceAdd, Nat.reduceSub, Nat.reduceMul, Nat.reduceLeDiff, Nat.reduceLT, ↓reduceIte, reduceCtorEq, Int.reduceEq, Int.reduceLE, Int.reduceLT, Int.reduceToNat, Int.reduceNeg, Int.reduceSub, Int.reduceAdd, Int.reduceMul, ltT, ltF, leT, leF, neF, catT, mkT, appT, wrap_id, List.length_map, Int.toNat_natCast, h2, h3, ih]
    · by_cases h5 : x.fName = name
      · have h4 : placeL name n (x :: B) = n := by rw [placeL, if_neg h3, if_pos h5]
        rw [h4, if_neg (show ¬ n = -1 by omega)]
        have h6 : ¬ name = noS := by rw [← h5]; exact h3
        simp (maxSteps := 2000000) (implicitDefEqProofs := false) (disch := (first | omega | assumption | (refine ⟨?_, ?_⟩ <;> omega) | (unfold catOk; (try simp only [ByteArray.size_append, size_lit, List.length_cons, List.length_nil]); omega) | (unfold mkOk; omega) | (unfold appOk; (try simp only [List.length_map, List.length_append, List.length_cons, List.length_nil]); omega))) only [go_sem, Nat.reduceEqDiff, Nat.reduceBEq, Nat.reduceAdd, Nat.reduceSub, Nat.reduceMul, Nat.reduceLeDiff, Nat.reduceLT, ↓reduceIte, reduceCtorEq, Int.reduceEq, Int.reduceLE, Int.reduceLT, Int.reduceToNat, Int.reduceNeg, Int.reduceSub, Int.reduceAdd, Int.reduceMul, ltT, ltF, leT, leF, neF, catT, mkT, appT, wrap_id, List.length_map, Int.toNat_natCast, h2, h6, h5]
      · have ih := spec_PlaceOf_l0 lines name hl B (A ++ [x]) n (by simp [h]) (by simp; omega)
        rw [show (((A ++ [x]).length : Nat) : Int) = (A.length : Int) + 1 by simp] at ih
        have h4 : placeL name n (x :: B) = placeL name n B := by rw [placeL, if_neg h3, if_neg h5]
        rw [h4]
        simp (maxSteps := 2000000) (implicitDefEqProofs := false) (disch := (first | omega | assumption | (refine ⟨?_, ?_⟩ <;> omega) | (unfold catOk; (try simp only [ByteArray.size_append, size_lit, List.length_cons, List.length_nil]); omega) | (unfold mkOk; omega) | (unfold appOk; (try simp only [List.length_map, List.length_append, List.length_cons, List.length_nil]); omega))) only [go_sem, Nat.reduceEqDiff, Nat.reduceBEq, Nat.reduceAdd, Nat.reduceSub, Nat.reduceMul, Nat.reduceLeDiff, Nat.reduceLT, ↓reduceIte, reduceCtorEq, Int.reduceEq, Int.reduceLE, Int.reduceLT, Int.reduceToNat, Int.reduceNeg, Int.reduceSub, Int.reduceAdd, Int.reduceMul, ltT, ltF, leT, leF, neF, catT, mkT, appT, wrap_id, List.length_map, Int.toNat_natCast, h2, h3, h5, ih]
theorem spec_PlaceOf_ok (lines : List TLine) (name : ByteArray) (hl : lines.length ≤ 1048576) : call tab spec_PlaceOf [.d (.r (lines.map TLine.r)), Str name] = some (I (placeL name 0 lines)) := by
  rw [call_of t_spec_PlaceOf _ rfl, c_spec_PlaceOf]
  have h0 := spec_PlaceOf_l0 lines name hl lines [] 0 rfl (by simp)
  simp only [List.length_nil, Int.cast_ofNat_Int] at h0
  by_cases h : placeL name 0 lines = -1
  · rw [if_pos h] at h0
    simp (maxSteps := 2000000) (implicitDefEqProofs := false) (disch := (first | omega | assumption | (refine ⟨?_, ?_⟩ <;> omega) | (unfold catOk; (try simp only [ByteArray.size_append, size_lit, List.length_cons, List.length_nil]); omega) | (unfold mkOk; omega) | (unfold appOk; (try simp only [List.length_map, List.length_append, List.length_cons, List.length_nil]); omega))) only [go_sem, Nat.reduceEqDiff, Nat.reduceBEq, Nat.reduceAdd, Nat.reduceSub, Nat.reduceMul, Nat.reduceLeDiff, Nat.reduceLT, ↓reduceIte, reduceCtorEq, Int.reduceEq, Int.reduceLE, Int.reduceLT, Int.reduceToNat, Int.reduceNeg, Int.reduceSub, Int.reduceAdd, Int.reduceMul, ltT, ltF, leT, leF, neF, catT, mkT, appT, wrap_id, List.length_map, Int.toNat_natCast, h0, h]
  · rw [if_neg h] at h0
    simp (maxSteps := 2000000) (implicitDefEqProofs := false) (disch := (first | omega | assumption | (refine ⟨?_, ?_⟩ <;> omega) | (unfold catOk; (try simp only [ByteArray.size_append, size_lit, List.length_cons, List.length_nil]); omega) | (unfold mkOk; omega) | (unfold appOk; (try simp only [List.length_map, List.length_append, List.length_cons, List.length_nil]); omega))) only [go_sem, Nat.reduceEqDiff, Nat.reduceBEq, Nat.reduceAdd, Nat.reduceSub, Nat.reduceMul, Nat.reduceLeDiff, Nat.reduceLT, ↓reduceIte, reduceCtorEq, Int.reduceEq, Int.reduceLE, Int.reduceLT, Int.reduceToNat, Int.reduceNeg, Int.reduceSub, Int.reduceAdd, Int.reduceMul, ltT, ltF, leT, leF, neF, catT, mkT, appT, wrap_id, List.length_map, Int.toNat_natCast, h0]
theorem impl_lineAt_l0 (lines : List TLine) (name : ByteArray) (hl : lines.length ≤ 1048576) : ∀ (B A : List TLine) (at_ found n : Int), lines = A ++ B → (0 ≤ n ∧ n ≤ A.length) → (0 ≤ found ∧ found ≤ A.length) → (found = 0 → at_ = -1) →
    loopW tab [1, 6, 7, 8, 11, 12, 13] b_impl_lineAt_0 { env := upd (upd (upd (upd (upd (upd (upd emp 13 (some (I (A.length : Int)))) 12 (some (I (lines.length : Int)))) 11 (some (.d (.r (lines.map TLine.r))))) 8 (some (I n))) 7 (some (I found))) 6 (some (I at_))) 1 (some (Str name)), heap := emp, fr := 0, next := 0 } = some (.ext 0, { env := upd (upd emp 7 (some (I (found + nameCt name B)))) 6 (some (I (if found = 0 then placeL name n B else at_))), heap := emp, fr := 0, next := 0 })
  | [], A, at_, found, n, h, hn, hf, ha => by
    rw [List.append_nil] at h
    subst h
    unfold loopW
    conv => lhs; arg 1; unfold b_impl_lineAt_0
    have h1 : (if found = 0 then placeL name n [] else at_) = at_ := by
      split
      · rename_i e; rw [ha e]; rfl
      · rfl
    rw [h1]
    simp (maxSteps := 2000000) (implicitDefEqProofs := false) (disch := (first | omega | assumption | (refine ⟨?_, ?_⟩ <;> omega) | (unfold catOk; (try simp only [ByteArray.size_append, size_lit, List.length_cons, List.length_nil]); omega) | (unfold mkOk; omega) | (unfold appOk; (try simp only [List.length_map, List.length_append, List.length_cons, List.length_nil]); omega))) only [go_sem, Nat.reduceEqDiff, Nat.reduceBEq, Nat.reduceAdd, Nat.reduceSub, Nat.reduceMul, Nat.reduceLeDiff, Nat.reduceLT, ↓reduceIte, reduceCtorEq, Int.reduceEq, Int.reduceLE, Int.reduceLT, Int.reduceToNat, Int.reduceNeg, Int.reduceSub, Int.reduceAdd, Int.reduceMul, ltT, ltF, leT, leF, neF, catT, mkT, appT, wrap_id, List.length_map, Int.toNat_natCast, nameCt, Int.add_zero]
  | x :: B, A, at_, found, n, h, hn, hf, ha => by
    unfold loopW
    conv => lhs; arg 1; unfold b_impl_lineAt_0
    have hlen : lines.length = A.length + (B.length + 1) := by rw [h]; simp
    have h2 : (lines.map TLine.r)[A.length]? = some x.r := by rw [h]; simp
    simp only [TLine.r] at h2
    by_cases h3 : x.fName = noS
    · have ih := impl_lineAt_l0 lines name hl B (A ++ [x]) at_ found (n + 1) (by simp [h]) (by simp; omega) (by simp; omega) ha
      rw [show (((A ++ [x]).length : Nat) : Int) = (A.length : Int) + 1 by simp] at ih
      have h4 : placeL name n (x :: B) = placeL name (n + 1) B := by rw [placeL, if_pos h3]
      have h5 : nameCt name (x :: B) = nameCt name B := by rw [nameCt, if_pos h3]
      rw [h4, h5]
      simp (maxSteps := 2000000) (implicitDefEqProofs := false) (disch := (first | omega | assumption | (refine ⟨?_, ?_⟩ <;> omega) | (unfold catOk; (try simp only [ByteArray.size_append, size_lit, List.length_cons, List.length_nil]); omega) | (unfold mkOk; omega) | (unfold appOk; (try simp only [List.length_map, List.length_append, List.length_cons, List.length_nil]); omega))) only [go_sem, Nat.reduceEqDiff, Nat.reduceBEq, Nat.reduceAdd, Nat.reduceSub, Nat.reduceMul, Nat.reduceLeDiff, Nat.reduceLT, ↓reduceIte, reduceCtorEq, Int.reduceEq, Int.reduceLE, Int.reduceLT, Int.reduceToNat, Int.reduceNeg, Int.reduceSub, Int.reduceAdd, Int.reduceMul, ltT, ltF, leT, leF, neF, catT, mkT, appT, wrap_id, List.length_map, Int.toNat_natCast, h2, h3, ih]
    · by_cases h5 : x.fName = name
      · have h6 : nameCt name (x :: B) = nameCt name B + 1 := by rw [nameCt, if_neg h3, if_pos h5]
        have h7 : placeL name n (x :: B) = n := by rw [placeL, if_neg h3, if_pos h5]
        rw [h6, h7]
        have h9 : ¬ name = noS := by rw [← h5]; exact h3
        by_cases h8 : found = 0
        · subst h8
          have ih := impl_lineAt_l0 lines name hl B (A ++ [x]) n 1 n (by simp [h]) (by simp; omega) (by simp; omega) (by omega)
          rw [show (((A ++ [x]).length : Nat) : Int) = (A.length : Int) + 1 by simp, if_neg (show ¬ (1 : Int) = 0 by omega), Int.add_comm 1] at ih
          simp (maxSteps := 2000000) (implicitDefEqProofs := false) (disch := (first | omega | assumption | (refine ⟨?_, ?_⟩ <;> omega) | (unfold catOk; (try simp only [ByteArray.size_append, size_lit, List.length_cons, List.length_nil]); omega) | (unfold mkOk; omega) | (unfold appOk; (try simp only [List.length_map, List.length_append, List.length_cons, List.length_nil]); omega))) only [go_sem, Nat.reduceEqDiff, Nat.reduceBEq, Nat.reduceAdd, Nat.reduceSub, Nat.reduceMul, Nat.reduceLeDiff, Nat.reduceLT, ↓reduceIte, reduceCtorEq, Int.reduceEq, Int.reduceLE, Int.reduceLT, Int.reduceToNat, Int.reduceNeg, Int.reduceSub, Int.reduceAdd, Int.reduceMul, ltT, ltF, leT, leF, neF, catT, mkT, appT, wrap_id, List.length_map, Int.toNat_natCast, h2, h9, h5, ih, Int.zero_add]
        · have ih := impl_lineAt_l0 lines name hl B (A ++ [x]) at_ (found + 1) n (by simp [h]) (by simp; omega) (by simp; omega) (by omega)
          rw [show (((A ++ [x]).length : Nat) : Int) = (A.length : Int) + 1 by simp, if_neg (show ¬ found + 1 = 0 by omega), Int.add_assoc, Int.add_comm 1] at ih
          simp (maxSteps := 2000000) (implicitDefEqProofs := false) (disch := (first | omega | assumption | (refine ⟨?_, ?_⟩ <;> omega) | (unfold catOk; (try simp only [ByteArray.size_append, size_lit, List.length_cons, List.length_nil]); omega) | (unfold mkOk; omega) | (unfold appOk; (try simp only [List.length_map, List.length_append, List.length_cons, List.length_nil]); omega))) only [go_sem, Nat.reduceEqDiff, Nat.reduceBEq, Nat.reduceAdd, Nat.reduceSub, Nat.reduceMul, Nat.reduceLeDiff, Nat.reduceLT, ↓reduceIte, reduceCtorEq, Int.reduceEq, Int.reduceLE, Int.reduceLT, Int.reduceToNat, Int.reduceNeg, Int.reduceSub, Int.reduceAdd, Int.reduceMul, ltT, ltF, leT, leF, neF, catT, mkT, appT, wrap_id, List.length_map, Int.toNat_natCast, h2, h9, h5, h8, ih]
      · have ih := impl_lineAt_l0 lines name hl B (A ++ [x]) at_ found n (by simp [h]) (by simp; omega) (by simp; omega) ha
        rw [show (((A ++ [x]).length : Nat) : Int) = (A.length : Int) + 1 by simp] at ih
        have h6 : nameCt name (x :: B) = nameCt name B := by rw [nameCt, if_neg h3, if_neg h5]
        have h7 : placeL name n (x :: B) = placeL name n B := by rw [placeL, if_neg h3, if_neg h5]
        rw [h6, h7]
        simp (maxSteps := 2000000) (implicitDefEqProofs := false) (disch := (first | omega | assumption | (refine ⟨?_, ?_⟩ <;> omega) | (unfold catOk; (try simp only [ByteArray.size_append, size_lit, List.length_cons, List.length_nil]); omega) | (unfold mkOk; omega) | (unfold appOk; (try simp only [List.length_map, List.length_append, List.length_cons, List.length_nil]); omega))) only [go_sem, Nat.reduceEqDiff, Nat.reduceBEq, Nat.reduceAdd, Nat.reduceSub, Nat.reduceMul, Nat.reduceLeDiff, Nat.reduceLT, ↓reduceIte, reduceCtorEq, Int.reduceEq, Int.reduceLE, Int.reduceLT, Int.reduceToNat, Int.reduceNeg, Int.reduceSub, Int.reduceAdd, Int.reduceMul, ltT, ltF, leT, leF, neF, catT, mkT, appT, wrap_id, List.length_map, Int.toNat_natCast, h2, h3, h5, ih]
theorem impl_lineAt_ok (lines : List TLine) (name : ByteArray) (hl : lines.length ≤ 1048576) : call tab impl_lineAt [.d (.r (lines.map TLine.r)), Str name] = some (.tup [I (placeL name 0 lines), B (decide (nameCt name lines = 1))]) := by
  rw [call_of t_impl_lineAt _ rfl, c_impl_lineAt]
  have h0 := impl_lineAt_l0 lines name hl lines [] (-1) 0 0 rfl (by simp) (by simp) (by simp)
  simp only [List.length_nil, Int.cast_ofNat_Int, if_true, Int.zero_add] at h0
  simp (maxSteps := 2000000) (implicitDefEqProofs := false) (disch := (first | omega | assumption | (refine ⟨?_, ?_⟩ <;> omega) | (unfold catOk; (try simp only [ByteArray.size_append, size_lit, List.length_cons, List.length_nil]); omega) | (unfold mkOk; omega) | (unfold appOk; (try simp only [List.length_map, List.length_append, List.length_cons, List.length_nil]); omega))) only [go_sem, Nat.reduceEqDiff, Nat.reduceBEq, Nat.reduceAdd, Nat.reduceSub, Nat.reduceMul, Nat.reduceLeDiff, Nat.reduceLT, ↓reduceIte, reduceCtorEq, Int.reduceEq, Int.reduceLE, Int.reduceLT, Int.reduceToNat, Int.reduceNeg, Int.reduceSub, Int.reduceAdd, Int.reduceMul, ltT, ltF, leT, leF, neF, catT, mkT, appT, wrap_id, List.length_map, Int.toNat_natCast, h0]
theorem placeL_no : ∀ (n : Int) (xs : List TLine), placeL noS n xs = -1
  | _, [] => rfl
  | n, x :: xs => by
    rw [placeL]
    split
    · exact placeL_no _ xs
    · exact placeL_no _ xs
end Go.Ev.G
