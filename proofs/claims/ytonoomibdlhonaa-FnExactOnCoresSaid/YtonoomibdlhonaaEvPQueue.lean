/- What a machine's memory tells of its bodies: the lock, who is on which core, the queue. -/
import Derived.Test.YtonoomibdlhonaaEvQMachine
set_option linter.all false
namespace Go.Ev.G
set_option maxRecDepth 8000
set_option maxHeartbeats 4000000
def lockedL : List Int → Bool
  | [] => false
  | a :: _ => decide (a = 1)
theorem spec_Locked_ok (x : TMachine) (hs : x.sm) : call tab spec_Locked [x.x] = some (B (lockedL x.fMem)) := by
  rw [call_of t_spec_Locked _ rfl, c_spec_Locked]
  have h1 := hs.2.1
  cases h : x.fMem with
  | nil => simp (maxSteps := 2000000) (implicitDefEqProofs := false) (disch := (first | omega | assumption | (refine ⟨?_, ?_⟩ <;> omega) | (unfold catOk; (try simp only [ByteArray.size_append, size_lit, List.length_cons, List.length_nil]); omega) | (unfold mkOk; omega) | (unfold appOk; (try simp only [List.length_map, List.length_append, List.length_cons, List.length_nil]); omega))) only [go_sem, Nat.reduceEqDiff, Nat.reduceBEq, Nat.reduceAdd, Nat.reduceSub, Nat.reduceMul, Nat.reduceLeDiff, Nat.reduceLT, ↓reduceIte, reduceCtorEq, Int.reduceEq, Int.reduceLE, Int.reduceLT, Int.reduceToNat, Int.reduceNeg, Int.reduceSub, Int.reduceAdd, Int.reduceMul, ltT, ltF, leT, leF, neF, catT, mkT, appT, wrap_id, List.length_map, Int.toNat_natCast, TMachine.x, h, lockedL, List.map_nil]
  | cons a l =>
    have h2 : (0 : Int) < ((l.length + 1 : Nat) : Int) := by omega
    by_cases h3 : a = 1
    · simp (maxSteps := 2000000) (implicitDefEqProofs := false) (disch := (first | omega | assumption | (refine ⟨?_, ?_⟩ <;> omega) | (unfold catOk; (try simp only [ByteArray.size_append, size_lit, List.length_cons, List.length_nil]); omega) | (unfold mkOk; omega) | (unfold appOk; (try simp only [List.length_map, List.length_append, List.length_cons, List.length_nil]); omega))) only [go_sem, Nat.reduceEqDiff, Nat.reduceBEq, Nat.reduceAdd, Nat.reduceSub, Nat.reduceMul, Nat.reduceLeDiff, Nat.reduceLT, ↓reduceIte, reduceCtorEq, Int.reduceEq, Int.reduceLE, Int.reduceLT, Int.reduceToNat, Int.reduceNeg, Int.reduceSub, Int.reduceAdd, Int.reduceMul, ltT, ltF, leT, leF, neF, catT, mkT, appT, wrap_id, List.length_map, Int.toNat_natCast, TMachine.x, h, h2, h3, lockedL, List.map_cons]
    · simp (maxSteps := 2000000) (implicitDefEqProofs := false) (disch := (first | omega | assumption | (refine ⟨?_, ?_⟩ <;> omega) | (unfold catOk; (try simp only [ByteArray.size_append, size_lit, List.length_cons, List.length_nil]); omega) | (unfold mkOk; omega) | (unfold appOk; (try simp only [List.length_map, List.length_append, List.length_cons, List.length_nil]); omega))) only [go_sem, Nat.reduceEqDiff, Nat.reduceBEq, Nat.reduceAdd, Nat.reduceSub, Nat.reduceMul, Nat.reduceLeDiff, Nat.reduceLT, ↓reduceIte, reduceCtorEq, Int.reduceEq, Int.reduceLE, Int.reduceLT, Int.reduceToNat, Int.reduceNeg, Int.reduceSub, Int.reduceAdd, Int.reduceMul, ltT, ltF, leT, leF, neF, catT, mkT, appT, wrap_id, List.length_map, Int.toNat_natCast, TMachine.x, h, h2, h3, lockedL, List.map_cons]
theorem impl_Locked_ok (x : TMachine) (hs : x.sm) : call tab impl_Locked [x.x] = some (B (lockedL x.fMem)) := by
  rw [call_of t_impl_Locked _ rfl, c_impl_Locked]
  have h1 := hs.2.1
  cases h : x.fMem with
  | nil => simp (maxSteps := 2000000) (implicitDefEqProofs := false) (disch := (first | omega | assumption | (refine ⟨?_, ?_⟩ <;> omega) | (unfold catOk; (try simp only [ByteArray.size_append, size_lit, List.length_cons, List.length_nil]); omega) | (unfold mkOk; omega) | (unfold appOk; (try simp only [List.length_map, List.length_append, List.length_cons, List.length_nil]); omega))) only [go_sem, Nat.reduceEqDiff, Nat.reduceBEq, Nat.reduceAdd, Nat.reduceSub, Nat.reduceMul, Nat.reduceLeDiff, Nat.reduceLT, ↓reduceIte, reduceCtorEq, Int.reduceEq, Int.reduceLE, Int.reduceLT, Int.reduceToNat, Int.reduceNeg, Int.reduceSub, Int.reduceAdd, Int.reduceMul, ltT, ltF, leT, leF, neF, catT, mkT, appT, wrap_id, List.length_map, Int.toNat_natCast, TMachine.x, h, lockedL, List.map_nil]
  | cons a l =>
    have h2 : (0 : Int) < ((l.length + 1 : Nat) : Int) := by omega
    by_cases h3 : a = 1
    · simp (maxSteps := 2000000) (implicitDefEqProofs := false) (disch := (first | omega | assumption | (refine ⟨?_, ?_⟩ <;> omega) | (unfold catOk; (try simp only [ByteArray.size_append, size_lit, List.length_cons, List.length_nil]); omega) | (unfold mkOk; omega) | (unfold appOk; (try simp only [List.length_map, List.length_append, List.length_cons, List.length_nil]); omega))) only [go_sem, Nat.reduceEqDiff, Nat.reduceBEq, Nat.reduceAdd, Nat.reduceSub, Nat.reduceMul, Nat.reduceLeDiff, Nat.reduceLT, ↓reduceIte, reduceCtorEq, Int.reduceEq, Int.reduceLE, Int.reduceLT, Int.reduceToNat, Int.reduceNeg, Int.reduceSub, Int.reduceAdd, Int.reduceMul, ltT, ltF, leT, leF, neF, catT, mkT, appT, wrap_id, List.length_map, Int.toNat_natCast, TMachine.x, h, h2, h3, lockedL, List.map_cons]
    · simp (maxSteps := 2000000) (implicitDefEqProofs := false) (disch := (first | omega | assumption | (refine ⟨?_, ?_⟩ <;> omega) | (unfold catOk; (try simp only [ByteArray.size_append, size_lit, List.length_cons, List.length_nil]); omega) | (unfold mkOk; omega) | (unfold appOk; (try simp only [List.length_map, List.length_append, List.length_cons, List.length_nil]); omega))) only [go_sem, Nat.reduceEqDiff, Nat.reduceBEq, Nat.reduceAdd, Nat.reduceSub, Nat.reduceMul, Nat.reduceLeDiff, Nat.reduceLT, ↓reduceIte, reduceCtorEq, Int.reduceEq, Int.reduceLE, Int.reduceLT, Int.reduceToNat, Int.reduceNeg, Int.reduceSub, Int.reduceAdd, Int.reduceMul, ltT, ltF, leT, leF, neF, catT, mkT, appT, wrap_id, List.length_map, Int.toNat_natCast, TMachine.x, h, h2, h3, lockedL, List.map_cons]
theorem law_FnExactLocked (x : TMachine) (hx : x.ok) : call tab laws_FnExactLocked [x.x] = some (B true) := by
  rw [call_of t_laws_FnExactLocked _ rfl, c_laws_FnExactLocked]
  have hs := laws_szMachine_ok x 1048576 (by omega) hx
  by_cases h0 : (1048576 : Int) < x.sz
  · rw [if_pos h0] at hs
    simp (maxSteps := 2000000) (implicitDefEqProofs := false) (disch := (first | omega | assumption | (refine ⟨?_, ?_⟩ <;> omega) | (unfold catOk; (try simp only [ByteArray.size_append, size_lit, List.length_cons, List.length_nil]); omega) | (unfold mkOk; omega) | (unfold appOk; (try simp only [List.length_map, List.length_append, List.length_cons, List.length_nil]); omega))) only [go_sem, Nat.reduceEqDiff, Nat.reduceBEq, Nat.reduceAdd, Nat.reduceSub, Nat.reduceMul, Nat.reduceLeDiff, Nat.reduceLT, ↓reduceIte, reduceCtorEq, Int.reduceEq, Int.reduceLE, Int.reduceLT, Int.reduceToNat, Int.reduceNeg, Int.reduceSub, Int.reduceAdd, Int.reduceMul, ltT, ltF, leT, leF, neF, catT, mkT, appT, wrap_id, List.length_map, Int.toNat_natCast, TMachine.x, hs]
  · rw [if_neg h0] at hs
    have hm := TMachine.sm_of (x := x) (by omega)
    simp (maxSteps := 2000000) (implicitDefEqProofs := false) (disch := (first | omega | assumption | (refine ⟨?_, ?_⟩ <;> omega) | (unfold catOk; (try simp only [ByteArray.size_append, size_lit, List.length_cons, List.length_nil]); omega) | (unfold mkOk; omega) | (unfold appOk; (try simp only [List.length_map, List.length_append, List.length_cons, List.length_nil]); omega))) only [go_sem, Nat.reduceEqDiff, Nat.reduceBEq, Nat.reduceAdd, Nat.reduceSub, Nat.reduceMul, Nat.reduceLeDiff, Nat.reduceLT, ↓reduceIte, reduceCtorEq, Int.reduceEq, Int.reduceLE, Int.reduceLT, Int.reduceToNat, Int.reduceNeg, Int.reduceSub, Int.reduceAdd, Int.reduceMul, ltT, ltF, leT, leF, neF, catT, mkT, appT, wrap_id, List.length_map, Int.toNat_natCast, TMachine.x, hs, laws_toMachine_ok x hm, spec_Locked_ok x hm, impl_Locked_ok x hm, laws_eqMachine_ok x hm, TIns.fzs, TCore.fzs, TNote.fzs, fzs_numR, TMachine.xo]
theorem pure_FnExactLocked (xs : List X) (h : fitXs [(true, [.l 48 [.i .i64, .i .i64, .i .i64, .i .i64, .i .i64, .i .i64], .l 8 [.i .i64], .l 40 [.i .i64, .i .i64, .l 8 [.i .i64]], .l 8 [.i .i64], .l 16 [.i .i64, .i .i64], .b, .i .i64])] xs) : call tab laws_FnExactLocked xs = some (.d (.v (.bool true))) := by
  simp only [fitXs, fitX] at h
  obtain ⟨x, r, rfl, ⟨ds, rfl, hf⟩, rfl⟩ := h
  obtain ⟨y, rfl, hy⟩ := TMachine.fit hf
  exact law_FnExactLocked y hy

/-- The number of the body that lies at a place. -/
def bodyN (p : Int) : Int := if 1000 ≤ p ∧ (p - 1000) % 200 = 0 ∧ (p - 1000) / 200 < 6 then (p - 1000) / 200 else -1
theorem bodyN_le (p : Int) : -1 ≤ bodyN p ∧ bodyN p ≤ 5 := by unfold bodyN; split <;> omega
theorem bodyN_at {p : Int} (h : 0 ≤ bodyN p) : p = 1000 + 200 * bodyN p := by
  unfold bodyN at h ⊢
  split at h
  · rename_i h1; rw [if_pos h1]; omega
  · omega
theorem spec_l26Body_ok {p : Int} (hp : i64 p) : call tab spec_l26Body [I p] = some (I (bodyN p)) := by
  rw [call_of t_spec_l26Body _ rfl, c_spec_l26Body]
  by_cases h : p < 1000
  · have h1 : bodyN p = -1 := by unfold bodyN; rw [if_neg (by omega)]
    rw [h1]
    simp (maxSteps := 2000000) (implicitDefEqProofs := false) (disch := (first | omega | assumption | (refine ⟨?_, ?_⟩ <;> omega) | (unfold catOk; (try simp only [ByteArray.size_append, size_lit, List.length_cons, List.length_nil]); omega) | (unfold mkOk; omega) | (unfold appOk; (try simp only [List.length_map, List.length_append, List.length_cons, List.length_nil]); omega))) only [go_sem, Nat.reduceEqDiff, Nat.reduceBEq, Nat.reduceAdd, Nat.reduceSub, Nat.reduceMul, Nat.reduceLeDiff, Nat.reduceLT, ↓reduceIte, reduceCtorEq, Int.reduceEq, Int.reduceLE, Int.reduceLT, Int.reduceToNat, Int.reduceNeg, Int.reduceSub, Int.reduceAdd, Int.reduceMul, ltT, ltF, leT, leF, neF, catT, mkT, appT, wrap_id, List.length_map, Int.toNat_natCast, h]
  · have h2 : (p - 1000).tdiv 200 = (p - 1000) / 200 := Int.tdiv_eq_ediv_of_nonneg (by omega)
    by_cases h3 : 6 ≤ (p - 1000) / 200
    · have h1 : bodyN p = -1 := by unfold bodyN; rw [if_neg (by omega)]
      rw [h1]
      simp (maxSteps := 2000000) (implicitDefEqProofs := false) (disch := (first | omega | assumption | (refine ⟨?_, ?_⟩ <;> omega) | (unfold catOk; (try simp only [ByteArray.size_append, size_lit, List.length_cons, List.length_nil]); omega) | (unfold mkOk; omega) | (unfold appOk; (try simp only [List.length_map, List.length_append, List.length_cons, List.length_nil]); omega))) only [go_sem, Nat.reduceEqDiff, Nat.reduceBEq, Nat.reduceAdd, Nat.reduceSub, Nat.reduceMul, Nat.reduceLeDiff, Nat.reduceLT, ↓reduceIte, reduceCtorEq, Int.reduceEq, Int.reduceLE, Int.reduceLT, Int.reduceToNat, Int.reduceNeg, Int.reduceSub, Int.reduceAdd, Int.reduceMul, ltT, ltF, leT, leF, neF, catT, mkT, appT, wrap_id, List.length_map, Int.toNat_natCast, h, h2, h3]
    · by_cases h4 : 1000 + (p - 1000) / 200 * 200 = p
      · have h1 : bodyN p = (p - 1000) / 200 := by unfold bodyN; rw [if_pos (by omega)]
        rw [h1]
        simp (maxSteps := 2000000) (implicitDefEqProofs := false) (disch := (first | omega | assumption | (refine ⟨?_, ?_⟩ <;> omega) | (unfold catOk; (try simp only [ByteArray.size_append, size_lit, List.length_cons, List.length_nil]); omega) | (unfold mkOk; omega) | (unfold appOk; (try simp only [List.length_map, List.length_append, List.length_cons, List.length_nil]); omega))) only [go_sem, Nat.reduceEqDiff, Nat.reduceBEq, Nat.reduceAdd, Nat.reduceSub, Nat.reduceMul, Nat.reduceLeDiff, Nat.reduceLT, ↓reduceIte, reduceCtorEq, Int.reduceEq, Int.reduceLE, Int.reduceLT, Int.reduceToNat, Int.reduceNeg, Int.reduceSub, Int.reduceAdd, Int.reduceMul, ltT, ltF, leT, leF, neF, catT, mkT, appT, wrap_id, List.length_map, Int.toNat_natCast, h, h2, h3, h4]
      · have h1 : bodyN p = -1 := by unfold bodyN; rw [if_neg (by omega)]
        rw [h1]
        simp (maxSteps := 2000000) (implicitDefEqProofs := false) (disch := (first | omega | assumption | (refine ⟨?_, ?_⟩ <;> omega) | (unfold catOk; (try simp only [ByteArray.size_append, size_lit, List.length_cons, List.length_nil]); omega) | (unfold mkOk; omega) | (unfold appOk; (try simp only [List.length_map, List.length_append, List.length_cons, List.length_nil]); omega))) only [go_sem, Nat.reduceEqDiff, Nat.reduceBEq, Nat.reduceAdd, Nat.reduceSub, Nat.reduceMul, Nat.reduceLeDiff, Nat.reduceLT, ↓reduceIte, reduceCtorEq, Int.reduceEq, Int.reduceLE, Int.reduceLT, Int.reduceToNat, Int.reduceNeg, Int.reduceSub, Int.reduceAdd, Int.reduceMul, ltT, ltF, leT, leF, neF, catT, mkT, appT, wrap_id, List.length_map, Int.toNat_natCast, h, h2, h3, h4]
theorem impl_bodyOf_ok {p : Int} (hp : i64 p) : call tab impl_bodyOf [I p] = some (I (bodyN p)) := by
  rw [call_of t_impl_bodyOf _ rfl, c_impl_bodyOf]
  by_cases h : p < 1000
  · have h1 : bodyN p = -1 := by unfold bodyN; rw [if_neg (by omega)]
    rw [h1]
    by_cases h2 : -9223372036854774808 ≤ p
    · simp (maxSteps := 2000000) (implicitDefEqProofs := false) (disch := (first | omega | assumption | (refine ⟨?_, ?_⟩ <;> omega) | (unfold catOk; (try simp only [ByteArray.size_append, size_lit, List.length_cons, List.length_nil]); omega) | (unfold mkOk; omega) | (unfold appOk; (try simp only [List.length_map, List.length_append, List.length_cons, List.length_nil]); omega))) only [go_sem, Nat.reduceEqDiff, Nat.reduceBEq, Nat.reduceAdd, Nat.reduceSub, Nat.reduceMul, Nat.reduceLeDiff, Nat.reduceLT, ↓reduceIte, reduceCtorEq, Int.reduceEq, Int.reduceLE, Int.reduceLT, Int.reduceToNat, Int.reduceNeg, Int.reduceSub, Int.reduceAdd, Int.reduceMul, ltT, ltF, leT, leF, neF, catT, mkT, appT, wrap_id, List.length_map, Int.toNat_natCast]
    · have h3 : IntKind.i64.wrap (p - 1000) = p - 1000 + 18446744073709551616 := by
        simp only [IntKind.wrap, IntKind.signed, IntKind.bits, Bool.true_and, decide_eq_true_eq, ge_iff_le, Nat.reduceSub, Int.reducePow]
        split <;> omega
      have h4 : (p - 1000 + 18446744073709551616).tmod 200 = (p - 1000 + 18446744073709551616) % 200 := Int.tmod_eq_emod_of_nonneg (by omega)
      have h5 : (p - 1000 + 18446744073709551616).tdiv 200 = (p - 1000 + 18446744073709551616) / 200 := Int.tdiv_eq_ediv_of_nonneg (by omega)
      by_cases h6 : (p - 1000 + 18446744073709551616) % 200 = 0
      · simp (maxSteps := 2000000) (implicitDefEqProofs := false) (disch := (first | omega | assumption | (refine ⟨?_, ?_⟩ <;> omega) | (unfold catOk; (try simp only [ByteArray.size_append, size_lit, List.length_cons, List.length_nil]); omega) | (unfold mkOk; omega) | (unfold appOk; (try simp only [List.length_map, List.length_append, List.length_cons, List.length_nil]); omega))) only [go_sem, Nat.reduceEqDiff, Nat.reduceBEq, Nat.reduceAdd, Nat.reduceSub, Nat.reduceMul, Nat.reduceLeDiff, Nat.reduceLT, ↓reduceIte, reduceCtorEq, Int.reduceEq, Int.reduceLE, Int.reduceLT, Int.reduceToNat, Int.reduceNeg, Int.reduceSub, Int.reduceAdd, Int.reduceMul, ltT, ltF, leT, leF, neF, catT, mkT, appT, wrap_id, List.length_map, Int.toNat_natCast, h3, h4, h5, h6]
      · simp (maxSteps := 2000000) (implicitDefEqProofs := false) (disch := (first | omega | assumption | (refine ⟨?_, ?_⟩ <;> omega) | (unfold catOk; (try simp only [ByteArray.size_append, size_lit, List.length_cons, List.length_nil]); omega) | (unfold mkOk; omega) | (unfold appOk; (try simp only [List.length_map, List.length_append, List.length_cons, List.length_nil]); omega))) only [go_sem, Nat.reduceEqDiff, Nat.reduceBEq, Nat.reduceAdd, Nat.reduceSub, Nat.reduceMul, Nat.reduceLeDiff, Nat.reduceLT, ↓reduceIte, reduceCtorEq, Int.reduceEq, Int.reduceLE, Int.reduceLT, Int.reduceToNat, Int.reduceNeg, Int.reduceSub, Int.reduceAdd, Int.reduceMul, ltT, ltF, leT, leF, neF, catT, mkT, appT, wrap_id, List.length_map, Int.toNat_natCast, h3, h4, h5, h6]
  · have h2 : (p - 1000).tdiv 200 = (p - 1000) / 200 := Int.tdiv_eq_ediv_of_nonneg (by omega)
    have h4 : (p - 1000).tmod 200 = (p - 1000) % 200 := Int.tmod_eq_emod_of_nonneg (by omega)
    by_cases h6 : (p - 1000) % 200 = 0
    · by_cases h3 : 6 ≤ (p - 1000) / 200
      · have h1 : bodyN p = -1 := by unfold bodyN; rw [if_neg (by omega)]
        rw [h1]
        simp (maxSteps := 2000000) (implicitDefEqProofs := false) (disch := (first | omega | assumption | (refine ⟨?_, ?_⟩ <;> omega) | (unfold catOk; (try simp only [ByteArray.size_append, size_lit, List.length_cons, List.length_nil]); omega) | (unfold mkOk; omega) | (unfold appOk; (try simp only [List.length_map, List.length_append, List.length_cons, List.length_nil]); omega))) only [go_sem, Nat.reduceEqDiff, Nat.reduceBEq, Nat.reduceAdd, Nat.reduceSub, Nat.reduceMul, Nat.reduceLeDiff, Nat.reduceLT, ↓reduceIte, reduceCtorEq, Int.reduceEq, Int.reduceLE, Int.reduceLT, Int.reduceToNat, Int.reduceNeg, Int.reduceSub, Int.reduceAdd, Int.reduceMul, ltT, ltF, leT, leF, neF, catT, mkT, appT, wrap_id, List.length_map, Int.toNat_natCast, h2, h4, h6, h3]
      · have h1 : bodyN p = (p - 1000) / 200 := by unfold bodyN; rw [if_pos (by omega)]
        rw [h1]
        simp (maxSteps := 2000000) (implicitDefEqProofs := false) (disch := (first | omega | assumption | (refine ⟨?_, ?_⟩ <;> omega) | (unfold catOk; (try simp only [ByteArray.size_append, size_lit, List.length_cons, List.length_nil]); omega) | (unfold mkOk; omega) | (unfold appOk; (try simp only [List.length_map, List.length_append, List.length_cons, List.length_nil]); omega))) only [go_sem, Nat.reduceEqDiff, Nat.reduceBEq, Nat.reduceAdd, Nat.reduceSub, Nat.reduceMul, Nat.reduceLeDiff, Nat.reduceLT, ↓reduceIte, reduceCtorEq, Int.reduceEq, Int.reduceLE, Int.reduceLT, Int.reduceToNat, Int.reduceNeg, Int.reduceSub, Int.reduceAdd, Int.reduceMul, ltT, ltF, leT, leF, neF, catT, mkT, appT, wrap_id, List.length_map, Int.toNat_natCast, h2, h4, h6, h3]
    · have h1 : bodyN p = -1 := by unfold bodyN; rw [if_neg (by omega)]
      rw [h1]
      simp (maxSteps := 2000000) (implicitDefEqProofs := false) (disch := (first | omega | assumption | (refine ⟨?_, ?_⟩ <;> omega) | (unfold catOk; (try simp only [ByteArray.size_append, size_lit, List.length_cons, List.length_nil]); omega) | (unfold mkOk; omega) | (unfold appOk; (try simp only [List.length_map, List.length_append, List.length_cons, List.length_nil]); omega))) only [go_sem, Nat.reduceEqDiff, Nat.reduceBEq, Nat.reduceAdd, Nat.reduceSub, Nat.reduceMul, Nat.reduceLeDiff, Nat.reduceLT, ↓reduceIte, reduceCtorEq, Int.reduceEq, Int.reduceLE, Int.reduceLT, Int.reduceToNat, Int.reduceNeg, Int.reduceSub, Int.reduceAdd, Int.reduceMul, ltT, ltF, leT, leF, neF, catT, mkT, appT, wrap_id, List.length_map, Int.toNat_natCast, h2, h4, h6]
theorem numR_at (ns : List Int) {j : Int} (h0 : 0 ≤ j) (h1 : j < ns.length) : ∃ v, (numR ns)[j.toNat]? = some [DI v] ∧ ns[j.toNat]? = some v := by
  have h2 : j.toNat < ns.length := by omega
  exact ⟨ns[j.toNat], by simp [h2], by simp [h2]⟩
def coreN (mem : List Int) (i : Nat) : Int := match mem[18 + 40 * i]? with
  | some v => bodyN v
  | none => -1
def coresL (mem : List Int) : Nat → Nat → List Int
  | _, 0 => []
  | i, k + 1 => coreN mem i :: coresL mem (i + 1) k
theorem coresL_len (mem : List Int) : ∀ (k i : Nat), (coresL mem i k).length = k
  | 0, _ => rfl
  | k + 1, i => by simp [coresL, coresL_len mem k (i + 1)]
theorem impl_OnCores_l0 (x : TMachine) (hs : x.sm) (hok : ∀ n ∈ x.fMem, i64 n) (n : Nat) (hn : n ≤ 1048576) (k : Nat) : ∀ (i : Nat) (A : List Int), A.length = i → i + k = n →
    loopW tab [1, 3, 10, 11] b_impl_OnCores_0 { env := upd (upd (upd (upd emp 11 (some (I (i : Int)))) 10 (some (I (n : Int)))) 3 (some (.ref (0, 0) []))) 1 (some (.vp [.d (.r (x.fImage.map TIns.r)), .d (.r (numR x.fMem)), .d (.r (x.fCores.map TCore.r)), .d (.r (numR x.fOut)), .d (.r (x.fNotes.map TNote.r)), B x.fOver, I x.fCode])), heap := upd emp (0, 0) (some (.s 1 (numR A))), fr := 0, next := 1 } = some (.ext 0, { env := upd emp 3 (some (.ref (0, 0) [])), heap := upd emp (0, 0) (some (.s 1 (numR (A ++ coresL x.fMem i k)))), fr := 0, next := 1 }) := by
  have hm := hs.2.1
  induction k with
  | zero =>
    intro i A hA hi
    unfold loopW
    conv => lhs; arg 1; unfold b_impl_OnCores_0
    have h1 : A ++ coresL x.fMem i 0 = A := by simp [coresL]
    rw [h1]
    simp (maxSteps := 2000000) (implicitDefEqProofs := false) (disch := (first | omega | assumption | (refine ⟨?_, ?_⟩ <;> omega) | (unfold catOk; (try simp only [ByteArray.size_append, size_lit, List.length_cons, List.length_nil]); omega) | (unfold mkOk; omega) | (unfold appOk; (try simp only [List.length_map, List.length_append, List.length_cons, List.length_nil]); omega))) only [go_sem, Nat.reduceEqDiff, Nat.reduceBEq, Nat.reduceAdd, Nat.reduceSub, Nat.reduceMul, Nat.reduceLeDiff, Nat.reduceLT, ↓reduceIte, reduceCtorEq, Int.reduceEq, Int.reduceLE, Int.reduceLT, Int.reduceToNat, Int.reduceNeg, Int.reduceSub, Int.reduceAdd, Int.reduceMul, ltT, ltF, leT, leF, neF, catT, mkT, appT, wrap_id, List.length_map, Int.toNat_natCast]
  | succ k ih0 =>
    intro i A hA hi
    unfold loopW
    conv => lhs; arg 1; unfold b_impl_OnCores_0
    have ih := ih0 (i + 1) (A ++ [coreN x.fMem i]) (by simp [hA]) (by omega)
    rw [show ((i + 1 : Nat) : Int) = (i : Int) + 1 by omega, List.append_assoc, show [coreN x.fMem i] ++ coresL x.fMem (i + 1) k = coresL x.fMem i (k + 1) from rfl] at ih
    have hrow : numR (A ++ [coreN x.fMem i]) = numR A ++ [[DI (coreN x.fMem i)]] := by simp
    rw [hrow] at ih
    by_cases h1 : 16 + (i : Int) * 40 + 2 < (x.fMem.length : Int)
    · obtain ⟨v, h2, h3⟩ := numR_at x.fMem (j := 16 + (i : Int) * 40 + 2) (by omega) h1
      have h4 : coreN x.fMem i = bodyN v := by unfold coreN; rw [show 18 + 40 * i = (16 + (i : Int) * 40 + 2).toNat by omega, h3]
      have hv := hok v (List.mem_of_getElem? h3)
      rw [h4] at ih
      simp (maxSteps := 2000000) (implicitDefEqProofs := false) (disch := (first | omega | assumption | (refine ⟨?_, ?_⟩ <;> omega) | (unfold catOk; (try simp only [ByteArray.size_append, size_lit, List.length_cons, List.length_nil]); omega) | (unfold mkOk; omega) | (unfold appOk; (try simp only [List.length_map, List.length_append, List.length_cons, List.length_nil]); omega))) only [go_sem, Nat.reduceEqDiff, Nat.reduceBEq, Nat.reduceAdd, Nat.reduceSub, Nat.reduceMul, Nat.reduceLeDiff, Nat.reduceLT, ↓reduceIte, reduceCtorEq, Int.reduceEq, Int.reduceLE, Int.reduceLT, Int.reduceToNat, Int.reduceNeg, Int.reduceSub, Int.reduceAdd, Int.reduceMul, ltT, ltF, leT, leF, neF, catT, mkT, appT, wrap_id, List.length_map, Int.toNat_natCast, h2, impl_bodyOf_ok hv, ih, List.all_cons, List.all_nil]
    · have h4 : coreN x.fMem i = -1 := by unfold coreN; rw [List.getElem?_eq_none (by omega)]
      rw [h4] at ih
      simp (maxSteps := 2000000) (implicitDefEqProofs := false) (disch := (first | omega | assumption | (refine ⟨?_, ?_⟩ <;> omega) | (unfold catOk; (try simp only [ByteArray.size_append, size_lit, List.length_cons, List.length_nil]); omega) | (unfold mkOk; omega) | (unfold appOk; (try simp only [List.length_map, List.length_append, List.length_cons, List.length_nil]); omega))) only [go_sem, Nat.reduceEqDiff, Nat.reduceBEq, Nat.reduceAdd, Nat.reduceSub, Nat.reduceMul, Nat.reduceLeDiff, Nat.reduceLT, ↓reduceIte, reduceCtorEq, Int.reduceEq, Int.reduceLE, Int.reduceLT, Int.reduceToNat, Int.reduceNeg, Int.reduceSub, Int.reduceAdd, Int.reduceMul, ltT, ltF, leT, leF, neF, catT, mkT, appT, wrap_id, List.length_map, Int.toNat_natCast, ih]
theorem impl_OnCores_ok (x : TMachine) (hx : x.ok) (hs : x.sm) : call tab impl_OnCores [x.x] = some (.d (.s 1 (numR (coresL x.fMem 0 x.fCores.length)))) := by
  rw [call_of t_impl_OnCores _ rfl, c_impl_OnCores]
  have hl := impl_OnCores_l0 x hs hx.fMem.2 x.fCores.length hs.2.2.1.1 x.fCores.length 0 [] rfl (by omega)
  simp only [List.map_nil, List.nil_append, Int.cast_ofNat_Int, numR] at hl
  simp (maxSteps := 2000000) (implicitDefEqProofs := false) (disch := (first | omega | assumption | (refine ⟨?_, ?_⟩ <;> omega) | (unfold catOk; (try simp only [ByteArray.size_append, size_lit, List.length_cons, List.length_nil]); omega) | (unfold mkOk; omega) | (unfold appOk; (try simp only [List.length_map, List.length_append, List.length_cons, List.length_nil]); omega))) only [go_sem, Nat.reduceEqDiff, Nat.reduceBEq, Nat.reduceAdd, Nat.reduceSub, Nat.reduceMul, Nat.reduceLeDiff, Nat.reduceLT, ↓reduceIte, reduceCtorEq, Int.reduceEq, Int.reduceLE, Int.reduceLT, Int.reduceToNat, Int.reduceNeg, Int.reduceSub, Int.reduceAdd, Int.reduceMul, ltT, ltF, leT, leF, neF, catT, mkT, appT, wrap_id, List.length_map, Int.toNat_natCast, TMachine.x, hl]
theorem spec_OnCores_l0 (x : TMachine) (hs : x.sm) (hok : ∀ n ∈ x.fMem, i64 n) (n : Nat) (hcl : x.fCores.length = n) (hn : n ≤ 1048576) (k : Nat) : ∀ (i : Nat) (A : List Int), A.length = i → i + k = n →
    loopW tab [1, 3, 4] b_spec_OnCores_0 { env := upd (upd (upd emp 4 (some (I (i : Int)))) 3 (some (.ref (0, 0) []))) 1 (some (.vp [.d (.r (x.fImage.map TIns.r)), .d (.r (numR x.fMem)), .d (.r (x.fCores.map TCore.r)), .d (.r (numR x.fOut)), .d (.r (x.fNotes.map TNote.r)), B x.fOver, I x.fCode])), heap := upd emp (0, 0) (some (.s 1 (numR A))), fr := 0, next := 1 } = some (.ext 0, { env := upd emp 3 (some (.ref (0, 0) [])), heap := upd emp (0, 0) (some (.s 1 (numR (A ++ coresL x.fMem i k)))), fr := 0, next := 1 }) := by
  have hm := hs.2.1
  induction k with
  | zero =>
    intro i A hA hi
    unfold loopW
    conv => lhs; arg 1; unfold b_spec_OnCores_0
    have h1 : A ++ coresL x.fMem i 0 = A := by simp [coresL]
    rw [h1]
    simp (maxSteps := 2000000) (implicitDefEqProofs := false) (disch := (first | omega | assumption | (refine ⟨?_, ?_⟩ <;> omega) | (unfold catOk; (try simp only [ByteArray.size_append, size_lit, List.length_cons, List.length_nil]); omega) | (unfold mkOk; omega) | (unfold appOk; (try simp only [List.length_map, List.length_append, List.length_cons, List.length_nil]); omega))) only [go_sem, Nat.reduceEqDiff, Nat.reduceBEq, Nat.reduceAdd, Nat.reduceSub, Nat.reduceMul, Nat.reduceLeDiff, Nat.reduceLT, ↓reduceIte, reduceCtorEq, Int.reduceEq, Int.reduceLE, Int.reduceLT, Int.reduceToNat, Int.reduceNeg, Int.reduceSub, Int.reduceAdd, Int.reduceMul, ltT, ltF, leT, leF, neF, catT, mkT, appT, wrap_id, List.length_map, Int.toNat_natCast]
  | succ k ih0 =>
    intro i A hA hi
    unfold loopW
    conv => lhs; arg 1; unfold b_spec_OnCores_0
    have ih := ih0 (i + 1) (A ++ [coreN x.fMem i]) (by simp [hA]) (by omega)
    rw [show ((i + 1 : Nat) : Int) = (i : Int) + 1 by omega, List.append_assoc, show [coreN x.fMem i] ++ coresL x.fMem (i + 1) k = coresL x.fMem i (k + 1) from rfl] at ih
    have hrow : numR (A ++ [coreN x.fMem i]) = numR A ++ [[DI (coreN x.fMem i)]] := by simp
    rw [hrow] at ih
    by_cases h1 : 16 + 40 * (i : Int) + 2 < (x.fMem.length : Int)
    · obtain ⟨v, h2, h3⟩ := numR_at x.fMem (j := 16 + 40 * (i : Int) + 2) (by omega) h1
      have h4 : coreN x.fMem i = bodyN v := by unfold coreN; rw [show 18 + 40 * i = (16 + 40 * (i : Int) + 2).toNat by omega, h3]
      have hv := hok v (List.mem_of_getElem? h3)
      rw [h4] at ih
      simp (maxSteps := 2000000) (implicitDefEqProofs := false) (disch := (first | omega | assumption | (refine ⟨?_, ?_⟩ <;> omega) | (unfold catOk; (try simp only [ByteArray.size_append, size_lit, List.length_cons, List.length_nil]); omega) | (unfold mkOk; omega) | (unfold appOk; (try simp only [List.length_map, List.length_append, List.length_cons, List.length_nil]); omega))) only [go_sem, Nat.reduceEqDiff, Nat.reduceBEq, Nat.reduceAdd, Nat.reduceSub, Nat.reduceMul, Nat.reduceLeDiff, Nat.reduceLT, ↓reduceIte, reduceCtorEq, Int.reduceEq, Int.reduceLE, Int.reduceLT, Int.reduceToNat, Int.reduceNeg, Int.reduceSub, Int.reduceAdd, Int.reduceMul, ltT, ltF, leT, leF, neF, catT, mkT, appT, wrap_id, List.length_map, Int.toNat_natCast, h2, spec_l26Body_ok hv, ih, List.all_cons, List.all_nil]
    · have h4 : coreN x.fMem i = -1 := by unfold coreN; rw [List.getElem?_eq_none (by omega)]
      rw [h4] at ih
      simp (maxSteps := 2000000) (implicitDefEqProofs := false) (disch := (first | omega | assumption | (refine ⟨?_, ?_⟩ <;> omega) | (unfold catOk; (try simp only [ByteArray.size_append, size_lit, List.length_cons, List.length_nil]); omega) | (unfold mkOk; omega) | (unfold appOk; (try simp only [List.length_map, List.length_append, List.length_cons, List.length_nil]); omega))) only [go_sem, Nat.reduceEqDiff, Nat.reduceBEq, Nat.reduceAdd, Nat.reduceSub, Nat.reduceMul, Nat.reduceLeDiff, Nat.reduceLT, ↓reduceIte, reduceCtorEq, Int.reduceEq, Int.reduceLE, Int.reduceLT, Int.reduceToNat, Int.reduceNeg, Int.reduceSub, Int.reduceAdd, Int.reduceMul, ltT, ltF, leT, leF, neF, catT, mkT, appT, wrap_id, List.length_map, Int.toNat_natCast, ih]
theorem spec_OnCores_ok (x : TMachine) (hx : x.ok) (hs : x.sm) : call tab spec_OnCores [x.x] = some (.d (.s 1 (numR (coresL x.fMem 0 x.fCores.length)))) := by
  rw [call_of t_spec_OnCores _ rfl, c_spec_OnCores]
  have hl := spec_OnCores_l0 x hs hx.fMem.2 x.fCores.length rfl hs.2.2.1.1 x.fCores.length 0 [] rfl (by omega)
  simp only [List.map_nil, List.nil_append, Int.cast_ofNat_Int, numR] at hl
  simp (maxSteps := 2000000) (implicitDefEqProofs := false) (disch := (first | omega | assumption | (refine ⟨?_, ?_⟩ <;> omega) | (unfold catOk; (try simp only [ByteArray.size_append, size_lit, List.length_cons, List.length_nil]); omega) | (unfold mkOk; omega) | (unfold appOk; (try simp only [List.length_map, List.length_append, List.length_cons, List.length_nil]); omega))) only [go_sem, Nat.reduceEqDiff, Nat.reduceBEq, Nat.reduceAdd, Nat.reduceSub, Nat.reduceMul, Nat.reduceLeDiff, Nat.reduceLT, ↓reduceIte, reduceCtorEq, Int.reduceEq, Int.reduceLE, Int.reduceLT, Int.reduceToNat, Int.reduceNeg, Int.reduceSub, Int.reduceAdd, Int.reduceMul, ltT, ltF, leT, leF, neF, catT, mkT, appT, wrap_id, List.length_map, Int.toNat_natCast, TMachine.x, hl]
theorem law_FnExactOnCores (x : TMachine) (hx : x.ok) : call tab laws_FnExactOnCores [x.x] = some (B true) := by
  rw [call_of t_laws_FnExactOnCores _ rfl, c_laws_FnExactOnCores]
  have hs := laws_szMachine_ok x 1048576 (by omega) hx
  by_cases h0 : (1048576 : Int) < x.sz
  · rw [if_pos h0] at hs
    simp (maxSteps := 2000000) (implicitDefEqProofs := false) (disch := (first | omega | assumption | (refine ⟨?_, ?_⟩ <;> omega) | (unfold catOk; (try simp only [ByteArray.size_append, size_lit, List.length_cons, List.length_nil]); omega) | (unfold mkOk; omega) | (unfold appOk; (try simp only [List.length_map, List.length_append, List.length_cons, List.length_nil]); omega))) only [go_sem, Nat.reduceEqDiff, Nat.reduceBEq, Nat.reduceAdd, Nat.reduceSub, Nat.reduceMul, Nat.reduceLeDiff, Nat.reduceLT, ↓reduceIte, reduceCtorEq, Int.reduceEq, Int.reduceLE, Int.reduceLT, Int.reduceToNat, Int.reduceNeg, Int.reduceSub, Int.reduceAdd, Int.reduceMul, ltT, ltF, leT, leF, neF, catT, mkT, appT, wrap_id, List.length_map, Int.toNat_natCast, TMachine.x, hs]
  · rw [if_neg h0] at hs
    have hm := TMachine.sm_of (x := x) (by omega)
    have hct := x.ctv_le
    have hcn : 0 ≤ x.ctv := by
      have := TIns.cts_nn x.fImage; have := TCore.cts_nn x.fCores; have := TNote.cts_nn x.fNotes
      unfold TMachine.ctv; omega
    have hlen := coresL_len x.fMem x.fCores.length 0
    have hc1 := hm.2.2.1.1
    have hmk := laws_markMachine_ok x 1 (by omega) (by omega)
    have hmi := laws_markIntS_ok (coresL x.fMem 0 x.fCores.length) 1 (by omega) (by omega)
    have hhi := laws_heldIntS_ok (coresL x.fMem 0 x.fCores.length) 1 (by omega) (by omega)
    have heq := laws_eqIntS_ok (coresL x.fMem 0 x.fCores.length) (by omega)
    simp (maxSteps := 2000000) (implicitDefEqProofs := false) (disch := (first | omega | assumption | (refine ⟨?_, ?_⟩ <;> omega) | (unfold catOk; (try simp only [ByteArray.size_append, size_lit, List.length_cons, List.length_nil]); omega) | (unfold mkOk; omega) | (unfold appOk; (try simp only [List.length_map, List.length_append, List.length_cons, List.length_nil]); omega))) only [go_sem, Nat.reduceEqDiff, Nat.reduceBEq, Nat.reduceAdd, Nat.reduceSub, Nat.reduceMul, Nat.reduceLeDiff, Nat.reduceLT, ↓reduceIte, reduceCtorEq, Int.reduceEq, Int.reduceLE, Int.reduceLT, Int.reduceToNat, Int.reduceNeg, Int.reduceSub, Int.reduceAdd, Int.reduceMul, ltT, ltF, leT, leF, neF, catT, mkT, appT, wrap_id, List.length_map, Int.toNat_natCast, TMachine.x, hs, laws_toMachine_ok x hm, spec_OnCores_ok x hx hm, impl_OnCores_ok x hx hm, laws_eqMachine_ok x hm, TIns.fzs, TCore.fzs, TNote.fzs, fzs_numR, TMachine.xo, hmk, hmi, hhi, heq, noR_numR, TIns.noR, TCore.noR, TNote.noR]
theorem pure_FnExactOnCores (xs : List X) (h : fitXs [(true, [.l 48 [.i .i64, .i .i64, .i .i64, .i .i64, .i .i64, .i .i64], .l 8 [.i .i64], .l 40 [.i .i64, .i .i64, .l 8 [.i .i64]], .l 8 [.i .i64], .l 16 [.i .i64, .i .i64], .b, .i .i64])] xs) : call tab laws_FnExactOnCores xs = some (.d (.v (.bool true))) := by
  simp only [fitXs, fitX] at h
  obtain ⟨x, r, rfl, ⟨ds, rfl, hf⟩, rfl⟩ := h
  obtain ⟨y, rfl, hy⟩ := TMachine.fit hf
  exact law_FnExactOnCores y hy
end Go.Ev.G
