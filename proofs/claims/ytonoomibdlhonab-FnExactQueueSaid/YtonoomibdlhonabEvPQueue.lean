/- What a machine's memory tells of its bodies: the lock, who is on which core, the queue. -/
import Derived.Test.YtonoomibdlhonabEvQMachine
set_option linter.all false
namespace Go.Ev.G
set_option maxRecDepth 8000
set_option maxHeartbeats 4000000
def lockedL : List Int → Bool
  | [] => false
  | a :: _ => decide (a = 1)
/-- The number of the body that lies at a place. -/
def bodyN (p : Int) : Int := if 1000 ≤ p ∧ (p - 1000) % 200 = 0 ∧ (p - 1000) / 200 < 6 then (p - 1000) / 200 else -1
theorem bodyN_le (p : Int) : -1 ≤ bodyN p ∧ bodyN p ≤ 5 := by unfold bodyN; split <;> omega
theorem bodyN_at {p : Int} (h : 0 ≤ bodyN p) : p = 1000 + 200 * bodyN p := by
  unfold bodyN at h ⊢
  split at h
  · rename_i h1; rw [if_pos h1]; omega
  · omega
theorem spec_l26Body_ok {p : Int} (hp : i64 p) : call tab spec_l26Body [I p] = some (I (bodyN p)) := by
  rw [call_of t_spec_l26Body _ rfl, c_spec_l26Body]
  by_cases h : p < 1000
  · have h1 : bodyN p = -1 := by unfold bodyN; rw [if_neg (by omega)]
    rw [h1]
    simp (maxSteps := 2000000) (implicitDefEqProofs := false) (disch := (first | omega | assumption | (refine ⟨?_, ?_⟩ <;> omega) | (unfold catOk; (try simp only [ByteArray.size_append, size_lit, List.length_cons, List.length_nil]); omega) | (unfold mkOk; omega) | (unfold appOk; (try simp only [List.length_map, List.length_append, List.length_cons, List.length_nil]); omega))) only [go_sem, Nat.reduceEqDiff, Nat.reduceBEq, Nat.reduceAdd, Nat.reduceSub, Nat.reduceMul, Nat.reduceLeDiff, Nat.reduceLT, ↓reduceIte, reduceCtorEq, Int.reduceEq, Int.reduceLE, Int.reduceLT, Int.reduceToNat, Int.reduceNeg, Int.reduceSub, Int.reduceAdd, Int.reduceMul, ltT, ltF, leT, leF, neF, catT, mkT, appT, wrap_id, List.length_map, Int.toNat_natCast, h]
  · have h2 : (p - 1000).tdiv 200 = (p - 1000) / 200 := Int.tdiv_eq_ediv_of_nonneg (by omega)
    by_cases h3 : 6 ≤ (p - 1000) / 200
    · have h1 : bodyN p = -1 := by unfold bodyN; rw [if_neg (by omega)]
      rw [h1]
      simp (maxSteps := 2000000) (implicitDefEqProofs := false) (disch := (first | omega | assumption | (refine ⟨?_, ?_⟩ <;> omega) | (unfold catOk; (try simp only [ByteArray.size_append, size_lit, List.length_cons, List.length_nil]); omega) | (unfold mkOk; omega) | (unfold appOk; (try simp only [List.length_map, List.length_append, List.length_cons, List.length_nil]); omega))) only [go_sem, Nat.reduceEqDiff, Nat.reduceBEq, Nat.reduceAdd, Nat.reduceSub, Nat.reduceMul, Nat.reduceLeDiff, Nat.reduceLT, ↓reduceIte, reduceCtorEq, Int.reduceEq, Int.reduceLE, Int.reduceLT, Int.reduceToNat, Int.reduceNeg, Int.reduceSub, Int.reduceAdd, Int.reduceMul, ltT, ltF, leT, leF, neF, catT, mkT, appT, wrap_id, List.length_map, Int.toNat_natCast, h, h2, h3]
    · by_cases h4 : 1000 + (p - 1000) / 200 * 200 = p
      · have h1 : bodyN p = (p - 1000) / 200 := by unfold bodyN; rw [if_pos (by omega)]
        rw [h1]
        simp (maxSteps := 2000000) (implicitDefEqProofs := false) (disch := (first | omega | assumption | (refine ⟨?_, ?_⟩ <;> omega) | (unfold catOk; (try simp only [ByteArray.size_append, size_lit, List.length_cons, List.length_nil]); omega) | (unfold mkOk; omega) | (unfold appOk; (try simp only [List.length_map, List.length_append, List.length_cons, List.length_nil]); omega))) only [go_sem, Nat.reduceEqDiff, Nat.reduceBEq, Nat.reduceAdd, Nat.reduceSub, Nat.reduceMul, Nat.reduceLeDiff, Nat.reduceLT, ↓reduceIte, reduceCtorEq, Int.reduceEq, Int.reduceLE, Int.reduceLT, Int.reduceToNat, Int.reduceNeg, Int.reduceSub, Int.reduceAdd, Int.reduceMul, ltT, ltF, leT, leF, neF, catT, mkT, appT, wrap_id, List.length_map, Int.toNat_natCast, h, h2, h3, h4]
      · have h1 : bodyN p = -1 := by unfold bodyN; rw [if_neg (by omega)]
        rw [h1]
        simp (maxSteps := 2000000) (implicitDefEqProofs := false) (disch := (first | omega | assumption | (refine ⟨?_, ?_⟩ <;> omega) | (unfold catOk; (try simp only [ByteArray.size_append, size_lit, List.length_cons, List.length_nil]); omega) | (unfold mkOk; omega) | (unfold appOk; (try simp only [List.length_map, List.length_append, List.length_cons, List.length_nil]); omega))) only [go_sem, Nat.reduceEqDiff, Nat.reduceBEq, Nat.reduceAdd, Nat.reduceSub, Nat.reduceMul, Nat.reduceLeDiff, Nat.reduceLT, ↓reduceIte, reduceCtorEq, Int.reduceEq, Int.reduceLE, Int.reduceLT, Int.reduceToNat, Int.reduceNeg, Int.reduceSub, Int.reduceAdd, Int.reduceMul, ltT, ltF, leT, leF, neF, catT, mkT, appT, wrap_id, List.length_map, Int.toNat_natCast, h, h2, h3, h4]
theorem impl_bodyOf_ok {p : Int} (hp : i64 p) : call tab impl_bodyOf [I p] = some (I (bodyN p)) := by
  rw [call_of t_impl_bodyOf _ rfl, c_impl_bodyOf]
  by_cases h : p < 1000
  · have h1 : bodyN p = -1 := by unfold bodyN; rw [if_neg (by omega)]
    rw [h1]
    by_cases h2 : -9223372036854774808 ≤ p
    · simp (maxSteps := 2000000) (implicitDefEqProofs := false) (disch := (first | omega | assumption | (refine ⟨?_, ?_⟩ <;> omega) | (unfold catOk; (try simp only [ByteArray.size_append, size_lit, List.length_cons, List.length_nil]); omega) | (unfold mkOk; omega) | (unfold appOk; (try simp only [List.length_map, List.length_append, List.length_cons, List.length_nil]); omega))) only [go_sem, Nat.reduceEqDiff, Nat.reduceBEq, Nat.reduceAdd, Nat.reduceSub, Nat.reduceMul, Nat.reduceLeDiff, Nat.reduceLT, ↓reduceIte, reduceCtorEq, Int.reduceEq, Int.reduceLE, Int.reduceLT, Int.reduceToNat, Int.reduceNeg, Int.reduceSub, Int.reduceAdd, Int.reduceMul, ltT, ltF, leT, leF, neF, catT, mkT, appT, wrap_id, List.length_map, Int.toNat_natCast]
    · have h3 : IntKind.i64.wrap (p - 1000) = p - 1000 + 18446744073709551616 := by
        simp only [IntKind.wrap, IntKind.signed, IntKind.bits, Bool.true_and, decide_eq_true_eq, ge_iff_le, Nat.reduceSub, Int.reducePow]
        split <;> omega
      have h4 : (p - 1000 + 18446744073709551616).tmod 200 = (p - 1000 + 18446744073709551616) % 200 := Int.tmod_eq_emod_of_nonneg (by omega)
      have h5 : (p - 1000 + 18446744073709551616).tdiv 200 = (p - 1000 + 18446744073709551616) / 200 := Int.tdiv_eq_ediv_of_nonneg (by omega)
      by_cases h6 : (p - 1000 + 18446744073709551616) % 200 = 0
      · simp (maxSteps := 2000000) (implicitDefEqProofs := false) (disch := (first | omega | assumption | (refine ⟨?_, ?_⟩ <;> omega) | (unfold catOk; (try simp only [ByteArray.size_append, size_lit, List.length_cons, List.length_nil]); omega) | (unfold mkOk; omega) | (unfold appOk; (try simp only [List.length_map, List.length_append, List.length_cons, List.length_nil]); omega))) only [go_sem, Nat.reduceEqDiff, Nat.reduceBEq, Nat.reduceAdd, Nat.reduceSub, Nat.reduceMul, Nat.reduceLeDiff, Nat.reduceLT, ↓reduceIte, reduceCtorEq, Int.reduceEq, Int.reduceLE, Int.reduceLT, Int.reduceToNat, Int.reduceNeg, Int.reduceSub, Int.reduceAdd, Int.reduceMul, ltT, ltF, leT, leF, neF, catT, mkT, appT, wrap_id, List.length_map, Int.toNat_natCast, h3, h4, h5, h6]
      · simp (maxSteps := 2000000) (implicitDefEqProofs := false) (disch := (first | omega | assumption | (refine ⟨?_, ?_⟩ <;> omega) | (unfold catOk; (try simp only [ByteArray.size_append, size_lit, List.length_cons, List.length_nil]); omega) | (unfold mkOk; omega) | (unfold appOk; (try simp only [List.length_map, List.length_append, List.length_cons, List.length_nil]); omega))) only [go_sem, Nat.reduceEqDiff, Nat.reduceBEq, Nat.reduceAdd, Nat.reduceSub, Nat.reduceMul, Nat.reduceLeDiff, Nat.reduceLT, ↓reduceIte, reduceCtorEq, Int.reduceEq, Int.reduceLE, Int.reduceLT, Int.reduceToNat, Int.reduceNeg, Int.reduceSub, Int.reduceAdd, Int.reduceMul, ltT, ltF, leT, leF, neF, catT, mkT, appT, wrap_id, List.length_map, Int.toNat_natCast, h3, h4, h5, h6]
  · have h2 : (p - 1000).tdiv 200 = (p - 1000) / 200 := Int.tdiv_eq_ediv_of_nonneg (by omega)
    have h4 : (p - 1000).tmod 200 = (p - 1000) % 200 := Int.tmod_eq_emod_of_nonneg (by omega)
    by_cases h6 : (p - 1000) % 200 = 0
    · by_cases h3 : 6 ≤ (p - 1000) / 200
      · have h1 : bodyN p = -1 := by unfold bodyN; rw [if_neg (by omega)]
        rw [h1]
        simp (maxSteps := 2000000) (implicitDefEqProofs := false) (disch := (first | omega | assumption | (refine ⟨?_, ?_⟩ <;> omega) | (unfold catOk; (try simp only [ByteArray.size_append, size_lit, List.length_cons, List.length_nil]); omega) | (unfold mkOk; omega) | (unfold appOk; (try simp only [List.length_map, List.length_append, List.length_cons, List.length_nil]); omega))) only [go_sem, Nat.reduceEqDiff, Nat.reduceBEq, Nat.reduceAdd, Nat.reduceSub, Nat.reduceMul, Nat.reduceLeDiff, Nat.reduceLT, ↓reduceIte, reduceCtorEq, Int.reduceEq, Int.reduceLE, Int.reduceLT, Int.reduceToNat, Int.reduceNeg, Int.reduceSub, Int.reduceAdd, Int.reduceMul, ltT, ltF, leT, leF, neF, catT, mkT, appT, wrap_id, List.length_map, Int.toNat_natCast, h2, h4, h6, h3]
      · have h1 : bodyN p = (p - 1000) / 200 := by unfold bodyN; rw [if_pos (by omega)]
        rw [h1]
        simp (maxSteps := 2000000) (implicitDefEqProofs := false) (disch := (first | omega | assumption | (refine ⟨?_, ?_⟩ <;> omega) | (unfold catOk; (try simp only [ByteArray.size_append, size_lit, List.length_cons, List.length_nil]); omega) | (unfold mkOk; omega) | (unfold appOk; (try simp only [List.length_map, List.length_append, List.length_cons, List.length_nil]); omega))) only [go_sem, Nat.reduceEqDiff, Nat.reduceBEq, Nat.reduceAdd, Nat.reduceSub, Nat.reduceMul, Nat.reduceLeDiff, Nat.reduceLT, ↓reduceIte, reduceCtorEq, Int.reduceEq, Int.reduceLE, Int.reduceLT, Int.reduceToNat, Int.reduceNeg, Int.reduceSub, Int.reduceAdd, Int.reduceMul, ltT, ltF, leT, leF, neF, catT, mkT, appT, wrap_id, List.length_map, Int.toNat_natCast, h2, h4, h6, h3]
    · have h1 : bodyN p = -1 := by unfold bodyN; rw [if_neg (by omega)]
      rw [h1]
      simp (maxSteps := 2000000) (implicitDefEqProofs := false) (disch := (first | omega | assumption | (refine ⟨?_, ?_⟩ <;> omega) | (unfold catOk; (try simp only [ByteArray.size_append, size_lit, List.length_cons, List.length_nil]); omega) | (unfold mkOk; omega) | (unfold appOk; (try simp only [List.length_map, List.length_append, List.length_cons, List.length_nil]); omega))) only [go_sem, Nat.reduceEqDiff, Nat.reduceBEq, Nat.reduceAdd, Nat.reduceSub, Nat.reduceMul, Nat.reduceLeDiff, Nat.reduceLT, ↓reduceIte, reduceCtorEq, Int.reduceEq, Int.reduceLE, Int.reduceLT, Int.reduceToNat, Int.reduceNeg, Int.reduceSub, Int.reduceAdd, Int.reduceMul, ltT, ltF, leT, leF, neF, catT, mkT, appT, wrap_id, List.length_map, Int.toNat_natCast, h2, h4, h6]
theorem numR_at (ns : List Int) {j : Int} (h0 : 0 ≤ j) (h1 : j < ns.length) : ∃ v, (numR ns)[j.toNat]? = some [DI v] ∧ ns[j.toNat]? = some v := by
  have h2 : j.toNat < ns.length := by omega
  exact ⟨ns[j.toNat], by simp [h2], by simp [h2]⟩
def coreN (mem : List Int) (i : Nat) : Int := match mem[18 + 40 * i]? with
  | some v => bodyN v
  | none => -1
def coresL (mem : List Int) : Nat → Nat → List Int
  | _, 0 => []
  | i, k + 1 => coreN mem i :: coresL mem (i + 1) k
theorem coresL_len (mem : List Int) : ∀ (k i : Nat), (coresL mem i k).length = k
  | 0, _ => rfl
  | k + 1, i => by simp [coresL, coresL_len mem k (i + 1)]
end Go.Ev.G
