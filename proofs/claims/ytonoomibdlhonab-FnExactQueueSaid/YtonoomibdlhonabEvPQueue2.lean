/- The queue of a machine's bodies. -/
import Derived.Test.YtonoomibdlhonabEvPQueue
set_option linter.all false
namespace Go.Ev.G
set_option maxRecDepth 8000
set_option maxHeartbeats 4000000
/-- The queue from a place on; none: what lies there is no body. -/
def queueO (mem : List Int) : Nat → Int → List Int → Option (List Int)
  | 0, _, acc => some acc
  | f + 1, p, acc => if p = 0 then some acc else if bodyN p < 0 then none else queueO mem f ((mem[(p + 2).toNat]?).getD 0) (acc ++ [bodyN p])
theorem queueO_len (mem : List Int) : ∀ (f : Nat) (p : Int) (acc l : List Int), queueO mem f p acc = some l → l.length ≤ acc.length + f
  | 0, _, acc, ls, h => by simp only [queueO, Option.some.injEq] at h; subst h; omega
  | f + 1, p, acc, ls, h => by
    rw [queueO] at h
    split at h
    · simp only [Option.some.injEq] at h; subst h; omega
    · split at h
      · simp at h
      · have := queueO_len mem f _ _ _ h
        simp at this
        omega
def queueR (mem : List Int) : List Int := if mem.length < 2200 then [] else (queueO mem 6 ((mem[1]?).getD 0) []).getD []
theorem queueR_len (mem : List Int) : (queueR mem).length ≤ 6 := by
  unfold queueR
  split
  · simp
  · cases h : queueO mem 6 ((mem[1]?).getD 0) [] with
    | none => simp
    | some ls => simpa using queueO_len mem 6 _ _ _ h
abbrev vpM (x : TMachine) : X := .vp [.d (.r (x.fImage.map TIns.r)), .d (.r (numR x.fMem)), .d (.r (x.fCores.map TCore.r)), .d (.r (numR x.fOut)), .d (.r (x.fNotes.map TNote.r)), B x.fOver, I x.fCode]
theorem impl_Queue_l0 (x : TMachine) (hs : x.fMem.length ≤ 1048576) (hl : 2200 ≤ x.fMem.length) (hok : ∀ n ∈ x.fMem, i64 n) (f : Nat) : ∀ (p : Int) (A : List Int), A.length + f = 6 → i64 p →
    loopW tab [1, 3, 4] b_impl_Queue_0 { env := upd (upd (upd emp 4 (some (I p))) 3 (some (.ref (0, 0) []))) 1 (some (vpM x)), heap := upd emp (0, 0) (some (.s 1 (numR A))), fr := 0, next := 1 } = (match queueO x.fMem f p A with
      | none => some (.ret, { env := upd emp 2 (some (.d (.s 1 []))), heap := emp, fr := 0, next := 0 })
      | some ls => some (.ext 0, { env := upd emp 3 (some (.ref (0, 0) [])), heap := upd emp (0, 0) (some (.s 1 (numR ls))), fr := 0, next := 1 })) := by
  induction f with
  | zero =>
    intro p A hA hp
    unfold loopW
    conv => lhs; arg 1; unfold b_impl_Queue_0
    simp only [queueO]
    by_cases h0 : p = 0
    · subst h0
      simp (maxSteps := 2000000) (implicitDefEqProofs := false) (disch := (first | omega | assumption | (refine ⟨?_, ?_⟩ <;> omega) | (unfold catOk; (try simp only [ByteArray.size_append, size_lit, List.length_cons, List.length_nil]); omega) | (unfold mkOk; omega) | (unfold appOk; (try simp only [List.length_map, List.length_append, List.length_cons, List.length_nil]); omega))) only [go_sem, Nat.reduceEqDiff, Nat.reduceBEq, Nat.reduceAdd, Nat.reduceSub, Nat.reduceMul, Nat.reduceLeDiff, Nat.reduceLT, ↓reduceIte, reduceCtorEq, Int.reduceEq, Int.reduceLE, Int.reduceLT, Int.reduceToNat, Int.reduceNeg, Int.reduceSub, Int.reduceAdd, Int.reduceMul, ltT, ltF, leT, leF, neF, catT, mkT, appT, wrap_id, List.length_map, Int.toNat_natCast]
    · simp (maxSteps := 2000000) (implicitDefEqProofs := false) (disch := (first | omega | assumption | (refine ⟨?_, ?_⟩ <;> omega) | (unfold catOk; (try simp only [ByteArray.size_append, size_lit, List.length_cons, List.length_nil]); omega) | (unfold mkOk; omega) | (unfold appOk; (try simp only [List.length_map, List.length_append, List.length_cons, List.length_nil]); omega))) only [go_sem, Nat.reduceEqDiff, Nat.reduceBEq, Nat.reduceAdd, Nat.reduceSub, Nat.reduceMul, Nat.reduceLeDiff, Nat.reduceLT, ↓reduceIte, reduceCtorEq, Int.reduceEq, Int.reduceLE, Int.reduceLT, Int.reduceToNat, Int.reduceNeg, Int.reduceSub, Int.reduceAdd, Int.reduceMul, ltT, ltF, leT, leF, neF, catT, mkT, appT, wrap_id, List.length_map, Int.toNat_natCast, h0]
  | succ f ih0 =>
    intro p A hA hp
    unfold loopW
    conv => lhs; arg 1; unfold b_impl_Queue_0
    rw [queueO]
    by_cases h0 : p = 0
    · subst h0
      simp (maxSteps := 2000000) (implicitDefEqProofs := false) (disch := (first | omega | assumption | (refine ⟨?_, ?_⟩ <;> omega) | (unfold catOk; (try simp only [ByteArray.size_append, size_lit, List.length_cons, List.length_nil]); omega) | (unfold mkOk; omega) | (unfold appOk; (try simp only [List.length_map, List.length_append, List.length_cons, List.length_nil]); omega))) only [go_sem, Nat.reduceEqDiff, Nat.reduceBEq, Nat.reduceAdd, Nat.reduceSub, Nat.reduceMul, Nat.reduceLeDiff, Nat.reduceLT, ↓reduceIte, reduceCtorEq, Int.reduceEq, Int.reduceLE, Int.reduceLT, Int.reduceToNat, Int.reduceNeg, Int.reduceSub, Int.reduceAdd, Int.reduceMul, ltT, ltF, leT, leF, neF, catT, mkT, appT, wrap_id, List.length_map, Int.toNat_natCast]
    · rw [if_neg h0]
      by_cases h1 : bodyN p < 0
      · rw [if_pos h1]
        simp (maxSteps := 2000000) (implicitDefEqProofs := false) (disch := (first | omega | assumption | (refine ⟨?_, ?_⟩ <;> omega) | (unfold catOk; (try simp only [ByteArray.size_append, size_lit, List.length_cons, List.length_nil]); omega) | (unfold mkOk; omega) | (unfold appOk; (try simp only [List.length_map, List.length_append, List.length_cons, List.length_nil]); omega))) only [go_sem, Nat.reduceEqDiff, Nat.reduceBEq, Nat.reduceAdd, Nat.reduceSub, Nat.reduceMul, Nat.reduceLeDiff, Nat.reduceLT, ↓reduceIte, reduceCtorEq, Int.reduceEq, Int.reduceLE, Int.reduceLT, Int.reduceToNat, Int.reduceNeg, Int.reduceSub, Int.reduceAdd, Int.reduceMul, ltT, ltF, leT, leF, neF, catT, mkT, appT, wrap_id, List.length_map, Int.toNat_natCast, h0, h1, impl_bodyOf_ok hp]
      · rw [if_neg h1]
        have h2 := bodyN_at (by omega : 0 ≤ bodyN p)
        have h3 := bodyN_le p
        obtain ⟨v, h4, h5⟩ := numR_at x.fMem (j := p + 2) (by omega) (by omega)
        have hv := hok v (List.mem_of_getElem? h5)
        have ih := ih0 v (A ++ [bodyN p]) (by simp; omega) hv
        have hrow : numR (A ++ [bodyN p]) = numR A ++ [[DI (bodyN p)]] := by simp
        rw [hrow] at ih
        rw [h5, Option.getD_some, ← ih]
        simp (maxSteps := 2000000) (implicitDefEqProofs := false) (disch := (first | omega | assumption | (refine ⟨?_, ?_⟩ <;> omega) | (unfold catOk; (try simp only [ByteArray.size_append, size_lit, List.length_cons, List.length_nil]); omega) | (unfold mkOk; omega) | (unfold appOk; (try simp only [List.length_map, List.length_append, List.length_cons, List.length_nil]); omega))) only [go_sem, Nat.reduceEqDiff, Nat.reduceBEq, Nat.reduceAdd, Nat.reduceSub, Nat.reduceMul, Nat.reduceLeDiff, Nat.reduceLT, ↓reduceIte, reduceCtorEq, Int.reduceEq, Int.reduceLE, Int.reduceLT, Int.reduceToNat, Int.reduceNeg, Int.reduceSub, Int.reduceAdd, Int.reduceMul, ltT, ltF, leT, leF, neF, catT, mkT, appT, wrap_id, List.length_map, Int.toNat_natCast, h0, h1, impl_bodyOf_ok hp, h4, List.all_cons, List.all_nil]
theorem impl_Queue_ok (x : TMachine) (hx : x.ok) (hs : x.sm) : call tab impl_Queue [x.x] = some (.d (.s 1 (numR (queueR x.fMem)))) := by
  rw [call_of t_impl_Queue _ rfl, c_impl_Queue]
  have hm := hs.2.1
  by_cases h0 : x.fMem.length < 2200
  · have h1 : queueR x.fMem = [] := by unfold queueR; rw [if_pos h0]
    rw [h1]
    simp (maxSteps := 2000000) (implicitDefEqProofs := false) (disch := (first | omega | assumption | (refine ⟨?_, ?_⟩ <;> omega) | (unfold catOk; (try simp only [ByteArray.size_append, size_lit, List.length_cons, List.length_nil]); omega) | (unfold mkOk; omega) | (unfold appOk; (try simp only [List.length_map, List.length_append, List.length_cons, List.length_nil]); omega))) only [go_sem, Nat.reduceEqDiff, Nat.reduceBEq, Nat.reduceAdd, Nat.reduceSub, Nat.reduceMul, Nat.reduceLeDiff, Nat.reduceLT, ↓reduceIte, reduceCtorEq, Int.reduceEq, Int.reduceLE, Int.reduceLT, Int.reduceToNat, Int.reduceNeg, Int.reduceSub, Int.reduceAdd, Int.reduceMul, ltT, ltF, leT, leF, neF, catT, mkT, appT, wrap_id, List.length_map, Int.toNat_natCast, TMachine.x, List.map_nil]
  · obtain ⟨v, h4, h5⟩ := numR_at x.fMem (j := 1) (by omega) (by omega)
    simp only [Int.reduceToNat] at h4 h5
    have hv := hx.fMem.2 v (List.mem_of_getElem? h5)
    have hl := impl_Queue_l0 x hm (by omega) hx.fMem.2 6 v [] rfl hv
    have h1 : queueR x.fMem = (queueO x.fMem 6 v []).getD [] := by unfold queueR; rw [if_neg h0, h5]; rfl
    rw [h1]
    simp only [List.map_nil] at hl
    cases hq : queueO x.fMem 6 v [] with
    | none =>
      simp only [hq] at hl
      simp (maxSteps := 2000000) (implicitDefEqProofs := false) (disch := (first | omega | assumption | (refine ⟨?_, ?_⟩ <;> omega) | (unfold catOk; (try simp only [ByteArray.size_append, size_lit, List.length_cons, List.length_nil]); omega) | (unfold mkOk; omega) | (unfold appOk; (try simp only [List.length_map, List.length_append, List.length_cons, List.length_nil]); omega))) only [go_sem, Nat.reduceEqDiff, Nat.reduceBEq, Nat.reduceAdd, Nat.reduceSub, Nat.reduceMul, Nat.reduceLeDiff, Nat.reduceLT, ↓reduceIte, reduceCtorEq, Int.reduceEq, Int.reduceLE, Int.reduceLT, Int.reduceToNat, Int.reduceNeg, Int.reduceSub, Int.reduceAdd, Int.reduceMul, ltT, ltF, leT, leF, neF, catT, mkT, appT, wrap_id, List.length_map, Int.toNat_natCast, TMachine.x, h4, hl, List.map_nil]
    | some ls =>
      simp only [hq] at hl
      simp (maxSteps := 2000000) (implicitDefEqProofs := false) (disch := (first | omega | assumption | (refine ⟨?_, ?_⟩ <;> omega) | (unfold catOk; (try simp only [ByteArray.size_append, size_lit, List.length_cons, List.length_nil]); omega) | (unfold mkOk; omega) | (unfold appOk; (try simp only [List.length_map, List.length_append, List.length_cons, List.length_nil]); omega))) only [go_sem, Nat.reduceEqDiff, Nat.reduceBEq, Nat.reduceAdd, Nat.reduceSub, Nat.reduceMul, Nat.reduceLeDiff, Nat.reduceLT, ↓reduceIte, reduceCtorEq, Int.reduceEq, Int.reduceLE, Int.reduceLT, Int.reduceToNat, Int.reduceNeg, Int.reduceSub, Int.reduceAdd, Int.reduceMul, ltT, ltF, leT, leF, neF, catT, mkT, appT, wrap_id, List.length_map, Int.toNat_natCast, TMachine.x, h4, hl]
theorem spec_Queue_l0 (x : TMachine) (hs : x.fMem.length ≤ 1048576) (hl : 2200 ≤ x.fMem.length) (hok : ∀ n ∈ x.fMem, i64 n) (f : Nat) : ∀ (p : Int) (A : List Int), A.length + f = 6 → i64 p →
    loopW tab [1, 3, 4] b_spec_Queue_0 { env := upd (upd (upd emp 4 (some (I p))) 3 (some (.ref (0, 0) []))) 1 (some (vpM x)), heap := upd emp (0, 0) (some (.s 1 (numR A))), fr := 0, next := 1 } = (match queueO x.fMem f p A with
      | none => some (.ret, { env := upd emp 2 (some (.ref (0, 0) [])), heap := upd emp (0, 0) (some (.s 1 [])), fr := 0, next := 1 })
      | some ls => some (.ext 0, { env := upd emp 3 (some (.ref (0, 0) [])), heap := upd emp (0, 0) (some (.s 1 (numR ls))), fr := 0, next := 1 })) := by
  induction f with
  | zero =>
    intro p A hA hp
    unfold loopW
    conv => lhs; arg 1; unfold b_spec_Queue_0
    simp only [queueO]
    by_cases h0 : p = 0
    · subst h0
      simp (maxSteps := 2000000) (implicitDefEqProofs := false) (disch := (first | omega | assumption | (refine ⟨?_, ?_⟩ <;> omega) | (unfold catOk; (try simp only [ByteArray.size_append, size_lit, List.length_cons, List.length_nil]); omega) | (unfold mkOk; omega) | (unfold appOk; (try simp only [List.length_map, List.length_append, List.length_cons, List.length_nil]); omega))) only [go_sem, Nat.reduceEqDiff, Nat.reduceBEq, Nat.reduceAdd, Nat.reduceSub, Nat.reduceMul, Nat.reduceLeDiff, Nat.reduceLT, ↓reduceIte, reduceCtorEq, Int.reduceEq, Int.reduceLE, Int.reduceLT, Int.reduceToNat, Int.reduceNeg, Int.reduceSub, Int.reduceAdd, Int.reduceMul, ltT, ltF, leT, leF, neF, catT, mkT, appT, wrap_id, List.length_map, Int.toNat_natCast]
    · simp (maxSteps := 2000000) (implicitDefEqProofs := false) (disch := (first | omega | assumption | (refine ⟨?_, ?_⟩ <;> omega) | (unfold catOk; (try simp only [ByteArray.size_append, size_lit, List.length_cons, List.length_nil]); omega) | (unfold mkOk; omega) | (unfold appOk; (try simp only [List.length_map, List.length_append, List.length_cons, List.length_nil]); omega))) only [go_sem, Nat.reduceEqDiff, Nat.reduceBEq, Nat.reduceAdd, Nat.reduceSub, Nat.reduceMul, Nat.reduceLeDiff, Nat.reduceLT, ↓reduceIte, reduceCtorEq, Int.reduceEq, Int.reduceLE, Int.reduceLT, Int.reduceToNat, Int.reduceNeg, Int.reduceSub, Int.reduceAdd, Int.reduceMul, ltT, ltF, leT, leF, neF, catT, mkT, appT, wrap_id, List.length_map, Int.toNat_natCast, h0]
  | succ f ih0 =>
    intro p A hA hp
    unfold loopW
    conv => lhs; arg 1; unfold b_spec_Queue_0
    rw [queueO]
    by_cases h0 : p = 0
    · subst h0
      simp (maxSteps := 2000000) (implicitDefEqProofs := false) (disch := (first | omega | assumption | (refine ⟨?_, ?_⟩ <;> omega) | (unfold catOk; (try simp only [ByteArray.size_append, size_lit, List.length_cons, List.length_nil]); omega) | (unfold mkOk; omega) | (unfold appOk; (try simp only [List.length_map, List.length_append, List.length_cons, List.length_nil]); omega))) only [go_sem, Nat.reduceEqDiff, Nat.reduceBEq, Nat.reduceAdd, Nat.reduceSub, Nat.reduceMul, Nat.reduceLeDiff, Nat.reduceLT, ↓reduceIte, reduceCtorEq, Int.reduceEq, Int.reduceLE, Int.reduceLT, Int.reduceToNat, Int.reduceNeg, Int.reduceSub, Int.reduceAdd, Int.reduceMul, ltT, ltF, leT, leF, neF, catT, mkT, appT, wrap_id, List.length_map, Int.toNat_natCast]
    · rw [if_neg h0]
      by_cases h1 : bodyN p < 0
      · rw [if_pos h1]
        simp (maxSteps := 2000000) (implicitDefEqProofs := false) (disch := (first | omega | assumption | (refine ⟨?_, ?_⟩ <;> omega) | (unfold catOk; (try simp only [ByteArray.size_append, size_lit, List.length_cons, List.length_nil]); omega) | (unfold mkOk; omega) | (unfold appOk; (try simp only [List.length_map, List.length_append, List.length_cons, List.length_nil]); omega))) only [go_sem, Nat.reduceEqDiff, Nat.reduceBEq, Nat.reduceAdd, Nat.reduceSub, Nat.reduceMul, Nat.reduceLeDiff, Nat.reduceLT, ↓reduceIte, reduceCtorEq, Int.reduceEq, Int.reduceLE, Int.reduceLT, Int.reduceToNat, Int.reduceNeg, Int.reduceSub, Int.reduceAdd, Int.reduceMul, ltT, ltF, leT, leF, neF, catT, mkT, appT, wrap_id, List.length_map, Int.toNat_natCast, h0, h1, spec_l26Body_ok hp]
      · rw [if_neg h1]
        have h2 := bodyN_at (by omega : 0 ≤ bodyN p)
        have h3 := bodyN_le p
        obtain ⟨v, h4, h5⟩ := numR_at x.fMem (j := p + 2) (by omega) (by omega)
        have hv := hok v (List.mem_of_getElem? h5)
        have ih := ih0 v (A ++ [bodyN p]) (by simp; omega) hv
        have hrow : numR (A ++ [bodyN p]) = numR A ++ [[DI (bodyN p)]] := by simp
        rw [hrow] at ih
        rw [h5, Option.getD_some, ← ih]
        simp (maxSteps := 2000000) (implicitDefEqProofs := false) (disch := (first | omega | assumption | (refine ⟨?_, ?_⟩ <;> omega) | (unfold catOk; (try simp only [ByteArray.size_append, size_lit, List.length_cons, List.length_nil]); omega) | (unfold mkOk; omega) | (unfold appOk; (try simp only [List.length_map, List.length_append, List.length_cons, List.length_nil]); omega))) only [go_sem, Nat.reduceEqDiff, Nat.reduceBEq, Nat.reduceAdd, Nat.reduceSub, Nat.reduceMul, Nat.reduceLeDiff, Nat.reduceLT, ↓reduceIte, reduceCtorEq, Int.reduceEq, Int.reduceLE, Int.reduceLT, Int.reduceToNat, Int.reduceNeg, Int.reduceSub, Int.reduceAdd, Int.reduceMul, ltT, ltF, leT, leF, neF, catT, mkT, appT, wrap_id, List.length_map, Int.toNat_natCast, h0, h1, spec_l26Body_ok hp, h4, List.all_cons, List.all_nil]
theorem spec_Queue_ok (x : TMachine) (hx : x.ok) (hs : x.sm) : call tab spec_Queue [x.x] = some (.d (.s 1 (numR (queueR x.fMem)))) := by
  rw [call_of t_spec_Queue _ rfl, c_spec_Queue]
  have hm := hs.2.1
  by_cases h0 : x.fMem.length < 2200
  · have h1 : queueR x.fMem = [] := by unfold queueR; rw [if_pos h0]
    rw [h1]
    simp (maxSteps := 2000000) (implicitDefEqProofs := false) (disch := (first | omega | assumption | (refine ⟨?_, ?_⟩ <;> omega) | (unfold catOk; (try simp only [ByteArray.size_append, size_lit, List.length_cons, List.length_nil]); omega) | (unfold mkOk; omega) | (unfold appOk; (try simp only [List.length_map, List.length_append, List.length_cons, List.length_nil]); omega))) only [go_sem, Nat.reduceEqDiff, Nat.reduceBEq, Nat.reduceAdd, Nat.reduceSub, Nat.reduceMul, Nat.reduceLeDiff, Nat.reduceLT, ↓reduceIte, reduceCtorEq, Int.reduceEq, Int.reduceLE, Int.reduceLT, Int.reduceToNat, Int.reduceNeg, Int.reduceSub, Int.reduceAdd, Int.reduceMul, ltT, ltF, leT, leF, neF, catT, mkT, appT, wrap_id, List.length_map, Int.toNat_natCast, TMachine.x, List.map_nil]
  · obtain ⟨v, h4, h5⟩ := numR_at x.fMem (j := 1) (by omega) (by omega)
    simp only [Int.reduceToNat] at h4 h5
    have hv := hx.fMem.2 v (List.mem_of_getElem? h5)
    have hl := spec_Queue_l0 x hm (by omega) hx.fMem.2 6 v [] rfl hv
    have h1 : queueR x.fMem = (queueO x.fMem 6 v []).getD [] := by unfold queueR; rw [if_neg h0, h5]; rfl
    rw [h1]
    simp only [List.map_nil] at hl
    cases hq : queueO x.fMem 6 v [] with
    | none =>
      simp only [hq] at hl
      simp (maxSteps := 2000000) (implicitDefEqProofs := false) (disch := (first | omega | assumption | (refine ⟨?_, ?_⟩ <;> omega) | (unfold catOk; (try simp only [ByteArray.size_append, size_lit, List.length_cons, List.length_nil]); omega) | (unfold mkOk; omega) | (unfold appOk; (try simp only [List.length_map, List.length_append, List.length_cons, List.length_nil]); omega))) only [go_sem, Nat.reduceEqDiff, Nat.reduceBEq, Nat.reduceAdd, Nat.reduceSub, Nat.reduceMul, Nat.reduceLeDiff, Nat.reduceLT, ↓reduceIte, reduceCtorEq, Int.reduceEq, Int.reduceLE, Int.reduceLT, Int.reduceToNat, Int.reduceNeg, Int.reduceSub, Int.reduceAdd, Int.reduceMul, ltT, ltF, leT, leF, neF, catT, mkT, appT, wrap_id, List.length_map, Int.toNat_natCast, TMachine.x, h4, hl, List.map_nil]
    | some ls =>
      simp only [hq] at hl
      simp (maxSteps := 2000000) (implicitDefEqProofs := false) (disch := (first | omega | assumption | (refine ⟨?_, ?_⟩ <;> omega) | (unfold catOk; (try simp only [ByteArray.size_append, size_lit, List.length_cons, List.length_nil]); omega) | (unfold mkOk; omega) | (unfold appOk; (try simp only [List.length_map, List.length_append, List.length_cons, List.length_nil]); omega))) only [go_sem, Nat.reduceEqDiff, Nat.reduceBEq, Nat.reduceAdd, Nat.reduceSub, Nat.reduceMul, Nat.reduceLeDiff, Nat.reduceLT, ↓reduceIte, reduceCtorEq, Int.reduceEq, Int.reduceLE, Int.reduceLT, Int.reduceToNat, Int.reduceNeg, Int.reduceSub, Int.reduceAdd, Int.reduceMul, ltT, ltF, leT, leF, neF, catT, mkT, appT, wrap_id, List.length_map, Int.toNat_natCast, TMachine.x, h4, hl]
theorem law_FnExactQueue (x : TMachine) (hx : x.ok) : call tab laws_FnExactQueue [x.x] = some (B true) := by
  rw [call_of t_laws_FnExactQueue _ rfl, c_laws_FnExactQueue]
  have hs := laws_szMachine_ok x 1048576 (by omega) hx
  by_cases h0 : (1048576 : Int) < x.sz
  · rw [if_pos h0] at hs
    simp (maxSteps := 2000000) (implicitDefEqProofs := false) (disch := (first | omega | assumption | (refine ⟨?_, ?_⟩ <;> omega) | (unfold catOk; (try simp only [ByteArray.size_append, size_lit, List.length_cons, List.length_nil]); omega) | (unfold mkOk; omega) | (unfold appOk; (try simp only [List.length_map, List.length_append, List.length_cons, List.length_nil]); omega))) only [go_sem, Nat.reduceEqDiff, Nat.reduceBEq, Nat.reduceAdd, Nat.reduceSub, Nat.reduceMul, Nat.reduceLeDiff, Nat.reduceLT, ↓reduceIte, reduceCtorEq, Int.reduceEq, Int.reduceLE, Int.reduceLT, Int.reduceToNat, Int.reduceNeg, Int.reduceSub, Int.reduceAdd, Int.reduceMul, ltT, ltF, leT, leF, neF, catT, mkT, appT, wrap_id, List.length_map, Int.toNat_natCast, TMachine.x, hs]
  · rw [if_neg h0] at hs
    have hm := TMachine.sm_of (x := x) (by omega)
    have hct := x.ctv_le
    have hcn : 0 ≤ x.ctv := by
      have := TIns.cts_nn x.fImage; have := TCore.cts_nn x.fCores; have := TNote.cts_nn x.fNotes
      unfold TMachine.ctv; omega
    have hlen := queueR_len x.fMem
    have hmk := laws_markMachine_ok x 1 (by omega) (by omega)
    have hmi := laws_markIntS_ok (queueR x.fMem) 1 (by omega) (by omega)
    have hhi := laws_heldIntS_ok (queueR x.fMem) 1 (by omega) (by omega)
    have heq := laws_eqIntS_ok (queueR x.fMem) (by omega)
    simp (maxSteps := 2000000) (implicitDefEqProofs := false) (disch := (first | omega | assumption | (refine ⟨?_, ?_⟩ <;> omega) | (unfold catOk; (try simp only [ByteArray.size_append, size_lit, List.length_cons, List.length_nil]); omega) | (unfold mkOk; omega) | (unfold appOk; (try simp only [List.length_map, List.length_append, List.length_cons, List.length_nil]); omega))) only [go_sem, Nat.reduceEqDiff, Nat.reduceBEq, Nat.reduceAdd, Nat.reduceSub, Nat.reduceMul, Nat.reduceLeDiff, Nat.reduceLT, ↓reduceIte, reduceCtorEq, Int.reduceEq, Int.reduceLE, Int.reduceLT, Int.reduceToNat, Int.reduceNeg, Int.reduceSub, Int.reduceAdd, Int.reduceMul, ltT, ltF, leT, leF, neF, catT, mkT, appT, wrap_id, List.length_map, Int.toNat_natCast, TMachine.x, hs, laws_toMachine_ok x hm, spec_Queue_ok x hx hm, impl_Queue_ok x hx hm, laws_eqMachine_ok x hm, TIns.fzs, TCore.fzs, TNote.fzs, fzs_numR, TMachine.xo, hmk, hmi, hhi, heq, noR_numR, TIns.noR, TCore.noR, TNote.noR]
theorem pure_FnExactQueue (xs : List X) (h : fitXs [(true, [.l 48 [.i .i64, .i .i64, .i .i64, .i .i64, .i .i64, .i .i64], .l 8 [.i .i64], .l 40 [.i .i64, .i .i64, .l 8 [.i .i64]], .l 8 [.i .i64], .l 16 [.i .i64, .i .i64], .b, .i .i64])] xs) : call tab laws_FnExactQueue xs = some (.d (.v (.bool true))) := by
  simp only [fitXs, fitX] at h
  obtain ⟨x, r, rfl, ⟨ds, rfl, hf⟩, rfl⟩ := h
  obtain ⟨y, rfl, hy⟩ := TMachine.fit hf
  exact law_FnExactQueue y hy
end Go.Ev.G
