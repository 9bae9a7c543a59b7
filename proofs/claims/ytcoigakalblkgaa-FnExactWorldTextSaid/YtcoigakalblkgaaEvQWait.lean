/- The laws' own helpers on the type Wait: written by genq.py. -/
import Derived.Test.YtcoigakalblkgaaEvQInt
set_option linter.all false
namespace Go.Ev.G
set_option maxRecDepth 8000
set_option maxHeartbeats 4000000
structure TWait where
  fBody : Int
  fTicket : Int
  fValue : Int
  fCase : Int
def TWait.r (x : TWait) : List D := [DI x.fBody, DI x.fTicket, DI x.fValue, DI x.fCase]
def TWait.o (x : TWait) : List D := [DI x.fBody, DI x.fTicket, DI x.fValue, DI x.fCase]
abbrev TWait.x (x : TWait) : X := .agg [I x.fBody, I x.fTicket, I x.fValue, I x.fCase]
abbrev TWait.xo (x : TWait) : X := .agg [I x.fBody, I x.fTicket, I x.fValue, I x.fCase]
theorem TWait.fzl (x : TWait) : fzl x.o = x.r := by simp only [TWait.o, TWait.r, Ev.fzl, D.fz, fzs_numR]
theorem TWait.fzlr (x : TWait) : Ev.fzl x.r = x.r := by simp only [TWait.r, Ev.fzl, D.fz, fzs_numR]
theorem TWait.fzs (xs : List TWait) : fzs (xs.map TWait.o) = xs.map TWait.r := fzs_map _ _ TWait.fzl xs
theorem TWait.fzr (xs : List TWait) : Ev.fzs (xs.map TWait.r) = xs.map TWait.r := fzs_map _ _ TWait.fzlr xs
theorem TWait.noR (xs : List TWait) : D.noR.noRss (xs.map TWait.o) = true := noRss_map _ (fun x => by simp only [TWait.o, D.noR.noRs, D.noR, Bool.and_true, Bool.true_and, noR_numR]) xs
def TWait.sz (x : TWait) : Int := 0
def TWait.szs (xs : List TWait) : Int := xs.length
theorem TWait.szs_nn (xs : List TWait) : 0 ≤ TWait.szs xs ∧ (xs.length : Int) ≤ TWait.szs xs := by unfold TWait.szs; omega
def TWait.sm (x : TWait) : Prop := True
structure TWait.ok (x : TWait) : Prop where
  fBody : i64 x.fBody
  fTicket : i64 x.fTicket
  fValue : i64 x.fValue
  fCase : i64 x.fCase
theorem TWait.fit {c : List D} (h : fitL [.i .i64, .i .i64, .i .i64, .i .i64] c) : ∃ x : TWait, c = x.r ∧ x.ok := by
  simp only [fitL] at h
  obtain ⟨_, _, rfl, h0, _, _, rfl, h1, _, _, rfl, h2, _, _, rfl, h3, rfl⟩ := h
  rw [Ev.fit] at h0; obtain ⟨a0, rfl, g0⟩ := h0
  rw [Ev.fit] at h1; obtain ⟨a1, rfl, g1⟩ := h1
  rw [Ev.fit] at h2; obtain ⟨a2, rfl, g2⟩ := h2
  rw [Ev.fit] at h3; obtain ⟨a3, rfl, g3⟩ := h3
  exact ⟨⟨a0, a1, a2, a3⟩, rfl, ⟨wf64 g0, wf64 g1, wf64 g2, wf64 g3⟩⟩
def TWait.mk_ (k : Int) (x : TWait) : TWait := ⟨k, k + 1, k + 1 + 1, k + 1 + 1 + 1⟩
def TWait.ct (x : TWait) : Int := 1 + 1 + 1 + 1
theorem TWait.ct_nn (x : TWait) : 1 ≤ x.ct := by
  unfold TWait.ct; omega
def TWait.mks : Int → List TWait → List TWait
  | _, [] => []
  | k, x :: xs => TWait.mk_ k x :: TWait.mks (k + x.ct) xs
def TWait.cts : List TWait → Int
  | [] => 0
  | x :: xs => x.ct + TWait.cts xs
theorem TWait.cts_nn : ∀ xs : List TWait, (xs.length : Int) ≤ TWait.cts xs
  | [] => by simp [TWait.cts]
  | x :: xs => by simp only [TWait.cts, List.length_cons]; have := x.ct_nn; have := TWait.cts_nn xs; omega
theorem TWait.mks_len : ∀ (k : Int) (xs : List TWait), (TWait.mks k xs).length = xs.length
  | _, [] => rfl
  | k, x :: xs => by simp [TWait.mks, TWait.mks_len (k + x.ct) xs]
theorem TWait.ct_le (x : TWait) : x.ct ≤ 64 + 64 * x.sz := by
  unfold TWait.ct TWait.sz; omega
theorem TWait.cts_le : ∀ xs : List TWait, TWait.cts xs ≤ 64 * TWait.szs xs
  | [] => by simp [TWait.cts, TWait.szs]
  | x :: xs => by
    have h1 := x.ct_le; have h2 := TWait.cts_le xs
    have h3 : x.sz = 0 := rfl
    simp only [TWait.cts, TWait.szs, List.length_cons] at *; omega
def TWait.mkv (k : Int) (x : TWait) : TWait := ⟨x.fBody, x.fTicket, x.fValue, x.fCase⟩
def TWait.ctv (x : TWait) : Int := 0
theorem TWait.ctv_le (x : TWait) : x.ctv ≤ 64 * x.sz := by
  unfold TWait.ctv TWait.sz; omega
theorem laws_toWait_ok (x : TWait) (hx : x.sm) : call tab laws_toWait [x.x] = some x.xo := by
  rw [call_of t_laws_toWait _ rfl, c_laws_toWait]
  simp (maxSteps := 2000000) (implicitDefEqProofs := false) (disch := (first | omega | assumption | (refine ⟨?_, ?_⟩ <;> omega) | (unfold catOk; (try simp only [ByteArray.size_append, size_lit, List.length_cons, List.length_nil]); omega) | (unfold mkOk; omega) | (unfold appOk; (try simp only [List.length_map, List.length_append, List.length_cons, List.length_nil]); omega))) only [go_sem, Nat.reduceEqDiff, Nat.reduceBEq, Nat.reduceAdd, Nat.reduceSub, Nat.reduceMul, Nat.reduceLeDiff, Nat.reduceLT, ↓reduceIte, reduceCtorEq, Int.reduceEq, Int.reduceLE, Int.reduceLT, Int.reduceToNat, Int.reduceNeg, Int.reduceSub, Int.reduceAdd, Int.reduceMul, ltT, ltF, leT, leF, neF, catT, mkT, appT, wrap_id, List.length_map, Int.toNat_natCast, TWait.x, TWait.xo]
theorem laws_toWait_cells (v0 : Int) (v1 : Int) (v2 : Int) (v3 : Int) : call tab laws_toWait [.agg [I v0, I v1, I v2, I v3]] = some (.agg [I v0, I v1, I v2, I v3]) := laws_toWait_ok ⟨v0, v1, v2, v3⟩ trivial
theorem laws_toWaitS_l0 (xs : List TWait) (hx : xs.length ≤ 1048576) : ∀ (B A : List TWait), xs = A ++ B →
    loopW tab [0, 3, 4] b_laws_toWaitS_0 { env := upd (upd (upd emp 4 (some (I (A.length : Int)))) 3 (some (.ref (0, 0) []))) 0 (some (.d (.r (xs.map TWait.r)))), heap := upd emp (0, 0) (some (.s 4 (A.map TWait.o ++ List.replicate B.length [DI 0, DI 0, DI 0, DI 0]))), fr := 0, next := 1 } = some (.ext 0, { env := upd emp 3 (some (.ref (0, 0) [])), heap := upd emp (0, 0) (some (.s 4 (xs.map TWait.o))), fr := 0, next := 1 })
  | [], A, h => by
    rw [List.append_nil] at h
    subst h
    unfold loopW
    conv => lhs; arg 1; unfold b_laws_toWaitS_0
    have hx' := hx
    simp (maxSteps := 2000000) (implicitDefEqProofs := false) (disch := (first | omega | assumption | (refine ⟨?_, ?_⟩ <;> omega) | (unfold catOk; (try simp only [ByteArray.size_append, size_lit, List.length_cons, List.length_nil]); omega) | (unfold mkOk; omega) | (unfold appOk; (try simp only [List.length_map, List.length_append, List.length_cons, List.length_nil]); omega))) only [go_sem, Nat.reduceEqDiff, Nat.reduceBEq, Nat.reduceAdd, Nat.reduceSub, Nat.reduceMul, Nat.reduceLeDiff, Nat.reduceLT, ↓reduceIte, reduceCtorEq, Int.reduceEq, Int.reduceLE, Int.reduceLT, Int.reduceToNat, Int.reduceNeg, Int.reduceSub, Int.reduceAdd, Int.reduceMul, ltT, ltF, leT, leF, neF, catT, mkT, appT, wrap_id, List.length_map, Int.toNat_natCast, List.replicate_zero]
  | x :: B, A, h => by
    unfold loopW
    conv => lhs; arg 1; unfold b_laws_toWaitS_0
    have hl : xs.length = A.length + (B.length + 1) := by rw [h]; simp
    have h2 : (xs.map TWait.r)[A.length]? = some x.r := by rw [h]; simp
    have hx' := hx
    have hto := laws_toWait_ok x trivial
    have ih := laws_toWaitS_l0 xs hx B (A ++ [x]) (by simp [h])
    rw [show (((A ++ [x]).length : Nat) : Int) = (A.length : Int) + 1 by simp] at ih
    simp only [List.map_append, List.map_cons, List.map_nil, List.append_assoc, List.cons_append, List.nil_append, TWait.o] at ih
    simp only [TWait.r] at h2
    simp only [TWait.x, TWait.xo] at hto
    simp (maxSteps := 2000000) (implicitDefEqProofs := false) (disch := (first | omega | assumption | (refine ⟨?_, ?_⟩ <;> omega) | (unfold catOk; (try simp only [ByteArray.size_append, size_lit, List.length_cons, List.length_nil]); omega) | (unfold mkOk; omega) | (unfold appOk; (try simp only [List.length_map, List.length_append, List.length_cons, List.length_nil]); omega))) only [go_sem, Nat.reduceEqDiff, Nat.reduceBEq, Nat.reduceAdd, Nat.reduceSub, Nat.reduceMul, Nat.reduceLeDiff, Nat.reduceLT, ↓reduceIte, reduceCtorEq, Int.reduceEq, Int.reduceLE, Int.reduceLT, Int.reduceToNat, Int.reduceNeg, Int.reduceSub, Int.reduceAdd, Int.reduceMul, ltT, ltF, leT, leF, neF, catT, mkT, appT, wrap_id, List.length_map, Int.toNat_natCast, List.length_cons, List.replicate_succ, len_cat, get_mid, set_mid, h2, hto, ih]
theorem laws_toWaitS_ok (xs : List TWait) (hx : xs.length ≤ 1048576) : call tab laws_toWaitS [.d (.r (xs.map TWait.r))] = some (.d (.s 4 (xs.map TWait.o))) := by
  rw [call_of t_laws_toWaitS _ rfl, c_laws_toWaitS]
  have hl := laws_toWaitS_l0 xs hx xs [] rfl
  have hx' := hx
  simp only [List.map_nil, List.nil_append, List.length_nil, Int.cast_ofNat_Int] at hl
  simp (maxSteps := 2000000) (implicitDefEqProofs := false) (disch := (first | omega | assumption | (refine ⟨?_, ?_⟩ <;> omega) | (unfold catOk; (try simp only [ByteArray.size_append, size_lit, List.length_cons, List.length_nil]); omega) | (unfold mkOk; omega) | (unfold appOk; (try simp only [List.length_map, List.length_append, List.length_cons, List.length_nil]); omega))) only [go_sem, Nat.reduceEqDiff, Nat.reduceBEq, Nat.reduceAdd, Nat.reduceSub, Nat.reduceMul, Nat.reduceLeDiff, Nat.reduceLT, ↓reduceIte, reduceCtorEq, Int.reduceEq, Int.reduceLE, Int.reduceLT, Int.reduceToNat, Int.reduceNeg, Int.reduceSub, Int.reduceAdd, Int.reduceMul, ltT, ltF, leT, leF, neF, catT, mkT, appT, wrap_id, List.length_map, Int.toNat_natCast, hl]
theorem laws_eqWait_ok (x : TWait) (hx : x.sm) : call tab laws_eqWait [x.x, x.x] = some (B true) := by
  rw [call_of t_laws_eqWait _ rfl, c_laws_eqWait]
  simp (maxSteps := 2000000) (implicitDefEqProofs := false) (disch := (first | omega | assumption | (refine ⟨?_, ?_⟩ <;> omega) | (unfold catOk; (try simp only [ByteArray.size_append, size_lit, List.length_cons, List.length_nil]); omega) | (unfold mkOk; omega) | (unfold appOk; (try simp only [List.length_map, List.length_append, List.length_cons, List.length_nil]); omega))) only [go_sem, Nat.reduceEqDiff, Nat.reduceBEq, Nat.reduceAdd, Nat.reduceSub, Nat.reduceMul, Nat.reduceLeDiff, Nat.reduceLT, ↓reduceIte, reduceCtorEq, Int.reduceEq, Int.reduceLE, Int.reduceLT, Int.reduceToNat, Int.reduceNeg, Int.reduceSub, Int.reduceAdd, Int.reduceMul, ltT, ltF, leT, leF, neF, catT, mkT, appT, wrap_id, List.length_map, Int.toNat_natCast, TWait.x]
theorem laws_eqWait_cells (v0 : Int) (v1 : Int) (v2 : Int) (v3 : Int) : call tab laws_eqWait [.agg [I v0, I v1, I v2, I v3], .agg [I v0, I v1, I v2, I v3]] = some (B true) := laws_eqWait_ok ⟨v0, v1, v2, v3⟩ trivial
theorem laws_eqWaitS_l0 (xs : List TWait) (hx : xs.length ≤ 1048576) : ∀ (B A : List TWait), xs = A ++ B →
    loopW tab [0, 1, 5] b_laws_eqWaitS_0 { env := upd (upd (upd emp 5 (some (I (A.length : Int)))) 1 (some (.d (.r (xs.map TWait.r))))) 0 (some (.d (.r (xs.map TWait.r)))), heap := emp, fr := 0, next := 0 } = some (.ext 0, { env := emp, heap := emp, fr := 0, next := 0 })
  | [], A, h => by
    rw [List.append_nil] at h
    subst h
    unfold loopW
    conv => lhs; arg 1; unfold b_laws_eqWaitS_0
    have hx' := hx
    simp (maxSteps := 2000000) (implicitDefEqProofs := false) (disch := (first | omega | assumption | (refine ⟨?_, ?_⟩ <;> omega) | (unfold catOk; (try simp only [ByteArray.size_append, size_lit, List.length_cons, List.length_nil]); omega) | (unfold mkOk; omega) | (unfold appOk; (try simp only [List.length_map, List.length_append, List.length_cons, List.length_nil]); omega))) only [go_sem, Nat.reduceEqDiff, Nat.reduceBEq, Nat.reduceAdd, Nat.reduceSub, Nat.reduceMul, Nat.reduceLeDiff, Nat.reduceLT, ↓reduceIte, reduceCtorEq, Int.reduceEq, Int.reduceLE, Int.reduceLT, Int.reduceToNat, Int.reduceNeg, Int.reduceSub, Int.reduceAdd, Int.reduceMul, ltT, ltF, leT, leF, neF, catT, mkT, appT, wrap_id, List.length_map, Int.toNat_natCast]
  | x :: B, A, h => by
    unfold loopW
    conv => lhs; arg 1; unfold b_laws_eqWaitS_0
    have hl : xs.length = A.length + (B.length + 1) := by rw [h]; simp
    have h2 : (xs.map TWait.r)[A.length]? = some x.r := by rw [h]; simp
    have hx' := hx
    have hto := laws_eqWait_ok x trivial
    have ih := laws_eqWaitS_l0 xs hx B (A ++ [x]) (by simp [h])
    rw [show (((A ++ [x]).length : Nat) : Int) = (A.length : Int) + 1 by simp] at ih
    simp only [TWait.r] at h2
    simp only [TWait.x] at hto
    simp (maxSteps := 2000000) (implicitDefEqProofs := false) (disch := (first | omega | assumption | (refine ⟨?_, ?_⟩ <;> omega) | (unfold catOk; (try simp only [ByteArray.size_append, size_lit, List.length_cons, List.length_nil]); omega) | (unfold mkOk; omega) | (unfold appOk; (try simp only [List.length_map, List.length_append, List.length_cons, List.length_nil]); omega))) only [go_sem, Nat.reduceEqDiff, Nat.reduceBEq, Nat.reduceAdd, Nat.reduceSub, Nat.reduceMul, Nat.reduceLeDiff, Nat.reduceLT, ↓reduceIte, reduceCtorEq, Int.reduceEq, Int.reduceLE, Int.reduceLT, Int.reduceToNat, Int.reduceNeg, Int.reduceSub, Int.reduceAdd, Int.reduceMul, ltT, ltF, leT, leF, neF, catT, mkT, appT, wrap_id, List.length_map, Int.toNat_natCast, h2, hto, ih]
theorem laws_eqWaitS_ok (xs : List TWait) (hx : xs.length ≤ 1048576) : call tab laws_eqWaitS [.d (.r (xs.map TWait.r)), .d (.r (xs.map TWait.r))] = some (B true) := by
  rw [call_of t_laws_eqWaitS _ rfl, c_laws_eqWaitS]
  have hl := laws_eqWaitS_l0 xs hx xs [] rfl
  have hx' := hx
  simp only [List.length_nil, Int.cast_ofNat_Int] at hl
  simp (maxSteps := 2000000) (implicitDefEqProofs := false) (disch := (first | omega | assumption | (refine ⟨?_, ?_⟩ <;> omega) | (unfold catOk; (try simp only [ByteArray.size_append, size_lit, List.length_cons, List.length_nil]); omega) | (unfold mkOk; omega) | (unfold appOk; (try simp only [List.length_map, List.length_append, List.length_cons, List.length_nil]); omega))) only [go_sem, Nat.reduceEqDiff, Nat.reduceBEq, Nat.reduceAdd, Nat.reduceSub, Nat.reduceMul, Nat.reduceLeDiff, Nat.reduceLT, ↓reduceIte, reduceCtorEq, Int.reduceEq, Int.reduceLE, Int.reduceLT, Int.reduceToNat, Int.reduceNeg, Int.reduceSub, Int.reduceAdd, Int.reduceMul, ltT, ltF, leT, leF, neF, catT, mkT, appT, wrap_id, List.length_map, Int.toNat_natCast, hl]
theorem laws_szWaitS_ok (xs : List TWait) (n : Int) (hn : -1 ≤ n ∧ n ≤ 1048576) (hx : xs.length ≤ 4611686018427387904) : call tab laws_szWaitS [.d (.r (xs.map TWait.r)), I n] = some (I (if n - xs.length < 0 then -1 else n - xs.length)) := by
  rw [call_of t_laws_szWaitS _ rfl, c_laws_szWaitS]
  by_cases h : n - (xs.length : Int) < 0
  · rw [if_pos h]
    simp (maxSteps := 2000000) (implicitDefEqProofs := false) (disch := (first | omega | assumption | (refine ⟨?_, ?_⟩ <;> omega) | (unfold catOk; (try simp only [ByteArray.size_append, size_lit, List.length_cons, List.length_nil]); omega) | (unfold mkOk; omega) | (unfold appOk; (try simp only [List.length_map, List.length_append, List.length_cons, List.length_nil]); omega))) only [go_sem, Nat.reduceEqDiff, Nat.reduceBEq, Nat.reduceAdd, Nat.reduceSub, Nat.reduceMul, Nat.reduceLeDiff, Nat.reduceLT, ↓reduceIte, reduceCtorEq, Int.reduceEq, Int.reduceLE, Int.reduceLT, Int.reduceToNat, Int.reduceNeg, Int.reduceSub, Int.reduceAdd, Int.reduceMul, ltT, ltF, leT, leF, neF, catT, mkT, appT, wrap_id, List.length_map, Int.toNat_natCast, h]
  · rw [if_neg h]
    simp (maxSteps := 2000000) (implicitDefEqProofs := false) (disch := (first | omega | assumption | (refine ⟨?_, ?_⟩ <;> omega) | (unfold catOk; (try simp only [ByteArray.size_append, size_lit, List.length_cons, List.length_nil]); omega) | (unfold mkOk; omega) | (unfold appOk; (try simp only [List.length_map, List.length_append, List.length_cons, List.length_nil]); omega))) only [go_sem, Nat.reduceEqDiff, Nat.reduceBEq, Nat.reduceAdd, Nat.reduceSub, Nat.reduceMul, Nat.reduceLeDiff, Nat.reduceLT, ↓reduceIte, reduceCtorEq, Int.reduceEq, Int.reduceLE, Int.reduceLT, Int.reduceToNat, Int.reduceNeg, Int.reduceSub, Int.reduceAdd, Int.reduceMul, ltT, ltF, leT, leF, neF, catT, mkT, appT, wrap_id, List.length_map, Int.toNat_natCast, h]
end Go.Ev.G
