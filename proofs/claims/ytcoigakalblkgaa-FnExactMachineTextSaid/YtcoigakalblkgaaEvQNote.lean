/- The laws' own helpers on the type Note: written by genq.py. -/
import Derived.Test.YtcoigakalblkgaaEvQInt
set_option linter.all false
namespace Go.Ev.G
set_option maxRecDepth 8000
set_option maxHeartbeats 4000000
structure TNote where
  fWho : Int
  fWhat : Int
def TNote.r (x : TNote) : List D := [DI x.fWho, DI x.fWhat]
def TNote.o (x : TNote) : List D := [DI x.fWho, DI x.fWhat]
abbrev TNote.x (x : TNote) : X := .agg [I x.fWho, I x.fWhat]
abbrev TNote.xo (x : TNote) : X := .agg [I x.fWho, I x.fWhat]
theorem TNote.fzl (x : TNote) : fzl x.o = x.r := by simp only [TNote.o, TNote.r, Ev.fzl, D.fz, fzs_numR]
theorem TNote.fzlr (x : TNote) : Ev.fzl x.r = x.r := by simp only [TNote.r, Ev.fzl, D.fz, fzs_numR]
theorem TNote.fzs (xs : List TNote) : fzs (xs.map TNote.o) = xs.map TNote.r := fzs_map _ _ TNote.fzl xs
theorem TNote.fzr (xs : List TNote) : Ev.fzs (xs.map TNote.r) = xs.map TNote.r := fzs_map _ _ TNote.fzlr xs
theorem TNote.noR (xs : List TNote) : D.noR.noRss (xs.map TNote.o) = true := noRss_map _ (fun x => by simp only [TNote.o, D.noR.noRs, D.noR, Bool.and_true, Bool.true_and, noR_numR]) xs
def TNote.sz (x : TNote) : Int := 0
def TNote.szs (xs : List TNote) : Int := xs.length
theorem TNote.szs_nn (xs : List TNote) : 0 ≤ TNote.szs xs ∧ (xs.length : Int) ≤ TNote.szs xs := by unfold TNote.szs; omega
def TNote.sm (x : TNote) : Prop := True
structure TNote.ok (x : TNote) : Prop where
  fWho : i64 x.fWho
  fWhat : i64 x.fWhat
theorem TNote.fit {c : List D} (h : fitL [.i .i64, .i .i64] c) : ∃ x : TNote, c = x.r ∧ x.ok := by
  simp only [fitL] at h
  obtain ⟨_, _, rfl, h0, _, _, rfl, h1, rfl⟩ := h
  rw [Ev.fit] at h0; obtain ⟨a0, rfl, g0⟩ := h0
  rw [Ev.fit] at h1; obtain ⟨a1, rfl, g1⟩ := h1
  exact ⟨⟨a0, a1⟩, rfl, ⟨wf64 g0, wf64 g1⟩⟩
def TNote.mk_ (k : Int) (x : TNote) : TNote := ⟨k, k + 1⟩
def TNote.ct (x : TNote) : Int := 1 + 1
theorem TNote.ct_nn (x : TNote) : 1 ≤ x.ct := by
  unfold TNote.ct; omega
def TNote.mks : Int → List TNote → List TNote
  | _, [] => []
  | k, x :: xs => TNote.mk_ k x :: TNote.mks (k + x.ct) xs
def TNote.cts : List TNote → Int
  | [] => 0
  | x :: xs => x.ct + TNote.cts xs
theorem TNote.cts_nn : ∀ xs : List TNote, (xs.length : Int) ≤ TNote.cts xs
  | [] => by simp [TNote.cts]
  | x :: xs => by simp only [TNote.cts, List.length_cons]; have := x.ct_nn; have := TNote.cts_nn xs; omega
theorem TNote.mks_len : ∀ (k : Int) (xs : List TNote), (TNote.mks k xs).length = xs.length
  | _, [] => rfl
  | k, x :: xs => by simp [TNote.mks, TNote.mks_len (k + x.ct) xs]
theorem TNote.ct_le (x : TNote) : x.ct ≤ 64 + 64 * x.sz := by
  unfold TNote.ct TNote.sz; omega
theorem TNote.cts_le : ∀ xs : List TNote, TNote.cts xs ≤ 64 * TNote.szs xs
  | [] => by simp [TNote.cts, TNote.szs]
  | x :: xs => by
    have h1 := x.ct_le; have h2 := TNote.cts_le xs
    have h3 : x.sz = 0 := rfl
    simp only [TNote.cts, TNote.szs, List.length_cons] at *; omega
def TNote.mkv (k : Int) (x : TNote) : TNote := ⟨x.fWho, x.fWhat⟩
def TNote.ctv (x : TNote) : Int := 0
theorem TNote.ctv_le (x : TNote) : x.ctv ≤ 64 * x.sz := by
  unfold TNote.ctv TNote.sz; omega
theorem laws_toNote_ok (x : TNote) (hx : x.sm) : call tab laws_toNote [x.x] = some x.xo := by
  rw [call_of t_laws_toNote _ rfl, c_laws_toNote]
  simp (maxSteps := 2000000) (implicitDefEqProofs := false) (disch := (first | omega | assumption | (refine ⟨?_, ?_⟩ <;> omega) | (unfold catOk; (try simp only [ByteArray.size_append, size_lit, List.length_cons, List.length_nil]); omega) | (unfold mkOk; omega) | (unfold appOk; (try simp only [List.length_map, List.length_append, List.length_cons, List.length_nil]); omega))) only [go_sem, Nat.reduceEqDiff, Nat.reduceBEq, Nat.reduceAdd, Nat.reduceSub, Nat.reduceMul, Nat.reduceLeDiff, Nat.reduceLT, ↓reduceIte, reduceCtorEq, Int.reduceEq, Int.reduceLE, Int.reduceLT, Int.reduceToNat, Int.reduceNeg, Int.reduceSub, Int.reduceAdd, Int.reduceMul, ltT, ltF, leT, leF, neF, catT, mkT, appT, wrap_id, List.length_map, Int.toNat_natCast, TNote.x, TNote.xo]
theorem laws_toNote_cells (v0 : Int) (v1 : Int) : call tab laws_toNote [.agg [I v0, I v1]] = some (.agg [I v0, I v1]) := laws_toNote_ok ⟨v0, v1⟩ trivial
theorem laws_toNoteS_l0 (xs : List TNote) (hx : xs.length ≤ 1048576) : ∀ (B A : List TNote), xs = A ++ B →
    loopW tab [0, 3, 4] b_laws_toNoteS_0 { env := upd (upd (upd emp 4 (some (I (A.length : Int)))) 3 (some (.ref (0, 0) []))) 0 (some (.d (.r (xs.map TNote.r)))), heap := upd emp (0, 0) (some (.s 2 (A.map TNote.o ++ List.replicate B.length [DI 0, DI 0]))), fr := 0, next := 1 } = some (.ext 0, { env := upd emp 3 (some (.ref (0, 0) [])), heap := upd emp (0, 0) (some (.s 2 (xs.map TNote.o))), fr := 0, next := 1 })
  | [], A, h => by
    rw [List.append_nil] at h
    subst h
    unfold loopW
    conv => lhs; arg 1; unfold b_laws_toNoteS_0
    have hx' := hx
    simp (maxSteps := 2000000) (implicitDefEqProofs := false) (disch := (first | omega | assumption | (refine ⟨?_, ?_⟩ <;> omega) | (unfold catOk; (try simp only [ByteArray.size_append, size_lit, List.length_cons, List.length_nil]); omega) | (unfold mkOk; omega) | (unfold appOk; (try simp only [List.length_map, List.length_append, List.length_cons, List.length_nil]); omega))) only [go_sem, Nat.reduceEqDiff, Nat.reduceBEq, Nat.reduceAdd, Nat.reduceSub, Nat.reduceMul, Nat.reduceLeDiff, Nat.reduceLT, ↓reduceIte, reduceCtorEq, Int.reduceEq, Int.reduceLE, Int.reduceLT, Int.reduceToNat, Int.reduceNeg, Int.reduceSub, Int.reduceAdd, Int.reduceMul, ltT, ltF, leT, leF, neF, catT, mkT, appT, wrap_id, List.length_map, Int.toNat_natCast, List.replicate_zero]
  | x :: B, A, h => by
    unfold loopW
    conv => lhs; arg 1; unfold b_laws_toNoteS_0
    have hl : xs.length = A.length + (B.length + 1) := by rw [h]; simp
    have h2 : (xs.map TNote.r)[A.length]? = some x.r := by rw [h]; simp
    have hx' := hx
    have hto := laws_toNote_ok x trivial
    have ih := laws_toNoteS_l0 xs hx B (A ++ [x]) (by simp [h])
    rw [show (((A ++ [x]).length : Nat) : Int) = (A.length : Int) + 1 by simp] at ih
    simp only [List.map_append, List.map_cons, List.map_nil, List.append_assoc, List.cons_append, List.nil_append, TNote.o] at ih
    simp only [TNote.r] at h2
    simp only [TNote.x, TNote.xo] at hto
    simp (maxSteps := 2000000) (implicitDefEqProofs := false) (disch := (first | omega | assumption | (refine ⟨?_, ?_⟩ <;> omega) | (unfold catOk; (try simp only [ByteArray.size_append, size_lit, List.length_cons, List.length_nil]); omega) | (unfold mkOk; omega) | (unfold appOk; (try simp only [List.length_map, List.length_append, List.length_cons, List.length_nil]); omega))) only [go_sem, Nat.reduceEqDiff, Nat.reduceBEq, Nat.reduceAdd, Nat.reduceSub, Nat.reduceMul, Nat.reduceLeDiff, Nat.reduceLT, ↓reduceIte, reduceCtorEq, Int.reduceEq, Int.reduceLE, Int.reduceLT, Int.reduceToNat, Int.reduceNeg, Int.reduceSub, Int.reduceAdd, Int.reduceMul, ltT, ltF, leT, leF, neF, catT, mkT, appT, wrap_id, List.length_map, Int.toNat_natCast, List.length_cons, List.replicate_succ, len_cat, get_mid, set_mid, h2, hto, ih]
theorem laws_toNoteS_ok (xs : List TNote) (hx : xs.length ≤ 1048576) : call tab laws_toNoteS [.d (.r (xs.map TNote.r))] = some (.d (.s 2 (xs.map TNote.o))) := by
  rw [call_of t_laws_toNoteS _ rfl, c_laws_toNoteS]
  have hl := laws_toNoteS_l0 xs hx xs [] rfl
  have hx' := hx
  simp only [List.map_nil, List.nil_append, List.length_nil, Int.cast_ofNat_Int] at hl
  simp (maxSteps := 2000000) (implicitDefEqProofs := false) (disch := (first | omega | assumption | (refine ⟨?_, ?_⟩ <;> omega) | (unfold catOk; (try simp only [ByteArray.size_append, size_lit, List.length_cons, List.length_nil]); omega) | (unfold mkOk; omega) | (unfold appOk; (try simp only [List.length_map, List.length_append, List.length_cons, List.length_nil]); omega))) only [go_sem, Nat.reduceEqDiff, Nat.reduceBEq, Nat.reduceAdd, Nat.reduceSub, Nat.reduceMul, Nat.reduceLeDiff, Nat.reduceLT, ↓reduceIte, reduceCtorEq, Int.reduceEq, Int.reduceLE, Int.reduceLT, Int.reduceToNat, Int.reduceNeg, Int.reduceSub, Int.reduceAdd, Int.reduceMul, ltT, ltF, leT, leF, neF, catT, mkT, appT, wrap_id, List.length_map, Int.toNat_natCast, hl]
theorem laws_eqNote_ok (x : TNote) (hx : x.sm) : call tab laws_eqNote [x.x, x.x] = some (B true) := by
  rw [call_of t_laws_eqNote _ rfl, c_laws_eqNote]
  simp (maxSteps := 2000000) (implicitDefEqProofs := false) (disch := (first | omega | assumption | (refine ⟨?_, ?_⟩ <;> omega) | (unfold catOk; (try simp only [ByteArray.size_append, size_lit, List.length_cons, List.length_nil]); omega) | (unfold mkOk; omega) | (unfold appOk; (try simp only [List.length_map, List.length_append, List.length_cons, List.length_nil]); omega))) only [go_sem, Nat.reduceEqDiff, Nat.reduceBEq, Nat.reduceAdd, Nat.reduceSub, Nat.reduceMul, Nat.reduceLeDiff, Nat.reduceLT, ↓reduceIte, reduceCtorEq, Int.reduceEq, Int.reduceLE, Int.reduceLT, Int.reduceToNat, Int.reduceNeg, Int.reduceSub, Int.reduceAdd, Int.reduceMul, ltT, ltF, leT, leF, neF, catT, mkT, appT, wrap_id, List.length_map, Int.toNat_natCast, TNote.x]
theorem laws_eqNote_cells (v0 : Int) (v1 : Int) : call tab laws_eqNote [.agg [I v0, I v1], .agg [I v0, I v1]] = some (B true) := laws_eqNote_ok ⟨v0, v1⟩ trivial
theorem laws_eqNoteS_l0 (xs : List TNote) (hx : xs.length ≤ 1048576) : ∀ (B A : List TNote), xs = A ++ B →
    loopW tab [0, 1, 5] b_laws_eqNoteS_0 { env := upd (upd (upd emp 5 (some (I (A.length : Int)))) 1 (some (.d (.r (xs.map TNote.r))))) 0 (some (.d (.r (xs.map TNote.r)))), heap := emp, fr := 0, next := 0 } = some (.ext 0, { env := emp, heap := emp, fr := 0, next := 0 })
  | [], A, h => by
    rw [List.append_nil] at h
    subst h
    unfold loopW
    conv => lhs; arg 1; unfold b_laws_eqNoteS_0
    have hx' := hx
    simp (maxSteps := 2000000) (implicitDefEqProofs := false) (disch := (first | omega | assumption | (refine ⟨?_, ?_⟩ <;> omega) | (unfold catOk; (try simp only [ByteArray.size_append, size_lit, List.length_cons, List.length_nil]); omega) | (unfold mkOk; omega) | (unfold appOk; (try simp only [List.length_map, List.length_append, List.length_cons, List.length_nil]); omega))) only [go_sem, Nat.reduceEqDiff, Nat.reduceBEq, Nat.reduceAdd, Nat.reduceSub, Nat.reduceMul, Nat.reduceLeDiff, Nat.reduceLT, ↓reduceIte, reduceCtorEq, Int.reduceEq, Int.reduceLE, Int.reduceLT, Int.reduceToNat, Int.reduceNeg, Int.reduceSub, Int.reduceAdd, Int.reduceMul, ltT, ltF, leT, leF, neF, catT, mkT, appT, wrap_id, List.length_map, Int.toNat_natCast]
  | x :: B, A, h => by
    unfold loopW
    conv => lhs; arg 1; unfold b_laws_eqNoteS_0
    have hl : xs.length = A.length + (B.length + 1) := by rw [h]; simp
    have h2 : (xs.map TNote.r)[A.length]? = some x.r := by rw [h]; simp
    have hx' := hx
    have hto := laws_eqNote_ok x trivial
    have ih := laws_eqNoteS_l0 xs hx B (A ++ [x]) (by simp [h])
    rw [show (((A ++ [x]).length : Nat) : Int) = (A.length : Int) + 1 by simp] at ih
    simp only [TNote.r] at h2
    simp only [TNote.x] at hto
    simp (maxSteps := 2000000) (implicitDefEqProofs := false) (disch := (first | omega | assumption | (refine ⟨?_, ?_⟩ <;> omega) | (unfold catOk; (try simp only [ByteArray.size_append, size_lit, List.length_cons, List.length_nil]); omega) | (unfold mkOk; omega) | (unfold appOk; (try simp only [List.length_map, List.length_append, List.length_cons, List.length_nil]); omega))) only [go_sem, Nat.reduceEqDiff, Nat.reduceBEq, Nat.reduceAdd, Nat.reduceSub, Nat.reduceMul, Nat.reduceLeDiff, Nat.reduceLT, ↓reduceIte, reduceCtorEq, Int.reduceEq, Int.reduceLE, Int.reduceLT, Int.reduceToNat, Int.reduceNeg, Int.reduceSub, Int.reduceAdd, Int.reduceMul, ltT, ltF, leT, leF, neF, catT, mkT, appT, wrap_id, List.length_map, Int.toNat_natCast, h2, hto, ih]
theorem laws_eqNoteS_ok (xs : List TNote) (hx : xs.length ≤ 1048576) : call tab laws_eqNoteS [.d (.r (xs.map TNote.r)), .d (.r (xs.map TNote.r))] = some (B true) := by
  rw [call_of t_laws_eqNoteS _ rfl, c_laws_eqNoteS]
  have hl := laws_eqNoteS_l0 xs hx xs [] rfl
  have hx' := hx
  simp only [List.length_nil, Int.cast_ofNat_Int] at hl
  simp (maxSteps := 2000000) (implicitDefEqProofs := false) (disch := (first | omega | assumption | (refine ⟨?_, ?_⟩ <;> omega) | (unfold catOk; (try simp only [ByteArray.size_append, size_lit, List.length_cons, List.length_nil]); omega) | (unfold mkOk; omega) | (unfold appOk; (try simp only [List.length_map, List.length_append, List.length_cons, List.length_nil]); omega))) only [go_sem, Nat.reduceEqDiff, Nat.reduceBEq, Nat.reduceAdd, Nat.reduceSub, Nat.reduceMul, Nat.reduceLeDiff, Nat.reduceLT, ↓reduceIte, reduceCtorEq, Int.reduceEq, Int.reduceLE, Int.reduceLT, Int.reduceToNat, Int.reduceNeg, Int.reduceSub, Int.reduceAdd, Int.reduceMul, ltT, ltF, leT, leF, neF, catT, mkT, appT, wrap_id, List.length_map, Int.toNat_natCast, hl]
theorem laws_szNoteS_ok (xs : List TNote) (n : Int) (hn : -1 ≤ n ∧ n ≤ 1048576) (hx : xs.length ≤ 4611686018427387904) : call tab laws_szNoteS [.d (.r (xs.map TNote.r)), I n] = some (I (if n - xs.length < 0 then -1 else n - xs.length)) := by
  rw [call_of t_laws_szNoteS _ rfl, c_laws_szNoteS]
  by_cases h : n - (xs.length : Int) < 0
  · rw [if_pos h]
    simp (maxSteps := 2000000) (implicitDefEqProofs := false) (disch := (first | omega | assumption | (refine ⟨?_, ?_⟩ <;> omega) | (unfold catOk; (try simp only [ByteArray.size_append, size_lit, List.length_cons, List.length_nil]); omega) | (unfold mkOk; omega) | (unfold appOk; (try simp only [List.length_map, List.length_append, List.length_cons, List.length_nil]); omega))) only [go_sem, Nat.reduceEqDiff, Nat.reduceBEq, Nat.reduceAdd, Nat.reduceSub, Nat.reduceMul, Nat.reduceLeDiff, Nat.reduceLT, ↓reduceIte, reduceCtorEq, Int.reduceEq, Int.reduceLE, Int.reduceLT, Int.reduceToNat, Int.reduceNeg, Int.reduceSub, Int.reduceAdd, Int.reduceMul, ltT, ltF, leT, leF, neF, catT, mkT, appT, wrap_id, List.length_map, Int.toNat_natCast, h]
  · rw [if_neg h]
    simp (maxSteps := 2000000) (implicitDefEqProofs := false) (disch := (first | omega | assumption | (refine ⟨?_, ?_⟩ <;> omega) | (unfold catOk; (try simp only [ByteArray.size_append, size_lit, List.length_cons, List.length_nil]); omega) | (unfold mkOk; omega) | (unfold appOk; (try simp only [List.length_map, List.length_append, List.length_cons, List.length_nil]); omega))) only [go_sem, Nat.reduceEqDiff, Nat.reduceBEq, Nat.reduceAdd, Nat.reduceSub, Nat.reduceMul, Nat.reduceLeDiff, Nat.reduceLT, ↓reduceIte, reduceCtorEq, Int.reduceEq, Int.reduceLE, Int.reduceLT, Int.reduceToNat, Int.reduceNeg, Int.reduceSub, Int.reduceAdd, Int.reduceMul, ltT, ltF, leT, leF, neF, catT, mkT, appT, wrap_id, List.length_map, Int.toNat_natCast, h]
end Go.Ev.G
