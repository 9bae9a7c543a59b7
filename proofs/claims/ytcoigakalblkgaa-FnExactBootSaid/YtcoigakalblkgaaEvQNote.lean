/- The laws' own helpers on the type Note: written by genq.py. -/
import Derived.Test.YtcoigakalblkgaaEvQInt
set_option linter.all false
namespace Go.Ev.G
set_option maxRecDepth 8000
set_option maxHeartbeats 4000000
structure TNote where
  fWho : Int
  fWhat : Int
def TNote.r (x : TNote) : List D := [DI x.fWho, DI x.fWhat]
def TNote.o (x : TNote) : List D := [DI x.fWho, DI x.fWhat]
abbrev TNote.x (x : TNote) : X := .agg [I x.fWho, I x.fWhat]
abbrev TNote.xo (x : TNote) : X := .agg [I x.fWho, I x.fWhat]
theorem TNote.fzl (x : TNote) : fzl x.o = x.r := by simp only [TNote.o, TNote.r, Ev.fzl, D.fz, fzs_numR]
theorem TNote.fzs (xs : List TNote) : fzs (xs.map TNote.o) = xs.map TNote.r := fzs_map _ _ TNote.fzl xs
theorem TNote.noR (xs : List TNote) : D.noR.noRss (xs.map TNote.o) = true := noRss_map _ (fun x => by simp only [TNote.o, D.noR.noRs, D.noR, Bool.and_true, Bool.true_and, noR_numR]) xs
def TNote.sz (x : TNote) : Int := 0
def TNote.szs (xs : List TNote) : Int := xs.length
theorem TNote.szs_nn (xs : List TNote) : 0 ≤ TNote.szs xs ∧ (xs.length : Int) ≤ TNote.szs xs := by unfold TNote.szs; omega
def TNote.sm (x : TNote) : Prop := True
structure TNote.ok (x : TNote) : Prop where
  fWho : i64 x.fWho
  fWhat : i64 x.fWhat
theorem TNote.fit {c : List D} (h : fitL [.i .i64, .i .i64] c) : ∃ x : TNote, c = x.r ∧ x.ok := by
  simp only [fitL] at h
  obtain ⟨_, _, rfl, h0, _, _, rfl, h1, rfl⟩ := h
  rw [Ev.fit] at h0; obtain ⟨a0, rfl, g0⟩ := h0
  rw [Ev.fit] at h1; obtain ⟨a1, rfl, g1⟩ := h1
  exact ⟨⟨a0, a1⟩, rfl, ⟨wf64 g0, wf64 g1⟩⟩
def TNote.mk_ (k : Int) (x : TNote) : TNote := ⟨k, k + 1⟩
def TNote.ct (x : TNote) : Int := 1 + 1
theorem TNote.ct_nn (x : TNote) : 1 ≤ x.ct := by
  unfold TNote.ct; omega
def TNote.mks : Int → List TNote → List TNote
  | _, [] => []
  | k, x :: xs => TNote.mk_ k x :: TNote.mks (k + x.ct) xs
def TNote.cts : List TNote → Int
  | [] => 0
  | x :: xs => x.ct + TNote.cts xs
theorem TNote.cts_nn : ∀ xs : List TNote, (xs.length : Int) ≤ TNote.cts xs
  | [] => by simp [TNote.cts]
  | x :: xs => by simp only [TNote.cts, List.length_cons]; have := x.ct_nn; have := TNote.cts_nn xs; omega
theorem TNote.mks_len : ∀ (k : Int) (xs : List TNote), (TNote.mks k xs).length = xs.length
  | _, [] => rfl
  | k, x :: xs => by simp [TNote.mks, TNote.mks_len (k + x.ct) xs]
theorem TNote.ct_le (x : TNote) : x.ct ≤ 64 + 64 * x.sz := by
  unfold TNote.ct TNote.sz; omega
theorem TNote.cts_le : ∀ xs : List TNote, TNote.cts xs ≤ 64 * TNote.szs xs
  | [] => by simp [TNote.cts, TNote.szs]
  | x :: xs => by
    have h1 := x.ct_le; have h2 := TNote.cts_le xs
    have h3 : x.sz = 0 := rfl
    simp only [TNote.cts, TNote.szs, List.length_cons] at *; omega
def TNote.mkv (k : Int) (x : TNote) : TNote := ⟨x.fWho, x.fWhat⟩
def TNote.ctv (x : TNote) : Int := 0
theorem TNote.ctv_le (x : TNote) : x.ctv ≤ 64 * x.sz := by
  unfold TNote.ctv TNote.sz; omega
theorem laws_eqNote_ok (x : TNote) (hx : x.sm) : call tab laws_eqNote [x.x, x.x] = some (B true) := by
  rw [call_of t_laws_eqNote _ rfl, c_laws_eqNote]
  simp (maxSteps := 2000000) (implicitDefEqProofs := false) (disch := (first | omega | assumption | (refine ⟨?_, ?_⟩ <;> omega) | (unfold catOk; (try simp only [ByteArray.size_append, size_lit, List.length_cons, List.length_nil]); omega) | (unfold mkOk; omega) | (unfold appOk; (try simp only [List.length_map, List.length_append, List.length_cons, List.length_nil]); omega))) only [go_sem, Nat.reduceEqDiff, Nat.reduceBEq, Nat.reduceAdd, Nat.reduceSub, Nat.reduceMul, Nat.reduceLeDiff, Nat.reduceLT, ↓reduceIte, reduceCtorEq, Int.reduceEq, Int.reduceLE, Int.reduceLT, Int.reduceToNat, Int.reduceNeg, Int.reduceSub, Int.reduceAdd, Int.reduceMul, ltT, ltF, leT, leF, neF, catT, mkT, appT, wrap_id, List.length_map, Int.toNat_natCast, TNote.x]
theorem laws_eqNoteS_l0 (xs : List TNote) (hx : xs.length ≤ 1048576) : ∀ (B A : List TNote), xs = A ++ B →
    loopW tab [0, 1, 5] b_laws_eqNoteS_0 { env := upd (upd (upd emp 5 (some (I (A.length : Int)))) 1 (some (.d (.r (xs.map TNote.r))))) 0 (some (.d (.r (xs.map TNote.r)))), heap := emp, fr := 0, next := 0 } = some (.ext 0, { env := emp, heap := emp, fr := 0, next := 0 })
  | [], A, h => by
    rw [List.append_nil] at h
    subst h
    unfold loopW
    conv => lhs; arg 1; unfold b_laws_eqNoteS_0
    have hx' := hx
    simp (maxSteps := 2000000) (implicitDefEqProofs := false) (disch := (first | omega | assumption | (refine ⟨?_, ?_⟩ <;> omega) | (unfold catOk; (try simp only [ByteArray.size_append, size_lit, List.length_cons, List.length_nil]); omega) | (unfold mkOk; omega) | (unfold appOk; (try simp only [List.length_map, List.length_append, List.length_cons, List.length_nil]); omega))) only [go_sem, Nat.reduceEqDiff, Nat.reduceBEq, Nat.reduceAdd, Nat.reduceSub, Nat.reduceMul, Nat.reduceLeDiff, Nat.reduceLT, ↓reduceIte, reduceCtorEq, Int.reduceEq, Int.reduceLE, Int.reduceLT, Int.reduceToNat, Int.reduceNeg, Int.reduceSub, Int.reduceAdd, Int.reduceMul, ltT, ltF, leT, leF, neF, catT, mkT, appT, wrap_id, List.length_map, Int.toNat_natCast]
  | x :: B, A, h => by
    unfold loopW
    conv => lhs; arg 1; unfold b_laws_eqNoteS_0
    have hl : xs.length = A.length + (B.length + 1) := by rw [h]; simp
    have h2 : (xs.map TNote.r)[A.length]? = some x.r := by rw [h]; simp
    have hx' := hx
    have hto := laws_eqNote_ok x trivial
    have ih := laws_eqNoteS_l0 xs hx B (A ++ [x]) (by simp [h])
    rw [show (((A ++ [x]).length : Nat) : Int) = (A.length : Int) + 1 by simp] at ih
    simp only [TNote.r] at h2
    simp only [TNote.x] at hto
    simp (maxSteps := 2000000) (implicitDefEqProofs := false) (disch := (first | omega | assumption | (refine ⟨?_, ?_⟩ <;> omega) | (unfold catOk; (try simp only [ByteArray.size_append, size_lit, List.length_cons, List.length_nil]); omega) | (unfold mkOk; omega) | (unfold appOk; (try simp only [List.length_map, List.length_append, List.length_cons, List.length_nil]); omega))) only [go_sem, Nat.reduceEqDiff, Nat.reduceBEq, Nat.reduceAdd, Nat.reduceSub, Nat.reduceMul, Nat.reduceLeDiff, Nat.reduceLT, ↓reduceIte, reduceCtorEq, Int.reduceEq, Int.reduceLE, Int.reduceLT, Int.reduceToNat, Int.reduceNeg, Int.reduceSub, Int.reduceAdd, Int.reduceMul, ltT, ltF, leT, leF, neF, catT, mkT, appT, wrap_id, List.length_map, Int.toNat_natCast, h2, hto, ih]
theorem laws_eqNoteS_ok (xs : List TNote) (hx : xs.length ≤ 1048576) : call tab laws_eqNoteS [.d (.r (xs.map TNote.r)), .d (.r (xs.map TNote.r))] = some (B true) := by
  rw [call_of t_laws_eqNoteS _ rfl, c_laws_eqNoteS]
  have hl := laws_eqNoteS_l0 xs hx xs [] rfl
  have hx' := hx
  simp only [List.length_nil, Int.cast_ofNat_Int] at hl
  simp (maxSteps := 2000000) (implicitDefEqProofs := false) (disch := (first | omega | assumption | (refine ⟨?_, ?_⟩ <;> omega) | (unfold catOk; (try simp only [ByteArray.size_append, size_lit, List.length_cons, List.length_nil]); omega) | (unfold mkOk; omega) | (unfold appOk; (try simp only [List.length_map, List.length_append, List.length_cons, List.length_nil]); omega))) only [go_sem, Nat.reduceEqDiff, Nat.reduceBEq, Nat.reduceAdd, Nat.reduceSub, Nat.reduceMul, Nat.reduceLeDiff, Nat.reduceLT, ↓reduceIte, reduceCtorEq, Int.reduceEq, Int.reduceLE, Int.reduceLT, Int.reduceToNat, Int.reduceNeg, Int.reduceSub, Int.reduceAdd, Int.reduceMul, ltT, ltF, leT, leF, neF, catT, mkT, appT, wrap_id, List.length_map, Int.toNat_natCast, hl]
theorem laws_markNoteS_l0 : ∀ (B A : List TNote) (k : Int), (A.length : Int) + TNote.cts B ≤ 1099511627776 → 0 ≤ k ∧ k + TNote.cts B ≤ 4611686018427387904 →
    loopW tab [0, 1, 5] b_laws_markNoteS_0 { env := upd (upd (upd emp 5 (some (I (A.length : Int)))) 1 (some (I k))) 0 (some (.ref (0, 0) [])), heap := upd emp (0, 0) (some (.s 2 (A.map TNote.o ++ B.map TNote.o))), fr := 1, next := 0 } = some (.ext 0, { env := upd emp 1 (some (I (k + TNote.cts B))), heap := upd emp (0, 0) (some (.s 2 (A.map TNote.o ++ (TNote.mks k B).map TNote.o))), fr := 1, next := 0 })
  | [], A, k, h, hk => by
    unfold loopW
    conv => lhs; arg 1; unfold b_laws_markNoteS_0
    simp only [TNote.cts] at h hk
    simp (maxSteps := 2000000) (implicitDefEqProofs := false) (disch := (first | omega | assumption | (refine ⟨?_, ?_⟩ <;> omega) | (unfold catOk; (try simp only [ByteArray.size_append, size_lit, List.length_cons, List.length_nil]); omega) | (unfold mkOk; omega) | (unfold appOk; (try simp only [List.length_map, List.length_append, List.length_cons, List.length_nil]); omega))) only [go_sem, Nat.reduceEqDiff, Nat.reduceBEq, Nat.reduceAdd, Nat.reduceSub, Nat.reduceMul, Nat.reduceLeDiff, Nat.reduceLT, ↓reduceIte, reduceCtorEq, Int.reduceEq, Int.reduceLE, Int.reduceLT, Int.reduceToNat, Int.reduceNeg, Int.reduceSub, Int.reduceAdd, Int.reduceMul, ltT, ltF, leT, leF, neF, catT, mkT, appT, wrap_id, List.length_map, Int.toNat_natCast, TNote.cts, TNote.mks, List.map_nil, List.append_nil, Int.add_zero]
  | x :: B, A, k, h, hk => by
    unfold loopW
    conv => lhs; arg 1; unfold b_laws_markNoteS_0
    simp only [TNote.cts] at h hk
    have h1 := x.ct_nn
    have h0 := TNote.cts_nn B
    have ih := laws_markNoteS_l0 B (A ++ [x.mk_ k]) (k + x.ct) (by simp; omega) (by omega)
    rw [show (((A ++ [x.mk_ k]).length : Nat) : Int) = (A.length : Int) + 1 by simp, show k + x.ct + TNote.cts B = k + TNote.cts (x :: B) by simp only [TNote.cts]; omega] at ih
    simp only [List.map_append, List.map_cons, List.map_nil, List.append_assoc, List.cons_append, List.nil_append] at ih
    simp only [TNote.mks, List.map_cons]
    have hm : TNote.o (x.mk_ k) = [DI (k), DI (k + 1)] := rfl
    have hkx : k + x.ct = k + 1 + 1 := by unfold TNote.ct; omega
    rw [hm, hkx] at ih
    rw [hm, hkx]
    unfold TNote.ct at hk h0
    simp (maxSteps := 2000000) (implicitDefEqProofs := false) (disch := (first | omega | assumption | (refine ⟨?_, ?_⟩ <;> omega) | (unfold catOk; (try simp only [ByteArray.size_append, size_lit, List.length_cons, List.length_nil]); omega) | (unfold mkOk; omega) | (unfold appOk; (try simp only [List.length_map, List.length_append, List.length_cons, List.length_nil]); omega))) only [go_sem, Nat.reduceEqDiff, Nat.reduceBEq, Nat.reduceAdd, Nat.reduceSub, Nat.reduceMul, Nat.reduceLeDiff, Nat.reduceLT, ↓reduceIte, reduceCtorEq, Int.reduceEq, Int.reduceLE, Int.reduceLT, Int.reduceToNat, Int.reduceNeg, Int.reduceSub, Int.reduceAdd, Int.reduceMul, ltT, ltF, leT, leF, neF, catT, mkT, appT, wrap_id, List.length_map, Int.toNat_natCast, TNote.o, List.length_cons, len_cat, get_mid, set_mid, ih]
theorem laws_markNoteS_ok (xs : List TNote) (k : Int) (h : TNote.cts xs ≤ 1099511627776) (hk : 0 ≤ k ∧ k + TNote.cts xs ≤ 4611686018427387904) : evCW tab laws_markNoteS [.ref (0, 0) [], I k] (upd emp (0, 0) (some (.s 2 (xs.map TNote.o)))) 1 = some (I (k + TNote.cts xs), upd emp (0, 0) (some (.s 2 ((TNote.mks k xs).map TNote.o)))) := by
  rw [evCW_of t_laws_markNoteS _ _ _ rfl, c_laws_markNoteS]
  have hl := laws_markNoteS_l0 xs [] k (by simpa using h) hk
  simp only [List.map_nil, List.nil_append, List.length_nil, Int.cast_ofNat_Int] at hl
  simp (maxSteps := 2000000) (implicitDefEqProofs := false) (disch := (first | omega | assumption | (refine ⟨?_, ?_⟩ <;> omega) | (unfold catOk; (try simp only [ByteArray.size_append, size_lit, List.length_cons, List.length_nil]); omega) | (unfold mkOk; omega) | (unfold appOk; (try simp only [List.length_map, List.length_append, List.length_cons, List.length_nil]); omega))) only [go_sem, Nat.reduceEqDiff, Nat.reduceBEq, Nat.reduceAdd, Nat.reduceSub, Nat.reduceMul, Nat.reduceLeDiff, Nat.reduceLT, ↓reduceIte, reduceCtorEq, Int.reduceEq, Int.reduceLE, Int.reduceLT, Int.reduceToNat, Int.reduceNeg, Int.reduceSub, Int.reduceAdd, Int.reduceMul, ltT, ltF, leT, leF, neF, catT, mkT, appT, wrap_id, List.length_map, Int.toNat_natCast, hl]
theorem laws_heldNoteS_l0 (full : List (List D)) : ∀ (B A : List TNote) (k : Int), full = A.map TNote.r ++ (TNote.mks k B).map TNote.r → (A.length : Int) + TNote.cts B ≤ 1099511627776 → 0 ≤ k ∧ k + TNote.cts B ≤ 4611686018427387904 →
    loopW tab [0, 1, 5] b_laws_heldNoteS_0 { env := upd (upd (upd emp 5 (some (I (A.length : Int)))) 1 (some (I k))) 0 (some (.d (.r full))), heap := emp, fr := 0, next := 0 } = some (.ext 0, { env := upd emp 1 (some (I (k + TNote.cts B))), heap := emp, fr := 0, next := 0 })
  | [], A, k, hf, h, hk => by
    subst hf
    unfold loopW
    conv => lhs; arg 1; unfold b_laws_heldNoteS_0
    simp only [TNote.cts] at h hk
    simp (maxSteps := 2000000) (implicitDefEqProofs := false) (disch := (first | omega | assumption | (refine ⟨?_, ?_⟩ <;> omega) | (unfold catOk; (try simp only [ByteArray.size_append, size_lit, List.length_cons, List.length_nil]); omega) | (unfold mkOk; omega) | (unfold appOk; (try simp only [List.length_map, List.length_append, List.length_cons, List.length_nil]); omega))) only [go_sem, Nat.reduceEqDiff, Nat.reduceBEq, Nat.reduceAdd, Nat.reduceSub, Nat.reduceMul, Nat.reduceLeDiff, Nat.reduceLT, ↓reduceIte, reduceCtorEq, Int.reduceEq, Int.reduceLE, Int.reduceLT, Int.reduceToNat, Int.reduceNeg, Int.reduceSub, Int.reduceAdd, Int.reduceMul, ltT, ltF, leT, leF, neF, catT, mkT, appT, wrap_id, List.length_map, Int.toNat_natCast, TNote.cts, TNote.mks, List.map_nil, List.append_nil, Int.add_zero]
  | x :: B, A, k, hf, h, hk => by
    simp only [TNote.cts] at h hk
    have h1 := x.ct_nn
    have h0 := TNote.cts_nn B
    have ih := laws_heldNoteS_l0 full B (A ++ [x.mk_ k]) (k + x.ct) (by rw [hf]; simp [TNote.mks]) (by simp; omega) (by omega)
    unfold loopW
    conv => lhs; arg 1; unfold b_laws_heldNoteS_0
    have hlen := TNote.mks_len k (x :: B)
    have h2 : full[A.length]? = some (TNote.r (x.mk_ k)) := by rw [hf]; simp [TNote.mks]
    have h3 : full.length = A.length + (B.length + 1) := by rw [hf, List.length_append, List.length_map, List.length_map, hlen, List.length_cons]
    clear hf
    rw [show (((A ++ [x.mk_ k]).length : Nat) : Int) = (A.length : Int) + 1 by simp, show k + x.ct + TNote.cts B = k + TNote.cts (x :: B) by simp only [TNote.cts]; omega] at ih
    have hm : TNote.r (x.mk_ k) = [DI (k), DI (k + 1)] := rfl
    have hkx : k + x.ct = k + 1 + 1 := by unfold TNote.ct; omega
    rw [hkx] at ih
    rw [hm] at h2
    unfold TNote.ct at hk h0
    simp (maxSteps := 2000000) (implicitDefEqProofs := false) (disch := (first | omega | assumption | (refine ⟨?_, ?_⟩ <;> omega) | (unfold catOk; (try simp only [ByteArray.size_append, size_lit, List.length_cons, List.length_nil]); omega) | (unfold mkOk; omega) | (unfold appOk; (try simp only [List.length_map, List.length_append, List.length_cons, List.length_nil]); omega))) only [go_sem, Nat.reduceEqDiff, Nat.reduceBEq, Nat.reduceAdd, Nat.reduceSub, Nat.reduceMul, Nat.reduceLeDiff, Nat.reduceLT, ↓reduceIte, reduceCtorEq, Int.reduceEq, Int.reduceLE, Int.reduceLT, Int.reduceToNat, Int.reduceNeg, Int.reduceSub, Int.reduceAdd, Int.reduceMul, ltT, ltF, leT, leF, neF, catT, mkT, appT, wrap_id, List.length_map, Int.toNat_natCast, h2, h3, ih]
theorem laws_heldNoteS_ok (xs : List TNote) (k : Int) (h : TNote.cts xs ≤ 1099511627776) (hk : 0 ≤ k ∧ k + TNote.cts xs ≤ 4611686018427387904) : call tab laws_heldNoteS [.d (.r ((TNote.mks k xs).map TNote.r)), I k] = some (I (k + TNote.cts xs)) := by
  rw [call_of t_laws_heldNoteS _ rfl, c_laws_heldNoteS]
  have hl := laws_heldNoteS_l0 _ xs [] k rfl (by simpa using h) hk
  simp only [List.map_nil, List.nil_append, List.length_nil, Int.cast_ofNat_Int] at hl
  simp (maxSteps := 2000000) (implicitDefEqProofs := false) (disch := (first | omega | assumption | (refine ⟨?_, ?_⟩ <;> omega) | (unfold catOk; (try simp only [ByteArray.size_append, size_lit, List.length_cons, List.length_nil]); omega) | (unfold mkOk; omega) | (unfold appOk; (try simp only [List.length_map, List.length_append, List.length_cons, List.length_nil]); omega))) only [go_sem, Nat.reduceEqDiff, Nat.reduceBEq, Nat.reduceAdd, Nat.reduceSub, Nat.reduceMul, Nat.reduceLeDiff, Nat.reduceLT, ↓reduceIte, reduceCtorEq, Int.reduceEq, Int.reduceLE, Int.reduceLT, Int.reduceToNat, Int.reduceNeg, Int.reduceSub, Int.reduceAdd, Int.reduceMul, ltT, ltF, leT, leF, neF, catT, mkT, appT, wrap_id, List.length_map, Int.toNat_natCast, hl]
end Go.Ev.G
