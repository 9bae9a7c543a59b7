/- The laws' own helpers on the type Param: written by genq.py. -/
import Derived.Test.YtcoigakalblkgaaEvQInt
import Derived.Test.YtcoigakalblkgaaEvQText
set_option linter.all false
namespace Go.Ev.G
set_option maxRecDepth 8000
set_option maxHeartbeats 4000000
structure TParam where
  fName : ByteArray
  fChan : Bool
def TParam.r (x : TParam) : List D := [DS x.fName, DB x.fChan]
def TParam.o (x : TParam) : List D := [DS x.fName, DB x.fChan]
abbrev TParam.x (x : TParam) : X := .agg [Str x.fName, B x.fChan]
abbrev TParam.xo (x : TParam) : X := .agg [Str x.fName, B x.fChan]
theorem TParam.fzl (x : TParam) : fzl x.o = x.r := by simp only [TParam.o, TParam.r, Ev.fzl, D.fz, fzs_numR]
theorem TParam.fzlr (x : TParam) : Ev.fzl x.r = x.r := by simp only [TParam.r, Ev.fzl, D.fz, fzs_numR]
theorem TParam.fzs (xs : List TParam) : fzs (xs.map TParam.o) = xs.map TParam.r := fzs_map _ _ TParam.fzl xs
theorem TParam.fzr (xs : List TParam) : Ev.fzs (xs.map TParam.r) = xs.map TParam.r := fzs_map _ _ TParam.fzlr xs
theorem TParam.noR (xs : List TParam) : D.noR.noRss (xs.map TParam.o) = true := noRss_map _ (fun x => by simp only [TParam.o, D.noR.noRs, D.noR, Bool.and_true, Bool.true_and, noR_numR]) xs
def TParam.sz (x : TParam) : Int := (x.fName.size : Int)
def TParam.sm (x : TParam) : Prop := x.fName.size ≤ 1048576
structure TParam.ok (x : TParam) : Prop where
  fName : x.fName.size ≤ 140737488351232
  fChan : True
theorem TParam.fit {c : List D} (h : fitL [.s, .b] c) : ∃ x : TParam, c = x.r ∧ x.ok := by
  simp only [fitL] at h
  obtain ⟨_, _, rfl, h0, _, _, rfl, h1, rfl⟩ := h
  rw [Ev.fit] at h0; obtain ⟨a0, rfl, g0⟩ := h0
  rw [Ev.fit] at h1; obtain ⟨a1, rfl⟩ := h1
  exact ⟨⟨a0, a1⟩, rfl, ⟨g0, trivial⟩⟩
def TParam.mk_ (k : Int) (x : TParam) : TParam := ⟨mtxt (k), decide ((k + 1).tmod 3 = 0)⟩
def TParam.ct (x : TParam) : Int := 1 + 1
theorem TParam.ct_nn (x : TParam) : 1 ≤ x.ct := by
  unfold TParam.ct; omega
def TParam.mks : Int → List TParam → List TParam
  | _, [] => []
  | k, x :: xs => TParam.mk_ k x :: TParam.mks (k + x.ct) xs
def TParam.cts : List TParam → Int
  | [] => 0
  | x :: xs => x.ct + TParam.cts xs
theorem TParam.cts_nn : ∀ xs : List TParam, (xs.length : Int) ≤ TParam.cts xs
  | [] => by simp [TParam.cts]
  | x :: xs => by simp only [TParam.cts, List.length_cons]; have := x.ct_nn; have := TParam.cts_nn xs; omega
theorem TParam.mks_len : ∀ (k : Int) (xs : List TParam), (TParam.mks k xs).length = xs.length
  | _, [] => rfl
  | k, x :: xs => by simp [TParam.mks, TParam.mks_len (k + x.ct) xs]
theorem laws_eqParam_ok (x : TParam) (hx : x.sm) : call tab laws_eqParam [x.x, x.x] = some (B true) := by
  simp only [TParam.sm] at hx
  rw [call_of t_laws_eqParam _ rfl, c_laws_eqParam]
  simp (maxSteps := 2000000) (implicitDefEqProofs := false) (disch := (first | omega | assumption | (refine ⟨?_, ?_⟩ <;> omega) | (unfold catOk; (try simp only [ByteArray.size_append, size_lit, List.length_cons, List.length_nil]); omega) | (unfold mkOk; omega) | (unfold appOk; (try simp only [List.length_map, List.length_append, List.length_cons, List.length_nil]); omega))) only [go_sem, Nat.reduceEqDiff, Nat.reduceBEq, Nat.reduceAdd, Nat.reduceSub, Nat.reduceMul, Nat.reduceLeDiff, Nat.reduceLT, ↓reduceIte, reduceCtorEq, Int.reduceEq, Int.reduceLE, Int.reduceLT, Int.reduceToNat, Int.reduceNeg, Int.reduceSub, Int.reduceAdd, Int.reduceMul, ltT, ltF, leT, leF, neF, catT, mkT, appT, wrap_id, List.length_map, Int.toNat_natCast, TParam.x]
theorem laws_eqParamS_l0 (xs : List TParam) (hx : xs.length ≤ 1048576 ∧ ∀ y ∈ xs, y.sm) : ∀ (B A : List TParam), xs = A ++ B →
    loopW tab [0, 1, 5] b_laws_eqParamS_0 { env := upd (upd (upd emp 5 (some (I (A.length : Int)))) 1 (some (.d (.r (xs.map TParam.r))))) 0 (some (.d (.r (xs.map TParam.r)))), heap := emp, fr := 0, next := 0 } = some (.ext 0, { env := emp, heap := emp, fr := 0, next := 0 })
  | [], A, h => by
    rw [List.append_nil] at h
    subst h
    unfold loopW
    conv => lhs; arg 1; unfold b_laws_eqParamS_0
    have hx' := hx.1
    simp (maxSteps := 2000000) (implicitDefEqProofs := false) (disch := (first | omega | assumption | (refine ⟨?_, ?_⟩ <;> omega) | (unfold catOk; (try simp only [ByteArray.size_append, size_lit, List.length_cons, List.length_nil]); omega) | (unfold mkOk; omega) | (unfold appOk; (try simp only [List.length_map, List.length_append, List.length_cons, List.length_nil]); omega))) only [go_sem, Nat.reduceEqDiff, Nat.reduceBEq, Nat.reduceAdd, Nat.reduceSub, Nat.reduceMul, Nat.reduceLeDiff, Nat.reduceLT, ↓reduceIte, reduceCtorEq, Int.reduceEq, Int.reduceLE, Int.reduceLT, Int.reduceToNat, Int.reduceNeg, Int.reduceSub, Int.reduceAdd, Int.reduceMul, ltT, ltF, leT, leF, neF, catT, mkT, appT, wrap_id, List.length_map, Int.toNat_natCast]
  | x :: B, A, h => by
    unfold loopW
    conv => lhs; arg 1; unfold b_laws_eqParamS_0
    have hl : xs.length = A.length + (B.length + 1) := by rw [h]; simp
    have h2 : (xs.map TParam.r)[A.length]? = some x.r := by rw [h]; simp
    have hx' := hx.1
    have hto := laws_eqParam_ok x (hx.2 x (by rw [h]; simp))
    have ih := laws_eqParamS_l0 xs hx B (A ++ [x]) (by simp [h])
    rw [show (((A ++ [x]).length : Nat) : Int) = (A.length : Int) + 1 by simp] at ih
    simp only [TParam.r] at h2
    simp only [TParam.x] at hto
    simp (maxSteps := 2000000) (implicitDefEqProofs := false) (disch := (first | omega | assumption | (refine ⟨?_, ?_⟩ <;> omega) | (unfold catOk; (try simp only [ByteArray.size_append, size_lit, List.length_cons, List.length_nil]); omega) | (unfold mkOk; omega) | (unfold appOk; (try simp only [List.length_map, List.length_append, List.length_cons, List.length_nil]); omega))) only [go_sem, Nat.reduceEqDiff, Nat.reduceBEq, Nat.reduceAdd, Nat.reduceSub, Nat.reduceMul, Nat.reduceLeDiff, Nat.reduceLT, ↓reduceIte, reduceCtorEq, Int.reduceEq, Int.reduceLE, Int.reduceLT, Int.reduceToNat, Int.reduceNeg, Int.reduceSub, Int.reduceAdd, Int.reduceMul, ltT, ltF, leT, leF, neF, catT, mkT, appT, wrap_id, List.length_map, Int.toNat_natCast, h2, hto, ih]
theorem laws_eqParamS_ok (xs : List TParam) (hx : xs.length ≤ 1048576 ∧ ∀ y ∈ xs, y.sm) : call tab laws_eqParamS [.d (.r (xs.map TParam.r)), .d (.r (xs.map TParam.r))] = some (B true) := by
  rw [call_of t_laws_eqParamS _ rfl, c_laws_eqParamS]
  have hl := laws_eqParamS_l0 xs hx xs [] rfl
  have hx' := hx.1
  simp only [List.length_nil, Int.cast_ofNat_Int] at hl
  simp (maxSteps := 2000000) (implicitDefEqProofs := false) (disch := (first | omega | assumption | (refine ⟨?_, ?_⟩ <;> omega) | (unfold catOk; (try simp only [ByteArray.size_append, size_lit, List.length_cons, List.length_nil]); omega) | (unfold mkOk; omega) | (unfold appOk; (try simp only [List.length_map, List.length_append, List.length_cons, List.length_nil]); omega))) only [go_sem, Nat.reduceEqDiff, Nat.reduceBEq, Nat.reduceAdd, Nat.reduceSub, Nat.reduceMul, Nat.reduceLeDiff, Nat.reduceLT, ↓reduceIte, reduceCtorEq, Int.reduceEq, Int.reduceLE, Int.reduceLT, Int.reduceToNat, Int.reduceNeg, Int.reduceSub, Int.reduceAdd, Int.reduceMul, ltT, ltF, leT, leF, neF, catT, mkT, appT, wrap_id, List.length_map, Int.toNat_natCast, hl]
theorem laws_markParamS_l0 : ∀ (B A : List TParam) (k : Int), (A.length : Int) + TParam.cts B ≤ 1099511627776 → 0 ≤ k ∧ k + TParam.cts B ≤ 4611686018427387904 →
    loopW tab [0, 1, 5] b_laws_markParamS_0 { env := upd (upd (upd emp 5 (some (I (A.length : Int)))) 1 (some (I k))) 0 (some (.ref (0, 0) [])), heap := upd emp (0, 0) (some (.s 2 (A.map TParam.o ++ B.map TParam.o))), fr := 1, next := 0 } = some (.ext 0, { env := upd emp 1 (some (I (k + TParam.cts B))), heap := upd emp (0, 0) (some (.s 2 (A.map TParam.o ++ (TParam.mks k B).map TParam.o))), fr := 1, next := 0 })
  | [], A, k, h, hk => by
    unfold loopW
    conv => lhs; arg 1; unfold b_laws_markParamS_0
    simp only [TParam.cts] at h hk
    simp (maxSteps := 2000000) (implicitDefEqProofs := false) (disch := (first | omega | assumption | (refine ⟨?_, ?_⟩ <;> omega) | (unfold catOk; (try simp only [ByteArray.size_append, size_lit, List.length_cons, List.length_nil]); omega) | (unfold mkOk; omega) | (unfold appOk; (try simp only [List.length_map, List.length_append, List.length_cons, List.length_nil]); omega))) only [go_sem, Nat.reduceEqDiff, Nat.reduceBEq, Nat.reduceAdd, Nat.reduceSub, Nat.reduceMul, Nat.reduceLeDiff, Nat.reduceLT, ↓reduceIte, reduceCtorEq, Int.reduceEq, Int.reduceLE, Int.reduceLT, Int.reduceToNat, Int.reduceNeg, Int.reduceSub, Int.reduceAdd, Int.reduceMul, ltT, ltF, leT, leF, neF, catT, mkT, appT, wrap_id, List.length_map, Int.toNat_natCast, TParam.cts, TParam.mks, List.map_nil, List.append_nil, Int.add_zero]
  | x :: B, A, k, h, hk => by
    unfold loopW
    conv => lhs; arg 1; unfold b_laws_markParamS_0
    simp only [TParam.cts] at h hk
    have h1 := x.ct_nn
    have h0 := TParam.cts_nn B
    have ih := laws_markParamS_l0 B (A ++ [x.mk_ k]) (k + x.ct) (by simp; omega) (by omega)
    rw [show (((A ++ [x.mk_ k]).length : Nat) : Int) = (A.length : Int) + 1 by simp, show k + x.ct + TParam.cts B = k + TParam.cts (x :: B) by simp only [TParam.cts]; omega] at ih
    simp only [List.map_append, List.map_cons, List.map_nil, List.append_assoc, List.cons_append, List.nil_append] at ih
    simp only [TParam.mks, List.map_cons]
    have hm : TParam.o (x.mk_ k) = [DS (mtxt (k)), DB (decide ((k + 1).tmod 3 = 0))] := rfl
    have hkx : k + x.ct = k + 1 + 1 := by unfold TParam.ct; omega
    rw [hm, hkx] at ih
    rw [hm, hkx]
    unfold TParam.ct at hk h0
    simp (maxSteps := 2000000) (implicitDefEqProofs := false) (disch := (first | omega | assumption | (refine ⟨?_, ?_⟩ <;> omega) | (unfold catOk; (try simp only [ByteArray.size_append, size_lit, List.length_cons, List.length_nil]); omega) | (unfold mkOk; omega) | (unfold appOk; (try simp only [List.length_map, List.length_append, List.length_cons, List.length_nil]); omega))) only [go_sem, Nat.reduceEqDiff, Nat.reduceBEq, Nat.reduceAdd, Nat.reduceSub, Nat.reduceMul, Nat.reduceLeDiff, Nat.reduceLT, ↓reduceIte, reduceCtorEq, Int.reduceEq, Int.reduceLE, Int.reduceLT, Int.reduceToNat, Int.reduceNeg, Int.reduceSub, Int.reduceAdd, Int.reduceMul, ltT, ltF, leT, leF, neF, catT, mkT, appT, wrap_id, List.length_map, Int.toNat_natCast, TParam.o, List.length_cons, len_cat, get_mid, set_mid, laws_markText_ok, ih]
theorem laws_markParamS_ok (xs : List TParam) (k : Int) (h : TParam.cts xs ≤ 1099511627776) (hk : 0 ≤ k ∧ k + TParam.cts xs ≤ 4611686018427387904) : evCW tab laws_markParamS [.ref (0, 0) [], I k] (upd emp (0, 0) (some (.s 2 (xs.map TParam.o)))) 1 = some (I (k + TParam.cts xs), upd emp (0, 0) (some (.s 2 ((TParam.mks k xs).map TParam.o)))) := by
  rw [evCW_of t_laws_markParamS _ _ _ rfl, c_laws_markParamS]
  have hl := laws_markParamS_l0 xs [] k (by simpa using h) hk
  simp only [List.map_nil, List.nil_append, List.length_nil, Int.cast_ofNat_Int] at hl
  simp (maxSteps := 2000000) (implicitDefEqProofs := false) (disch := (first | omega | assumption | (refine ⟨?_, ?_⟩ <;> omega) | (unfold catOk; (try simp only [ByteArray.size_append, size_lit, List.length_cons, List.length_nil]); omega) | (unfold mkOk; omega) | (unfold appOk; (try simp only [List.length_map, List.length_append, List.length_cons, List.length_nil]); omega))) only [go_sem, Nat.reduceEqDiff, Nat.reduceBEq, Nat.reduceAdd, Nat.reduceSub, Nat.reduceMul, Nat.reduceLeDiff, Nat.reduceLT, ↓reduceIte, reduceCtorEq, Int.reduceEq, Int.reduceLE, Int.reduceLT, Int.reduceToNat, Int.reduceNeg, Int.reduceSub, Int.reduceAdd, Int.reduceMul, ltT, ltF, leT, leF, neF, catT, mkT, appT, wrap_id, List.length_map, Int.toNat_natCast, hl]
theorem laws_heldParamS_l0 (full : List (List D)) : ∀ (B A : List TParam) (k : Int), full = A.map TParam.r ++ (TParam.mks k B).map TParam.r → (A.length : Int) + TParam.cts B ≤ 1099511627776 → 0 ≤ k ∧ k + TParam.cts B ≤ 4611686018427387904 →
    loopW tab [0, 1, 5] b_laws_heldParamS_0 { env := upd (upd (upd emp 5 (some (I (A.length : Int)))) 1 (some (I k))) 0 (some (.d (.r full))), heap := emp, fr := 0, next := 0 } = some (.ext 0, { env := upd emp 1 (some (I (k + TParam.cts B))), heap := emp, fr := 0, next := 0 })
  | [], A, k, hf, h, hk => by
    subst hf
    unfold loopW
    conv => lhs; arg 1; unfold b_laws_heldParamS_0
    simp only [TParam.cts] at h hk
    simp (maxSteps := 2000000) (implicitDefEqProofs := false) (disch := (first | omega | assumption | (refine ⟨?_, ?_⟩ <;> omega) | (unfold catOk; (try simp only [ByteArray.size_append, size_lit, List.length_cons, List.length_nil]); omega) | (unfold mkOk; omega) | (unfold appOk; (try simp only [List.length_map, List.length_append, List.length_cons, List.length_nil]); omega))) only [go_sem, Nat.reduceEqDiff, Nat.reduceBEq, Nat.reduceAdd, Nat.reduceSub, Nat.reduceMul, Nat.reduceLeDiff, Nat.reduceLT, ↓reduceIte, reduceCtorEq, Int.reduceEq, Int.reduceLE, Int.reduceLT, Int.reduceToNat, Int.reduceNeg, Int.reduceSub, Int.reduceAdd, Int.reduceMul, ltT, ltF, leT, leF, neF, catT, mkT, appT, wrap_id, List.length_map, Int.toNat_natCast, TParam.cts, TParam.mks, List.map_nil, List.append_nil, Int.add_zero]
  | x :: B, A, k, hf, h, hk => by
    simp only [TParam.cts] at h hk
    have h1 := x.ct_nn
    have h0 := TParam.cts_nn B
    have ih := laws_heldParamS_l0 full B (A ++ [x.mk_ k]) (k + x.ct) (by rw [hf]; simp [TParam.mks]) (by simp; omega) (by omega)
    unfold loopW
    conv => lhs; arg 1; unfold b_laws_heldParamS_0
    have hlen := TParam.mks_len k (x :: B)
    have h2 : full[A.length]? = some (TParam.r (x.mk_ k)) := by rw [hf]; simp [TParam.mks]
    have h3 : full.length = A.length + (B.length + 1) := by rw [hf, List.length_append, List.length_map, List.length_map, hlen, List.length_cons]
    clear hf
    rw [show (((A ++ [x.mk_ k]).length : Nat) : Int) = (A.length : Int) + 1 by simp, show k + x.ct + TParam.cts B = k + TParam.cts (x :: B) by simp only [TParam.cts]; omega] at ih
    have hm : TParam.r (x.mk_ k) = [DS (mtxt (k)), DB (decide ((k + 1).tmod 3 = 0))] := rfl
    have hkx : k + x.ct = k + 1 + 1 := by unfold TParam.ct; omega
    rw [hkx] at ih
    rw [hm] at h2
    unfold TParam.ct at hk h0
    simp (maxSteps := 2000000) (implicitDefEqProofs := false) (disch := (first | omega | assumption | (refine ⟨?_, ?_⟩ <;> omega) | (unfold catOk; (try simp only [ByteArray.size_append, size_lit, List.length_cons, List.length_nil]); omega) | (unfold mkOk; omega) | (unfold appOk; (try simp only [List.length_map, List.length_append, List.length_cons, List.length_nil]); omega))) only [go_sem, Nat.reduceEqDiff, Nat.reduceBEq, Nat.reduceAdd, Nat.reduceSub, Nat.reduceMul, Nat.reduceLeDiff, Nat.reduceLT, ↓reduceIte, reduceCtorEq, Int.reduceEq, Int.reduceLE, Int.reduceLT, Int.reduceToNat, Int.reduceNeg, Int.reduceSub, Int.reduceAdd, Int.reduceMul, ltT, ltF, leT, leF, neF, catT, mkT, appT, wrap_id, List.length_map, Int.toNat_natCast, h2, h3, laws_markText_ok, ih]
theorem laws_heldParamS_ok (xs : List TParam) (k : Int) (h : TParam.cts xs ≤ 1099511627776) (hk : 0 ≤ k ∧ k + TParam.cts xs ≤ 4611686018427387904) : call tab laws_heldParamS [.d (.r ((TParam.mks k xs).map TParam.r)), I k] = some (I (k + TParam.cts xs)) := by
  rw [call_of t_laws_heldParamS _ rfl, c_laws_heldParamS]
  have hl := laws_heldParamS_l0 _ xs [] k rfl (by simpa using h) hk
  simp only [List.map_nil, List.nil_append, List.length_nil, Int.cast_ofNat_Int] at hl
  simp (maxSteps := 2000000) (implicitDefEqProofs := false) (disch := (first | omega | assumption | (refine ⟨?_, ?_⟩ <;> omega) | (unfold catOk; (try simp only [ByteArray.size_append, size_lit, List.length_cons, List.length_nil]); omega) | (unfold mkOk; omega) | (unfold appOk; (try simp only [List.length_map, List.length_append, List.length_cons, List.length_nil]); omega))) only [go_sem, Nat.reduceEqDiff, Nat.reduceBEq, Nat.reduceAdd, Nat.reduceSub, Nat.reduceMul, Nat.reduceLeDiff, Nat.reduceLT, ↓reduceIte, reduceCtorEq, Int.reduceEq, Int.reduceLE, Int.reduceLT, Int.reduceToNat, Int.reduceNeg, Int.reduceSub, Int.reduceAdd, Int.reduceMul, ltT, ltF, leT, leF, neF, catT, mkT, appT, wrap_id, List.length_map, Int.toNat_natCast, hl]
end Go.Ev.G
