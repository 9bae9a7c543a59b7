/- The laws' own helpers on the type Line: written by genq.py. -/
import Derived.Test.YtcoigakalblkgaaEvQInt
import Derived.Test.YtcoigakalblkgaaEvQText
import Derived.Test.YtcoigakalblkgaaEvQIns
set_option linter.all false
namespace Go.Ev.G
set_option maxRecDepth 8000
set_option maxHeartbeats 4000000
structure TLine where
  fName : ByteArray
  fX : TIns
  fTo : ByteArray
def TLine.r (x : TLine) : List D := [DS x.fName, DI x.fX.fOp, DI x.fX.fR, DI x.fX.fA, DI x.fX.fB, DI x.fX.fN, DI x.fX.fM, DS x.fTo]
def TLine.o (x : TLine) : List D := [DS x.fName, DI x.fX.fOp, DI x.fX.fR, DI x.fX.fA, DI x.fX.fB, DI x.fX.fN, DI x.fX.fM, DS x.fTo]
abbrev TLine.x (x : TLine) : X := .agg [Str x.fName, I x.fX.fOp, I x.fX.fR, I x.fX.fA, I x.fX.fB, I x.fX.fN, I x.fX.fM, Str x.fTo]
abbrev TLine.xo (x : TLine) : X := .agg [Str x.fName, I x.fX.fOp, I x.fX.fR, I x.fX.fA, I x.fX.fB, I x.fX.fN, I x.fX.fM, Str x.fTo]
theorem TLine.fzl (x : TLine) : fzl x.o = x.r := by simp only [TLine.o, TLine.r, Ev.fzl, D.fz, fzs_numR]
theorem TLine.fzlr (x : TLine) : Ev.fzl x.r = x.r := by simp only [TLine.r, Ev.fzl, D.fz, fzs_numR]
theorem TLine.fzs (xs : List TLine) : fzs (xs.map TLine.o) = xs.map TLine.r := fzs_map _ _ TLine.fzl xs
theorem TLine.fzr (xs : List TLine) : Ev.fzs (xs.map TLine.r) = xs.map TLine.r := fzs_map _ _ TLine.fzlr xs
theorem TLine.noR (xs : List TLine) : D.noR.noRss (xs.map TLine.o) = true := noRss_map _ (fun x => by simp only [TLine.o, D.noR.noRs, D.noR, Bool.and_true, Bool.true_and, noR_numR]) xs
def TLine.sz (x : TLine) : Int := (x.fName.size : Int) + (x.fTo.size : Int)
theorem TLine.sz_nn (x : TLine) : 0 ≤ x.sz := by
  unfold TLine.sz; omega
def TLine.szl : List TLine → Int
  | [] => 0
  | x :: xs => x.sz + TLine.szl xs
def TLine.szs (xs : List TLine) : Int := xs.length + TLine.szl xs
theorem TLine.szl_nn : ∀ xs : List TLine, 0 ≤ TLine.szl xs
  | [] => by simp [TLine.szl]
  | x :: xs => by simp only [TLine.szl]; have := x.sz_nn; have := TLine.szl_nn xs; omega
theorem TLine.szs_nn (xs : List TLine) : 0 ≤ TLine.szs xs ∧ (xs.length : Int) ≤ TLine.szs xs := by have := TLine.szl_nn xs; unfold TLine.szs; omega
theorem TLine.sz_le : ∀ {xs : List TLine} {x : TLine}, x ∈ xs → x.sz ≤ TLine.szl xs
  | y :: xs, x, h => by
    simp only [TLine.szl]
    have h1 := y.sz_nn; have h2 := TLine.szl_nn xs
    rcases List.mem_cons.1 h with rfl | h
    · omega
    · have := TLine.sz_le h; omega
def TLine.sm (x : TLine) : Prop := x.fName.size ≤ 1048576 ∧ x.fTo.size ≤ 1048576
theorem TLine.sm_of {x : TLine} (h : x.sz ≤ 1048576) : x.sm := by
  unfold TLine.sz at h
  unfold TLine.sm
  exact ⟨by omega, by omega⟩
theorem TLine.sms_of {xs : List TLine} (h : TLine.szs xs ≤ 1048576) : xs.length ≤ 1048576 ∧ ∀ y ∈ xs, y.sm := by
  have := TLine.szl_nn xs
  unfold TLine.szs at h
  exact ⟨by omega, fun y hy => TLine.sm_of (by have := TLine.sz_le hy; omega)⟩
structure TLine.ok (x : TLine) : Prop where
  fName : x.fName.size ≤ 140737488351232
  fX : x.fX.ok
  fTo : x.fTo.size ≤ 140737488351232
theorem TLine.fit {c : List D} (h : fitL [.s, .i .i64, .i .i64, .i .i64, .i .i64, .i .i64, .i .i64, .s] c) : ∃ x : TLine, c = x.r ∧ x.ok := by
  simp only [fitL] at h
  obtain ⟨_, _, rfl, h0, _, _, rfl, h1, _, _, rfl, h2, _, _, rfl, h3, _, _, rfl, h4, _, _, rfl, h5, _, _, rfl, h6, _, _, rfl, h7, rfl⟩ := h
  rw [Ev.fit] at h0; obtain ⟨a0, rfl, g0⟩ := h0
  rw [Ev.fit] at h1; obtain ⟨a1, rfl, g1⟩ := h1
  rw [Ev.fit] at h2; obtain ⟨a2, rfl, g2⟩ := h2
  rw [Ev.fit] at h3; obtain ⟨a3, rfl, g3⟩ := h3
  rw [Ev.fit] at h4; obtain ⟨a4, rfl, g4⟩ := h4
  rw [Ev.fit] at h5; obtain ⟨a5, rfl, g5⟩ := h5
  rw [Ev.fit] at h6; obtain ⟨a6, rfl, g6⟩ := h6
  rw [Ev.fit] at h7; obtain ⟨a7, rfl, g7⟩ := h7
  exact ⟨⟨a0, ⟨a1, a2, a3, a4, a5, a6⟩, a7⟩, rfl, ⟨g0, ⟨wf64 g1, wf64 g2, wf64 g3, wf64 g4, wf64 g5, wf64 g6⟩, g7⟩⟩
def TLine.mk_ (k : Int) (x : TLine) : TLine := ⟨mtxt (k), ⟨k + 1, k + 1 + 1, k + 1 + 1 + 1, k + 1 + 1 + 1 + 1, k + 1 + 1 + 1 + 1 + 1, k + 1 + 1 + 1 + 1 + 1 + 1⟩, mtxt (k + 1 + 1 + 1 + 1 + 1 + 1 + 1)⟩
def TLine.ct (x : TLine) : Int := 1 + 1 + 1 + 1 + 1 + 1 + 1 + 1
theorem TLine.ct_nn (x : TLine) : 1 ≤ x.ct := by
  unfold TLine.ct; omega
def TLine.mks : Int → List TLine → List TLine
  | _, [] => []
  | k, x :: xs => TLine.mk_ k x :: TLine.mks (k + x.ct) xs
def TLine.cts : List TLine → Int
  | [] => 0
  | x :: xs => x.ct + TLine.cts xs
theorem TLine.cts_nn : ∀ xs : List TLine, (xs.length : Int) ≤ TLine.cts xs
  | [] => by simp [TLine.cts]
  | x :: xs => by simp only [TLine.cts, List.length_cons]; have := x.ct_nn; have := TLine.cts_nn xs; omega
theorem TLine.mks_len : ∀ (k : Int) (xs : List TLine), (TLine.mks k xs).length = xs.length
  | _, [] => rfl
  | k, x :: xs => by simp [TLine.mks, TLine.mks_len (k + x.ct) xs]
theorem TLine.ct_le (x : TLine) : x.ct ≤ 64 + 64 * x.sz := by
  unfold TLine.ct TLine.sz; omega
theorem TLine.cts_le : ∀ xs : List TLine, TLine.cts xs ≤ 64 * TLine.szs xs
  | [] => by simp [TLine.cts, TLine.szs, TLine.szl]
  | x :: xs => by
    have h1 := x.ct_le; have h2 := TLine.cts_le xs
    simp only [TLine.cts, TLine.szs, TLine.szl, List.length_cons] at *; omega
def TLine.mkv (k : Int) (x : TLine) : TLine := ⟨x.fName, ⟨x.fX.fOp, x.fX.fR, x.fX.fA, x.fX.fB, x.fX.fN, x.fX.fM⟩, x.fTo⟩
def TLine.ctv (x : TLine) : Int := 0
theorem TLine.ctv_le (x : TLine) : x.ctv ≤ 64 * x.sz := by
  unfold TLine.ctv TLine.sz; omega
theorem laws_toLine_ok (x : TLine) (hx : x.sm) : call tab laws_toLine [x.x] = some x.xo := by
  simp only [TLine.sm] at hx
  rw [call_of t_laws_toLine _ rfl, c_laws_toLine]
  simp (maxSteps := 2000000) (implicitDefEqProofs := false) (disch := (first | omega | assumption | (refine ⟨?_, ?_⟩ <;> omega) | (unfold catOk; (try simp only [ByteArray.size_append, size_lit, List.length_cons, List.length_nil]); omega) | (unfold mkOk; omega) | (unfold appOk; (try simp only [List.length_map, List.length_append, List.length_cons, List.length_nil]); omega))) only [go_sem, Nat.reduceEqDiff, Nat.reduceBEq, Nat.reduceAdd, Nat.reduceSub, Nat.reduceMul, Nat.reduceLeDiff, Nat.reduceLT, ↓reduceIte, reduceCtorEq, Int.reduceEq, Int.reduceLE, Int.reduceLT, Int.reduceToNat, Int.reduceNeg, Int.reduceSub, Int.reduceAdd, Int.reduceMul, ltT, ltF, leT, leF, neF, catT, mkT, appT, wrap_id, List.length_map, Int.toNat_natCast, TLine.x, TLine.xo, laws_toIns_cells]
theorem laws_toLineS_l0 (xs : List TLine) (hx : xs.length ≤ 1048576 ∧ ∀ y ∈ xs, y.sm) : ∀ (B A : List TLine), xs = A ++ B →
    loopW tab [0, 3, 4] b_laws_toLineS_0 { env := upd (upd (upd emp 4 (some (I (A.length : Int)))) 3 (some (.ref (0, 0) []))) 0 (some (.d (.r (xs.map TLine.r)))), heap := upd emp (0, 0) (some (.s 8 (A.map TLine.o ++ List.replicate B.length [DS ⟨#[]⟩, DI 0, DI 0, DI 0, DI 0, DI 0, DI 0, DS ⟨#[]⟩]))), fr := 0, next := 1 } = some (.ext 0, { env := upd emp 3 (some (.ref (0, 0) [])), heap := upd emp (0, 0) (some (.s 8 (xs.map TLine.o))), fr := 0, next := 1 })
  | [], A, h => by
    rw [List.append_nil] at h
    subst h
    unfold loopW
    conv => lhs; arg 1; unfold b_laws_toLineS_0
    have hx' := hx.1
    simp (maxSteps := 2000000) (implicitDefEqProofs := false) (disch := (first | omega | assumption | (refine ⟨?_, ?_⟩ <;> omega) | (unfold catOk; (try simp only [ByteArray.size_append, size_lit, List.length_cons, List.length_nil]); omega) | (unfold mkOk; omega) | (unfold appOk; (try simp only [List.length_map, List.length_append, List.length_cons, List.length_nil]); omega))) only [go_sem, Nat.reduceEqDiff, Nat.reduceBEq, Nat.reduceAdd, Nat.reduceSub, Nat.reduceMul, Nat.reduceLeDiff, Nat.reduceLT, ↓reduceIte, reduceCtorEq, Int.reduceEq, Int.reduceLE, Int.reduceLT, Int.reduceToNat, Int.reduceNeg, Int.reduceSub, Int.reduceAdd, Int.reduceMul, ltT, ltF, leT, leF, neF, catT, mkT, appT, wrap_id, List.length_map, Int.toNat_natCast, List.replicate_zero]
  | x :: B, A, h => by
    unfold loopW
    conv => lhs; arg 1; unfold b_laws_toLineS_0
    have hl : xs.length = A.length + (B.length + 1) := by rw [h]; simp
    have h2 : (xs.map TLine.r)[A.length]? = some x.r := by rw [h]; simp
    have hx' := hx.1
    have hto := laws_toLine_ok x (hx.2 x (by rw [h]; simp))
    have ih := laws_toLineS_l0 xs hx B (A ++ [x]) (by simp [h])
    rw [show (((A ++ [x]).length : Nat) : Int) = (A.length : Int) + 1 by simp] at ih
    simp only [List.map_append, List.map_cons, List.map_nil, List.append_assoc, List.cons_append, List.nil_append, TLine.o] at ih
    simp only [TLine.r] at h2
    simp only [TLine.x, TLine.xo] at hto
    simp (maxSteps := 2000000) (implicitDefEqProofs := false) (disch := (first | omega | assumption | (refine ⟨?_, ?_⟩ <;> omega) | (unfold catOk; (try simp only [ByteArray.size_append, size_lit, List.length_cons, List.length_nil]); omega) | (unfold mkOk; omega) | (unfold appOk; (try simp only [List.length_map, List.length_append, List.length_cons, List.length_nil]); omega))) only [go_sem, Nat.reduceEqDiff, Nat.reduceBEq, Nat.reduceAdd, Nat.reduceSub, Nat.reduceMul, Nat.reduceLeDiff, Nat.reduceLT, ↓reduceIte, reduceCtorEq, Int.reduceEq, Int.reduceLE, Int.reduceLT, Int.reduceToNat, Int.reduceNeg, Int.reduceSub, Int.reduceAdd, Int.reduceMul, ltT, ltF, leT, leF, neF, catT, mkT, appT, wrap_id, List.length_map, Int.toNat_natCast, List.length_cons, List.replicate_succ, len_cat, get_mid, set_mid, h2, hto, ih]
theorem laws_toLineS_ok (xs : List TLine) (hx : xs.length ≤ 1048576 ∧ ∀ y ∈ xs, y.sm) : call tab laws_toLineS [.d (.r (xs.map TLine.r))] = some (.d (.s 8 (xs.map TLine.o))) := by
  rw [call_of t_laws_toLineS _ rfl, c_laws_toLineS]
  have hl := laws_toLineS_l0 xs hx xs [] rfl
  have hx' := hx.1
  simp only [List.map_nil, List.nil_append, List.length_nil, Int.cast_ofNat_Int] at hl
  simp (maxSteps := 2000000) (implicitDefEqProofs := false) (disch := (first | omega | assumption | (refine ⟨?_, ?_⟩ <;> omega) | (unfold catOk; (try simp only [ByteArray.size_append, size_lit, List.length_cons, List.length_nil]); omega) | (unfold mkOk; omega) | (unfold appOk; (try simp only [List.length_map, List.length_append, List.length_cons, List.length_nil]); omega))) only [go_sem, Nat.reduceEqDiff, Nat.reduceBEq, Nat.reduceAdd, Nat.reduceSub, Nat.reduceMul, Nat.reduceLeDiff, Nat.reduceLT, ↓reduceIte, reduceCtorEq, Int.reduceEq, Int.reduceLE, Int.reduceLT, Int.reduceToNat, Int.reduceNeg, Int.reduceSub, Int.reduceAdd, Int.reduceMul, ltT, ltF, leT, leF, neF, catT, mkT, appT, wrap_id, List.length_map, Int.toNat_natCast, hl]
theorem laws_eqLine_ok (x : TLine) (hx : x.sm) : call tab laws_eqLine [x.x, x.x] = some (B true) := by
  simp only [TLine.sm] at hx
  rw [call_of t_laws_eqLine _ rfl, c_laws_eqLine]
  simp (maxSteps := 2000000) (implicitDefEqProofs := false) (disch := (first | omega | assumption | (refine ⟨?_, ?_⟩ <;> omega) | (unfold catOk; (try simp only [ByteArray.size_append, size_lit, List.length_cons, List.length_nil]); omega) | (unfold mkOk; omega) | (unfold appOk; (try simp only [List.length_map, List.length_append, List.length_cons, List.length_nil]); omega))) only [go_sem, Nat.reduceEqDiff, Nat.reduceBEq, Nat.reduceAdd, Nat.reduceSub, Nat.reduceMul, Nat.reduceLeDiff, Nat.reduceLT, ↓reduceIte, reduceCtorEq, Int.reduceEq, Int.reduceLE, Int.reduceLT, Int.reduceToNat, Int.reduceNeg, Int.reduceSub, Int.reduceAdd, Int.reduceMul, ltT, ltF, leT, leF, neF, catT, mkT, appT, wrap_id, List.length_map, Int.toNat_natCast, TLine.x, laws_eqIns_cells]
theorem laws_eqLineS_l0 (xs : List TLine) (hx : xs.length ≤ 1048576 ∧ ∀ y ∈ xs, y.sm) : ∀ (B A : List TLine), xs = A ++ B →
    loopW tab [0, 1, 5] b_laws_eqLineS_0 { env := upd (upd (upd emp 5 (some (I (A.length : Int)))) 1 (some (.d (.r (xs.map TLine.r))))) 0 (some (.d (.r (xs.map TLine.r)))), heap := emp, fr := 0, next := 0 } = some (.ext 0, { env := emp, heap := emp, fr := 0, next := 0 })
  | [], A, h => by
    rw [List.append_nil] at h
    subst h
    unfold loopW
    conv => lhs; arg 1; unfold b_laws_eqLineS_0
    have hx' := hx.1
    simp (maxSteps := 2000000) (implicitDefEqProofs := false) (disch := (first | omega | assumption | (refine ⟨?_, ?_⟩ <;> omega) | (unfold catOk; (try simp only [ByteArray.size_append, size_lit, List.length_cons, List.length_nil]); omega) | (unfold mkOk; omega) | (unfold appOk; (try simp only [List.length_map, List.length_append, List.length_cons, List.length_nil]); omega))) only [go_sem, Nat.reduceEqDiff, Nat.reduceBEq, Nat.reduceAdd, Nat.reduceSub, Nat.reduceMul, Nat.reduceLeDiff, Nat.reduceLT, ↓reduceIte, reduceCtorEq, Int.reduceEq, Int.reduceLE, Int.reduceLT, Int.reduceToNat, Int.reduceNeg, Int.reduceSub, Int.reduceAdd, Int.reduceMul, ltT, ltF, leT, leF, neF, catT, mkT, appT, wrap_id, List.length_map, Int.toNat_natCast]
  | x :: B, A, h => by
    unfold loopW
    conv => lhs; arg 1; unfold b_laws_eqLineS_0
    have hl : xs.length = A.length + (B.length + 1) := by rw [h]; simp
    have h2 : (xs.map TLine.r)[A.length]? = some x.r := by rw [h]; simp
    have hx' := hx.1
    have hto := laws_eqLine_ok x (hx.2 x (by rw [h]; simp))
    have ih := laws_eqLineS_l0 xs hx B (A ++ [x]) (by simp [h])
    rw [show (((A ++ [x]).length : Nat) : Int) = (A.length : Int) + 1 by simp] at ih
    simp only [TLine.r] at h2
    simp only [TLine.x] at hto
    simp (maxSteps := 2000000) (implicitDefEqProofs := false) (disch := (first | omega | assumption | (refine ⟨?_, ?_⟩ <;> omega) | (unfold catOk; (try simp only [ByteArray.size_append, size_lit, List.length_cons, List.length_nil]); omega) | (unfold mkOk; omega) | (unfold appOk; (try simp only [List.length_map, List.length_append, List.length_cons, List.length_nil]); omega))) only [go_sem, Nat.reduceEqDiff, Nat.reduceBEq, Nat.reduceAdd, Nat.reduceSub, Nat.reduceMul, Nat.reduceLeDiff, Nat.reduceLT, ↓reduceIte, reduceCtorEq, Int.reduceEq, Int.reduceLE, Int.reduceLT, Int.reduceToNat, Int.reduceNeg, Int.reduceSub, Int.reduceAdd, Int.reduceMul, ltT, ltF, leT, leF, neF, catT, mkT, appT, wrap_id, List.length_map, Int.toNat_natCast, h2, hto, ih]
theorem laws_eqLineS_ok (xs : List TLine) (hx : xs.length ≤ 1048576 ∧ ∀ y ∈ xs, y.sm) : call tab laws_eqLineS [.d (.r (xs.map TLine.r)), .d (.r (xs.map TLine.r))] = some (B true) := by
  rw [call_of t_laws_eqLineS _ rfl, c_laws_eqLineS]
  have hl := laws_eqLineS_l0 xs hx xs [] rfl
  have hx' := hx.1
  simp only [List.length_nil, Int.cast_ofNat_Int] at hl
  simp (maxSteps := 2000000) (implicitDefEqProofs := false) (disch := (first | omega | assumption | (refine ⟨?_, ?_⟩ <;> omega) | (unfold catOk; (try simp only [ByteArray.size_append, size_lit, List.length_cons, List.length_nil]); omega) | (unfold mkOk; omega) | (unfold appOk; (try simp only [List.length_map, List.length_append, List.length_cons, List.length_nil]); omega))) only [go_sem, Nat.reduceEqDiff, Nat.reduceBEq, Nat.reduceAdd, Nat.reduceSub, Nat.reduceMul, Nat.reduceLeDiff, Nat.reduceLT, ↓reduceIte, reduceCtorEq, Int.reduceEq, Int.reduceLE, Int.reduceLT, Int.reduceToNat, Int.reduceNeg, Int.reduceSub, Int.reduceAdd, Int.reduceMul, ltT, ltF, leT, leF, neF, catT, mkT, appT, wrap_id, List.length_map, Int.toNat_natCast, hl]
theorem laws_szLine_ok (x : TLine) (n : Int) (hn : 0 ≤ n ∧ n ≤ 1048576) (hx : x.ok) : call tab laws_szLine [x.x, I n] = some (I (if n < x.sz then -1 else n - x.sz)) := by
  rw [call_of t_laws_szLine _ rfl, c_laws_szLine]
  have hsz : x.sz = (x.fName.size : Int) + (x.fTo.size : Int) := rfl
  rw [hsz]
  have b0 := hx.fName
  have b1 := hx.fTo
  by_cases c0 : n - (x.fName.size : Int) < 0
  · rw [if_pos (show n < (x.fName.size : Int) + (x.fTo.size : Int) by omega)]
    simp (maxSteps := 2000000) (implicitDefEqProofs := false) (disch := (first | omega | assumption | (refine ⟨?_, ?_⟩ <;> omega) | (unfold catOk; (try simp only [ByteArray.size_append, size_lit, List.length_cons, List.length_nil]); omega) | (unfold mkOk; omega) | (unfold appOk; (try simp only [List.length_map, List.length_append, List.length_cons, List.length_nil]); omega))) only [go_sem, Nat.reduceEqDiff, Nat.reduceBEq, Nat.reduceAdd, Nat.reduceSub, Nat.reduceMul, Nat.reduceLeDiff, Nat.reduceLT, ↓reduceIte, reduceCtorEq, Int.reduceEq, Int.reduceLE, Int.reduceLT, Int.reduceToNat, Int.reduceNeg, Int.reduceSub, Int.reduceAdd, Int.reduceMul, ltT, ltF, leT, leF, neF, catT, mkT, appT, wrap_id, List.length_map, Int.toNat_natCast, TLine.x, c0]
  · by_cases c1 : n - (x.fName.size : Int) - (x.fTo.size : Int) < 0
    · rw [if_pos (show n < (x.fName.size : Int) + (x.fTo.size : Int) by omega)]
      simp (maxSteps := 2000000) (implicitDefEqProofs := false) (disch := (first | omega | assumption | (refine ⟨?_, ?_⟩ <;> omega) | (unfold catOk; (try simp only [ByteArray.size_append, size_lit, List.length_cons, List.length_nil]); omega) | (unfold mkOk; omega) | (unfold appOk; (try simp only [List.length_map, List.length_append, List.length_cons, List.length_nil]); omega))) only [go_sem, Nat.reduceEqDiff, Nat.reduceBEq, Nat.reduceAdd, Nat.reduceSub, Nat.reduceMul, Nat.reduceLeDiff, Nat.reduceLT, ↓reduceIte, reduceCtorEq, Int.reduceEq, Int.reduceLE, Int.reduceLT, Int.reduceToNat, Int.reduceNeg, Int.reduceSub, Int.reduceAdd, Int.reduceMul, ltT, ltF, leT, leF, neF, catT, mkT, appT, wrap_id, List.length_map, Int.toNat_natCast, TLine.x, c0, c1]
    · rw [if_neg (show ¬ n < (x.fName.size : Int) + (x.fTo.size : Int) by omega)]
      rw [show n - ((x.fName.size : Int) + (x.fTo.size : Int)) = n - (x.fName.size : Int) - (x.fTo.size : Int) by omega]
      simp (maxSteps := 2000000) (implicitDefEqProofs := false) (disch := (first | omega | assumption | (refine ⟨?_, ?_⟩ <;> omega) | (unfold catOk; (try simp only [ByteArray.size_append, size_lit, List.length_cons, List.length_nil]); omega) | (unfold mkOk; omega) | (unfold appOk; (try simp only [List.length_map, List.length_append, List.length_cons, List.length_nil]); omega))) only [go_sem, Nat.reduceEqDiff, Nat.reduceBEq, Nat.reduceAdd, Nat.reduceSub, Nat.reduceMul, Nat.reduceLeDiff, Nat.reduceLT, ↓reduceIte, reduceCtorEq, Int.reduceEq, Int.reduceLE, Int.reduceLT, Int.reduceToNat, Int.reduceNeg, Int.reduceSub, Int.reduceAdd, Int.reduceMul, ltT, ltF, leT, leF, neF, catT, mkT, appT, wrap_id, List.length_map, Int.toNat_natCast, TLine.x, c0, c1]
theorem laws_szLineS_l0 (xs : List TLine) (hx : xs.length ≤ 1048576) (hok : ∀ y ∈ xs, y.ok) : ∀ (B A : List TLine) (n : Int), xs = A ++ B → 0 ≤ n ∧ n ≤ 1048576 →
    loopW tab [0, 1, 5] b_laws_szLineS_0 { env := upd (upd (upd emp 5 (some (I (A.length : Int)))) 1 (some (I n))) 0 (some (.d (.r (xs.map TLine.r)))), heap := emp, fr := 0, next := 0 } = (if n < TLine.szl B then some (.ret, { env := upd emp 4 (some (I (-1))), heap := emp, fr := 0, next := 0 }) else some (.ext 0, { env := upd emp 1 (some (I (n - TLine.szl B))), heap := emp, fr := 0, next := 0 }))
  | [], A, n, h, hn => by
    rw [List.append_nil] at h
    subst h
    unfold loopW
    conv => lhs; arg 1; unfold b_laws_szLineS_0
    rw [if_neg (show ¬ n < TLine.szl [] by simp only [TLine.szl]; omega)]
    simp (maxSteps := 2000000) (implicitDefEqProofs := false) (disch := (first | omega | assumption | (refine ⟨?_, ?_⟩ <;> omega) | (unfold catOk; (try simp only [ByteArray.size_append, size_lit, List.length_cons, List.length_nil]); omega) | (unfold mkOk; omega) | (unfold appOk; (try simp only [List.length_map, List.length_append, List.length_cons, List.length_nil]); omega))) only [go_sem, Nat.reduceEqDiff, Nat.reduceBEq, Nat.reduceAdd, Nat.reduceSub, Nat.reduceMul, Nat.reduceLeDiff, Nat.reduceLT, ↓reduceIte, reduceCtorEq, Int.reduceEq, Int.reduceLE, Int.reduceLT, Int.reduceToNat, Int.reduceNeg, Int.reduceSub, Int.reduceAdd, Int.reduceMul, ltT, ltF, leT, leF, neF, catT, mkT, appT, wrap_id, List.length_map, Int.toNat_natCast, TLine.szl, Int.sub_zero]
  | x :: B, A, n, h, hn => by
    unfold loopW
    conv => lhs; arg 1; unfold b_laws_szLineS_0
    have hl : xs.length = A.length + (B.length + 1) := by rw [h]; simp
    have h2 : (xs.map TLine.r)[A.length]? = some x.r := by rw [h]; simp
    have hto := laws_szLine_ok x n hn (hok x (by rw [h]; simp))
    have hnn := TLine.szl_nn B
    have hxn := x.sz_nn
    simp only [TLine.r] at h2
    simp only [TLine.x] at hto
    rw [show TLine.szl (x :: B) = x.sz + TLine.szl B from rfl]
    by_cases hc : n < x.sz
    · rw [if_pos hc] at hto
      rw [if_pos (show n < x.sz + TLine.szl B by omega)]
      simp (maxSteps := 2000000) (implicitDefEqProofs := false) (disch := (first | omega | assumption | (refine ⟨?_, ?_⟩ <;> omega) | (unfold catOk; (try simp only [ByteArray.size_append, size_lit, List.length_cons, List.length_nil]); omega) | (unfold mkOk; omega) | (unfold appOk; (try simp only [List.length_map, List.length_append, List.length_cons, List.length_nil]); omega))) only [go_sem, Nat.reduceEqDiff, Nat.reduceBEq, Nat.reduceAdd, Nat.reduceSub, Nat.reduceMul, Nat.reduceLeDiff, Nat.reduceLT, ↓reduceIte, reduceCtorEq, Int.reduceEq, Int.reduceLE, Int.reduceLT, Int.reduceToNat, Int.reduceNeg, Int.reduceSub, Int.reduceAdd, Int.reduceMul, ltT, ltF, leT, leF, neF, catT, mkT, appT, wrap_id, List.length_map, Int.toNat_natCast, h2, hto]
    · rw [if_neg hc] at hto
      have ih := laws_szLineS_l0 xs hx hok B (A ++ [x]) (n - x.sz) (by simp [h]) (by omega)
      rw [show (((A ++ [x]).length : Nat) : Int) = (A.length : Int) + 1 by simp] at ih
      by_cases hd : n - x.sz < TLine.szl B
      · rw [if_pos hd] at ih
        rw [if_pos (show n < x.sz + TLine.szl B by omega)]
        simp (maxSteps := 2000000) (implicitDefEqProofs := false) (disch := (first | omega | assumption | (refine ⟨?_, ?_⟩ <;> omega) | (unfold catOk; (try simp only [ByteArray.size_append, size_lit, List.length_cons, List.length_nil]); omega) | (unfold mkOk; omega) | (unfold appOk; (try simp only [List.length_map, List.length_append, List.length_cons, List.length_nil]); omega))) only [go_sem, Nat.reduceEqDiff, Nat.reduceBEq, Nat.reduceAdd, Nat.reduceSub, Nat.reduceMul, Nat.reduceLeDiff, Nat.reduceLT, ↓reduceIte, reduceCtorEq, Int.reduceEq, Int.reduceLE, Int.reduceLT, Int.reduceToNat, Int.reduceNeg, Int.reduceSub, Int.reduceAdd, Int.reduceMul, ltT, ltF, leT, leF, neF, catT, mkT, appT, wrap_id, List.length_map, Int.toNat_natCast, h2, hto, ih]
      · rw [if_neg hd, show n - x.sz - TLine.szl B = n - (x.sz + TLine.szl B) by omega] at ih
        rw [if_neg (show ¬ n < x.sz + TLine.szl B by omega)]
        simp (maxSteps := 2000000) (implicitDefEqProofs := false) (disch := (first | omega | assumption | (refine ⟨?_, ?_⟩ <;> omega) | (unfold catOk; (try simp only [ByteArray.size_append, size_lit, List.length_cons, List.length_nil]); omega) | (unfold mkOk; omega) | (unfold appOk; (try simp only [List.length_map, List.length_append, List.length_cons, List.length_nil]); omega))) only [go_sem, Nat.reduceEqDiff, Nat.reduceBEq, Nat.reduceAdd, Nat.reduceSub, Nat.reduceMul, Nat.reduceLeDiff, Nat.reduceLT, ↓reduceIte, reduceCtorEq, Int.reduceEq, Int.reduceLE, Int.reduceLT, Int.reduceToNat, Int.reduceNeg, Int.reduceSub, Int.reduceAdd, Int.reduceMul, ltT, ltF, leT, leF, neF, catT, mkT, appT, wrap_id, List.length_map, Int.toNat_natCast, h2, hto, ih]
theorem laws_szLineS_ok (xs : List TLine) (n : Int) (hn : 0 ≤ n ∧ n ≤ 1048576) (hx : xs.length ≤ 140737488351232 ∧ ∀ y ∈ xs, y.ok) : call tab laws_szLineS [.d (.r (xs.map TLine.r)), I n] = some (I (if n < TLine.szs xs then -1 else n - TLine.szs xs)) := by
  rw [call_of t_laws_szLineS _ rfl, c_laws_szLineS]
  have hx1 := hx.1
  have hnn := TLine.szl_nn xs
  rw [show TLine.szs xs = xs.length + TLine.szl xs from rfl]
  by_cases h : n - (xs.length : Int) < 0
  · rw [if_pos (show n < xs.length + TLine.szl xs by omega)]
    simp (maxSteps := 2000000) (implicitDefEqProofs := false) (disch := (first | omega | assumption | (refine ⟨?_, ?_⟩ <;> omega) | (unfold catOk; (try simp only [ByteArray.size_append, size_lit, List.length_cons, List.length_nil]); omega) | (unfold mkOk; omega) | (unfold appOk; (try simp only [List.length_map, List.length_append, List.length_cons, List.length_nil]); omega))) only [go_sem, Nat.reduceEqDiff, Nat.reduceBEq, Nat.reduceAdd, Nat.reduceSub, Nat.reduceMul, Nat.reduceLeDiff, Nat.reduceLT, ↓reduceIte, reduceCtorEq, Int.reduceEq, Int.reduceLE, Int.reduceLT, Int.reduceToNat, Int.reduceNeg, Int.reduceSub, Int.reduceAdd, Int.reduceMul, ltT, ltF, leT, leF, neF, catT, mkT, appT, wrap_id, List.length_map, Int.toNat_natCast, h]
  · have hl := laws_szLineS_l0 xs (by omega) hx.2 xs [] (n - xs.length) rfl (by omega)
    simp only [List.length_nil, Int.cast_ofNat_Int] at hl
    by_cases hd : n - (xs.length : Int) < TLine.szl xs
    · rw [if_pos hd] at hl
      rw [if_pos (show n < xs.length + TLine.szl xs by omega)]
      simp (maxSteps := 2000000) (implicitDefEqProofs := false) (disch := (first | omega | assumption | (refine ⟨?_, ?_⟩ <;> omega) | (unfold catOk; (try simp only [ByteArray.size_append, size_lit, List.length_cons, List.length_nil]); omega) | (unfold mkOk; omega) | (unfold appOk; (try simp only [List.length_map, List.length_append, List.length_cons, List.length_nil]); omega))) only [go_sem, Nat.reduceEqDiff, Nat.reduceBEq, Nat.reduceAdd, Nat.reduceSub, Nat.reduceMul, Nat.reduceLeDiff, Nat.reduceLT, ↓reduceIte, reduceCtorEq, Int.reduceEq, Int.reduceLE, Int.reduceLT, Int.reduceToNat, Int.reduceNeg, Int.reduceSub, Int.reduceAdd, Int.reduceMul, ltT, ltF, leT, leF, neF, catT, mkT, appT, wrap_id, List.length_map, Int.toNat_natCast, h, hl]
    · rw [if_neg hd, show n - (xs.length : Int) - TLine.szl xs = n - (xs.length + TLine.szl xs) by omega] at hl
      rw [if_neg (show ¬ n < xs.length + TLine.szl xs by omega)]
      simp (maxSteps := 2000000) (implicitDefEqProofs := false) (disch := (first | omega | assumption | (refine ⟨?_, ?_⟩ <;> omega) | (unfold catOk; (try simp only [ByteArray.size_append, size_lit, List.length_cons, List.length_nil]); omega) | (unfold mkOk; omega) | (unfold appOk; (try simp only [List.length_map, List.length_append, List.length_cons, List.length_nil]); omega))) only [go_sem, Nat.reduceEqDiff, Nat.reduceBEq, Nat.reduceAdd, Nat.reduceSub, Nat.reduceMul, Nat.reduceLeDiff, Nat.reduceLT, ↓reduceIte, reduceCtorEq, Int.reduceEq, Int.reduceLE, Int.reduceLT, Int.reduceToNat, Int.reduceNeg, Int.reduceSub, Int.reduceAdd, Int.reduceMul, ltT, ltF, leT, leF, neF, catT, mkT, appT, wrap_id, List.length_map, Int.toNat_natCast, h, hl]
theorem laws_markLineS_l0 : ∀ (B A : List TLine) (k : Int), (A.length : Int) + TLine.cts B ≤ 1099511627776 → 0 ≤ k ∧ k + TLine.cts B ≤ 4611686018427387904 →
    loopW tab [0, 1, 5] b_laws_markLineS_0 { env := upd (upd (upd emp 5 (some (I (A.length : Int)))) 1 (some (I k))) 0 (some (.ref (0, 0) [])), heap := upd emp (0, 0) (some (.s 8 (A.map TLine.o ++ B.map TLine.o))), fr := 1, next := 0 } = some (.ext 0, { env := upd emp 1 (some (I (k + TLine.cts B))), heap := upd emp (0, 0) (some (.s 8 (A.map TLine.o ++ (TLine.mks k B).map TLine.o))), fr := 1, next := 0 })
  | [], A, k, h, hk => by
    unfold loopW
    conv => lhs; arg 1; unfold b_laws_markLineS_0
    simp only [TLine.cts] at h hk
    simp (maxSteps := 2000000) (implicitDefEqProofs := false) (disch := (first | omega | assumption | (refine ⟨?_, ?_⟩ <;> omega) | (unfold catOk; (try simp only [ByteArray.size_append, size_lit, List.length_cons, List.length_nil]); omega) | (unfold mkOk; omega) | (unfold appOk; (try simp only [List.length_map, List.length_append, List.length_cons, List.length_nil]); omega))) only [go_sem, Nat.reduceEqDiff, Nat.reduceBEq, Nat.reduceAdd, Nat.reduceSub, Nat.reduceMul, Nat.reduceLeDiff, Nat.reduceLT, ↓reduceIte, reduceCtorEq, Int.reduceEq, Int.reduceLE, Int.reduceLT, Int.reduceToNat, Int.reduceNeg, Int.reduceSub, Int.reduceAdd, Int.reduceMul, ltT, ltF, leT, leF, neF, catT, mkT, appT, wrap_id, List.length_map, Int.toNat_natCast, TLine.cts, TLine.mks, List.map_nil, List.append_nil, Int.add_zero]
  | x :: B, A, k, h, hk => by
    unfold loopW
    conv => lhs; arg 1; unfold b_laws_markLineS_0
    simp only [TLine.cts] at h hk
    have h1 := x.ct_nn
    have h0 := TLine.cts_nn B
    have ih := laws_markLineS_l0 B (A ++ [x.mk_ k]) (k + x.ct) (by simp; omega) (by omega)
    rw [show (((A ++ [x.mk_ k]).length : Nat) : Int) = (A.length : Int) + 1 by simp, show k + x.ct + TLine.cts B = k + TLine.cts (x :: B) by simp only [TLine.cts]; omega] at ih
    simp only [List.map_append, List.map_cons, List.map_nil, List.append_assoc, List.cons_append, List.nil_append] at ih
    simp only [TLine.mks, List.map_cons]
    have hm : TLine.o (x.mk_ k) = [DS (mtxt (k)), DI (k + 1), DI (k + 1 + 1), DI (k + 1 + 1 + 1), DI (k + 1 + 1 + 1 + 1), DI (k + 1 + 1 + 1 + 1 + 1), DI (k + 1 + 1 + 1 + 1 + 1 + 1), DS (mtxt (k + 1 + 1 + 1 + 1 + 1 + 1 + 1))] := rfl
    have hkx : k + x.ct = k + 1 + 1 + 1 + 1 + 1 + 1 + 1 + 1 := by unfold TLine.ct; omega
    rw [hm, hkx] at ih
    rw [hm, hkx]
    unfold TLine.ct at hk h0
    simp (maxSteps := 2000000) (implicitDefEqProofs := false) (disch := (first | omega | assumption | (refine ⟨?_, ?_⟩ <;> omega) | (unfold catOk; (try simp only [ByteArray.size_append, size_lit, List.length_cons, List.length_nil]); omega) | (unfold mkOk; omega) | (unfold appOk; (try simp only [List.length_map, List.length_append, List.length_cons, List.length_nil]); omega))) only [go_sem, Nat.reduceEqDiff, Nat.reduceBEq, Nat.reduceAdd, Nat.reduceSub, Nat.reduceMul, Nat.reduceLeDiff, Nat.reduceLT, ↓reduceIte, reduceCtorEq, Int.reduceEq, Int.reduceLE, Int.reduceLT, Int.reduceToNat, Int.reduceNeg, Int.reduceSub, Int.reduceAdd, Int.reduceMul, ltT, ltF, leT, leF, neF, catT, mkT, appT, wrap_id, List.length_map, Int.toNat_natCast, TLine.o, List.length_cons, len_cat, get_mid, set_mid, laws_markText_ok, ih]
theorem laws_markLineS_ok (xs : List TLine) (k : Int) (h : TLine.cts xs ≤ 1099511627776) (hk : 0 ≤ k ∧ k + TLine.cts xs ≤ 4611686018427387904) : evCW tab laws_markLineS [.ref (0, 0) [], I k] (upd emp (0, 0) (some (.s 8 (xs.map TLine.o)))) 1 = some (I (k + TLine.cts xs), upd emp (0, 0) (some (.s 8 ((TLine.mks k xs).map TLine.o)))) := by
  rw [evCW_of t_laws_markLineS _ _ _ rfl, c_laws_markLineS]
  have hl := laws_markLineS_l0 xs [] k (by simpa using h) hk
  simp only [List.map_nil, List.nil_append, List.length_nil, Int.cast_ofNat_Int] at hl
  simp (maxSteps := 2000000) (implicitDefEqProofs := false) (disch := (first | omega | assumption | (refine ⟨?_, ?_⟩ <;> omega) | (unfold catOk; (try simp only [ByteArray.size_append, size_lit, List.length_cons, List.length_nil]); omega) | (unfold mkOk; omega) | (unfold appOk; (try simp only [List.length_map, List.length_append, List.length_cons, List.length_nil]); omega))) only [go_sem, Nat.reduceEqDiff, Nat.reduceBEq, Nat.reduceAdd, Nat.reduceSub, Nat.reduceMul, Nat.reduceLeDiff, Nat.reduceLT, ↓reduceIte, reduceCtorEq, Int.reduceEq, Int.reduceLE, Int.reduceLT, Int.reduceToNat, Int.reduceNeg, Int.reduceSub, Int.reduceAdd, Int.reduceMul, ltT, ltF, leT, leF, neF, catT, mkT, appT, wrap_id, List.length_map, Int.toNat_natCast, hl]
end Go.Ev.G
