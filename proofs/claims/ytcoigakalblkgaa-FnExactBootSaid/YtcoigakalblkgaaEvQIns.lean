/- The laws' own helpers on the type Ins: written by genq.py. -/
import Derived.Test.YtcoigakalblkgaaEvQInt
set_option linter.all false
namespace Go.Ev.G
set_option maxRecDepth 8000
set_option maxHeartbeats 4000000
structure TIns where
  fOp : Int
  fR : Int
  fA : Int
  fB : Int
  fN : Int
  fM : Int
def TIns.r (x : TIns) : List D := [DI x.fOp, DI x.fR, DI x.fA, DI x.fB, DI x.fN, DI x.fM]
def TIns.o (x : TIns) : List D := [DI x.fOp, DI x.fR, DI x.fA, DI x.fB, DI x.fN, DI x.fM]
abbrev TIns.x (x : TIns) : X := .agg [I x.fOp, I x.fR, I x.fA, I x.fB, I x.fN, I x.fM]
abbrev TIns.xo (x : TIns) : X := .agg [I x.fOp, I x.fR, I x.fA, I x.fB, I x.fN, I x.fM]
theorem TIns.fzl (x : TIns) : fzl x.o = x.r := by simp only [TIns.o, TIns.r, Ev.fzl, D.fz, fzs_numR]
theorem TIns.fzs (xs : List TIns) : fzs (xs.map TIns.o) = xs.map TIns.r := fzs_map _ _ TIns.fzl xs
theorem TIns.noR (xs : List TIns) : D.noR.noRss (xs.map TIns.o) = true := noRss_map _ (fun x => by simp only [TIns.o, D.noR.noRs, D.noR, Bool.and_true, Bool.true_and, noR_numR]) xs
def TIns.sz (x : TIns) : Int := 0
def TIns.szs (xs : List TIns) : Int := xs.length
theorem TIns.szs_nn (xs : List TIns) : 0 ≤ TIns.szs xs ∧ (xs.length : Int) ≤ TIns.szs xs := by unfold TIns.szs; omega
def TIns.sm (x : TIns) : Prop := True
structure TIns.ok (x : TIns) : Prop where
  fOp : i64 x.fOp
  fR : i64 x.fR
  fA : i64 x.fA
  fB : i64 x.fB
  fN : i64 x.fN
  fM : i64 x.fM
theorem TIns.fit {c : List D} (h : fitL [.i .i64, .i .i64, .i .i64, .i .i64, .i .i64, .i .i64] c) : ∃ x : TIns, c = x.r ∧ x.ok := by
  simp only [fitL] at h
  obtain ⟨_, _, rfl, h0, _, _, rfl, h1, _, _, rfl, h2, _, _, rfl, h3, _, _, rfl, h4, _, _, rfl, h5, rfl⟩ := h
  rw [Ev.fit] at h0; obtain ⟨a0, rfl, g0⟩ := h0
  rw [Ev.fit] at h1; obtain ⟨a1, rfl, g1⟩ := h1
  rw [Ev.fit] at h2; obtain ⟨a2, rfl, g2⟩ := h2
  rw [Ev.fit] at h3; obtain ⟨a3, rfl, g3⟩ := h3
  rw [Ev.fit] at h4; obtain ⟨a4, rfl, g4⟩ := h4
  rw [Ev.fit] at h5; obtain ⟨a5, rfl, g5⟩ := h5
  exact ⟨⟨a0, a1, a2, a3, a4, a5⟩, rfl, ⟨wf64 g0, wf64 g1, wf64 g2, wf64 g3, wf64 g4, wf64 g5⟩⟩
def TIns.mk_ (k : Int) (x : TIns) : TIns := ⟨k, k + 1, k + 1 + 1, k + 1 + 1 + 1, k + 1 + 1 + 1 + 1, k + 1 + 1 + 1 + 1 + 1⟩
def TIns.ct (x : TIns) : Int := 1 + 1 + 1 + 1 + 1 + 1
theorem TIns.ct_nn (x : TIns) : 1 ≤ x.ct := by
  unfold TIns.ct; omega
def TIns.mks : Int → List TIns → List TIns
  | _, [] => []
  | k, x :: xs => TIns.mk_ k x :: TIns.mks (k + x.ct) xs
def TIns.cts : List TIns → Int
  | [] => 0
  | x :: xs => x.ct + TIns.cts xs
theorem TIns.cts_nn : ∀ xs : List TIns, (xs.length : Int) ≤ TIns.cts xs
  | [] => by simp [TIns.cts]
  | x :: xs => by simp only [TIns.cts, List.length_cons]; have := x.ct_nn; have := TIns.cts_nn xs; omega
theorem TIns.mks_len : ∀ (k : Int) (xs : List TIns), (TIns.mks k xs).length = xs.length
  | _, [] => rfl
  | k, x :: xs => by simp [TIns.mks, TIns.mks_len (k + x.ct) xs]
theorem TIns.ct_le (x : TIns) : x.ct ≤ 64 + 64 * x.sz := by
  unfold TIns.ct TIns.sz; omega
theorem TIns.cts_le : ∀ xs : List TIns, TIns.cts xs ≤ 64 * TIns.szs xs
  | [] => by simp [TIns.cts, TIns.szs]
  | x :: xs => by
    have h1 := x.ct_le; have h2 := TIns.cts_le xs
    have h3 : x.sz = 0 := rfl
    simp only [TIns.cts, TIns.szs, List.length_cons] at *; omega
def TIns.mkv (k : Int) (x : TIns) : TIns := ⟨x.fOp, x.fR, x.fA, x.fB, x.fN, x.fM⟩
def TIns.ctv (x : TIns) : Int := 0
theorem TIns.ctv_le (x : TIns) : x.ctv ≤ 64 * x.sz := by
  unfold TIns.ctv TIns.sz; omega
theorem laws_toIns_ok (x : TIns) (hx : x.sm) : call tab laws_toIns [x.x] = some x.xo := by
  rw [call_of t_laws_toIns _ rfl, c_laws_toIns]
  simp (maxSteps := 2000000) (implicitDefEqProofs := false) (disch := (first | omega | assumption | (refine ⟨?_, ?_⟩ <;> omega) | (unfold catOk; (try simp only [ByteArray.size_append, size_lit, List.length_cons, List.length_nil]); omega) | (unfold mkOk; omega) | (unfold appOk; (try simp only [List.length_map, List.length_append, List.length_cons, List.length_nil]); omega))) only [go_sem, Nat.reduceEqDiff, Nat.reduceBEq, Nat.reduceAdd, Nat.reduceSub, Nat.reduceMul, Nat.reduceLeDiff, Nat.reduceLT, ↓reduceIte, reduceCtorEq, Int.reduceEq, Int.reduceLE, Int.reduceLT, Int.reduceToNat, Int.reduceNeg, Int.reduceSub, Int.reduceAdd, Int.reduceMul, ltT, ltF, leT, leF, neF, catT, mkT, appT, wrap_id, List.length_map, Int.toNat_natCast, TIns.x, TIns.xo]
theorem laws_toInsS_l0 (xs : List TIns) (hx : xs.length ≤ 1048576) : ∀ (B A : List TIns), xs = A ++ B →
    loopW tab [0, 3, 4] b_laws_toInsS_0 { env := upd (upd (upd emp 4 (some (I (A.length : Int)))) 3 (some (.ref (0, 0) []))) 0 (some (.d (.r (xs.map TIns.r)))), heap := upd emp (0, 0) (some (.s 6 (A.map TIns.o ++ List.replicate B.length [DI 0, DI 0, DI 0, DI 0, DI 0, DI 0]))), fr := 0, next := 1 } = some (.ext 0, { env := upd emp 3 (some (.ref (0, 0) [])), heap := upd emp (0, 0) (some (.s 6 (xs.map TIns.o))), fr := 0, next := 1 })
  | [], A, h => by
    rw [List.append_nil] at h
    subst h
    unfold loopW
    conv => lhs; arg 1; unfold b_laws_toInsS_0
    have hx' := hx
    simp (maxSteps := 2000000) (implicitDefEqProofs := false) (disch := (first | omega | assumption | (refine ⟨?_, ?_⟩ <;> omega) | (unfold catOk; (try simp only [ByteArray.size_append, size_lit, List.length_cons, List.length_nil]); omega) | (unfold mkOk; omega) | (unfold appOk; (try simp only [List.length_map, List.length_append, List.length_cons, List.length_nil]); omega))) only [go_sem, Nat.reduceEqDiff, Nat.reduceBEq, Nat.reduceAdd, Nat.reduceSub, Nat.reduceMul, Nat.reduceLeDiff, Nat.reduceLT, ↓reduceIte, reduceCtorEq, Int.reduceEq, Int.reduceLE, Int.reduceLT, Int.reduceToNat, Int.reduceNeg, Int.reduceSub, Int.reduceAdd, Int.reduceMul, ltT, ltF, leT, leF, neF, catT, mkT, appT, wrap_id, List.length_map, Int.toNat_natCast, List.replicate_zero]
  | x :: B, A, h => by
    unfold loopW
    conv => lhs; arg 1; unfold b_laws_toInsS_0
    have hl : xs.length = A.length + (B.length + 1) := by rw [h]; simp
    have h2 : (xs.map TIns.r)[A.length]? = some x.r := by rw [h]; simp
    have hx' := hx
    have hto := laws_toIns_ok x trivial
    have ih := laws_toInsS_l0 xs hx B (A ++ [x]) (by simp [h])
    rw [show (((A ++ [x]).length : Nat) : Int) = (A.length : Int) + 1 by simp] at ih
    simp only [List.map_append, List.map_cons, List.map_nil, List.append_assoc, List.cons_append, List.nil_append, TIns.o] at ih
    simp only [TIns.r] at h2
    simp only [TIns.x, TIns.xo] at hto
    simp (maxSteps := 2000000) (implicitDefEqProofs := false) (disch := (first | omega | assumption | (refine ⟨?_, ?_⟩ <;> omega) | (unfold catOk; (try simp only [ByteArray.size_append, size_lit, List.length_cons, List.length_nil]); omega) | (unfold mkOk; omega) | (unfold appOk; (try simp only [List.length_map, List.length_append, List.length_cons, List.length_nil]); omega))) only [go_sem, Nat.reduceEqDiff, Nat.reduceBEq, Nat.reduceAdd, Nat.reduceSub, Nat.reduceMul, Nat.reduceLeDiff, Nat.reduceLT, ↓reduceIte, reduceCtorEq, Int.reduceEq, Int.reduceLE, Int.reduceLT, Int.reduceToNat, Int.reduceNeg, Int.reduceSub, Int.reduceAdd, Int.reduceMul, ltT, ltF, leT, leF, neF, catT, mkT, appT, wrap_id, List.length_map, Int.toNat_natCast, List.length_cons, List.replicate_succ, len_cat, get_mid, set_mid, h2, hto, ih]
theorem laws_toInsS_ok (xs : List TIns) (hx : xs.length ≤ 1048576) : call tab laws_toInsS [.d (.r (xs.map TIns.r))] = some (.d (.s 6 (xs.map TIns.o))) := by
  rw [call_of t_laws_toInsS _ rfl, c_laws_toInsS]
  have hl := laws_toInsS_l0 xs hx xs [] rfl
  have hx' := hx
  simp only [List.map_nil, List.nil_append, List.length_nil, Int.cast_ofNat_Int] at hl
  simp (maxSteps := 2000000) (implicitDefEqProofs := false) (disch := (first | omega | assumption | (refine ⟨?_, ?_⟩ <;> omega) | (unfold catOk; (try simp only [ByteArray.size_append, size_lit, List.length_cons, List.length_nil]); omega) | (unfold mkOk; omega) | (unfold appOk; (try simp only [List.length_map, List.length_append, List.length_cons, List.length_nil]); omega))) only [go_sem, Nat.reduceEqDiff, Nat.reduceBEq, Nat.reduceAdd, Nat.reduceSub, Nat.reduceMul, Nat.reduceLeDiff, Nat.reduceLT, ↓reduceIte, reduceCtorEq, Int.reduceEq, Int.reduceLE, Int.reduceLT, Int.reduceToNat, Int.reduceNeg, Int.reduceSub, Int.reduceAdd, Int.reduceMul, ltT, ltF, leT, leF, neF, catT, mkT, appT, wrap_id, List.length_map, Int.toNat_natCast, hl]
theorem laws_eqIns_ok (x : TIns) (hx : x.sm) : call tab laws_eqIns [x.x, x.x] = some (B true) := by
  rw [call_of t_laws_eqIns _ rfl, c_laws_eqIns]
  simp (maxSteps := 2000000) (implicitDefEqProofs := false) (disch := (first | omega | assumption | (refine ⟨?_, ?_⟩ <;> omega) | (unfold catOk; (try simp only [ByteArray.size_append, size_lit, List.length_cons, List.length_nil]); omega) | (unfold mkOk; omega) | (unfold appOk; (try simp only [List.length_map, List.length_append, List.length_cons, List.length_nil]); omega))) only [go_sem, Nat.reduceEqDiff, Nat.reduceBEq, Nat.reduceAdd, Nat.reduceSub, Nat.reduceMul, Nat.reduceLeDiff, Nat.reduceLT, ↓reduceIte, reduceCtorEq, Int.reduceEq, Int.reduceLE, Int.reduceLT, Int.reduceToNat, Int.reduceNeg, Int.reduceSub, Int.reduceAdd, Int.reduceMul, ltT, ltF, leT, leF, neF, catT, mkT, appT, wrap_id, List.length_map, Int.toNat_natCast, TIns.x]
theorem laws_eqInsS_l0 (xs : List TIns) (hx : xs.length ≤ 1048576) : ∀ (B A : List TIns), xs = A ++ B →
    loopW tab [0, 1, 5] b_laws_eqInsS_0 { env := upd (upd (upd emp 5 (some (I (A.length : Int)))) 1 (some (.d (.r (xs.map TIns.r))))) 0 (some (.d (.r (xs.map TIns.r)))), heap := emp, fr := 0, next := 0 } = some (.ext 0, { env := emp, heap := emp, fr := 0, next := 0 })
  | [], A, h => by
    rw [List.append_nil] at h
    subst h
    unfold loopW
    conv => lhs; arg 1; unfold b_laws_eqInsS_0
    have hx' := hx
    simp (maxSteps := 2000000) (implicitDefEqProofs := false) (disch := (first | omega | assumption | (refine ⟨?_, ?_⟩ <;> omega) | (unfold catOk; (try simp only [ByteArray.size_append, size_lit, List.length_cons, List.length_nil]); omega) | (unfold mkOk; omega) | (unfold appOk; (try simp only [List.length_map, List.length_append, List.length_cons, List.length_nil]); omega))) only [go_sem, Nat.reduceEqDiff, Nat.reduceBEq, Nat.reduceAdd, Nat.reduceSub, Nat.reduceMul, Nat.reduceLeDiff, Nat.reduceLT, ↓reduceIte, reduceCtorEq, Int.reduceEq, Int.reduceLE, Int.reduceLT, Int.reduceToNat, Int.reduceNeg, Int.reduceSub, Int.reduceAdd, Int.reduceMul, ltT, ltF, leT, leF, neF, catT, mkT, appT, wrap_id, List.length_map, Int.toNat_natCast]
  | x :: B, A, h => by
    unfold loopW
    conv => lhs; arg 1; unfold b_laws_eqInsS_0
    have hl : xs.length = A.length + (B.length + 1) := by rw [h]; simp
    have h2 : (xs.map TIns.r)[A.length]? = some x.r := by rw [h]; simp
    have hx' := hx
    have hto := laws_eqIns_ok x trivial
    have ih := laws_eqInsS_l0 xs hx B (A ++ [x]) (by simp [h])
    rw [show (((A ++ [x]).length : Nat) : Int) = (A.length : Int) + 1 by simp] at ih
    simp only [TIns.r] at h2
    simp only [TIns.x] at hto
    simp (maxSteps := 2000000) (implicitDefEqProofs := false) (disch := (first | omega | assumption | (refine ⟨?_, ?_⟩ <;> omega) | (unfold catOk; (try simp only [ByteArray.size_append, size_lit, List.length_cons, List.length_nil]); omega) | (unfold mkOk; omega) | (unfold appOk; (try simp only [List.length_map, List.length_append, List.length_cons, List.length_nil]); omega))) only [go_sem, Nat.reduceEqDiff, Nat.reduceBEq, Nat.reduceAdd, Nat.reduceSub, Nat.reduceMul, Nat.reduceLeDiff, Nat.reduceLT, ↓reduceIte, reduceCtorEq, Int.reduceEq, Int.reduceLE, Int.reduceLT, Int.reduceToNat, Int.reduceNeg, Int.reduceSub, Int.reduceAdd, Int.reduceMul, ltT, ltF, leT, leF, neF, catT, mkT, appT, wrap_id, List.length_map, Int.toNat_natCast, h2, hto, ih]
theorem laws_eqInsS_ok (xs : List TIns) (hx : xs.length ≤ 1048576) : call tab laws_eqInsS [.d (.r (xs.map TIns.r)), .d (.r (xs.map TIns.r))] = some (B true) := by
  rw [call_of t_laws_eqInsS _ rfl, c_laws_eqInsS]
  have hl := laws_eqInsS_l0 xs hx xs [] rfl
  have hx' := hx
  simp only [List.length_nil, Int.cast_ofNat_Int] at hl
  simp (maxSteps := 2000000) (implicitDefEqProofs := false) (disch := (first | omega | assumption | (refine ⟨?_, ?_⟩ <;> omega) | (unfold catOk; (try simp only [ByteArray.size_append, size_lit, List.length_cons, List.length_nil]); omega) | (unfold mkOk; omega) | (unfold appOk; (try simp only [List.length_map, List.length_append, List.length_cons, List.length_nil]); omega))) only [go_sem, Nat.reduceEqDiff, Nat.reduceBEq, Nat.reduceAdd, Nat.reduceSub, Nat.reduceMul, Nat.reduceLeDiff, Nat.reduceLT, ↓reduceIte, reduceCtorEq, Int.reduceEq, Int.reduceLE, Int.reduceLT, Int.reduceToNat, Int.reduceNeg, Int.reduceSub, Int.reduceAdd, Int.reduceMul, ltT, ltF, leT, leF, neF, catT, mkT, appT, wrap_id, List.length_map, Int.toNat_natCast, hl]
theorem laws_szInsS_ok (xs : List TIns) (n : Int) (hn : -1 ≤ n ∧ n ≤ 1048576) (hx : xs.length ≤ 4611686018427387904) : call tab laws_szInsS [.d (.r (xs.map TIns.r)), I n] = some (I (if n - xs.length < 0 then -1 else n - xs.length)) := by
  rw [call_of t_laws_szInsS _ rfl, c_laws_szInsS]
  by_cases h : n - (xs.length : Int) < 0
  · rw [if_pos h]
    simp (maxSteps := 2000000) (implicitDefEqProofs := false) (disch := (first | omega | assumption | (refine ⟨?_, ?_⟩ <;> omega) | (unfold catOk; (try simp only [ByteArray.size_append, size_lit, List.length_cons, List.length_nil]); omega) | (unfold mkOk; omega) | (unfold appOk; (try simp only [List.length_map, List.length_append, List.length_cons, List.length_nil]); omega))) only [go_sem, Nat.reduceEqDiff, Nat.reduceBEq, Nat.reduceAdd, Nat.reduceSub, Nat.reduceMul, Nat.reduceLeDiff, Nat.reduceLT, ↓reduceIte, reduceCtorEq, Int.reduceEq, Int.reduceLE, Int.reduceLT, Int.reduceToNat, Int.reduceNeg, Int.reduceSub, Int.reduceAdd, Int.reduceMul, ltT, ltF, leT, leF, neF, catT, mkT, appT, wrap_id, List.length_map, Int.toNat_natCast, h]
  · rw [if_neg h]
    simp (maxSteps := 2000000) (implicitDefEqProofs := false) (disch := (first | omega | assumption | (refine ⟨?_, ?_⟩ <;> omega) | (unfold catOk; (try simp only [ByteArray.size_append, size_lit, List.length_cons, List.length_nil]); omega) | (unfold mkOk; omega) | (unfold appOk; (try simp only [List.length_map, List.length_append, List.length_cons, List.length_nil]); omega))) only [go_sem, Nat.reduceEqDiff, Nat.reduceBEq, Nat.reduceAdd, Nat.reduceSub, Nat.reduceMul, Nat.reduceLeDiff, Nat.reduceLT, ↓reduceIte, reduceCtorEq, Int.reduceEq, Int.reduceLE, Int.reduceLT, Int.reduceToNat, Int.reduceNeg, Int.reduceSub, Int.reduceAdd, Int.reduceMul, ltT, ltF, leT, leF, neF, catT, mkT, appT, wrap_id, List.length_map, Int.toNat_natCast, h]
theorem laws_markInsS_l0 : ∀ (B A : List TIns) (k : Int), (A.length : Int) + TIns.cts B ≤ 1099511627776 → 0 ≤ k ∧ k + TIns.cts B ≤ 4611686018427387904 →
    loopW tab [0, 1, 5] b_laws_markInsS_0 { env := upd (upd (upd emp 5 (some (I (A.length : Int)))) 1 (some (I k))) 0 (some (.ref (0, 0) [])), heap := upd emp (0, 0) (some (.s 6 (A.map TIns.o ++ B.map TIns.o))), fr := 1, next := 0 } = some (.ext 0, { env := upd emp 1 (some (I (k + TIns.cts B))), heap := upd emp (0, 0) (some (.s 6 (A.map TIns.o ++ (TIns.mks k B).map TIns.o))), fr := 1, next := 0 })
  | [], A, k, h, hk => by
    unfold loopW
    conv => lhs; arg 1; unfold b_laws_markInsS_0
    simp only [TIns.cts] at h hk
    simp (maxSteps := 2000000) (implicitDefEqProofs := false) (disch := (first | omega | assumption | (refine ⟨?_, ?_⟩ <;> omega) | (unfold catOk; (try simp only [ByteArray.size_append, size_lit, List.length_cons, List.length_nil]); omega) | (unfold mkOk; omega) | (unfold appOk; (try simp only [List.length_map, List.length_append, List.length_cons, List.length_nil]); omega))) only [go_sem, Nat.reduceEqDiff, Nat.reduceBEq, Nat.reduceAdd, Nat.reduceSub, Nat.reduceMul, Nat.reduceLeDiff, Nat.reduceLT, ↓reduceIte, reduceCtorEq, Int.reduceEq, Int.reduceLE, Int.reduceLT, Int.reduceToNat, Int.reduceNeg, Int.reduceSub, Int.reduceAdd, Int.reduceMul, ltT, ltF, leT, leF, neF, catT, mkT, appT, wrap_id, List.length_map, Int.toNat_natCast, TIns.cts, TIns.mks, List.map_nil, List.append_nil, Int.add_zero]
  | x :: B, A, k, h, hk => by
    unfold loopW
    conv => lhs; arg 1; unfold b_laws_markInsS_0
    simp only [TIns.cts] at h hk
    have h1 := x.ct_nn
    have h0 := TIns.cts_nn B
    have ih := laws_markInsS_l0 B (A ++ [x.mk_ k]) (k + x.ct) (by simp; omega) (by omega)
    rw [show (((A ++ [x.mk_ k]).length : Nat) : Int) = (A.length : Int) + 1 by simp, show k + x.ct + TIns.cts B = k + TIns.cts (x :: B) by simp only [TIns.cts]; omega] at ih
    simp only [List.map_append, List.map_cons, List.map_nil, List.append_assoc, List.cons_append, List.nil_append] at ih
    simp only [TIns.mks, List.map_cons]
    have hm : TIns.o (x.mk_ k) = [DI (k), DI (k + 1), DI (k + 1 + 1), DI (k + 1 + 1 + 1), DI (k + 1 + 1 + 1 + 1), DI (k + 1 + 1 + 1 + 1 + 1)] := rfl
    have hkx : k + x.ct = k + 1 + 1 + 1 + 1 + 1 + 1 := by unfold TIns.ct; omega
    rw [hm, hkx] at ih
    rw [hm, hkx]
    unfold TIns.ct at hk h0
    simp (maxSteps := 2000000) (implicitDefEqProofs := false) (disch := (first | omega | assumption | (refine ⟨?_, ?_⟩ <;> omega) | (unfold catOk; (try simp only [ByteArray.size_append, size_lit, List.length_cons, List.length_nil]); omega) | (unfold mkOk; omega) | (unfold appOk; (try simp only [List.length_map, List.length_append, List.length_cons, List.length_nil]); omega))) only [go_sem, Nat.reduceEqDiff, Nat.reduceBEq, Nat.reduceAdd, Nat.reduceSub, Nat.reduceMul, Nat.reduceLeDiff, Nat.reduceLT, ↓reduceIte, reduceCtorEq, Int.reduceEq, Int.reduceLE, Int.reduceLT, Int.reduceToNat, Int.reduceNeg, Int.reduceSub, Int.reduceAdd, Int.reduceMul, ltT, ltF, leT, leF, neF, catT, mkT, appT, wrap_id, List.length_map, Int.toNat_natCast, TIns.o, List.length_cons, len_cat, get_mid, set_mid, ih]
theorem laws_markInsS_ok (xs : List TIns) (k : Int) (h : TIns.cts xs ≤ 1099511627776) (hk : 0 ≤ k ∧ k + TIns.cts xs ≤ 4611686018427387904) : evCW tab laws_markInsS [.ref (0, 0) [], I k] (upd emp (0, 0) (some (.s 6 (xs.map TIns.o)))) 1 = some (I (k + TIns.cts xs), upd emp (0, 0) (some (.s 6 ((TIns.mks k xs).map TIns.o)))) := by
  rw [evCW_of t_laws_markInsS _ _ _ rfl, c_laws_markInsS]
  have hl := laws_markInsS_l0 xs [] k (by simpa using h) hk
  simp only [List.map_nil, List.nil_append, List.length_nil, Int.cast_ofNat_Int] at hl
  simp (maxSteps := 2000000) (implicitDefEqProofs := false) (disch := (first | omega | assumption | (refine ⟨?_, ?_⟩ <;> omega) | (unfold catOk; (try simp only [ByteArray.size_append, size_lit, List.length_cons, List.length_nil]); omega) | (unfold mkOk; omega) | (unfold appOk; (try simp only [List.length_map, List.length_append, List.length_cons, List.length_nil]); omega))) only [go_sem, Nat.reduceEqDiff, Nat.reduceBEq, Nat.reduceAdd, Nat.reduceSub, Nat.reduceMul, Nat.reduceLeDiff, Nat.reduceLT, ↓reduceIte, reduceCtorEq, Int.reduceEq, Int.reduceLE, Int.reduceLT, Int.reduceToNat, Int.reduceNeg, Int.reduceSub, Int.reduceAdd, Int.reduceMul, ltT, ltF, leT, leF, neF, catT, mkT, appT, wrap_id, List.length_map, Int.toNat_natCast, hl]
theorem laws_heldInsS_l0 (full : List (List D)) : ∀ (B A : List TIns) (k : Int), full = A.map TIns.r ++ (TIns.mks k B).map TIns.r → (A.length : Int) + TIns.cts B ≤ 1099511627776 → 0 ≤ k ∧ k + TIns.cts B ≤ 4611686018427387904 →
    loopW tab [0, 1, 5] b_laws_heldInsS_0 { env := upd (upd (upd emp 5 (some (I (A.length : Int)))) 1 (some (I k))) 0 (some (.d (.r full))), heap := emp, fr := 0, next := 0 } = some (.ext 0, { env := upd emp 1 (some (I (k + TIns.cts B))), heap := emp, fr := 0, next := 0 })
  | [], A, k, hf, h, hk => by
    subst hf
    unfold loopW
    conv => lhs; arg 1; unfold b_laws_heldInsS_0
    simp only [TIns.cts] at h hk
    simp (maxSteps := 2000000) (implicitDefEqProofs := false) (disch := (first | omega | assumption | (refine ⟨?_, ?_⟩ <;> omega) | (unfold catOk; (try simp only [ByteArray.size_append, size_lit, List.length_cons, List.length_nil]); omega) | (unfold mkOk; omega) | (unfold appOk; (try simp only [List.length_map, List.length_append, List.length_cons, List.length_nil]); omega))) only [go_sem, Nat.reduceEqDiff, Nat.reduceBEq, Nat.reduceAdd, Nat.reduceSub, Nat.reduceMul, Nat.reduceLeDiff, Nat.reduceLT, ↓reduceIte, reduceCtorEq, Int.reduceEq, Int.reduceLE, Int.reduceLT, Int.reduceToNat, Int.reduceNeg, Int.reduceSub, Int.reduceAdd, Int.reduceMul, ltT, ltF, leT, leF, neF, catT, mkT, appT, wrap_id, List.length_map, Int.toNat_natCast, TIns.cts, TIns.mks, List.map_nil, List.append_nil, Int.add_zero]
  | x :: B, A, k, hf, h, hk => by
    simp only [TIns.cts] at h hk
    have h1 := x.ct_nn
    have h0 := TIns.cts_nn B
    have ih := laws_heldInsS_l0 full B (A ++ [x.mk_ k]) (k + x.ct) (by rw [hf]; simp [TIns.mks]) (by simp; omega) (by omega)
    unfold loopW
    conv => lhs; arg 1; unfold b_laws_heldInsS_0
    have hlen := TIns.mks_len k (x :: B)
    have h2 : full[A.length]? = some (TIns.r (x.mk_ k)) := by rw [hf]; simp [TIns.mks]
    have h3 : full.length = A.length + (B.length + 1) := by rw [hf, List.length_append, List.length_map, List.length_map, hlen, List.length_cons]
    clear hf
    rw [show (((A ++ [x.mk_ k]).length : Nat) : Int) = (A.length : Int) + 1 by simp, show k + x.ct + TIns.cts B = k + TIns.cts (x :: B) by simp only [TIns.cts]; omega] at ih
    have hm : TIns.r (x.mk_ k) = [DI (k), DI (k + 1), DI (k + 1 + 1), DI (k + 1 + 1 + 1), DI (k + 1 + 1 + 1 + 1), DI (k + 1 + 1 + 1 + 1 + 1)] := rfl
    have hkx : k + x.ct = k + 1 + 1 + 1 + 1 + 1 + 1 := by unfold TIns.ct; omega
    rw [hkx] at ih
    rw [hm] at h2
    unfold TIns.ct at hk h0
    simp (maxSteps := 2000000) (implicitDefEqProofs := false) (disch := (first | omega | assumption | (refine ⟨?_, ?_⟩ <;> omega) | (unfold catOk; (try simp only [ByteArray.size_append, size_lit, List.length_cons, List.length_nil]); omega) | (unfold mkOk; omega) | (unfold appOk; (try simp only [List.length_map, List.length_append, List.length_cons, List.length_nil]); omega))) only [go_sem, Nat.reduceEqDiff, Nat.reduceBEq, Nat.reduceAdd, Nat.reduceSub, Nat.reduceMul, Nat.reduceLeDiff, Nat.reduceLT, ↓reduceIte, reduceCtorEq, Int.reduceEq, Int.reduceLE, Int.reduceLT, Int.reduceToNat, Int.reduceNeg, Int.reduceSub, Int.reduceAdd, Int.reduceMul, ltT, ltF, leT, leF, neF, catT, mkT, appT, wrap_id, List.length_map, Int.toNat_natCast, h2, h3, ih]
theorem laws_heldInsS_ok (xs : List TIns) (k : Int) (h : TIns.cts xs ≤ 1099511627776) (hk : 0 ≤ k ∧ k + TIns.cts xs ≤ 4611686018427387904) : call tab laws_heldInsS [.d (.r ((TIns.mks k xs).map TIns.r)), I k] = some (I (k + TIns.cts xs)) := by
  rw [call_of t_laws_heldInsS _ rfl, c_laws_heldInsS]
  have hl := laws_heldInsS_l0 _ xs [] k rfl (by simpa using h) hk
  simp only [List.map_nil, List.nil_append, List.length_nil, Int.cast_ofNat_Int] at hl
  simp (maxSteps := 2000000) (implicitDefEqProofs := false) (disch := (first | omega | assumption | (refine ⟨?_, ?_⟩ <;> omega) | (unfold catOk; (try simp only [ByteArray.size_append, size_lit, List.length_cons, List.length_nil]); omega) | (unfold mkOk; omega) | (unfold appOk; (try simp only [List.length_map, List.length_append, List.length_cons, List.length_nil]); omega))) only [go_sem, Nat.reduceEqDiff, Nat.reduceBEq, Nat.reduceAdd, Nat.reduceSub, Nat.reduceMul, Nat.reduceLeDiff, Nat.reduceLT, ↓reduceIte, reduceCtorEq, Int.reduceEq, Int.reduceLE, Int.reduceLT, Int.reduceToNat, Int.reduceNeg, Int.reduceSub, Int.reduceAdd, Int.reduceMul, ltT, ltF, leT, leF, neF, catT, mkT, appT, wrap_id, List.length_map, Int.toNat_natCast, hl]
end Go.Ev.G
