/- The laws' own helpers on the type Frame: written by genq.py. -/
import Derived.Test.YtcoigakalblkgaaEvQInt
set_option linter.all false
namespace Go.Ev.G
set_option maxRecDepth 8000
set_option maxHeartbeats 4000000
structure TFrame where
  fUnit : Int
  fPc : Int
  fRegs : List Int
  fDst : Int
def TFrame.r (x : TFrame) : List D := [DI x.fUnit, DI x.fPc, .r (numR x.fRegs), DI x.fDst]
def TFrame.o (x : TFrame) : List D := [DI x.fUnit, DI x.fPc, .s 1 (numR x.fRegs), DI x.fDst]
abbrev TFrame.x (x : TFrame) : X := .agg [I x.fUnit, I x.fPc, .d (.r (numR x.fRegs)), I x.fDst]
abbrev TFrame.xo (x : TFrame) : X := .agg [I x.fUnit, I x.fPc, .d (.s 1 (numR x.fRegs)), I x.fDst]
theorem TFrame.fzl (x : TFrame) : fzl x.o = x.r := by simp only [TFrame.o, TFrame.r, Ev.fzl, D.fz, fzs_numR]
theorem TFrame.fzlr (x : TFrame) : Ev.fzl x.r = x.r := by simp only [TFrame.r, Ev.fzl, D.fz, fzs_numR]
theorem TFrame.fzs (xs : List TFrame) : fzs (xs.map TFrame.o) = xs.map TFrame.r := fzs_map _ _ TFrame.fzl xs
theorem TFrame.fzr (xs : List TFrame) : Ev.fzs (xs.map TFrame.r) = xs.map TFrame.r := fzs_map _ _ TFrame.fzlr xs
theorem TFrame.noR (xs : List TFrame) : D.noR.noRss (xs.map TFrame.o) = true := noRss_map _ (fun x => by simp only [TFrame.o, D.noR.noRs, D.noR, Bool.and_true, Bool.true_and, noR_numR]) xs
def TFrame.sz (x : TFrame) : Int := (x.fRegs.length : Int)
theorem TFrame.sz_nn (x : TFrame) : 0 ≤ x.sz := by
  unfold TFrame.sz; omega
def TFrame.szl : List TFrame → Int
  | [] => 0
  | x :: xs => x.sz + TFrame.szl xs
def TFrame.szs (xs : List TFrame) : Int := xs.length + TFrame.szl xs
theorem TFrame.szl_nn : ∀ xs : List TFrame, 0 ≤ TFrame.szl xs
  | [] => by simp [TFrame.szl]
  | x :: xs => by simp only [TFrame.szl]; have := x.sz_nn; have := TFrame.szl_nn xs; omega
theorem TFrame.szs_nn (xs : List TFrame) : 0 ≤ TFrame.szs xs ∧ (xs.length : Int) ≤ TFrame.szs xs := by have := TFrame.szl_nn xs; unfold TFrame.szs; omega
theorem TFrame.sz_le : ∀ {xs : List TFrame} {x : TFrame}, x ∈ xs → x.sz ≤ TFrame.szl xs
  | y :: xs, x, h => by
    simp only [TFrame.szl]
    have h1 := y.sz_nn; have h2 := TFrame.szl_nn xs
    rcases List.mem_cons.1 h with rfl | h
    · omega
    · have := TFrame.sz_le h; omega
def TFrame.sm (x : TFrame) : Prop := x.fRegs.length ≤ 1048576
theorem TFrame.sm_of {x : TFrame} (h : x.sz ≤ 1048576) : x.sm := by
  unfold TFrame.sz at h
  unfold TFrame.sm
  exact by omega
theorem TFrame.sms_of {xs : List TFrame} (h : TFrame.szs xs ≤ 1048576) : xs.length ≤ 1048576 ∧ ∀ y ∈ xs, y.sm := by
  have := TFrame.szl_nn xs
  unfold TFrame.szs at h
  exact ⟨by omega, fun y hy => TFrame.sm_of (by have := TFrame.sz_le hy; omega)⟩
structure TFrame.ok (x : TFrame) : Prop where
  fUnit : i64 x.fUnit
  fPc : i64 x.fPc
  fRegs : x.fRegs.length ≤ 140737488351232 ∧ ∀ n ∈ x.fRegs, i64 n
  fDst : i64 x.fDst
theorem TFrame.fit {c : List D} (h : fitL [.i .i64, .i .i64, .l 8 [.i .i64], .i .i64] c) : ∃ x : TFrame, c = x.r ∧ x.ok := by
  simp only [fitL] at h
  obtain ⟨_, _, rfl, h0, _, _, rfl, h1, _, _, rfl, h2, _, _, rfl, h3, rfl⟩ := h
  rw [Ev.fit] at h0; obtain ⟨a0, rfl, g0⟩ := h0
  rw [Ev.fit] at h1; obtain ⟨a1, rfl, g1⟩ := h1
  rw [Ev.fit] at h2; obtain ⟨e2, rfl, b2, c2⟩ := h2; obtain ⟨a2, rfl, g2⟩ := fit_all (enc := fun n => [DI n]) (ok := i64) (fun c hc => fit_int hc) c2; rw [List.length_map] at b2
  rw [Ev.fit] at h3; obtain ⟨a3, rfl, g3⟩ := h3
  exact ⟨⟨a0, a1, a2, a3⟩, rfl, ⟨wf64 g0, wf64 g1, ⟨(by omega : a2.length ≤ 140737488351232), g2⟩, wf64 g3⟩⟩
def TFrame.mk_ (k : Int) (x : TFrame) : TFrame := ⟨k, k + 1, mkInt (k + 1 + 1) x.fRegs, k + 1 + 1 + (x.fRegs.length : Int)⟩
def TFrame.ct (x : TFrame) : Int := 1 + 1 + (x.fRegs.length : Int) + 1
theorem TFrame.ct_nn (x : TFrame) : 1 ≤ x.ct := by
  unfold TFrame.ct; omega
def TFrame.mks : Int → List TFrame → List TFrame
  | _, [] => []
  | k, x :: xs => TFrame.mk_ k x :: TFrame.mks (k + x.ct) xs
def TFrame.cts : List TFrame → Int
  | [] => 0
  | x :: xs => x.ct + TFrame.cts xs
theorem TFrame.cts_nn : ∀ xs : List TFrame, (xs.length : Int) ≤ TFrame.cts xs
  | [] => by simp [TFrame.cts]
  | x :: xs => by simp only [TFrame.cts, List.length_cons]; have := x.ct_nn; have := TFrame.cts_nn xs; omega
theorem TFrame.mks_len : ∀ (k : Int) (xs : List TFrame), (TFrame.mks k xs).length = xs.length
  | _, [] => rfl
  | k, x :: xs => by simp [TFrame.mks, TFrame.mks_len (k + x.ct) xs]
theorem TFrame.ct_le (x : TFrame) : x.ct ≤ 64 + 64 * x.sz := by
  unfold TFrame.ct TFrame.sz; omega
theorem TFrame.cts_le : ∀ xs : List TFrame, TFrame.cts xs ≤ 64 * TFrame.szs xs
  | [] => by simp [TFrame.cts, TFrame.szs, TFrame.szl]
  | x :: xs => by
    have h1 := x.ct_le; have h2 := TFrame.cts_le xs
    simp only [TFrame.cts, TFrame.szs, TFrame.szl, List.length_cons] at *; omega
def TFrame.mkv (k : Int) (x : TFrame) : TFrame := ⟨x.fUnit, x.fPc, mkInt (k) x.fRegs, x.fDst⟩
def TFrame.ctv (x : TFrame) : Int := (x.fRegs.length : Int)
theorem TFrame.ctv_le (x : TFrame) : x.ctv ≤ 64 * x.sz := by
  unfold TFrame.ctv TFrame.sz; omega
theorem laws_toFrame_ok (x : TFrame) (hx : x.sm) : call tab laws_toFrame [x.x] = some x.xo := by
  simp only [TFrame.sm] at hx
  have t0 := laws_toIntS_ok x.fRegs (by omega)
  rw [call_of t_laws_toFrame _ rfl, c_laws_toFrame]
  simp (maxSteps := 2000000) (implicitDefEqProofs := false) (disch := (first | omega | assumption | (refine ⟨?_, ?_⟩ <;> omega) | (unfold catOk; (try simp only [ByteArray.size_append, size_lit, List.length_cons, List.length_nil]); omega) | (unfold mkOk; omega) | (unfold appOk; (try simp only [List.length_map, List.length_append, List.length_cons, List.length_nil]); omega))) only [go_sem, Nat.reduceEqDiff, Nat.reduceBEq, Nat.reduceAdd, Nat.reduceSub, Nat.reduceMul, Nat.reduceLeDiff, Nat.reduceLT, ↓reduceIte, reduceCtorEq, Int.reduceEq, Int.reduceLE, Int.reduceLT, Int.reduceToNat, Int.reduceNeg, Int.reduceSub, Int.reduceAdd, Int.reduceMul, ltT, ltF, leT, leF, neF, catT, mkT, appT, wrap_id, List.length_map, Int.toNat_natCast, TFrame.x, TFrame.xo, t0]
theorem laws_toFrameS_l0 (xs : List TFrame) (hx : xs.length ≤ 1048576 ∧ ∀ y ∈ xs, y.sm) : ∀ (B A : List TFrame), xs = A ++ B →
    loopW tab [0, 3, 4] b_laws_toFrameS_0 { env := upd (upd (upd emp 4 (some (I (A.length : Int)))) 3 (some (.ref (0, 0) []))) 0 (some (.d (.r (xs.map TFrame.r)))), heap := upd emp (0, 0) (some (.s 4 (A.map TFrame.o ++ List.replicate B.length [DI 0, DI 0, .s 1 [], DI 0]))), fr := 0, next := 1 } = some (.ext 0, { env := upd emp 3 (some (.ref (0, 0) [])), heap := upd emp (0, 0) (some (.s 4 (xs.map TFrame.o))), fr := 0, next := 1 })
  | [], A, h => by
    rw [List.append_nil] at h
    subst h
    unfold loopW
    conv => lhs; arg 1; unfold b_laws_toFrameS_0
    have hx' := hx.1
    simp (maxSteps := 2000000) (implicitDefEqProofs := false) (disch := (first | omega | assumption | (refine ⟨?_, ?_⟩ <;> omega) | (unfold catOk; (try simp only [ByteArray.size_append, size_lit, List.length_cons, List.length_nil]); omega) | (unfold mkOk; omega) | (unfold appOk; (try simp only [List.length_map, List.length_append, List.length_cons, List.length_nil]); omega))) only [go_sem, Nat.reduceEqDiff, Nat.reduceBEq, Nat.reduceAdd, Nat.reduceSub, Nat.reduceMul, Nat.reduceLeDiff, Nat.reduceLT, ↓reduceIte, reduceCtorEq, Int.reduceEq, Int.reduceLE, Int.reduceLT, Int.reduceToNat, Int.reduceNeg, Int.reduceSub, Int.reduceAdd, Int.reduceMul, ltT, ltF, leT, leF, neF, catT, mkT, appT, wrap_id, List.length_map, Int.toNat_natCast, List.replicate_zero]
  | x :: B, A, h => by
    unfold loopW
    conv => lhs; arg 1; unfold b_laws_toFrameS_0
    have hl : xs.length = A.length + (B.length + 1) := by rw [h]; simp
    have h2 : (xs.map TFrame.r)[A.length]? = some x.r := by rw [h]; simp
    have hx' := hx.1
    have hto := laws_toFrame_ok x (hx.2 x (by rw [h]; simp))
    have ih := laws_toFrameS_l0 xs hx B (A ++ [x]) (by simp [h])
    rw [show (((A ++ [x]).length : Nat) : Int) = (A.length : Int) + 1 by simp] at ih
    simp only [List.map_append, List.map_cons, List.map_nil, List.append_assoc, List.cons_append, List.nil_append, TFrame.o] at ih
    simp only [TFrame.r] at h2
    simp only [TFrame.x, TFrame.xo] at hto
    simp (maxSteps := 2000000) (implicitDefEqProofs := false) (disch := (first | omega | assumption | (refine ⟨?_, ?_⟩ <;> omega) | (unfold catOk; (try simp only [ByteArray.size_append, size_lit, List.length_cons, List.length_nil]); omega) | (unfold mkOk; omega) | (unfold appOk; (try simp only [List.length_map, List.length_append, List.length_cons, List.length_nil]); omega))) only [go_sem, Nat.reduceEqDiff, Nat.reduceBEq, Nat.reduceAdd, Nat.reduceSub, Nat.reduceMul, Nat.reduceLeDiff, Nat.reduceLT, ↓reduceIte, reduceCtorEq, Int.reduceEq, Int.reduceLE, Int.reduceLT, Int.reduceToNat, Int.reduceNeg, Int.reduceSub, Int.reduceAdd, Int.reduceMul, ltT, ltF, leT, leF, neF, catT, mkT, appT, wrap_id, List.length_map, Int.toNat_natCast, List.length_cons, List.replicate_succ, len_cat, get_mid, set_mid, h2, hto, ih]
theorem laws_toFrameS_ok (xs : List TFrame) (hx : xs.length ≤ 1048576 ∧ ∀ y ∈ xs, y.sm) : call tab laws_toFrameS [.d (.r (xs.map TFrame.r))] = some (.d (.s 4 (xs.map TFrame.o))) := by
  rw [call_of t_laws_toFrameS _ rfl, c_laws_toFrameS]
  have hl := laws_toFrameS_l0 xs hx xs [] rfl
  have hx' := hx.1
  simp only [List.map_nil, List.nil_append, List.length_nil, Int.cast_ofNat_Int] at hl
  simp (maxSteps := 2000000) (implicitDefEqProofs := false) (disch := (first | omega | assumption | (refine ⟨?_, ?_⟩ <;> omega) | (unfold catOk; (try simp only [ByteArray.size_append, size_lit, List.length_cons, List.length_nil]); omega) | (unfold mkOk; omega) | (unfold appOk; (try simp only [List.length_map, List.length_append, List.length_cons, List.length_nil]); omega))) only [go_sem, Nat.reduceEqDiff, Nat.reduceBEq, Nat.reduceAdd, Nat.reduceSub, Nat.reduceMul, Nat.reduceLeDiff, Nat.reduceLT, ↓reduceIte, reduceCtorEq, Int.reduceEq, Int.reduceLE, Int.reduceLT, Int.reduceToNat, Int.reduceNeg, Int.reduceSub, Int.reduceAdd, Int.reduceMul, ltT, ltF, leT, leF, neF, catT, mkT, appT, wrap_id, List.length_map, Int.toNat_natCast, hl]
theorem laws_eqFrame_ok (x : TFrame) (hx : x.sm) : call tab laws_eqFrame [x.x, x.x] = some (B true) := by
  simp only [TFrame.sm] at hx
  have t0 := laws_eqIntS_ok x.fRegs (by omega)
  rw [call_of t_laws_eqFrame _ rfl, c_laws_eqFrame]
  simp (maxSteps := 2000000) (implicitDefEqProofs := false) (disch := (first | omega | assumption | (refine ⟨?_, ?_⟩ <;> omega) | (unfold catOk; (try simp only [ByteArray.size_append, size_lit, List.length_cons, List.length_nil]); omega) | (unfold mkOk; omega) | (unfold appOk; (try simp only [List.length_map, List.length_append, List.length_cons, List.length_nil]); omega))) only [go_sem, Nat.reduceEqDiff, Nat.reduceBEq, Nat.reduceAdd, Nat.reduceSub, Nat.reduceMul, Nat.reduceLeDiff, Nat.reduceLT, ↓reduceIte, reduceCtorEq, Int.reduceEq, Int.reduceLE, Int.reduceLT, Int.reduceToNat, Int.reduceNeg, Int.reduceSub, Int.reduceAdd, Int.reduceMul, ltT, ltF, leT, leF, neF, catT, mkT, appT, wrap_id, List.length_map, Int.toNat_natCast, TFrame.x, t0]
theorem laws_eqFrameS_l0 (xs : List TFrame) (hx : xs.length ≤ 1048576 ∧ ∀ y ∈ xs, y.sm) : ∀ (B A : List TFrame), xs = A ++ B →
    loopW tab [0, 1, 5] b_laws_eqFrameS_0 { env := upd (upd (upd emp 5 (some (I (A.length : Int)))) 1 (some (.d (.r (xs.map TFrame.r))))) 0 (some (.d (.r (xs.map TFrame.r)))), heap := emp, fr := 0, next := 0 } = some (.ext 0, { env := emp, heap := emp, fr := 0, next := 0 })
  | [], A, h => by
    rw [List.append_nil] at h
    subst h
    unfold loopW
    conv => lhs; arg 1; unfold b_laws_eqFrameS_0
    have hx' := hx.1
    simp (maxSteps := 2000000) (implicitDefEqProofs := false) (disch := (first | omega | assumption | (refine ⟨?_, ?_⟩ <;> omega) | (unfold catOk; (try simp only [ByteArray.size_append, size_lit, List.length_cons, List.length_nil]); omega) | (unfold mkOk; omega) | (unfold appOk; (try simp only [List.length_map, List.length_append, List.length_cons, List.length_nil]); omega))) only [go_sem, Nat.reduceEqDiff, Nat.reduceBEq, Nat.reduceAdd, Nat.reduceSub, Nat.reduceMul, Nat.reduceLeDiff, Nat.reduceLT, ↓reduceIte, reduceCtorEq, Int.reduceEq, Int.reduceLE, Int.reduceLT, Int.reduceToNat, Int.reduceNeg, Int.reduceSub, Int.reduceAdd, Int.reduceMul, ltT, ltF, leT, leF, neF, catT, mkT, appT, wrap_id, List.length_map, Int.toNat_natCast]
  | x :: B, A, h => by
    unfold loopW
    conv => lhs; arg 1; unfold b_laws_eqFrameS_0
    have hl : xs.length = A.length + (B.length + 1) := by rw [h]; simp
    have h2 : (xs.map TFrame.r)[A.length]? = some x.r := by rw [h]; simp
    have hx' := hx.1
    have hto := laws_eqFrame_ok x (hx.2 x (by rw [h]; simp))
    have ih := laws_eqFrameS_l0 xs hx B (A ++ [x]) (by simp [h])
    rw [show (((A ++ [x]).length : Nat) : Int) = (A.length : Int) + 1 by simp] at ih
    simp only [TFrame.r] at h2
    simp only [TFrame.x] at hto
    simp (maxSteps := 2000000) (implicitDefEqProofs := false) (disch := (first | omega | assumption | (refine ⟨?_, ?_⟩ <;> omega) | (unfold catOk; (try simp only [ByteArray.size_append, size_lit, List.length_cons, List.length_nil]); omega) | (unfold mkOk; omega) | (unfold appOk; (try simp only [List.length_map, List.length_append, List.length_cons, List.length_nil]); omega))) only [go_sem, Nat.reduceEqDiff, Nat.reduceBEq, Nat.reduceAdd, Nat.reduceSub, Nat.reduceMul, Nat.reduceLeDiff, Nat.reduceLT, ↓reduceIte, reduceCtorEq, Int.reduceEq, Int.reduceLE, Int.reduceLT, Int.reduceToNat, Int.reduceNeg, Int.reduceSub, Int.reduceAdd, Int.reduceMul, ltT, ltF, leT, leF, neF, catT, mkT, appT, wrap_id, List.length_map, Int.toNat_natCast, h2, hto, ih]
theorem laws_eqFrameS_ok (xs : List TFrame) (hx : xs.length ≤ 1048576 ∧ ∀ y ∈ xs, y.sm) : call tab laws_eqFrameS [.d (.r (xs.map TFrame.r)), .d (.r (xs.map TFrame.r))] = some (B true) := by
  rw [call_of t_laws_eqFrameS _ rfl, c_laws_eqFrameS]
  have hl := laws_eqFrameS_l0 xs hx xs [] rfl
  have hx' := hx.1
  simp only [List.length_nil, Int.cast_ofNat_Int] at hl
  simp (maxSteps := 2000000) (implicitDefEqProofs := false) (disch := (first | omega | assumption | (refine ⟨?_, ?_⟩ <;> omega) | (unfold catOk; (try simp only [ByteArray.size_append, size_lit, List.length_cons, List.length_nil]); omega) | (unfold mkOk; omega) | (unfold appOk; (try simp only [List.length_map, List.length_append, List.length_cons, List.length_nil]); omega))) only [go_sem, Nat.reduceEqDiff, Nat.reduceBEq, Nat.reduceAdd, Nat.reduceSub, Nat.reduceMul, Nat.reduceLeDiff, Nat.reduceLT, ↓reduceIte, reduceCtorEq, Int.reduceEq, Int.reduceLE, Int.reduceLT, Int.reduceToNat, Int.reduceNeg, Int.reduceSub, Int.reduceAdd, Int.reduceMul, ltT, ltF, leT, leF, neF, catT, mkT, appT, wrap_id, List.length_map, Int.toNat_natCast, hl]
theorem laws_szFrame_ok (x : TFrame) (n : Int) (hn : 0 ≤ n ∧ n ≤ 1048576) (hx : x.ok) : call tab laws_szFrame [x.x, I n] = some (I (if n < x.sz then -1 else n - x.sz)) := by
  rw [call_of t_laws_szFrame _ rfl, c_laws_szFrame]
  have hsz : x.sz = (x.fRegs.length : Int) := rfl
  rw [hsz]
  have b0 := hx.fRegs.1
  have f0 := laws_szIntS_ok x.fRegs (n) (by omega) (by omega)
  by_cases c0 : n - (x.fRegs.length : Int) < 0
  · rw [if_pos (by omega)] at f0
    rw [if_pos (show n < (x.fRegs.length : Int) by omega)]
    simp (maxSteps := 2000000) (implicitDefEqProofs := false) (disch := (first | omega | assumption | (refine ⟨?_, ?_⟩ <;> omega) | (unfold catOk; (try simp only [ByteArray.size_append, size_lit, List.length_cons, List.length_nil]); omega) | (unfold mkOk; omega) | (unfold appOk; (try simp only [List.length_map, List.length_append, List.length_cons, List.length_nil]); omega))) only [go_sem, Nat.reduceEqDiff, Nat.reduceBEq, Nat.reduceAdd, Nat.reduceSub, Nat.reduceMul, Nat.reduceLeDiff, Nat.reduceLT, ↓reduceIte, reduceCtorEq, Int.reduceEq, Int.reduceLE, Int.reduceLT, Int.reduceToNat, Int.reduceNeg, Int.reduceSub, Int.reduceAdd, Int.reduceMul, ltT, ltF, leT, leF, neF, catT, mkT, appT, wrap_id, List.length_map, Int.toNat_natCast, TFrame.x, c0, f0]
  · rw [if_neg (by omega)] at f0
    rw [if_neg (show ¬ n < (x.fRegs.length : Int) by omega)]
    simp (maxSteps := 2000000) (implicitDefEqProofs := false) (disch := (first | omega | assumption | (refine ⟨?_, ?_⟩ <;> omega) | (unfold catOk; (try simp only [ByteArray.size_append, size_lit, List.length_cons, List.length_nil]); omega) | (unfold mkOk; omega) | (unfold appOk; (try simp only [List.length_map, List.length_append, List.length_cons, List.length_nil]); omega))) only [go_sem, Nat.reduceEqDiff, Nat.reduceBEq, Nat.reduceAdd, Nat.reduceSub, Nat.reduceMul, Nat.reduceLeDiff, Nat.reduceLT, ↓reduceIte, reduceCtorEq, Int.reduceEq, Int.reduceLE, Int.reduceLT, Int.reduceToNat, Int.reduceNeg, Int.reduceSub, Int.reduceAdd, Int.reduceMul, ltT, ltF, leT, leF, neF, catT, mkT, appT, wrap_id, List.length_map, Int.toNat_natCast, TFrame.x, f0, c0]
theorem laws_szFrameS_l0 (xs : List TFrame) (hx : xs.length ≤ 1048576) (hok : ∀ y ∈ xs, y.ok) : ∀ (B A : List TFrame) (n : Int), xs = A ++ B → 0 ≤ n ∧ n ≤ 1048576 →
    loopW tab [0, 1, 5] b_laws_szFrameS_0 { env := upd (upd (upd emp 5 (some (I (A.length : Int)))) 1 (some (I n))) 0 (some (.d (.r (xs.map TFrame.r)))), heap := emp, fr := 0, next := 0 } = (if n < TFrame.szl B then some (.ret, { env := upd emp 4 (some (I (-1))), heap := emp, fr := 0, next := 0 }) else some (.ext 0, { env := upd emp 1 (some (I (n - TFrame.szl B))), heap := emp, fr := 0, next := 0 }))
  | [], A, n, h, hn => by
    rw [List.append_nil] at h
    subst h
    unfold loopW
    conv => lhs; arg 1; unfold b_laws_szFrameS_0
    rw [if_neg (show ¬ n < TFrame.szl [] by simp only [TFrame.szl]; omega)]
    simp (maxSteps := 2000000) (implicitDefEqProofs := false) (disch := (first | omega | assumption | (refine ⟨?_, ?_⟩ <;> omega) | (unfold catOk; (try simp only [ByteArray.size_append, size_lit, List.length_cons, List.length_nil]); omega) | (unfold mkOk; omega) | (unfold appOk; (try simp only [List.length_map, List.length_append, List.length_cons, List.length_nil]); omega))) only [go_sem, Nat.reduceEqDiff, Nat.reduceBEq, Nat.reduceAdd, Nat.reduceSub, Nat.reduceMul, Nat.reduceLeDiff, Nat.reduceLT, ↓reduceIte, reduceCtorEq, Int.reduceEq, Int.reduceLE, Int.reduceLT, Int.reduceToNat, Int.reduceNeg, Int.reduceSub, Int.reduceAdd, Int.reduceMul, ltT, ltF, leT, leF, neF, catT, mkT, appT, wrap_id, List.length_map, Int.toNat_natCast, TFrame.szl, Int.sub_zero]
  | x :: B, A, n, h, hn => by
    unfold loopW
    conv => lhs; arg 1; unfold b_laws_szFrameS_0
    have hl : xs.length = A.length + (B.length + 1) := by rw [h]; simp
    have h2 : (xs.map TFrame.r)[A.length]? = some x.r := by rw [h]; simp
    have hto := laws_szFrame_ok x n hn (hok x (by rw [h]; simp))
    have hnn := TFrame.szl_nn B
    have hxn := x.sz_nn
    simp only [TFrame.r] at h2
    simp only [TFrame.x] at hto
    rw [show TFrame.szl (x :: B) = x.sz + TFrame.szl B from rfl]
    by_cases hc : n < x.sz
    · rw [if_pos hc] at hto
      rw [if_pos (show n < x.sz + TFrame.szl B by omega)]
      simp (maxSteps := 2000000) (implicitDefEqProofs := false) (disch := (first | omega | assumption | (refine ⟨?_, ?_⟩ <;> omega) | (unfold catOk; (try simp only [ByteArray.size_append, size_lit, List.length_cons, List.length_nil]); omega) | (unfold mkOk; omega) | (unfold appOk; (try simp only [List.length_map, List.length_append, List.length_cons, List.length_nil]); omega))) only [go_sem, Nat.reduceEqDiff, Nat.reduceBEq, Nat.reduceAdd, Nat.reduceSub, Nat.reduceMul, Nat.reduceLeDiff, Nat.reduceLT, ↓reduceIte, reduceCtorEq, Int.reduceEq, Int.reduceLE, Int.reduceLT, Int.reduceToNat, Int.reduceNeg, Int.reduceSub, Int.reduceAdd, Int.reduceMul, ltT, ltF, leT, leF, neF, catT, mkT, appT, wrap_id, List.length_map, Int.toNat_natCast, h2, hto]
    · rw [if_neg hc] at hto
      have ih := laws_szFrameS_l0 xs hx hok B (A ++ [x]) (n - x.sz) (by simp [h]) (by omega)
      rw [show (((A ++ [x]).length : Nat) : Int) = (A.length : Int) + 1 by simp] at ih
      by_cases hd : n - x.sz < TFrame.szl B
      · rw [if_pos hd] at ih
        rw [if_pos (show n < x.sz + TFrame.szl B by omega)]
        simp (maxSteps := 2000000) (implicitDefEqProofs := false) (disch := (first | omega | assumption | (refine ⟨?_, ?_⟩ <;> omega) | (unfold catOk; (try simp only [ByteArray.size_append, size_lit, List.length_cons, List.length_nil]); omega) | (unfold mkOk; omega) | (unfold appOk; (try simp only [List.length_map, List.length_append, List.length_cons, List.length_nil]); omega))) only [go_sem, Nat.reduceEqDiff, Nat.reduceBEq, Nat.reduceAdd, Nat.reduceSub, Nat.reduceMul, Nat.reduceLeDiff, Nat.reduceLT, ↓reduceIte, reduceCtorEq, Int.reduceEq, Int.reduceLE, Int.reduceLT, Int.reduceToNat, Int.reduceNeg, Int.reduceSub, Int.reduceAdd, Int.reduceMul, ltT, ltF, leT, leF, neF, catT, mkT, appT, wrap_id, List.length_map, Int.toNat_natCast, h2, hto, ih]
      · rw [if_neg hd, show n - x.sz - TFrame.szl B = n - (x.sz + TFrame.szl B) by omega] at ih
        rw [if_neg (show ¬ n < x.sz + TFrame.szl B by omega)]
        simp (maxSteps := 2000000) (implicitDefEqProofs := false) (disch := (first | omega | assumption | (refine ⟨?_, ?_⟩ <;> omega) | (unfold catOk; (try simp only [ByteArray.size_append, size_lit, List.length_cons, List.length_nil]); omega) | (unfold mkOk; omega) | (unfold appOk; (try simp only [List.length_map, List.length_append, List.length_cons, List.length_nil]); omega))) only [go_sem, Nat.reduceEqDiff, Nat.reduceBEq, Nat.reduceAdd, Nat.reduceSub, Nat.reduceMul, Nat.reduceLeDiff, Nat.reduceLT, ↓reduceIte, reduceCtorEq, Int.reduceEq, Int.reduceLE, Int.reduceLT, Int.reduceToNat, Int.reduceNeg, Int.reduceSub, Int.reduceAdd, Int.reduceMul, ltT, ltF, leT, leF, neF, catT, mkT, appT, wrap_id, List.length_map, Int.toNat_natCast, h2, hto, ih]
theorem laws_szFrameS_ok (xs : List TFrame) (n : Int) (hn : 0 ≤ n ∧ n ≤ 1048576) (hx : xs.length ≤ 140737488351232 ∧ ∀ y ∈ xs, y.ok) : call tab laws_szFrameS [.d (.r (xs.map TFrame.r)), I n] = some (I (if n < TFrame.szs xs then -1 else n - TFrame.szs xs)) := by
  rw [call_of t_laws_szFrameS _ rfl, c_laws_szFrameS]
  have hx1 := hx.1
  have hnn := TFrame.szl_nn xs
  rw [show TFrame.szs xs = xs.length + TFrame.szl xs from rfl]
  by_cases h : n - (xs.length : Int) < 0
  · rw [if_pos (show n < xs.length + TFrame.szl xs by omega)]
    simp (maxSteps := 2000000) (implicitDefEqProofs := false) (disch := (first | omega | assumption | (refine ⟨?_, ?_⟩ <;> omega) | (unfold catOk; (try simp only [ByteArray.size_append, size_lit, List.length_cons, List.length_nil]); omega) | (unfold mkOk; omega) | (unfold appOk; (try simp only [List.length_map, List.length_append, List.length_cons, List.length_nil]); omega))) only [go_sem, Nat.reduceEqDiff, Nat.reduceBEq, Nat.reduceAdd, Nat.reduceSub, Nat.reduceMul, Nat.reduceLeDiff, Nat.reduceLT, ↓reduceIte, reduceCtorEq, Int.reduceEq, Int.reduceLE, Int.reduceLT, Int.reduceToNat, Int.reduceNeg, Int.reduceSub, Int.reduceAdd, Int.reduceMul, ltT, ltF, leT, leF, neF, catT, mkT, appT, wrap_id, List.length_map, Int.toNat_natCast, h]
  · have hl := laws_szFrameS_l0 xs (by omega) hx.2 xs [] (n - xs.length) rfl (by omega)
    simp only [List.length_nil, Int.cast_ofNat_Int] at hl
    by_cases hd : n - (xs.length : Int) < TFrame.szl xs
    · rw [if_pos hd] at hl
      rw [if_pos (show n < xs.length + TFrame.szl xs by omega)]
      simp (maxSteps := 2000000) (implicitDefEqProofs := false) (disch := (first | omega | assumption | (refine ⟨?_, ?_⟩ <;> omega) | (unfold catOk; (try simp only [ByteArray.size_append, size_lit, List.length_cons, List.length_nil]); omega) | (unfold mkOk; omega) | (unfold appOk; (try simp only [List.length_map, List.length_append, List.length_cons, List.length_nil]); omega))) only [go_sem, Nat.reduceEqDiff, Nat.reduceBEq, Nat.reduceAdd, Nat.reduceSub, Nat.reduceMul, Nat.reduceLeDiff, Nat.reduceLT, ↓reduceIte, reduceCtorEq, Int.reduceEq, Int.reduceLE, Int.reduceLT, Int.reduceToNat, Int.reduceNeg, Int.reduceSub, Int.reduceAdd, Int.reduceMul, ltT, ltF, leT, leF, neF, catT, mkT, appT, wrap_id, List.length_map, Int.toNat_natCast, h, hl]
    · rw [if_neg hd, show n - (xs.length : Int) - TFrame.szl xs = n - (xs.length + TFrame.szl xs) by omega] at hl
      rw [if_neg (show ¬ n < xs.length + TFrame.szl xs by omega)]
      simp (maxSteps := 2000000) (implicitDefEqProofs := false) (disch := (first | omega | assumption | (refine ⟨?_, ?_⟩ <;> omega) | (unfold catOk; (try simp only [ByteArray.size_append, size_lit, List.length_cons, List.length_nil]); omega) | (unfold mkOk; omega) | (unfold appOk; (try simp only [List.length_map, List.length_append, List.length_cons, List.length_nil]); omega))) only [go_sem, Nat.reduceEqDiff, Nat.reduceBEq, Nat.reduceAdd, Nat.reduceSub, Nat.reduceMul, Nat.reduceLeDiff, Nat.reduceLT, ↓reduceIte, reduceCtorEq, Int.reduceEq, Int.reduceLE, Int.reduceLT, Int.reduceToNat, Int.reduceNeg, Int.reduceSub, Int.reduceAdd, Int.reduceMul, ltT, ltF, leT, leF, neF, catT, mkT, appT, wrap_id, List.length_map, Int.toNat_natCast, h, hl]
end Go.Ev.G
