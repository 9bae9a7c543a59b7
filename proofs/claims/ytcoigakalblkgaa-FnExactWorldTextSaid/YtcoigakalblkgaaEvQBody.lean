/- The laws' own helpers on the type Body: written by genq.py. -/
import Derived.Test.YtcoigakalblkgaaEvQInt
import Derived.Test.YtcoigakalblkgaaEvQFrame
set_option linter.all false
namespace Go.Ev.G
set_option maxRecDepth 8000
set_option maxHeartbeats 4000000
structure TBody where
  fFrames : List TFrame
  fEnded : Bool
  fWaits : Bool
  fTicket : Int
  fValue : Int
  fCase : Int
  fDst : Int
  fTwo : Int
def TBody.r (x : TBody) : List D := [.r (x.fFrames.map TFrame.r), DB x.fEnded, DB x.fWaits, DI x.fTicket, DI x.fValue, DI x.fCase, DI x.fDst, DI x.fTwo]
def TBody.o (x : TBody) : List D := [.s 4 (x.fFrames.map TFrame.o), DB x.fEnded, DB x.fWaits, DI x.fTicket, DI x.fValue, DI x.fCase, DI x.fDst, DI x.fTwo]
abbrev TBody.x (x : TBody) : X := .agg [.d (.r (x.fFrames.map TFrame.r)), B x.fEnded, B x.fWaits, I x.fTicket, I x.fValue, I x.fCase, I x.fDst, I x.fTwo]
abbrev TBody.xo (x : TBody) : X := .agg [.d (.s 4 (x.fFrames.map TFrame.o)), B x.fEnded, B x.fWaits, I x.fTicket, I x.fValue, I x.fCase, I x.fDst, I x.fTwo]
theorem TBody.fzl (x : TBody) : fzl x.o = x.r := by simp only [TBody.o, TBody.r, Ev.fzl, D.fz, TFrame.fzs, fzs_numR]
theorem TBody.fzlr (x : TBody) : Ev.fzl x.r = x.r := by simp only [TBody.r, Ev.fzl, D.fz, TFrame.fzr, fzs_numR]
theorem TBody.fzs (xs : List TBody) : fzs (xs.map TBody.o) = xs.map TBody.r := fzs_map _ _ TBody.fzl xs
theorem TBody.fzr (xs : List TBody) : Ev.fzs (xs.map TBody.r) = xs.map TBody.r := fzs_map _ _ TBody.fzlr xs
theorem TBody.noR (xs : List TBody) : D.noR.noRss (xs.map TBody.o) = true := noRss_map _ (fun x => by simp only [TBody.o, D.noR.noRs, D.noR, Bool.and_true, Bool.true_and, TFrame.noR, noR_numR]) xs
def TBody.sz (x : TBody) : Int := TFrame.szs x.fFrames
theorem TBody.sz_nn (x : TBody) : 0 ≤ x.sz := by
  unfold TBody.sz; have := TFrame.szs_nn x.fFrames; omega
def TBody.szl : List TBody → Int
  | [] => 0
  | x :: xs => x.sz + TBody.szl xs
def TBody.szs (xs : List TBody) : Int := xs.length + TBody.szl xs
theorem TBody.szl_nn : ∀ xs : List TBody, 0 ≤ TBody.szl xs
  | [] => by simp [TBody.szl]
  | x :: xs => by simp only [TBody.szl]; have := x.sz_nn; have := TBody.szl_nn xs; omega
theorem TBody.szs_nn (xs : List TBody) : 0 ≤ TBody.szs xs ∧ (xs.length : Int) ≤ TBody.szs xs := by have := TBody.szl_nn xs; unfold TBody.szs; omega
theorem TBody.sz_le : ∀ {xs : List TBody} {x : TBody}, x ∈ xs → x.sz ≤ TBody.szl xs
  | y :: xs, x, h => by
    simp only [TBody.szl]
    have h1 := y.sz_nn; have h2 := TBody.szl_nn xs
    rcases List.mem_cons.1 h with rfl | h
    · omega
    · have := TBody.sz_le h; omega
def TBody.sm (x : TBody) : Prop := (x.fFrames.length ≤ 1048576 ∧ ∀ y ∈ x.fFrames, y.sm)
theorem TBody.sm_of {x : TBody} (h : x.sz ≤ 1048576) : x.sm := by
  unfold TBody.sz at h
  unfold TBody.sm
  have := TFrame.szs_nn x.fFrames
  exact ⟨by omega, fun y hy => TFrame.sm_of (by have := TFrame.sz_le hy; unfold TFrame.szs at *; omega)⟩
theorem TBody.sms_of {xs : List TBody} (h : TBody.szs xs ≤ 1048576) : xs.length ≤ 1048576 ∧ ∀ y ∈ xs, y.sm := by
  have := TBody.szl_nn xs
  unfold TBody.szs at h
  exact ⟨by omega, fun y hy => TBody.sm_of (by have := TBody.sz_le hy; omega)⟩
structure TBody.ok (x : TBody) : Prop where
  fFrames : x.fFrames.length ≤ 140737488351232 ∧ ∀ y ∈ x.fFrames, y.ok
  fEnded : True
  fWaits : True
  fTicket : i64 x.fTicket
  fValue : i64 x.fValue
  fCase : i64 x.fCase
  fDst : i64 x.fDst
  fTwo : i64 x.fTwo
theorem TBody.fit {c : List D} (h : fitL [.l 48 [.i .i64, .i .i64, .l 8 [.i .i64], .i .i64], .b, .b, .i .i64, .i .i64, .i .i64, .i .i64, .i .i64] c) : ∃ x : TBody, c = x.r ∧ x.ok := by
  simp only [fitL] at h
  obtain ⟨_, _, rfl, h0, _, _, rfl, h1, _, _, rfl, h2, _, _, rfl, h3, _, _, rfl, h4, _, _, rfl, h5, _, _, rfl, h6, _, _, rfl, h7, rfl⟩ := h
  rw [Ev.fit] at h0; obtain ⟨e0, rfl, b0, c0⟩ := h0; obtain ⟨a0, rfl, g0⟩ := fit_all (fun c hc => TFrame.fit hc) c0; rw [List.length_map] at b0
  rw [Ev.fit] at h1; obtain ⟨a1, rfl⟩ := h1
  rw [Ev.fit] at h2; obtain ⟨a2, rfl⟩ := h2
  rw [Ev.fit] at h3; obtain ⟨a3, rfl, g3⟩ := h3
  rw [Ev.fit] at h4; obtain ⟨a4, rfl, g4⟩ := h4
  rw [Ev.fit] at h5; obtain ⟨a5, rfl, g5⟩ := h5
  rw [Ev.fit] at h6; obtain ⟨a6, rfl, g6⟩ := h6
  rw [Ev.fit] at h7; obtain ⟨a7, rfl, g7⟩ := h7
  exact ⟨⟨a0, a1, a2, a3, a4, a5, a6, a7⟩, rfl, ⟨⟨(by omega : a0.length ≤ 140737488351232), g0⟩, trivial, trivial, wf64 g3, wf64 g4, wf64 g5, wf64 g6, wf64 g7⟩⟩
def TBody.mk_ (k : Int) (x : TBody) : TBody := ⟨TFrame.mks (k) x.fFrames, decide ((k + TFrame.cts x.fFrames).tmod 3 = 0), decide ((k + TFrame.cts x.fFrames + 1).tmod 3 = 0), k + TFrame.cts x.fFrames + 1 + 1, k + TFrame.cts x.fFrames + 1 + 1 + 1, k + TFrame.cts x.fFrames + 1 + 1 + 1 + 1, k + TFrame.cts x.fFrames + 1 + 1 + 1 + 1 + 1, k + TFrame.cts x.fFrames + 1 + 1 + 1 + 1 + 1 + 1⟩
def TBody.ct (x : TBody) : Int := TFrame.cts x.fFrames + 1 + 1 + 1 + 1 + 1 + 1 + 1
theorem TBody.ct_nn (x : TBody) : 1 ≤ x.ct := by
  unfold TBody.ct; have := TFrame.cts_nn x.fFrames; omega
def TBody.mks : Int → List TBody → List TBody
  | _, [] => []
  | k, x :: xs => TBody.mk_ k x :: TBody.mks (k + x.ct) xs
def TBody.cts : List TBody → Int
  | [] => 0
  | x :: xs => x.ct + TBody.cts xs
theorem TBody.cts_nn : ∀ xs : List TBody, (xs.length : Int) ≤ TBody.cts xs
  | [] => by simp [TBody.cts]
  | x :: xs => by simp only [TBody.cts, List.length_cons]; have := x.ct_nn; have := TBody.cts_nn xs; omega
theorem TBody.mks_len : ∀ (k : Int) (xs : List TBody), (TBody.mks k xs).length = xs.length
  | _, [] => rfl
  | k, x :: xs => by simp [TBody.mks, TBody.mks_len (k + x.ct) xs]
theorem TBody.ct_le (x : TBody) : x.ct ≤ 64 + 64 * x.sz := by
  unfold TBody.ct TBody.sz; have := TFrame.cts_le x.fFrames; have := TFrame.szs_nn x.fFrames; omega
theorem TBody.cts_le : ∀ xs : List TBody, TBody.cts xs ≤ 64 * TBody.szs xs
  | [] => by simp [TBody.cts, TBody.szs, TBody.szl]
  | x :: xs => by
    have h1 := x.ct_le; have h2 := TBody.cts_le xs
    simp only [TBody.cts, TBody.szs, TBody.szl, List.length_cons] at *; omega
def TBody.mkv (k : Int) (x : TBody) : TBody := ⟨TFrame.mks (k) x.fFrames, x.fEnded, x.fWaits, x.fTicket, x.fValue, x.fCase, x.fDst, x.fTwo⟩
def TBody.ctv (x : TBody) : Int := TFrame.cts x.fFrames
theorem TBody.ctv_le (x : TBody) : x.ctv ≤ 64 * x.sz := by
  unfold TBody.ctv TBody.sz; have := TFrame.cts_le x.fFrames; have := TFrame.szs_nn x.fFrames; omega
theorem laws_toBody_ok (x : TBody) (hx : x.sm) : call tab laws_toBody [x.x] = some x.xo := by
  simp only [TBody.sm] at hx
  have t0 := laws_toFrameS_ok x.fFrames (by first | exact hx | exact hx.1 | exact hx.2 | exact hx.2.1 | exact hx.2.2 | exact hx.2.2.1 | exact hx.2.2.2 | exact hx.2.2.2.1)
  rw [call_of t_laws_toBody _ rfl, c_laws_toBody]
  simp (maxSteps := 2000000) (implicitDefEqProofs := false) (disch := (first | omega | assumption | (refine ⟨?_, ?_⟩ <;> omega) | (unfold catOk; (try simp only [ByteArray.size_append, size_lit, List.length_cons, List.length_nil]); omega) | (unfold mkOk; omega) | (unfold appOk; (try simp only [List.length_map, List.length_append, List.length_cons, List.length_nil]); omega))) only [go_sem, Nat.reduceEqDiff, Nat.reduceBEq, Nat.reduceAdd, Nat.reduceSub, Nat.reduceMul, Nat.reduceLeDiff, Nat.reduceLT, ↓reduceIte, reduceCtorEq, Int.reduceEq, Int.reduceLE, Int.reduceLT, Int.reduceToNat, Int.reduceNeg, Int.reduceSub, Int.reduceAdd, Int.reduceMul, ltT, ltF, leT, leF, neF, catT, mkT, appT, wrap_id, List.length_map, Int.toNat_natCast, TBody.x, TBody.xo, t0]
theorem laws_toBodyS_l0 (xs : List TBody) (hx : xs.length ≤ 1048576 ∧ ∀ y ∈ xs, y.sm) : ∀ (B A : List TBody), xs = A ++ B →
    loopW tab [0, 3, 4] b_laws_toBodyS_0 { env := upd (upd (upd emp 4 (some (I (A.length : Int)))) 3 (some (.ref (0, 0) []))) 0 (some (.d (.r (xs.map TBody.r)))), heap := upd emp (0, 0) (some (.s 8 (A.map TBody.o ++ List.replicate B.length [.s 4 [], DB false, DB false, DI 0, DI 0, DI 0, DI 0, DI 0]))), fr := 0, next := 1 } = some (.ext 0, { env := upd emp 3 (some (.ref (0, 0) [])), heap := upd emp (0, 0) (some (.s 8 (xs.map TBody.o))), fr := 0, next := 1 })
  | [], A, h => by
    rw [List.append_nil] at h
    subst h
    unfold loopW
    conv => lhs; arg 1; unfold b_laws_toBodyS_0
    have hx' := hx.1
    simp (maxSteps := 2000000) (implicitDefEqProofs := false) (disch := (first | omega | assumption | (refine ⟨?_, ?_⟩ <;> omega) | (unfold catOk; (try simp only [ByteArray.size_append, size_lit, List.length_cons, List.length_nil]); omega) | (unfold mkOk; omega) | (unfold appOk; (try simp only [List.length_map, List.length_append, List.length_cons, List.length_nil]); omega))) only [go_sem, Nat.reduceEqDiff, Nat.reduceBEq, Nat.reduceAdd, Nat.reduceSub, Nat.reduceMul, Nat.reduceLeDiff, Nat.reduceLT, ↓reduceIte, reduceCtorEq, Int.reduceEq, Int.reduceLE, Int.reduceLT, Int.reduceToNat, Int.reduceNeg, Int.reduceSub, Int.reduceAdd, Int.reduceMul, ltT, ltF, leT, leF, neF, catT, mkT, appT, wrap_id, List.length_map, Int.toNat_natCast, List.replicate_zero]
  | x :: B, A, h => by
    unfold loopW
    conv => lhs; arg 1; unfold b_laws_toBodyS_0
    have hl : xs.length = A.length + (B.length + 1) := by rw [h]; simp
    have h2 : (xs.map TBody.r)[A.length]? = some x.r := by rw [h]; simp
    have hx' := hx.1
    have hto := laws_toBody_ok x (hx.2 x (by rw [h]; simp))
    have ih := laws_toBodyS_l0 xs hx B (A ++ [x]) (by simp [h])
    rw [show (((A ++ [x]).length : Nat) : Int) = (A.length : Int) + 1 by simp] at ih
    simp only [List.map_append, List.map_cons, List.map_nil, List.append_assoc, List.cons_append, List.nil_append, TBody.o] at ih
    simp only [TBody.r] at h2
    simp only [TBody.x, TBody.xo] at hto
    simp (maxSteps := 2000000) (implicitDefEqProofs := false) (disch := (first | omega | assumption | (refine ⟨?_, ?_⟩ <;> omega) | (unfold catOk; (try simp only [ByteArray.size_append, size_lit, List.length_cons, List.length_nil]); omega) | (unfold mkOk; omega) | (unfold appOk; (try simp only [List.length_map, List.length_append, List.length_cons, List.length_nil]); omega))) only [go_sem, Nat.reduceEqDiff, Nat.reduceBEq, Nat.reduceAdd, Nat.reduceSub, Nat.reduceMul, Nat.reduceLeDiff, Nat.reduceLT, ↓reduceIte, reduceCtorEq, Int.reduceEq, Int.reduceLE, Int.reduceLT, Int.reduceToNat, Int.reduceNeg, Int.reduceSub, Int.reduceAdd, Int.reduceMul, ltT, ltF, leT, leF, neF, catT, mkT, appT, wrap_id, List.length_map, Int.toNat_natCast, List.length_cons, List.replicate_succ, len_cat, get_mid, set_mid, h2, hto, ih]
theorem laws_toBodyS_ok (xs : List TBody) (hx : xs.length ≤ 1048576 ∧ ∀ y ∈ xs, y.sm) : call tab laws_toBodyS [.d (.r (xs.map TBody.r))] = some (.d (.s 8 (xs.map TBody.o))) := by
  rw [call_of t_laws_toBodyS _ rfl, c_laws_toBodyS]
  have hl := laws_toBodyS_l0 xs hx xs [] rfl
  have hx' := hx.1
  simp only [List.map_nil, List.nil_append, List.length_nil, Int.cast_ofNat_Int] at hl
  simp (maxSteps := 2000000) (implicitDefEqProofs := false) (disch := (first | omega | assumption | (refine ⟨?_, ?_⟩ <;> omega) | (unfold catOk; (try simp only [ByteArray.size_append, size_lit, List.length_cons, List.length_nil]); omega) | (unfold mkOk; omega) | (unfold appOk; (try simp only [List.length_map, List.length_append, List.length_cons, List.length_nil]); omega))) only [go_sem, Nat.reduceEqDiff, Nat.reduceBEq, Nat.reduceAdd, Nat.reduceSub, Nat.reduceMul, Nat.reduceLeDiff, Nat.reduceLT, ↓reduceIte, reduceCtorEq, Int.reduceEq, Int.reduceLE, Int.reduceLT, Int.reduceToNat, Int.reduceNeg, Int.reduceSub, Int.reduceAdd, Int.reduceMul, ltT, ltF, leT, leF, neF, catT, mkT, appT, wrap_id, List.length_map, Int.toNat_natCast, hl]
theorem laws_eqBody_ok (x : TBody) (hx : x.sm) : call tab laws_eqBody [x.x, x.x] = some (B true) := by
  simp only [TBody.sm] at hx
  have t0 := laws_eqFrameS_ok x.fFrames (by first | exact hx | exact hx.1 | exact hx.2 | exact hx.2.1 | exact hx.2.2 | exact hx.2.2.1 | exact hx.2.2.2 | exact hx.2.2.2.1)
  rw [call_of t_laws_eqBody _ rfl, c_laws_eqBody]
  simp (maxSteps := 2000000) (implicitDefEqProofs := false) (disch := (first | omega | assumption | (refine ⟨?_, ?_⟩ <;> omega) | (unfold catOk; (try simp only [ByteArray.size_append, size_lit, List.length_cons, List.length_nil]); omega) | (unfold mkOk; omega) | (unfold appOk; (try simp only [List.length_map, List.length_append, List.length_cons, List.length_nil]); omega))) only [go_sem, Nat.reduceEqDiff, Nat.reduceBEq, Nat.reduceAdd, Nat.reduceSub, Nat.reduceMul, Nat.reduceLeDiff, Nat.reduceLT, ↓reduceIte, reduceCtorEq, Int.reduceEq, Int.reduceLE, Int.reduceLT, Int.reduceToNat, Int.reduceNeg, Int.reduceSub, Int.reduceAdd, Int.reduceMul, ltT, ltF, leT, leF, neF, catT, mkT, appT, wrap_id, List.length_map, Int.toNat_natCast, TBody.x, t0]
theorem laws_eqBodyS_l0 (xs : List TBody) (hx : xs.length ≤ 1048576 ∧ ∀ y ∈ xs, y.sm) : ∀ (B A : List TBody), xs = A ++ B →
    loopW tab [0, 1, 5] b_laws_eqBodyS_0 { env := upd (upd (upd emp 5 (some (I (A.length : Int)))) 1 (some (.d (.r (xs.map TBody.r))))) 0 (some (.d (.r (xs.map TBody.r)))), heap := emp, fr := 0, next := 0 } = some (.ext 0, { env := emp, heap := emp, fr := 0, next := 0 })
  | [], A, h => by
    rw [List.append_nil] at h
    subst h
    unfold loopW
    conv => lhs; arg 1; unfold b_laws_eqBodyS_0
    have hx' := hx.1
    simp (maxSteps := 2000000) (implicitDefEqProofs := false) (disch := (first | omega | assumption | (refine ⟨?_, ?_⟩ <;> omega) | (unfold catOk; (try simp only [ByteArray.size_append, size_lit, List.length_cons, List.length_nil]); omega) | (unfold mkOk; omega) | (unfold appOk; (try simp only [List.length_map, List.length_append, List.length_cons, List.length_nil]); omega))) only [go_sem, Nat.reduceEqDiff, Nat.reduceBEq, Nat.reduceAdd, Nat.reduceSub, Nat.reduceMul, Nat.reduceLeDiff, Nat.reduceLT, ↓reduceIte, reduceCtorEq, Int.reduceEq, Int.reduceLE, Int.reduceLT, Int.reduceToNat, Int.reduceNeg, Int.reduceSub, Int.reduceAdd, Int.reduceMul, ltT, ltF, leT, leF, neF, catT, mkT, appT, wrap_id, List.length_map, Int.toNat_natCast]
  | x :: B, A, h => by
    unfold loopW
    conv => lhs; arg 1; unfold b_laws_eqBodyS_0
    have hl : xs.length = A.length + (B.length + 1) := by rw [h]; simp
    have h2 : (xs.map TBody.r)[A.length]? = some x.r := by rw [h]; simp
    have hx' := hx.1
    have hto := laws_eqBody_ok x (hx.2 x (by rw [h]; simp))
    have ih := laws_eqBodyS_l0 xs hx B (A ++ [x]) (by simp [h])
    rw [show (((A ++ [x]).length : Nat) : Int) = (A.length : Int) + 1 by simp] at ih
    simp only [TBody.r] at h2
    simp only [TBody.x] at hto
    simp (maxSteps := 2000000) (implicitDefEqProofs := false) (disch := (first | omega | assumption | (refine ⟨?_, ?_⟩ <;> omega) | (unfold catOk; (try simp only [ByteArray.size_append, size_lit, List.length_cons, List.length_nil]); omega) | (unfold mkOk; omega) | (unfold appOk; (try simp only [List.length_map, List.length_append, List.length_cons, List.length_nil]); omega))) only [go_sem, Nat.reduceEqDiff, Nat.reduceBEq, Nat.reduceAdd, Nat.reduceSub, Nat.reduceMul, Nat.reduceLeDiff, Nat.reduceLT, ↓reduceIte, reduceCtorEq, Int.reduceEq, Int.reduceLE, Int.reduceLT, Int.reduceToNat, Int.reduceNeg, Int.reduceSub, Int.reduceAdd, Int.reduceMul, ltT, ltF, leT, leF, neF, catT, mkT, appT, wrap_id, List.length_map, Int.toNat_natCast, h2, hto, ih]
theorem laws_eqBodyS_ok (xs : List TBody) (hx : xs.length ≤ 1048576 ∧ ∀ y ∈ xs, y.sm) : call tab laws_eqBodyS [.d (.r (xs.map TBody.r)), .d (.r (xs.map TBody.r))] = some (B true) := by
  rw [call_of t_laws_eqBodyS _ rfl, c_laws_eqBodyS]
  have hl := laws_eqBodyS_l0 xs hx xs [] rfl
  have hx' := hx.1
  simp only [List.length_nil, Int.cast_ofNat_Int] at hl
  simp (maxSteps := 2000000) (implicitDefEqProofs := false) (disch := (first | omega | assumption | (refine ⟨?_, ?_⟩ <;> omega) | (unfold catOk; (try simp only [ByteArray.size_append, size_lit, List.length_cons, List.length_nil]); omega) | (unfold mkOk; omega) | (unfold appOk; (try simp only [List.length_map, List.length_append, List.length_cons, List.length_nil]); omega))) only [go_sem, Nat.reduceEqDiff, Nat.reduceBEq, Nat.reduceAdd, Nat.reduceSub, Nat.reduceMul, Nat.reduceLeDiff, Nat.reduceLT, ↓reduceIte, reduceCtorEq, Int.reduceEq, Int.reduceLE, Int.reduceLT, Int.reduceToNat, Int.reduceNeg, Int.reduceSub, Int.reduceAdd, Int.reduceMul, ltT, ltF, leT, leF, neF, catT, mkT, appT, wrap_id, List.length_map, Int.toNat_natCast, hl]
theorem laws_szBody_ok (x : TBody) (n : Int) (hn : 0 ≤ n ∧ n ≤ 1048576) (hx : x.ok) : call tab laws_szBody [x.x, I n] = some (I (if n < x.sz then -1 else n - x.sz)) := by
  rw [call_of t_laws_szBody _ rfl, c_laws_szBody]
  have hsz : x.sz = TFrame.szs x.fFrames := rfl
  rw [hsz]
  have b0 := hx.fFrames.1
  have z0 := TFrame.szs_nn x.fFrames
  have f0 := laws_szFrameS_ok x.fFrames (n) (by omega) hx.fFrames
  by_cases c0 : n - TFrame.szs x.fFrames < 0
  · rw [if_pos (by omega)] at f0
    rw [if_pos (show n < TFrame.szs x.fFrames by omega)]
    simp (maxSteps := 2000000) (implicitDefEqProofs := false) (disch := (first | omega | assumption | (refine ⟨?_, ?_⟩ <;> omega) | (unfold catOk; (try simp only [ByteArray.size_append, size_lit, List.length_cons, List.length_nil]); omega) | (unfold mkOk; omega) | (unfold appOk; (try simp only [List.length_map, List.length_append, List.length_cons, List.length_nil]); omega))) only [go_sem, Nat.reduceEqDiff, Nat.reduceBEq, Nat.reduceAdd, Nat.reduceSub, Nat.reduceMul, Nat.reduceLeDiff, Nat.reduceLT, ↓reduceIte, reduceCtorEq, Int.reduceEq, Int.reduceLE, Int.reduceLT, Int.reduceToNat, Int.reduceNeg, Int.reduceSub, Int.reduceAdd, Int.reduceMul, ltT, ltF, leT, leF, neF, catT, mkT, appT, wrap_id, List.length_map, Int.toNat_natCast, TBody.x, c0, f0]
  · rw [if_neg (by omega)] at f0
    rw [if_neg (show ¬ n < TFrame.szs x.fFrames by omega)]
    simp (maxSteps := 2000000) (implicitDefEqProofs := false) (disch := (first | omega | assumption | (refine ⟨?_, ?_⟩ <;> omega) | (unfold catOk; (try simp only [ByteArray.size_append, size_lit, List.length_cons, List.length_nil]); omega) | (unfold mkOk; omega) | (unfold appOk; (try simp only [List.length_map, List.length_append, List.length_cons, List.length_nil]); omega))) only [go_sem, Nat.reduceEqDiff, Nat.reduceBEq, Nat.reduceAdd, Nat.reduceSub, Nat.reduceMul, Nat.reduceLeDiff, Nat.reduceLT, ↓reduceIte, reduceCtorEq, Int.reduceEq, Int.reduceLE, Int.reduceLT, Int.reduceToNat, Int.reduceNeg, Int.reduceSub, Int.reduceAdd, Int.reduceMul, ltT, ltF, leT, leF, neF, catT, mkT, appT, wrap_id, List.length_map, Int.toNat_natCast, TBody.x, f0, c0]
theorem laws_szBodyS_l0 (xs : List TBody) (hx : xs.length ≤ 1048576) (hok : ∀ y ∈ xs, y.ok) : ∀ (B A : List TBody) (n : Int), xs = A ++ B → 0 ≤ n ∧ n ≤ 1048576 →
    loopW tab [0, 1, 5] b_laws_szBodyS_0 { env := upd (upd (upd emp 5 (some (I (A.length : Int)))) 1 (some (I n))) 0 (some (.d (.r (xs.map TBody.r)))), heap := emp, fr := 0, next := 0 } = (if n < TBody.szl B then some (.ret, { env := upd emp 4 (some (I (-1))), heap := emp, fr := 0, next := 0 }) else some (.ext 0, { env := upd emp 1 (some (I (n - TBody.szl B))), heap := emp, fr := 0, next := 0 }))
  | [], A, n, h, hn => by
    rw [List.append_nil] at h
    subst h
    unfold loopW
    conv => lhs; arg 1; unfold b_laws_szBodyS_0
    rw [if_neg (show ¬ n < TBody.szl [] by simp only [TBody.szl]; omega)]
    simp (maxSteps := 2000000) (implicitDefEqProofs := false) (disch := (first | omega | assumption | (refine ⟨?_, ?_⟩ <;> omega) | (unfold catOk; (try simp only [ByteArray.size_append, size_lit, List.length_cons, List.length_nil]); omega) | (unfold mkOk; omega) | (unfold appOk; (try simp only [List.length_map, List.length_append, List.length_cons, List.length_nil]); omega))) only [go_sem, Nat.reduceEqDiff, Nat.reduceBEq, Nat.reduceAdd, Nat.reduceSub, Nat.reduceMul, Nat.reduceLeDiff, Nat.reduceLT, ↓reduceIte, reduceCtorEq, Int.reduceEq, Int.reduceLE, Int.reduceLT, Int.reduceToNat, Int.reduceNeg, Int.reduceSub, Int.reduceAdd, Int.reduceMul, ltT, ltF, leT, leF, neF, catT, mkT, appT, wrap_id, List.length_map, Int.toNat_natCast, TBody.szl, Int.sub_zero]
  | x :: B, A, n, h, hn => by
    unfold loopW
    conv => lhs; arg 1; unfold b_laws_szBodyS_0
    have hl : xs.length = A.length + (B.length + 1) := by rw [h]; simp
    have h2 : (xs.map TBody.r)[A.length]? = some x.r := by rw [h]; simp
    have hto := laws_szBody_ok x n hn (hok x (by rw [h]; simp))
    have hnn := TBody.szl_nn B
    have hxn := x.sz_nn
    simp only [TBody.r] at h2
    simp only [TBody.x] at hto
    rw [show TBody.szl (x :: B) = x.sz + TBody.szl B from rfl]
    by_cases hc : n < x.sz
    · rw [if_pos hc] at hto
      rw [if_pos (show n < x.sz + TBody.szl B by omega)]
      simp (maxSteps := 2000000) (implicitDefEqProofs := false) (disch := (first | omega | assumption | (refine ⟨?_, ?_⟩ <;> omega) | (unfold catOk; (try simp only [ByteArray.size_append, size_lit, List.length_cons, List.length_nil]); omega) | (unfold mkOk; omega) | (unfold appOk; (try simp only [List.length_map, List.length_append, List.length_cons, List.length_nil]); omega))) only [go_sem, Nat.reduceEqDiff, Nat.reduceBEq, Nat.reduceAdd, Nat.reduceSub, Nat.reduceMul, Nat.reduceLeDiff, Nat.reduceLT, ↓reduceIte, reduceCtorEq, Int.reduceEq, Int.reduceLE, Int.reduceLT, Int.reduceToNat, Int.reduceNeg, Int.reduceSub, Int.reduceAdd, Int.reduceMul, ltT, ltF, leT, leF, neF, catT, mkT, appT, wrap_id, List.length_map, Int.toNat_natCast, h2, hto]
    · rw [if_neg hc] at hto
      have ih := laws_szBodyS_l0 xs hx hok B (A ++ [x]) (n - x.sz) (by simp [h]) (by omega)
      rw [show (((A ++ [x]).length : Nat) : Int) = (A.length : Int) + 1 by simp] at ih
      by_cases hd : n - x.sz < TBody.szl B
      · rw [if_pos hd] at ih
        rw [if_pos (show n < x.sz + TBody.szl B by omega)]
        simp (maxSteps := 2000000) (implicitDefEqProofs := false) (disch := (first | omega | assumption | (refine ⟨?_, ?_⟩ <;> omega) | (unfold catOk; (try simp only [ByteArray.size_append, size_lit, List.length_cons, List.length_nil]); omega) | (unfold mkOk; omega) | (unfold appOk; (try simp only [List.length_map, List.length_append, List.length_cons, List.length_nil]); omega))) only [go_sem, Nat.reduceEqDiff, Nat.reduceBEq, Nat.reduceAdd, Nat.reduceSub, Nat.reduceMul, Nat.reduceLeDiff, Nat.reduceLT, ↓reduceIte, reduceCtorEq, Int.reduceEq, Int.reduceLE, Int.reduceLT, Int.reduceToNat, Int.reduceNeg, Int.reduceSub, Int.reduceAdd, Int.reduceMul, ltT, ltF, leT, leF, neF, catT, mkT, appT, wrap_id, List.length_map, Int.toNat_natCast, h2, hto, ih]
      · rw [if_neg hd, show n - x.sz - TBody.szl B = n - (x.sz + TBody.szl B) by omega] at ih
        rw [if_neg (show ¬ n < x.sz + TBody.szl B by omega)]
        simp (maxSteps := 2000000) (implicitDefEqProofs := false) (disch := (first | omega | assumption | (refine ⟨?_, ?_⟩ <;> omega) | (unfold catOk; (try simp only [ByteArray.size_append, size_lit, List.length_cons, List.length_nil]); omega) | (unfold mkOk; omega) | (unfold appOk; (try simp only [List.length_map, List.length_append, List.length_cons, List.length_nil]); omega))) only [go_sem, Nat.reduceEqDiff, Nat.reduceBEq, Nat.reduceAdd, Nat.reduceSub, Nat.reduceMul, Nat.reduceLeDiff, Nat.reduceLT, ↓reduceIte, reduceCtorEq, Int.reduceEq, Int.reduceLE, Int.reduceLT, Int.reduceToNat, Int.reduceNeg, Int.reduceSub, Int.reduceAdd, Int.reduceMul, ltT, ltF, leT, leF, neF, catT, mkT, appT, wrap_id, List.length_map, Int.toNat_natCast, h2, hto, ih]
theorem laws_szBodyS_ok (xs : List TBody) (n : Int) (hn : 0 ≤ n ∧ n ≤ 1048576) (hx : xs.length ≤ 140737488351232 ∧ ∀ y ∈ xs, y.ok) : call tab laws_szBodyS [.d (.r (xs.map TBody.r)), I n] = some (I (if n < TBody.szs xs then -1 else n - TBody.szs xs)) := by
  rw [call_of t_laws_szBodyS _ rfl, c_laws_szBodyS]
  have hx1 := hx.1
  have hnn := TBody.szl_nn xs
  rw [show TBody.szs xs = xs.length + TBody.szl xs from rfl]
  by_cases h : n - (xs.length : Int) < 0
  · rw [if_pos (show n < xs.length + TBody.szl xs by omega)]
    simp (maxSteps := 2000000) (implicitDefEqProofs := false) (disch := (first | omega | assumption | (refine ⟨?_, ?_⟩ <;> omega) | (unfold catOk; (try simp only [ByteArray.size_append, size_lit, List.length_cons, List.length_nil]); omega) | (unfold mkOk; omega) | (unfold appOk; (try simp only [List.length_map, List.length_append, List.length_cons, List.length_nil]); omega))) only [go_sem, Nat.reduceEqDiff, Nat.reduceBEq, Nat.reduceAdd, Nat.reduceSub, Nat.reduceMul, Nat.reduceLeDiff, Nat.reduceLT, ↓reduceIte, reduceCtorEq, Int.reduceEq, Int.reduceLE, Int.reduceLT, Int.reduceToNat, Int.reduceNeg, Int.reduceSub, Int.reduceAdd, Int.reduceMul, ltT, ltF, leT, leF, neF, catT, mkT, appT, wrap_id, List.length_map, Int.toNat_natCast, h]
  · have hl := laws_szBodyS_l0 xs (by omega) hx.2 xs [] (n - xs.length) rfl (by omega)
    simp only [List.length_nil, Int.cast_ofNat_Int] at hl
    by_cases hd : n - (xs.length : Int) < TBody.szl xs
    · rw [if_pos hd] at hl
      rw [if_pos (show n < xs.length + TBody.szl xs by omega)]
      simp (maxSteps := 2000000) (implicitDefEqProofs := false) (disch := (first | omega | assumption | (refine ⟨?_, ?_⟩ <;> omega) | (unfold catOk; (try simp only [ByteArray.size_append, size_lit, List.length_cons, List.length_nil]); omega) | (unfold mkOk; omega) | (unfold appOk; (try simp only [List.length_map, List.length_append, List.length_cons, List.length_nil]); omega))) only [go_sem, Nat.reduceEqDiff, Nat.reduceBEq, Nat.reduceAdd, Nat.reduceSub, Nat.reduceMul, Nat.reduceLeDiff, Nat.reduceLT, ↓reduceIte, reduceCtorEq, Int.reduceEq, Int.reduceLE, Int.reduceLT, Int.reduceToNat, Int.reduceNeg, Int.reduceSub, Int.reduceAdd, Int.reduceMul, ltT, ltF, leT, leF, neF, catT, mkT, appT, wrap_id, List.length_map, Int.toNat_natCast, h, hl]
    · rw [if_neg hd, show n - (xs.length : Int) - TBody.szl xs = n - (xs.length + TBody.szl xs) by omega] at hl
      rw [if_neg (show ¬ n < xs.length + TBody.szl xs by omega)]
      simp (maxSteps := 2000000) (implicitDefEqProofs := false) (disch := (first | omega | assumption | (refine ⟨?_, ?_⟩ <;> omega) | (unfold catOk; (try simp only [ByteArray.size_append, size_lit, List.length_cons, List.length_nil]); omega) | (unfold mkOk; omega) | (unfold appOk; (try simp only [List.length_map, List.length_append, List.length_cons, List.length_nil]); omega))) only [go_sem, Nat.reduceEqDiff, Nat.reduceBEq, Nat.reduceAdd, Nat.reduceSub, Nat.reduceMul, Nat.reduceLeDiff, Nat.reduceLT, ↓reduceIte, reduceCtorEq, Int.reduceEq, Int.reduceLE, Int.reduceLT, Int.reduceToNat, Int.reduceNeg, Int.reduceSub, Int.reduceAdd, Int.reduceMul, ltT, ltF, leT, leF, neF, catT, mkT, appT, wrap_id, List.length_map, Int.toNat_natCast, h, hl]
end Go.Ev.G
