/- The laws' own helpers on the type Tac: written by genq.py. -/
import Derived.Test.YtcoigakalblkgaaEvQInt
import Derived.Test.YtcoigakalblkgaaEvQText
set_option linter.all false
namespace Go.Ev.G
set_option maxRecDepth 8000
set_option maxHeartbeats 4000000
structure TTac where
  fOp : Int
  fD : Int
  fA : Int
  fB : Int
  fN : Int
  fS : ByteArray
  fArgs : List Int
def TTac.r (x : TTac) : List D := [DI x.fOp, DI x.fD, DI x.fA, DI x.fB, DI x.fN, DS x.fS, .r (numR x.fArgs)]
def TTac.o (x : TTac) : List D := [DI x.fOp, DI x.fD, DI x.fA, DI x.fB, DI x.fN, DS x.fS, .s 1 (numR x.fArgs)]
abbrev TTac.x (x : TTac) : X := .agg [I x.fOp, I x.fD, I x.fA, I x.fB, I x.fN, Str x.fS, .d (.r (numR x.fArgs))]
abbrev TTac.xo (x : TTac) : X := .agg [I x.fOp, I x.fD, I x.fA, I x.fB, I x.fN, Str x.fS, .d (.s 1 (numR x.fArgs))]
theorem TTac.fzl (x : TTac) : fzl x.o = x.r := by simp only [TTac.o, TTac.r, Ev.fzl, D.fz, fzs_numR]
theorem TTac.fzs (xs : List TTac) : fzs (xs.map TTac.o) = xs.map TTac.r := fzs_map _ _ TTac.fzl xs
theorem TTac.noR (xs : List TTac) : D.noR.noRss (xs.map TTac.o) = true := noRss_map _ (fun x => by simp only [TTac.o, D.noR.noRs, D.noR, Bool.and_true, Bool.true_and, noR_numR]) xs
def TTac.sz (x : TTac) : Int := (x.fS.size : Int) + (x.fArgs.length : Int)
theorem TTac.sz_nn (x : TTac) : 0 ≤ x.sz := by
  unfold TTac.sz; omega
def TTac.szl : List TTac → Int
  | [] => 0
  | x :: xs => x.sz + TTac.szl xs
def TTac.szs (xs : List TTac) : Int := xs.length + TTac.szl xs
theorem TTac.szl_nn : ∀ xs : List TTac, 0 ≤ TTac.szl xs
  | [] => by simp [TTac.szl]
  | x :: xs => by simp only [TTac.szl]; have := x.sz_nn; have := TTac.szl_nn xs; omega
theorem TTac.szs_nn (xs : List TTac) : 0 ≤ TTac.szs xs ∧ (xs.length : Int) ≤ TTac.szs xs := by have := TTac.szl_nn xs; unfold TTac.szs; omega
theorem TTac.sz_le : ∀ {xs : List TTac} {x : TTac}, x ∈ xs → x.sz ≤ TTac.szl xs
  | y :: xs, x, h => by
    simp only [TTac.szl]
    have h1 := y.sz_nn; have h2 := TTac.szl_nn xs
    rcases List.mem_cons.1 h with rfl | h
    · omega
    · have := TTac.sz_le h; omega
def TTac.sm (x : TTac) : Prop := x.fS.size ≤ 1048576 ∧ x.fArgs.length ≤ 1048576
theorem TTac.sm_of {x : TTac} (h : x.sz ≤ 1048576) : x.sm := by
  unfold TTac.sz at h
  unfold TTac.sm
  exact ⟨by omega, by omega⟩
structure TTac.ok (x : TTac) : Prop where
  fOp : i64 x.fOp
  fD : i64 x.fD
  fA : i64 x.fA
  fB : i64 x.fB
  fN : i64 x.fN
  fS : x.fS.size ≤ 140737488351232
  fArgs : x.fArgs.length ≤ 140737488351232 ∧ ∀ n ∈ x.fArgs, i64 n
theorem TTac.fit {c : List D} (h : fitL [.i .i64, .i .i64, .i .i64, .i .i64, .i .i64, .s, .l 8 [.i .i64]] c) : ∃ x : TTac, c = x.r ∧ x.ok := by
  simp only [fitL] at h
  obtain ⟨_, _, rfl, h0, _, _, rfl, h1, _, _, rfl, h2, _, _, rfl, h3, _, _, rfl, h4, _, _, rfl, h5, _, _, rfl, h6, rfl⟩ := h
  rw [Ev.fit] at h0; obtain ⟨a0, rfl, g0⟩ := h0
  rw [Ev.fit] at h1; obtain ⟨a1, rfl, g1⟩ := h1
  rw [Ev.fit] at h2; obtain ⟨a2, rfl, g2⟩ := h2
  rw [Ev.fit] at h3; obtain ⟨a3, rfl, g3⟩ := h3
  rw [Ev.fit] at h4; obtain ⟨a4, rfl, g4⟩ := h4
  rw [Ev.fit] at h5; obtain ⟨a5, rfl, g5⟩ := h5
  rw [Ev.fit] at h6; obtain ⟨e6, rfl, b6, c6⟩ := h6; obtain ⟨a6, rfl, g6⟩ := fit_all (enc := fun n => [DI n]) (ok := i64) (fun c hc => fit_int hc) c6; rw [List.length_map] at b6
  exact ⟨⟨a0, a1, a2, a3, a4, a5, a6⟩, rfl, ⟨wf64 g0, wf64 g1, wf64 g2, wf64 g3, wf64 g4, g5, ⟨(by omega : a6.length ≤ 140737488351232), g6⟩⟩⟩
def TTac.mk_ (k : Int) (x : TTac) : TTac := ⟨k, k + 1, k + 1 + 1, k + 1 + 1 + 1, k + 1 + 1 + 1 + 1, mtxt (k + 1 + 1 + 1 + 1 + 1), mkInt (k + 1 + 1 + 1 + 1 + 1 + 1) x.fArgs⟩
def TTac.ct (x : TTac) : Int := 1 + 1 + 1 + 1 + 1 + 1 + (x.fArgs.length : Int)
theorem TTac.ct_nn (x : TTac) : 1 ≤ x.ct := by
  unfold TTac.ct; omega
def TTac.mks : Int → List TTac → List TTac
  | _, [] => []
  | k, x :: xs => TTac.mk_ k x :: TTac.mks (k + x.ct) xs
def TTac.cts : List TTac → Int
  | [] => 0
  | x :: xs => x.ct + TTac.cts xs
theorem TTac.cts_nn : ∀ xs : List TTac, (xs.length : Int) ≤ TTac.cts xs
  | [] => by simp [TTac.cts]
  | x :: xs => by simp only [TTac.cts, List.length_cons]; have := x.ct_nn; have := TTac.cts_nn xs; omega
theorem TTac.mks_len : ∀ (k : Int) (xs : List TTac), (TTac.mks k xs).length = xs.length
  | _, [] => rfl
  | k, x :: xs => by simp [TTac.mks, TTac.mks_len (k + x.ct) xs]
theorem TTac.ct_le (x : TTac) : x.ct ≤ 64 + 64 * x.sz := by
  unfold TTac.ct TTac.sz; omega
theorem TTac.cts_le : ∀ xs : List TTac, TTac.cts xs ≤ 64 * TTac.szs xs
  | [] => by simp [TTac.cts, TTac.szs, TTac.szl]
  | x :: xs => by
    have h1 := x.ct_le; have h2 := TTac.cts_le xs
    simp only [TTac.cts, TTac.szs, TTac.szl, List.length_cons] at *; omega
def TTac.mkv (k : Int) (x : TTac) : TTac := ⟨x.fOp, x.fD, x.fA, x.fB, x.fN, x.fS, mkInt (k) x.fArgs⟩
def TTac.ctv (x : TTac) : Int := (x.fArgs.length : Int)
theorem TTac.ctv_le (x : TTac) : x.ctv ≤ 64 * x.sz := by
  unfold TTac.ctv TTac.sz; omega
theorem laws_toTac_ok (x : TTac) (hx : x.sm) : call tab laws_toTac [x.x] = some x.xo := by
  simp only [TTac.sm] at hx
  have t0 := laws_toIntS_ok x.fArgs (by omega)
  rw [call_of t_laws_toTac _ rfl, c_laws_toTac]
  simp (maxSteps := 2000000) (implicitDefEqProofs := false) (disch := (first | omega | assumption | (refine ⟨?_, ?_⟩ <;> omega) | (unfold catOk; (try simp only [ByteArray.size_append, size_lit, List.length_cons, List.length_nil]); omega) | (unfold mkOk; omega) | (unfold appOk; (try simp only [List.length_map, List.length_append, List.length_cons, List.length_nil]); omega))) only [go_sem, Nat.reduceEqDiff, Nat.reduceBEq, Nat.reduceAdd, Nat.reduceSub, Nat.reduceMul, Nat.reduceLeDiff, Nat.reduceLT, ↓reduceIte, reduceCtorEq, Int.reduceEq, Int.reduceLE, Int.reduceLT, Int.reduceToNat, Int.reduceNeg, Int.reduceSub, Int.reduceAdd, Int.reduceMul, ltT, ltF, leT, leF, neF, catT, mkT, appT, wrap_id, List.length_map, Int.toNat_natCast, TTac.x, TTac.xo, t0]
theorem laws_toTacS_l0 (xs : List TTac) (hx : xs.length ≤ 1048576 ∧ ∀ y ∈ xs, y.sm) : ∀ (B A : List TTac), xs = A ++ B →
    loopW tab [0, 3, 4] b_laws_toTacS_0 { env := upd (upd (upd emp 4 (some (I (A.length : Int)))) 3 (some (.ref (0, 0) []))) 0 (some (.d (.r (xs.map TTac.r)))), heap := upd emp (0, 0) (some (.s 7 (A.map TTac.o ++ List.replicate B.length [DI 0, DI 0, DI 0, DI 0, DI 0, DS ⟨#[]⟩, .s 1 []]))), fr := 0, next := 1 } = some (.ext 0, { env := upd emp 3 (some (.ref (0, 0) [])), heap := upd emp (0, 0) (some (.s 7 (xs.map TTac.o))), fr := 0, next := 1 })
  | [], A, h => by
    rw [List.append_nil] at h
    subst h
    unfold loopW
    conv => lhs; arg 1; unfold b_laws_toTacS_0
    have hx' := hx.1
    simp (maxSteps := 2000000) (implicitDefEqProofs := false) (disch := (first | omega | assumption | (refine ⟨?_, ?_⟩ <;> omega) | (unfold catOk; (try simp only [ByteArray.size_append, size_lit, List.length_cons, List.length_nil]); omega) | (unfold mkOk; omega) | (unfold appOk; (try simp only [List.length_map, List.length_append, List.length_cons, List.length_nil]); omega))) only [go_sem, Nat.reduceEqDiff, Nat.reduceBEq, Nat.reduceAdd, Nat.reduceSub, Nat.reduceMul, Nat.reduceLeDiff, Nat.reduceLT, ↓reduceIte, reduceCtorEq, Int.reduceEq, Int.reduceLE, Int.reduceLT, Int.reduceToNat, Int.reduceNeg, Int.reduceSub, Int.reduceAdd, Int.reduceMul, ltT, ltF, leT, leF, neF, catT, mkT, appT, wrap_id, List.length_map, Int.toNat_natCast, List.replicate_zero]
  | x :: B, A, h => by
    unfold loopW
    conv => lhs; arg 1; unfold b_laws_toTacS_0
    have hl : xs.length = A.length + (B.length + 1) := by rw [h]; simp
    have h2 : (xs.map TTac.r)[A.length]? = some x.r := by rw [h]; simp
    have hx' := hx.1
    have hto := laws_toTac_ok x (hx.2 x (by rw [h]; simp))
    have ih := laws_toTacS_l0 xs hx B (A ++ [x]) (by simp [h])
    rw [show (((A ++ [x]).length : Nat) : Int) = (A.length : Int) + 1 by simp] at ih
    simp only [List.map_append, List.map_cons, List.map_nil, List.append_assoc, List.cons_append, List.nil_append, TTac.o] at ih
    simp only [TTac.r] at h2
    simp only [TTac.x, TTac.xo] at hto
    simp (maxSteps := 2000000) (implicitDefEqProofs := false) (disch := (first | omega | assumption | (refine ⟨?_, ?_⟩ <;> omega) | (unfold catOk; (try simp only [ByteArray.size_append, size_lit, List.length_cons, List.length_nil]); omega) | (unfold mkOk; omega) | (unfold appOk; (try simp only [List.length_map, List.length_append, List.length_cons, List.length_nil]); omega))) only [go_sem, Nat.reduceEqDiff, Nat.reduceBEq, Nat.reduceAdd, Nat.reduceSub, Nat.reduceMul, Nat.reduceLeDiff, Nat.reduceLT, ↓reduceIte, reduceCtorEq, Int.reduceEq, Int.reduceLE, Int.reduceLT, Int.reduceToNat, Int.reduceNeg, Int.reduceSub, Int.reduceAdd, Int.reduceMul, ltT, ltF, leT, leF, neF, catT, mkT, appT, wrap_id, List.length_map, Int.toNat_natCast, List.length_cons, List.replicate_succ, len_cat, get_mid, set_mid, h2, hto, ih]
theorem laws_toTacS_ok (xs : List TTac) (hx : xs.length ≤ 1048576 ∧ ∀ y ∈ xs, y.sm) : call tab laws_toTacS [.d (.r (xs.map TTac.r))] = some (.d (.s 7 (xs.map TTac.o))) := by
  rw [call_of t_laws_toTacS _ rfl, c_laws_toTacS]
  have hl := laws_toTacS_l0 xs hx xs [] rfl
  have hx' := hx.1
  simp only [List.map_nil, List.nil_append, List.length_nil, Int.cast_ofNat_Int] at hl
  simp (maxSteps := 2000000) (implicitDefEqProofs := false) (disch := (first | omega | assumption | (refine ⟨?_, ?_⟩ <;> omega) | (unfold catOk; (try simp only [ByteArray.size_append, size_lit, List.length_cons, List.length_nil]); omega) | (unfold mkOk; omega) | (unfold appOk; (try simp only [List.length_map, List.length_append, List.length_cons, List.length_nil]); omega))) only [go_sem, Nat.reduceEqDiff, Nat.reduceBEq, Nat.reduceAdd, Nat.reduceSub, Nat.reduceMul, Nat.reduceLeDiff, Nat.reduceLT, ↓reduceIte, reduceCtorEq, Int.reduceEq, Int.reduceLE, Int.reduceLT, Int.reduceToNat, Int.reduceNeg, Int.reduceSub, Int.reduceAdd, Int.reduceMul, ltT, ltF, leT, leF, neF, catT, mkT, appT, wrap_id, List.length_map, Int.toNat_natCast, hl]
theorem laws_eqTac_ok (x : TTac) (hx : x.sm) : call tab laws_eqTac [x.x, x.x] = some (B true) := by
  simp only [TTac.sm] at hx
  have t0 := laws_eqIntS_ok x.fArgs (by omega)
  rw [call_of t_laws_eqTac _ rfl, c_laws_eqTac]
  simp (maxSteps := 2000000) (implicitDefEqProofs := false) (disch := (first | omega | assumption | (refine ⟨?_, ?_⟩ <;> omega) | (unfold catOk; (try simp only [ByteArray.size_append, size_lit, List.length_cons, List.length_nil]); omega) | (unfold mkOk; omega) | (unfold appOk; (try simp only [List.length_map, List.length_append, List.length_cons, List.length_nil]); omega))) only [go_sem, Nat.reduceEqDiff, Nat.reduceBEq, Nat.reduceAdd, Nat.reduceSub, Nat.reduceMul, Nat.reduceLeDiff, Nat.reduceLT, ↓reduceIte, reduceCtorEq, Int.reduceEq, Int.reduceLE, Int.reduceLT, Int.reduceToNat, Int.reduceNeg, Int.reduceSub, Int.reduceAdd, Int.reduceMul, ltT, ltF, leT, leF, neF, catT, mkT, appT, wrap_id, List.length_map, Int.toNat_natCast, TTac.x, t0]
theorem laws_eqTacS_l0 (xs : List TTac) (hx : xs.length ≤ 1048576 ∧ ∀ y ∈ xs, y.sm) : ∀ (B A : List TTac), xs = A ++ B →
    loopW tab [0, 1, 5] b_laws_eqTacS_0 { env := upd (upd (upd emp 5 (some (I (A.length : Int)))) 1 (some (.d (.r (xs.map TTac.r))))) 0 (some (.d (.r (xs.map TTac.r)))), heap := emp, fr := 0, next := 0 } = some (.ext 0, { env := emp, heap := emp, fr := 0, next := 0 })
  | [], A, h => by
    rw [List.append_nil] at h
    subst h
    unfold loopW
    conv => lhs; arg 1; unfold b_laws_eqTacS_0
    have hx' := hx.1
    simp (maxSteps := 2000000) (implicitDefEqProofs := false) (disch := (first | omega | assumption | (refine ⟨?_, ?_⟩ <;> omega) | (unfold catOk; (try simp only [ByteArray.size_append, size_lit, List.length_cons, List.length_nil]); omega) | (unfold mkOk; omega) | (unfold appOk; (try simp only [List.length_map, List.length_append, List.length_cons, List.length_nil]); omega))) only [go_sem, Nat.reduceEqDiff, Nat.reduceBEq, Nat.reduceAdd, Nat.reduceSub, Nat.reduceMul, Nat.reduceLeDiff, Nat.reduceLT, ↓reduceIte, reduceCtorEq, Int.reduceEq, Int.reduceLE, Int.reduceLT, Int.reduceToNat, Int.reduceNeg, Int.reduceSub, Int.reduceAdd, Int.reduceMul, ltT, ltF, leT, leF, neF, catT, mkT, appT, wrap_id, List.length_map, Int.toNat_natCast]
  | x :: B, A, h => by
    unfold loopW
    conv => lhs; arg 1; unfold b_laws_eqTacS_0
    have hl : xs.length = A.length + (B.length + 1) := by rw [h]; simp
    have h2 : (xs.map TTac.r)[A.length]? = some x.r := by rw [h]; simp
    have hx' := hx.1
    have hto := laws_eqTac_ok x (hx.2 x (by rw [h]; simp))
    have ih := laws_eqTacS_l0 xs hx B (A ++ [x]) (by simp [h])
    rw [show (((A ++ [x]).length : Nat) : Int) = (A.length : Int) + 1 by simp] at ih
    simp only [TTac.r] at h2
    simp only [TTac.x] at hto
    simp (maxSteps := 2000000) (implicitDefEqProofs := false) (disch := (first | omega | assumption | (refine ⟨?_, ?_⟩ <;> omega) | (unfold catOk; (try simp only [ByteArray.size_append, size_lit, List.length_cons, List.length_nil]); omega) | (unfold mkOk; omega) | (unfold appOk; (try simp only [List.length_map, List.length_append, List.length_cons, List.length_nil]); omega))) only [go_sem, Nat.reduceEqDiff, Nat.reduceBEq, Nat.reduceAdd, Nat.reduceSub, Nat.reduceMul, Nat.reduceLeDiff, Nat.reduceLT, ↓reduceIte, reduceCtorEq, Int.reduceEq, Int.reduceLE, Int.reduceLT, Int.reduceToNat, Int.reduceNeg, Int.reduceSub, Int.reduceAdd, Int.reduceMul, ltT, ltF, leT, leF, neF, catT, mkT, appT, wrap_id, List.length_map, Int.toNat_natCast, h2, hto, ih]
theorem laws_eqTacS_ok (xs : List TTac) (hx : xs.length ≤ 1048576 ∧ ∀ y ∈ xs, y.sm) : call tab laws_eqTacS [.d (.r (xs.map TTac.r)), .d (.r (xs.map TTac.r))] = some (B true) := by
  rw [call_of t_laws_eqTacS _ rfl, c_laws_eqTacS]
  have hl := laws_eqTacS_l0 xs hx xs [] rfl
  have hx' := hx.1
  simp only [List.length_nil, Int.cast_ofNat_Int] at hl
  simp (maxSteps := 2000000) (implicitDefEqProofs := false) (disch := (first | omega | assumption | (refine ⟨?_, ?_⟩ <;> omega) | (unfold catOk; (try simp only [ByteArray.size_append, size_lit, List.length_cons, List.length_nil]); omega) | (unfold mkOk; omega) | (unfold appOk; (try simp only [List.length_map, List.length_append, List.length_cons, List.length_nil]); omega))) only [go_sem, Nat.reduceEqDiff, Nat.reduceBEq, Nat.reduceAdd, Nat.reduceSub, Nat.reduceMul, Nat.reduceLeDiff, Nat.reduceLT, ↓reduceIte, reduceCtorEq, Int.reduceEq, Int.reduceLE, Int.reduceLT, Int.reduceToNat, Int.reduceNeg, Int.reduceSub, Int.reduceAdd, Int.reduceMul, ltT, ltF, leT, leF, neF, catT, mkT, appT, wrap_id, List.length_map, Int.toNat_natCast, hl]
theorem laws_szTac_ok (x : TTac) (n : Int) (hn : 0 ≤ n ∧ n ≤ 1048576) (hx : x.ok) : call tab laws_szTac [x.x, I n] = some (I (if n < x.sz then -1 else n - x.sz)) := by
  rw [call_of t_laws_szTac _ rfl, c_laws_szTac]
  have hsz : x.sz = (x.fS.size : Int) + (x.fArgs.length : Int) := rfl
  rw [hsz]
  have b0 := hx.fS
  have b1 := hx.fArgs.1
  by_cases c0 : n - (x.fS.size : Int) < 0
  · rw [if_pos (show n < (x.fS.size : Int) + (x.fArgs.length : Int) by omega)]
    simp (maxSteps := 2000000) (implicitDefEqProofs := false) (disch := (first | omega | assumption | (refine ⟨?_, ?_⟩ <;> omega) | (unfold catOk; (try simp only [ByteArray.size_append, size_lit, List.length_cons, List.length_nil]); omega) | (unfold mkOk; omega) | (unfold appOk; (try simp only [List.length_map, List.length_append, List.length_cons, List.length_nil]); omega))) only [go_sem, Nat.reduceEqDiff, Nat.reduceBEq, Nat.reduceAdd, Nat.reduceSub, Nat.reduceMul, Nat.reduceLeDiff, Nat.reduceLT, ↓reduceIte, reduceCtorEq, Int.reduceEq, Int.reduceLE, Int.reduceLT, Int.reduceToNat, Int.reduceNeg, Int.reduceSub, Int.reduceAdd, Int.reduceMul, ltT, ltF, leT, leF, neF, catT, mkT, appT, wrap_id, List.length_map, Int.toNat_natCast, TTac.x, c0]
  · have f1 := laws_szIntS_ok x.fArgs (n - (x.fS.size : Int)) (by omega) (by omega)
    by_cases c1 : n - (x.fS.size : Int) - (x.fArgs.length : Int) < 0
    · rw [if_pos (by omega)] at f1
      rw [if_pos (show n < (x.fS.size : Int) + (x.fArgs.length : Int) by omega)]
      simp (maxSteps := 2000000) (implicitDefEqProofs := false) (disch := (first | omega | assumption | (refine ⟨?_, ?_⟩ <;> omega) | (unfold catOk; (try simp only [ByteArray.size_append, size_lit, List.length_cons, List.length_nil]); omega) | (unfold mkOk; omega) | (unfold appOk; (try simp only [List.length_map, List.length_append, List.length_cons, List.length_nil]); omega))) only [go_sem, Nat.reduceEqDiff, Nat.reduceBEq, Nat.reduceAdd, Nat.reduceSub, Nat.reduceMul, Nat.reduceLeDiff, Nat.reduceLT, ↓reduceIte, reduceCtorEq, Int.reduceEq, Int.reduceLE, Int.reduceLT, Int.reduceToNat, Int.reduceNeg, Int.reduceSub, Int.reduceAdd, Int.reduceMul, ltT, ltF, leT, leF, neF, catT, mkT, appT, wrap_id, List.length_map, Int.toNat_natCast, TTac.x, c0, c1, f1]
    · rw [if_neg (by omega)] at f1
      rw [if_neg (show ¬ n < (x.fS.size : Int) + (x.fArgs.length : Int) by omega)]
      rw [show n - ((x.fS.size : Int) + (x.fArgs.length : Int)) = n - (x.fS.size : Int) - (x.fArgs.length : Int) by omega]
      simp (maxSteps := 2000000) (implicitDefEqProofs := false) (disch := (first | omega | assumption | (refine ⟨?_, ?_⟩ <;> omega) | (unfold catOk; (try simp only [ByteArray.size_append, size_lit, List.length_cons, List.length_nil]); omega) | (unfold mkOk; omega) | (unfold appOk; (try simp only [List.length_map, List.length_append, List.length_cons, List.length_nil]); omega))) only [go_sem, Nat.reduceEqDiff, Nat.reduceBEq, Nat.reduceAdd, Nat.reduceSub, Nat.reduceMul, Nat.reduceLeDiff, Nat.reduceLT, ↓reduceIte, reduceCtorEq, Int.reduceEq, Int.reduceLE, Int.reduceLT, Int.reduceToNat, Int.reduceNeg, Int.reduceSub, Int.reduceAdd, Int.reduceMul, ltT, ltF, leT, leF, neF, catT, mkT, appT, wrap_id, List.length_map, Int.toNat_natCast, TTac.x, c0, f1, c1]
theorem laws_szTacS_l0 (xs : List TTac) (hx : xs.length ≤ 1048576) (hok : ∀ y ∈ xs, y.ok) : ∀ (B A : List TTac) (n : Int), xs = A ++ B → 0 ≤ n ∧ n ≤ 1048576 →
    loopW tab [0, 1, 5] b_laws_szTacS_0 { env := upd (upd (upd emp 5 (some (I (A.length : Int)))) 1 (some (I n))) 0 (some (.d (.r (xs.map TTac.r)))), heap := emp, fr := 0, next := 0 } = (if n < TTac.szl B then some (.ret, { env := upd emp 4 (some (I (-1))), heap := emp, fr := 0, next := 0 }) else some (.ext 0, { env := upd emp 1 (some (I (n - TTac.szl B))), heap := emp, fr := 0, next := 0 }))
  | [], A, n, h, hn => by
    rw [List.append_nil] at h
    subst h
    unfold loopW
    conv => lhs; arg 1; unfold b_laws_szTacS_0
    rw [if_neg (show ¬ n < TTac.szl [] by simp only [TTac.szl]; omega)]
    simp (maxSteps := 2000000) (implicitDefEqProofs := false) (disch := (first | omega | assumption | (refine ⟨?_, ?_⟩ <;> omega) | (unfold catOk; (try simp only [ByteArray.size_append, size_lit, List.length_cons, List.length_nil]); omega) | (unfold mkOk; omega) | (unfold appOk; (try simp only [List.length_map, List.length_append, List.length_cons, List.length_nil]); omega))) only [go_sem, Nat.reduceEqDiff, Nat.reduceBEq, Nat.reduceAdd, Nat.reduceSub, Nat.reduceMul, Nat.reduceLeDiff, Nat.reduceLT, ↓reduceIte, reduceCtorEq, Int.reduceEq, Int.reduceLE, Int.reduceLT, Int.reduceToNat, Int.reduceNeg, Int.reduceSub, Int.reduceAdd, Int.reduceMul, ltT, ltF, leT, leF, neF, catT, mkT, appT, wrap_id, List.length_map, Int.toNat_natCast, TTac.szl, Int.sub_zero]
  | x :: B, A, n, h, hn => by
    unfold loopW
    conv => lhs; arg 1; unfold b_laws_szTacS_0
    have hl : xs.length = A.length + (B.length + 1) := by rw [h]; simp
    have h2 : (xs.map TTac.r)[A.length]? = some x.r := by rw [h]; simp
    have hto := laws_szTac_ok x n hn (hok x (by rw [h]; simp))
    have hnn := TTac.szl_nn B
    have hxn := x.sz_nn
    simp only [TTac.r] at h2
    simp only [TTac.x] at hto
    rw [show TTac.szl (x :: B) = x.sz + TTac.szl B from rfl]
    by_cases hc : n < x.sz
    · rw [if_pos hc] at hto
      rw [if_pos (show n < x.sz + TTac.szl B by omega)]
      simp (maxSteps := 2000000) (implicitDefEqProofs := false) (disch := (first | omega | assumption | (refine ⟨?_, ?_⟩ <;> omega) | (unfold catOk; (try simp only [ByteArray.size_append, size_lit, List.length_cons, List.length_nil]); omega) | (unfold mkOk; omega) | (unfold appOk; (try simp only [List.length_map, List.length_append, List.length_cons, List.length_nil]); omega))) only [go_sem, Nat.reduceEqDiff, Nat.reduceBEq, Nat.reduceAdd, Nat.reduceSub, Nat.reduceMul, Nat.reduceLeDiff, Nat.reduceLT, ↓reduceIte, reduceCtorEq, Int.reduceEq, Int.reduceLE, Int.reduceLT, Int.reduceToNat, Int.reduceNeg, Int.reduceSub, Int.reduceAdd, Int.reduceMul, ltT, ltF, leT, leF, neF, catT, mkT, appT, wrap_id, List.length_map, Int.toNat_natCast, h2, hto]
    · rw [if_neg hc] at hto
      have ih := laws_szTacS_l0 xs hx hok B (A ++ [x]) (n - x.sz) (by simp [h]) (by omega)
      rw [show (((A ++ [x]).length : Nat) : Int) = (A.length : Int) + 1 by simp] at ih
      by_cases hd : n - x.sz < TTac.szl B
      · rw [if_pos hd] at ih
        rw [if_pos (show n < x.sz + TTac.szl B by omega)]
        simp (maxSteps := 2000000) (implicitDefEqProofs := false) (disch := (first | omega | assumption | (refine ⟨?_, ?_⟩ <;> omega) | (unfold catOk; (try simp only [ByteArray.size_append, size_lit, List.length_cons, List.length_nil]); omega) | (unfold mkOk; omega) | (unfold appOk; (try simp only [List.length_map, List.length_append, List.length_cons, List.length_nil]); omega))) only [go_sem, Nat.reduceEqDiff, Nat.reduceBEq, Nat.reduceAdd, Nat.reduceSub, Nat.reduceMul, Nat.reduceLeDiff, Nat.reduceLT, ↓reduceIte, reduceCtorEq, Int.reduceEq, Int.reduceLE, Int.reduceLT, Int.reduceToNat, Int.reduceNeg, Int.reduceSub, Int.reduceAdd, Int.reduceMul, ltT, ltF, leT, leF, neF, catT, mkT, appT, wrap_id, List.length_map, Int.toNat_natCast, h2, hto, ih]
      · rw [if_neg hd, show n - x.sz - TTac.szl B = n - (x.sz + TTac.szl B) by omega] at ih
        rw [if_neg (show ¬ n < x.sz + TTac.szl B by omega)]
        simp (maxSteps := 2000000) (implicitDefEqProofs := false) (disch := (first | omega | assumption | (refine ⟨?_, ?_⟩ <;> omega) | (unfold catOk; (try simp only [ByteArray.size_append, size_lit, List.length_cons, List.length_nil]); omega) | (unfold mkOk; omega) | (unfold appOk; (try simp only [List.length_map, List.length_append, List.length_cons, List.length_nil]); omega))) only [go_sem, Nat.reduceEqDiff, Nat.reduceBEq, Nat.reduceAdd, Nat.reduceSub, Nat.reduceMul, Nat.reduceLeDiff, Nat.reduceLT, ↓reduceIte, reduceCtorEq, Int.reduceEq, Int.reduceLE, Int.reduceLT, Int.reduceToNat, Int.reduceNeg, Int.reduceSub, Int.reduceAdd, Int.reduceMul, ltT, ltF, leT, leF, neF, catT, mkT, appT, wrap_id, List.length_map, Int.toNat_natCast, h2, hto, ih]
theorem laws_szTacS_ok (xs : List TTac) (n : Int) (hn : 0 ≤ n ∧ n ≤ 1048576) (hx : xs.length ≤ 140737488351232 ∧ ∀ y ∈ xs, y.ok) : call tab laws_szTacS [.d (.r (xs.map TTac.r)), I n] = some (I (if n < TTac.szs xs then -1 else n - TTac.szs xs)) := by
  rw [call_of t_laws_szTacS _ rfl, c_laws_szTacS]
  have hx1 := hx.1
  have hnn := TTac.szl_nn xs
  rw [show TTac.szs xs = xs.length + TTac.szl xs from rfl]
  by_cases h : n - (xs.length : Int) < 0
  · rw [if_pos (show n < xs.length + TTac.szl xs by omega)]
    simp (maxSteps := 2000000) (implicitDefEqProofs := false) (disch := (first | omega | assumption | (refine ⟨?_, ?_⟩ <;> omega) | (unfold catOk; (try simp only [ByteArray.size_append, size_lit, List.length_cons, List.length_nil]); omega) | (unfold mkOk; omega) | (unfold appOk; (try simp only [List.length_map, List.length_append, List.length_cons, List.length_nil]); omega))) only [go_sem, Nat.reduceEqDiff, Nat.reduceBEq, Nat.reduceAdd, Nat.reduceSub, Nat.reduceMul, Nat.reduceLeDiff, Nat.reduceLT, ↓reduceIte, reduceCtorEq, Int.reduceEq, Int.reduceLE, Int.reduceLT, Int.reduceToNat, Int.reduceNeg, Int.reduceSub, Int.reduceAdd, Int.reduceMul, ltT, ltF, leT, leF, neF, catT, mkT, appT, wrap_id, List.length_map, Int.toNat_natCast, h]
  · have hl := laws_szTacS_l0 xs (by omega) hx.2 xs [] (n - xs.length) rfl (by omega)
    simp only [List.length_nil, Int.cast_ofNat_Int] at hl
    by_cases hd : n - (xs.length : Int) < TTac.szl xs
    · rw [if_pos hd] at hl
      rw [if_pos (show n < xs.length + TTac.szl xs by omega)]
      simp (maxSteps := 2000000) (implicitDefEqProofs := false) (disch := (first | omega | assumption | (refine ⟨?_, ?_⟩ <;> omega) | (unfold catOk; (try simp only [ByteArray.size_append, size_lit, List.length_cons, List.length_nil]); omega) | (unfold mkOk; omega) | (unfold appOk; (try simp only [List.length_map, List.length_append, List.length_cons, List.length_nil]); omega))) only [go_sem, Nat.reduceEqDiff, Nat.reduceBEq, Nat.reduceAdd, Nat.reduceSub, Nat.reduceMul, Nat.reduceLeDiff, Nat.reduceLT, ↓reduceIte, reduceCtorEq, Int.reduceEq, Int.reduceLE, Int.reduceLT, Int.reduceToNat, Int.reduceNeg, Int.reduceSub, Int.reduceAdd, Int.reduceMul, ltT, ltF, leT, leF, neF, catT, mkT, appT, wrap_id, List.length_map, Int.toNat_natCast, h, hl]
    · rw [if_neg hd, show n - (xs.length : Int) - TTac.szl xs = n - (xs.length + TTac.szl xs) by omega] at hl
      rw [if_neg (show ¬ n < xs.length + TTac.szl xs by omega)]
      simp (maxSteps := 2000000) (implicitDefEqProofs := false) (disch := (first | omega | assumption | (refine ⟨?_, ?_⟩ <;> omega) | (unfold catOk; (try simp only [ByteArray.size_append, size_lit, List.length_cons, List.length_nil]); omega) | (unfold mkOk; omega) | (unfold appOk; (try simp only [List.length_map, List.length_append, List.length_cons, List.length_nil]); omega))) only [go_sem, Nat.reduceEqDiff, Nat.reduceBEq, Nat.reduceAdd, Nat.reduceSub, Nat.reduceMul, Nat.reduceLeDiff, Nat.reduceLT, ↓reduceIte, reduceCtorEq, Int.reduceEq, Int.reduceLE, Int.reduceLT, Int.reduceToNat, Int.reduceNeg, Int.reduceSub, Int.reduceAdd, Int.reduceMul, ltT, ltF, leT, leF, neF, catT, mkT, appT, wrap_id, List.length_map, Int.toNat_natCast, h, hl]
theorem laws_markTacS_l0 : ∀ (B A : List TTac) (k : Int), (A.length : Int) + TTac.cts B ≤ 1099511627776 → 0 ≤ k ∧ k + TTac.cts B ≤ 4611686018427387904 →
    loopW tab [0, 1, 5] b_laws_markTacS_0 { env := upd (upd (upd emp 5 (some (I (A.length : Int)))) 1 (some (I k))) 0 (some (.ref (0, 0) [])), heap := upd emp (0, 0) (some (.s 7 (A.map TTac.o ++ B.map TTac.o))), fr := 1, next := 0 } = some (.ext 0, { env := upd emp 1 (some (I (k + TTac.cts B))), heap := upd emp (0, 0) (some (.s 7 (A.map TTac.o ++ (TTac.mks k B).map TTac.o))), fr := 1, next := 0 })
  | [], A, k, h, hk => by
    unfold loopW
    conv => lhs; arg 1; unfold b_laws_markTacS_0
    simp only [TTac.cts] at h hk
    simp (maxSteps := 2000000) (implicitDefEqProofs := false) (disch := (first | omega | assumption | (refine ⟨?_, ?_⟩ <;> omega) | (unfold catOk; (try simp only [ByteArray.size_append, size_lit, List.length_cons, List.length_nil]); omega) | (unfold mkOk; omega) | (unfold appOk; (try simp only [List.length_map, List.length_append, List.length_cons, List.length_nil]); omega))) only [go_sem, Nat.reduceEqDiff, Nat.reduceBEq, Nat.reduceAdd, Nat.reduceSub, Nat.reduceMul, Nat.reduceLeDiff, Nat.reduceLT, ↓reduceIte, reduceCtorEq, Int.reduceEq, Int.reduceLE, Int.reduceLT, Int.reduceToNat, Int.reduceNeg, Int.reduceSub, Int.reduceAdd, Int.reduceMul, ltT, ltF, leT, leF, neF, catT, mkT, appT, wrap_id, List.length_map, Int.toNat_natCast, TTac.cts, TTac.mks, List.map_nil, List.append_nil, Int.add_zero]
  | x :: B, A, k, h, hk => by
    unfold loopW
    conv => lhs; arg 1; unfold b_laws_markTacS_0
    simp only [TTac.cts] at h hk
    have h1 := x.ct_nn
    have h0 := TTac.cts_nn B
    have ih := laws_markTacS_l0 B (A ++ [x.mk_ k]) (k + x.ct) (by simp; omega) (by omega)
    rw [show (((A ++ [x.mk_ k]).length : Nat) : Int) = (A.length : Int) + 1 by simp, show k + x.ct + TTac.cts B = k + TTac.cts (x :: B) by simp only [TTac.cts]; omega] at ih
    simp only [List.map_append, List.map_cons, List.map_nil, List.append_assoc, List.cons_append, List.nil_append] at ih
    simp only [TTac.mks, List.map_cons]
    have hm : TTac.o (x.mk_ k) = [DI (k), DI (k + 1), DI (k + 1 + 1), DI (k + 1 + 1 + 1), DI (k + 1 + 1 + 1 + 1), DS (mtxt (k + 1 + 1 + 1 + 1 + 1)), .s 1 (numR (mkInt (k + 1 + 1 + 1 + 1 + 1 + 1) x.fArgs))] := rfl
    have hkx : k + x.ct = k + 1 + 1 + 1 + 1 + 1 + 1 + (x.fArgs.length : Int) := by unfold TTac.ct; omega
    rw [hm, hkx] at ih
    rw [hm, hkx]
    unfold TTac.ct at hk h0
    have f0 := laws_markIntS_ok x.fArgs (k + 1 + 1 + 1 + 1 + 1 + 1) (by omega) (by omega)
    simp (maxSteps := 2000000) (implicitDefEqProofs := false) (disch := (first | omega | assumption | (refine ⟨?_, ?_⟩ <;> omega) | (unfold catOk; (try simp only [ByteArray.size_append, size_lit, List.length_cons, List.length_nil]); omega) | (unfold mkOk; omega) | (unfold appOk; (try simp only [List.length_map, List.length_append, List.length_cons, List.length_nil]); omega))) only [go_sem, Nat.reduceEqDiff, Nat.reduceBEq, Nat.reduceAdd, Nat.reduceSub, Nat.reduceMul, Nat.reduceLeDiff, Nat.reduceLT, ↓reduceIte, reduceCtorEq, Int.reduceEq, Int.reduceLE, Int.reduceLT, Int.reduceToNat, Int.reduceNeg, Int.reduceSub, Int.reduceAdd, Int.reduceMul, ltT, ltF, leT, leF, neF, catT, mkT, appT, wrap_id, List.length_map, Int.toNat_natCast, TTac.o, List.length_cons, len_cat, get_mid, set_mid, f0, laws_markText_ok, ih]
theorem laws_markTacS_ok (xs : List TTac) (k : Int) (h : TTac.cts xs ≤ 1099511627776) (hk : 0 ≤ k ∧ k + TTac.cts xs ≤ 4611686018427387904) : evCW tab laws_markTacS [.ref (0, 0) [], I k] (upd emp (0, 0) (some (.s 7 (xs.map TTac.o)))) 1 = some (I (k + TTac.cts xs), upd emp (0, 0) (some (.s 7 ((TTac.mks k xs).map TTac.o)))) := by
  rw [evCW_of t_laws_markTacS _ _ _ rfl, c_laws_markTacS]
  have hl := laws_markTacS_l0 xs [] k (by simpa using h) hk
  simp only [List.map_nil, List.nil_append, List.length_nil, Int.cast_ofNat_Int] at hl
  simp (maxSteps := 2000000) (implicitDefEqProofs := false) (disch := (first | omega | assumption | (refine ⟨?_, ?_⟩ <;> omega) | (unfold catOk; (try simp only [ByteArray.size_append, size_lit, List.length_cons, List.length_nil]); omega) | (unfold mkOk; omega) | (unfold appOk; (try simp only [List.length_map, List.length_append, List.length_cons, List.length_nil]); omega))) only [go_sem, Nat.reduceEqDiff, Nat.reduceBEq, Nat.reduceAdd, Nat.reduceSub, Nat.reduceMul, Nat.reduceLeDiff, Nat.reduceLT, ↓reduceIte, reduceCtorEq, Int.reduceEq, Int.reduceLE, Int.reduceLT, Int.reduceToNat, Int.reduceNeg, Int.reduceSub, Int.reduceAdd, Int.reduceMul, ltT, ltF, leT, leF, neF, catT, mkT, appT, wrap_id, List.length_map, Int.toNat_natCast, hl]
theorem laws_heldTacS_l0 (full : List (List D)) : ∀ (B A : List TTac) (k : Int), full = A.map TTac.r ++ (TTac.mks k B).map TTac.r → (A.length : Int) + TTac.cts B ≤ 1099511627776 → 0 ≤ k ∧ k + TTac.cts B ≤ 4611686018427387904 →
    loopW tab [0, 1, 5] b_laws_heldTacS_0 { env := upd (upd (upd emp 5 (some (I (A.length : Int)))) 1 (some (I k))) 0 (some (.d (.r full))), heap := emp, fr := 0, next := 0 } = some (.ext 0, { env := upd emp 1 (some (I (k + TTac.cts B))), heap := emp, fr := 0, next := 0 })
  | [], A, k, hf, h, hk => by
    subst hf
    unfold loopW
    conv => lhs; arg 1; unfold b_laws_heldTacS_0
    simp only [TTac.cts] at h hk
    simp (maxSteps := 2000000) (implicitDefEqProofs := false) (disch := (first | omega | assumption | (refine ⟨?_, ?_⟩ <;> omega) | (unfold catOk; (try simp only [ByteArray.size_append, size_lit, List.length_cons, List.length_nil]); omega) | (unfold mkOk; omega) | (unfold appOk; (try simp only [List.length_map, List.length_append, List.length_cons, List.length_nil]); omega))) only [go_sem, Nat.reduceEqDiff, Nat.reduceBEq, Nat.reduceAdd, Nat.reduceSub, Nat.reduceMul, Nat.reduceLeDiff, Nat.reduceLT, ↓reduceIte, reduceCtorEq, Int.reduceEq, Int.reduceLE, Int.reduceLT, Int.reduceToNat, Int.reduceNeg, Int.reduceSub, Int.reduceAdd, Int.reduceMul, ltT, ltF, leT, leF, neF, catT, mkT, appT, wrap_id, List.length_map, Int.toNat_natCast, TTac.cts, TTac.mks, List.map_nil, List.append_nil, Int.add_zero]
  | x :: B, A, k, hf, h, hk => by
    simp only [TTac.cts] at h hk
    have h1 := x.ct_nn
    have h0 := TTac.cts_nn B
    have ih := laws_heldTacS_l0 full B (A ++ [x.mk_ k]) (k + x.ct) (by rw [hf]; simp [TTac.mks]) (by simp; omega) (by omega)
    unfold loopW
    conv => lhs; arg 1; unfold b_laws_heldTacS_0
    have hlen := TTac.mks_len k (x :: B)
    have h2 : full[A.length]? = some (TTac.r (x.mk_ k)) := by rw [hf]; simp [TTac.mks]
    have h3 : full.length = A.length + (B.length + 1) := by rw [hf, List.length_append, List.length_map, List.length_map, hlen, List.length_cons]
    clear hf
    rw [show (((A ++ [x.mk_ k]).length : Nat) : Int) = (A.length : Int) + 1 by simp, show k + x.ct + TTac.cts B = k + TTac.cts (x :: B) by simp only [TTac.cts]; omega] at ih
    have hm : TTac.r (x.mk_ k) = [DI (k), DI (k + 1), DI (k + 1 + 1), DI (k + 1 + 1 + 1), DI (k + 1 + 1 + 1 + 1), DS (mtxt (k + 1 + 1 + 1 + 1 + 1)), .r (numR (mkInt (k + 1 + 1 + 1 + 1 + 1 + 1) x.fArgs))] := rfl
    have hkx : k + x.ct = k + 1 + 1 + 1 + 1 + 1 + 1 + (x.fArgs.length : Int) := by unfold TTac.ct; omega
    rw [hkx] at ih
    rw [hm] at h2
    unfold TTac.ct at hk h0
    have f0 := laws_heldIntS_ok x.fArgs (k + 1 + 1 + 1 + 1 + 1 + 1) (by omega) (by omega)
    simp (maxSteps := 2000000) (implicitDefEqProofs := false) (disch := (first | omega | assumption | (refine ⟨?_, ?_⟩ <;> omega) | (unfold catOk; (try simp only [ByteArray.size_append, size_lit, List.length_cons, List.length_nil]); omega) | (unfold mkOk; omega) | (unfold appOk; (try simp only [List.length_map, List.length_append, List.length_cons, List.length_nil]); omega))) only [go_sem, Nat.reduceEqDiff, Nat.reduceBEq, Nat.reduceAdd, Nat.reduceSub, Nat.reduceMul, Nat.reduceLeDiff, Nat.reduceLT, ↓reduceIte, reduceCtorEq, Int.reduceEq, Int.reduceLE, Int.reduceLT, Int.reduceToNat, Int.reduceNeg, Int.reduceSub, Int.reduceAdd, Int.reduceMul, ltT, ltF, leT, leF, neF, catT, mkT, appT, wrap_id, List.length_map, Int.toNat_natCast, h2, h3, f0, laws_markText_ok, ih]
theorem laws_heldTacS_ok (xs : List TTac) (k : Int) (h : TTac.cts xs ≤ 1099511627776) (hk : 0 ≤ k ∧ k + TTac.cts xs ≤ 4611686018427387904) : call tab laws_heldTacS [.d (.r ((TTac.mks k xs).map TTac.r)), I k] = some (I (k + TTac.cts xs)) := by
  rw [call_of t_laws_heldTacS _ rfl, c_laws_heldTacS]
  have hl := laws_heldTacS_l0 _ xs [] k rfl (by simpa using h) hk
  simp only [List.map_nil, List.nil_append, List.length_nil, Int.cast_ofNat_Int] at hl
  simp (maxSteps := 2000000) (implicitDefEqProofs := false) (disch := (first | omega | assumption | (refine ⟨?_, ?_⟩ <;> omega) | (unfold catOk; (try simp only [ByteArray.size_append, size_lit, List.length_cons, List.length_nil]); omega) | (unfold mkOk; omega) | (unfold appOk; (try simp only [List.length_map, List.length_append, List.length_cons, List.length_nil]); omega))) only [go_sem, Nat.reduceEqDiff, Nat.reduceBEq, Nat.reduceAdd, Nat.reduceSub, Nat.reduceMul, Nat.reduceLeDiff, Nat.reduceLT, ↓reduceIte, reduceCtorEq, Int.reduceEq, Int.reduceLE, Int.reduceLT, Int.reduceToNat, Int.reduceNeg, Int.reduceSub, Int.reduceAdd, Int.reduceMul, ltT, ltF, leT, leF, neF, catT, mkT, appT, wrap_id, List.length_map, Int.toNat_natCast, hl]
end Go.Ev.G
