/- The laws' own helpers on the type Unit: written by genq.py. -/
import Derived.Test.YtcoigakalblkgaaEvQInt
import Derived.Test.YtcoigakalblkgaaEvQText
import Derived.Test.YtcoigakalblkgaaEvQTac
set_option linter.all false
namespace Go.Ev.G
set_option maxRecDepth 8000
set_option maxHeartbeats 4000000
structure TUnit where
  fName : ByteArray
  fParams : Int
  fRegs : Int
  fCode : List TTac
def TUnit.r (x : TUnit) : List D := [DS x.fName, DI x.fParams, DI x.fRegs, .r (x.fCode.map TTac.r)]
def TUnit.o (x : TUnit) : List D := [DS x.fName, DI x.fParams, DI x.fRegs, .s 7 (x.fCode.map TTac.o)]
abbrev TUnit.x (x : TUnit) : X := .agg [Str x.fName, I x.fParams, I x.fRegs, .d (.r (x.fCode.map TTac.r))]
abbrev TUnit.xo (x : TUnit) : X := .agg [Str x.fName, I x.fParams, I x.fRegs, .d (.s 7 (x.fCode.map TTac.o))]
theorem TUnit.fzl (x : TUnit) : fzl x.o = x.r := by simp only [TUnit.o, TUnit.r, Ev.fzl, D.fz, TTac.fzs, fzs_numR]
theorem TUnit.fzlr (x : TUnit) : Ev.fzl x.r = x.r := by simp only [TUnit.r, Ev.fzl, D.fz, TTac.fzr, fzs_numR]
theorem TUnit.fzs (xs : List TUnit) : fzs (xs.map TUnit.o) = xs.map TUnit.r := fzs_map _ _ TUnit.fzl xs
theorem TUnit.fzr (xs : List TUnit) : Ev.fzs (xs.map TUnit.r) = xs.map TUnit.r := fzs_map _ _ TUnit.fzlr xs
theorem TUnit.noR (xs : List TUnit) : D.noR.noRss (xs.map TUnit.o) = true := noRss_map _ (fun x => by simp only [TUnit.o, D.noR.noRs, D.noR, Bool.and_true, Bool.true_and, TTac.noR, noR_numR]) xs
def TUnit.sz (x : TUnit) : Int := (x.fName.size : Int) + TTac.szs x.fCode
theorem TUnit.sz_nn (x : TUnit) : 0 ≤ x.sz := by
  unfold TUnit.sz; have := TTac.szs_nn x.fCode; omega
def TUnit.szl : List TUnit → Int
  | [] => 0
  | x :: xs => x.sz + TUnit.szl xs
def TUnit.szs (xs : List TUnit) : Int := xs.length + TUnit.szl xs
theorem TUnit.szl_nn : ∀ xs : List TUnit, 0 ≤ TUnit.szl xs
  | [] => by simp [TUnit.szl]
  | x :: xs => by simp only [TUnit.szl]; have := x.sz_nn; have := TUnit.szl_nn xs; omega
theorem TUnit.szs_nn (xs : List TUnit) : 0 ≤ TUnit.szs xs ∧ (xs.length : Int) ≤ TUnit.szs xs := by have := TUnit.szl_nn xs; unfold TUnit.szs; omega
theorem TUnit.sz_le : ∀ {xs : List TUnit} {x : TUnit}, x ∈ xs → x.sz ≤ TUnit.szl xs
  | y :: xs, x, h => by
    simp only [TUnit.szl]
    have h1 := y.sz_nn; have h2 := TUnit.szl_nn xs
    rcases List.mem_cons.1 h with rfl | h
    · omega
    · have := TUnit.sz_le h; omega
def TUnit.sm (x : TUnit) : Prop := x.fName.size ≤ 1048576 ∧ (x.fCode.length ≤ 1048576 ∧ ∀ y ∈ x.fCode, y.sm)
theorem TUnit.sm_of {x : TUnit} (h : x.sz ≤ 1048576) : x.sm := by
  unfold TUnit.sz at h
  unfold TUnit.sm
  have := TTac.szs_nn x.fCode
  exact ⟨by omega, ⟨by omega, fun y hy => TTac.sm_of (by have := TTac.sz_le hy; unfold TTac.szs at *; omega)⟩⟩
theorem TUnit.sms_of {xs : List TUnit} (h : TUnit.szs xs ≤ 1048576) : xs.length ≤ 1048576 ∧ ∀ y ∈ xs, y.sm := by
  have := TUnit.szl_nn xs
  unfold TUnit.szs at h
  exact ⟨by omega, fun y hy => TUnit.sm_of (by have := TUnit.sz_le hy; omega)⟩
structure TUnit.ok (x : TUnit) : Prop where
  fName : x.fName.size ≤ 140737488351232
  fParams : i64 x.fParams
  fRegs : i64 x.fRegs
  fCode : x.fCode.length ≤ 140737488351232 ∧ ∀ y ∈ x.fCode, y.ok
theorem TUnit.fit {c : List D} (h : fitL [.s, .i .i64, .i .i64, .l 80 [.i .i64, .i .i64, .i .i64, .i .i64, .i .i64, .s, .l 8 [.i .i64]]] c) : ∃ x : TUnit, c = x.r ∧ x.ok := by
  simp only [fitL] at h
  obtain ⟨_, _, rfl, h0, _, _, rfl, h1, _, _, rfl, h2, _, _, rfl, h3, rfl⟩ := h
  rw [Ev.fit] at h0; obtain ⟨a0, rfl, g0⟩ := h0
  rw [Ev.fit] at h1; obtain ⟨a1, rfl, g1⟩ := h1
  rw [Ev.fit] at h2; obtain ⟨a2, rfl, g2⟩ := h2
  rw [Ev.fit] at h3; obtain ⟨e3, rfl, b3, c3⟩ := h3; obtain ⟨a3, rfl, g3⟩ := fit_all (fun c hc => TTac.fit hc) c3; rw [List.length_map] at b3
  exact ⟨⟨a0, a1, a2, a3⟩, rfl, ⟨g0, wf64 g1, wf64 g2, ⟨(by omega : a3.length ≤ 140737488351232), g3⟩⟩⟩
def TUnit.mk_ (k : Int) (x : TUnit) : TUnit := ⟨mtxt (k), k + 1, k + 1 + 1, TTac.mks (k + 1 + 1 + 1) x.fCode⟩
def TUnit.ct (x : TUnit) : Int := 1 + 1 + 1 + TTac.cts x.fCode
theorem TUnit.ct_nn (x : TUnit) : 1 ≤ x.ct := by
  unfold TUnit.ct; have := TTac.cts_nn x.fCode; omega
def TUnit.mks : Int → List TUnit → List TUnit
  | _, [] => []
  | k, x :: xs => TUnit.mk_ k x :: TUnit.mks (k + x.ct) xs
def TUnit.cts : List TUnit → Int
  | [] => 0
  | x :: xs => x.ct + TUnit.cts xs
theorem TUnit.cts_nn : ∀ xs : List TUnit, (xs.length : Int) ≤ TUnit.cts xs
  | [] => by simp [TUnit.cts]
  | x :: xs => by simp only [TUnit.cts, List.length_cons]; have := x.ct_nn; have := TUnit.cts_nn xs; omega
theorem TUnit.mks_len : ∀ (k : Int) (xs : List TUnit), (TUnit.mks k xs).length = xs.length
  | _, [] => rfl
  | k, x :: xs => by simp [TUnit.mks, TUnit.mks_len (k + x.ct) xs]
theorem TUnit.ct_le (x : TUnit) : x.ct ≤ 64 + 64 * x.sz := by
  unfold TUnit.ct TUnit.sz; have := TTac.cts_le x.fCode; have := TTac.szs_nn x.fCode; omega
theorem TUnit.cts_le : ∀ xs : List TUnit, TUnit.cts xs ≤ 64 * TUnit.szs xs
  | [] => by simp [TUnit.cts, TUnit.szs, TUnit.szl]
  | x :: xs => by
    have h1 := x.ct_le; have h2 := TUnit.cts_le xs
    simp only [TUnit.cts, TUnit.szs, TUnit.szl, List.length_cons] at *; omega
def TUnit.mkv (k : Int) (x : TUnit) : TUnit := ⟨x.fName, x.fParams, x.fRegs, TTac.mks (k) x.fCode⟩
def TUnit.ctv (x : TUnit) : Int := TTac.cts x.fCode
theorem TUnit.ctv_le (x : TUnit) : x.ctv ≤ 64 * x.sz := by
  unfold TUnit.ctv TUnit.sz; have := TTac.cts_le x.fCode; have := TTac.szs_nn x.fCode; omega
theorem laws_toUnit_ok (x : TUnit) (hx : x.sm) : call tab laws_toUnit [x.x] = some x.xo := by
  simp only [TUnit.sm] at hx
  have t0 := laws_toTacS_ok x.fCode (by first | exact hx | exact hx.1 | exact hx.2 | exact hx.2.1 | exact hx.2.2 | exact hx.2.2.1 | exact hx.2.2.2 | exact hx.2.2.2.1)
  rw [call_of t_laws_toUnit _ rfl, c_laws_toUnit]
  simp (maxSteps := 2000000) (implicitDefEqProofs := false) (disch := (first | omega | assumption | (refine ⟨?_, ?_⟩ <;> omega) | (unfold catOk; (try simp only [ByteArray.size_append, size_lit, List.length_cons, List.length_nil]); omega) | (unfold mkOk; omega) | (unfold appOk; (try simp only [List.length_map, List.length_append, List.length_cons, List.length_nil]); omega))) only [go_sem, Nat.reduceEqDiff, Nat.reduceBEq, Nat.reduceAdd, Nat.reduceSub, Nat.reduceMul, Nat.reduceLeDiff, Nat.reduceLT, ↓reduceIte, reduceCtorEq, Int.reduceEq, Int.reduceLE, Int.reduceLT, Int.reduceToNat, Int.reduceNeg, Int.reduceSub, Int.reduceAdd, Int.reduceMul, ltT, ltF, leT, leF, neF, catT, mkT, appT, wrap_id, List.length_map, Int.toNat_natCast, TUnit.x, TUnit.xo, t0]
theorem laws_toUnitS_l0 (xs : List TUnit) (hx : xs.length ≤ 1048576 ∧ ∀ y ∈ xs, y.sm) : ∀ (B A : List TUnit), xs = A ++ B →
    loopW tab [0, 3, 4] b_laws_toUnitS_0 { env := upd (upd (upd emp 4 (some (I (A.length : Int)))) 3 (some (.ref (0, 0) []))) 0 (some (.d (.r (xs.map TUnit.r)))), heap := upd emp (0, 0) (some (.s 4 (A.map TUnit.o ++ List.replicate B.length [DS ⟨#[]⟩, DI 0, DI 0, .s 7 []]))), fr := 0, next := 1 } = some (.ext 0, { env := upd emp 3 (some (.ref (0, 0) [])), heap := upd emp (0, 0) (some (.s 4 (xs.map TUnit.o))), fr := 0, next := 1 })
  | [], A, h => by
    rw [List.append_nil] at h
    subst h
    unfold loopW
    conv => lhs; arg 1; unfold b_laws_toUnitS_0
    have hx' := hx.1
    simp (maxSteps := 2000000) (implicitDefEqProofs := false) (disch := (first | omega | assumption | (refine ⟨?_, ?_⟩ <;> omega) | (unfold catOk; (try simp only [ByteArray.size_append, size_lit, List.length_cons, List.length_nil]); omega) | (unfold mkOk; omega) | (unfold appOk; (try simp only [List.length_map, List.length_append, List.length_cons, List.length_nil]); omega))) only [go_sem, Nat.reduceEqDiff, Nat.reduceBEq, Nat.reduceAdd, Nat.reduceSub, Nat.reduceMul, Nat.reduceLeDiff, Nat.reduceLT, ↓reduceIte, reduceCtorEq, Int.reduceEq, Int.reduceLE, Int.reduceLT, Int.reduceToNat, Int.reduceNeg, Int.reduceSub, Int.reduceAdd, Int.reduceMul, ltT, ltF, leT, leF, neF, catT, mkT, appT, wrap_id, List.length_map, Int.toNat_natCast, List.replicate_zero]
  | x :: B, A, h => by
    unfold loopW
    conv => lhs; arg 1; unfold b_laws_toUnitS_0
    have hl : xs.length = A.length + (B.length + 1) := by rw [h]; simp
    have h2 : (xs.map TUnit.r)[A.length]? = some x.r := by rw [h]; simp
    have hx' := hx.1
    have hto := laws_toUnit_ok x (hx.2 x (by rw [h]; simp))
    have ih := laws_toUnitS_l0 xs hx B (A ++ [x]) (by simp [h])
    rw [show (((A ++ [x]).length : Nat) : Int) = (A.length : Int) + 1 by simp] at ih
    simp only [List.map_append, List.map_cons, List.map_nil, List.append_assoc, List.cons_append, List.nil_append, TUnit.o] at ih
    simp only [TUnit.r] at h2
    simp only [TUnit.x, TUnit.xo] at hto
    simp (maxSteps := 2000000) (implicitDefEqProofs := false) (disch := (first | omega | assumption | (refine ⟨?_, ?_⟩ <;> omega) | (unfold catOk; (try simp only [ByteArray.size_append, size_lit, List.length_cons, List.length_nil]); omega) | (unfold mkOk; omega) | (unfold appOk; (try simp only [List.length_map, List.length_append, List.length_cons, List.length_nil]); omega))) only [go_sem, Nat.reduceEqDiff, Nat.reduceBEq, Nat.reduceAdd, Nat.reduceSub, Nat.reduceMul, Nat.reduceLeDiff, Nat.reduceLT, ↓reduceIte, reduceCtorEq, Int.reduceEq, Int.reduceLE, Int.reduceLT, Int.reduceToNat, Int.reduceNeg, Int.reduceSub, Int.reduceAdd, Int.reduceMul, ltT, ltF, leT, leF, neF, catT, mkT, appT, wrap_id, List.length_map, Int.toNat_natCast, List.length_cons, List.replicate_succ, len_cat, get_mid, set_mid, h2, hto, ih]
theorem laws_toUnitS_ok (xs : List TUnit) (hx : xs.length ≤ 1048576 ∧ ∀ y ∈ xs, y.sm) : call tab laws_toUnitS [.d (.r (xs.map TUnit.r))] = some (.d (.s 4 (xs.map TUnit.o))) := by
  rw [call_of t_laws_toUnitS _ rfl, c_laws_toUnitS]
  have hl := laws_toUnitS_l0 xs hx xs [] rfl
  have hx' := hx.1
  simp only [List.map_nil, List.nil_append, List.length_nil, Int.cast_ofNat_Int] at hl
  simp (maxSteps := 2000000) (implicitDefEqProofs := false) (disch := (first | omega | assumption | (refine ⟨?_, ?_⟩ <;> omega) | (unfold catOk; (try simp only [ByteArray.size_append, size_lit, List.length_cons, List.length_nil]); omega) | (unfold mkOk; omega) | (unfold appOk; (try simp only [List.length_map, List.length_append, List.length_cons, List.length_nil]); omega))) only [go_sem, Nat.reduceEqDiff, Nat.reduceBEq, Nat.reduceAdd, Nat.reduceSub, Nat.reduceMul, Nat.reduceLeDiff, Nat.reduceLT, ↓reduceIte, reduceCtorEq, Int.reduceEq, Int.reduceLE, Int.reduceLT, Int.reduceToNat, Int.reduceNeg, Int.reduceSub, Int.reduceAdd, Int.reduceMul, ltT, ltF, leT, leF, neF, catT, mkT, appT, wrap_id, List.length_map, Int.toNat_natCast, hl]
theorem laws_eqUnit_ok (x : TUnit) (hx : x.sm) : call tab laws_eqUnit [x.x, x.x] = some (B true) := by
  simp only [TUnit.sm] at hx
  have t0 := laws_eqTacS_ok x.fCode (by first | exact hx | exact hx.1 | exact hx.2 | exact hx.2.1 | exact hx.2.2 | exact hx.2.2.1 | exact hx.2.2.2 | exact hx.2.2.2.1)
  rw [call_of t_laws_eqUnit _ rfl, c_laws_eqUnit]
  simp (maxSteps := 2000000) (implicitDefEqProofs := false) (disch := (first | omega | assumption | (refine ⟨?_, ?_⟩ <;> omega) | (unfold catOk; (try simp only [ByteArray.size_append, size_lit, List.length_cons, List.length_nil]); omega) | (unfold mkOk; omega) | (unfold appOk; (try simp only [List.length_map, List.length_append, List.length_cons, List.length_nil]); omega))) only [go_sem, Nat.reduceEqDiff, Nat.reduceBEq, Nat.reduceAdd, Nat.reduceSub, Nat.reduceMul, Nat.reduceLeDiff, Nat.reduceLT, ↓reduceIte, reduceCtorEq, Int.reduceEq, Int.reduceLE, Int.reduceLT, Int.reduceToNat, Int.reduceNeg, Int.reduceSub, Int.reduceAdd, Int.reduceMul, ltT, ltF, leT, leF, neF, catT, mkT, appT, wrap_id, List.length_map, Int.toNat_natCast, TUnit.x, t0]
theorem laws_eqUnitS_l0 (xs : List TUnit) (hx : xs.length ≤ 1048576 ∧ ∀ y ∈ xs, y.sm) : ∀ (B A : List TUnit), xs = A ++ B →
    loopW tab [0, 1, 5] b_laws_eqUnitS_0 { env := upd (upd (upd emp 5 (some (I (A.length : Int)))) 1 (some (.d (.r (xs.map TUnit.r))))) 0 (some (.d (.r (xs.map TUnit.r)))), heap := emp, fr := 0, next := 0 } = some (.ext 0, { env := emp, heap := emp, fr := 0, next := 0 })
  | [], A, h => by
    rw [List.append_nil] at h
    subst h
    unfold loopW
    conv => lhs; arg 1; unfold b_laws_eqUnitS_0
    have hx' := hx.1
    simp (maxSteps := 2000000) (implicitDefEqProofs := false) (disch := (first | omega | assumption | (refine ⟨?_, ?_⟩ <;> omega) | (unfold catOk; (try simp only [ByteArray.size_append, size_lit, List.length_cons, List.length_nil]); omega) | (unfold mkOk; omega) | (unfold appOk; (try simp only [List.length_map, List.length_append, List.length_cons, List.length_nil]); omega))) only [go_sem, Nat.reduceEqDiff, Nat.reduceBEq, Nat.reduceAdd, Nat.reduceSub, Nat.reduceMul, Nat.reduceLeDiff, Nat.reduceLT, ↓reduceIte, reduceCtorEq, Int.reduceEq, Int.reduceLE, Int.reduceLT, Int.reduceToNat, Int.reduceNeg, Int.reduceSub, Int.reduceAdd, Int.reduceMul, ltT, ltF, leT, leF, neF, catT, mkT, appT, wrap_id, List.length_map, Int.toNat_natCast]
  | x :: B, A, h => by
    unfold loopW
    conv => lhs; arg 1; unfold b_laws_eqUnitS_0
    have hl : xs.length = A.length + (B.length + 1) := by rw [h]; simp
    have h2 : (xs.map TUnit.r)[A.length]? = some x.r := by rw [h]; simp
    have hx' := hx.1
    have hto := laws_eqUnit_ok x (hx.2 x (by rw [h]; simp))
    have ih := laws_eqUnitS_l0 xs hx B (A ++ [x]) (by simp [h])
    rw [show (((A ++ [x]).length : Nat) : Int) = (A.length : Int) + 1 by simp] at ih
    simp only [TUnit.r] at h2
    simp only [TUnit.x] at hto
    simp (maxSteps := 2000000) (implicitDefEqProofs := false) (disch := (first | omega | assumption | (refine ⟨?_, ?_⟩ <;> omega) | (unfold catOk; (try simp only [ByteArray.size_append, size_lit, List.length_cons, List.length_nil]); omega) | (unfold mkOk; omega) | (unfold appOk; (try simp only [List.length_map, List.length_append, List.length_cons, List.length_nil]); omega))) only [go_sem, Nat.reduceEqDiff, Nat.reduceBEq, Nat.reduceAdd, Nat.reduceSub, Nat.reduceMul, Nat.reduceLeDiff, Nat.reduceLT, ↓reduceIte, reduceCtorEq, Int.reduceEq, Int.reduceLE, Int.reduceLT, Int.reduceToNat, Int.reduceNeg, Int.reduceSub, Int.reduceAdd, Int.reduceMul, ltT, ltF, leT, leF, neF, catT, mkT, appT, wrap_id, List.length_map, Int.toNat_natCast, h2, hto, ih]
theorem laws_eqUnitS_ok (xs : List TUnit) (hx : xs.length ≤ 1048576 ∧ ∀ y ∈ xs, y.sm) : call tab laws_eqUnitS [.d (.r (xs.map TUnit.r)), .d (.r (xs.map TUnit.r))] = some (B true) := by
  rw [call_of t_laws_eqUnitS _ rfl, c_laws_eqUnitS]
  have hl := laws_eqUnitS_l0 xs hx xs [] rfl
  have hx' := hx.1
  simp only [List.length_nil, Int.cast_ofNat_Int] at hl
  simp (maxSteps := 2000000) (implicitDefEqProofs := false) (disch := (first | omega | assumption | (refine ⟨?_, ?_⟩ <;> omega) | (unfold catOk; (try simp only [ByteArray.size_append, size_lit, List.length_cons, List.length_nil]); omega) | (unfold mkOk; omega) | (unfold appOk; (try simp only [List.length_map, List.length_append, List.length_cons, List.length_nil]); omega))) only [go_sem, Nat.reduceEqDiff, Nat.reduceBEq, Nat.reduceAdd, Nat.reduceSub, Nat.reduceMul, Nat.reduceLeDiff, Nat.reduceLT, ↓reduceIte, reduceCtorEq, Int.reduceEq, Int.reduceLE, Int.reduceLT, Int.reduceToNat, Int.reduceNeg, Int.reduceSub, Int.reduceAdd, Int.reduceMul, ltT, ltF, leT, leF, neF, catT, mkT, appT, wrap_id, List.length_map, Int.toNat_natCast, hl]
theorem laws_szUnit_ok (x : TUnit) (n : Int) (hn : 0 ≤ n ∧ n ≤ 1048576) (hx : x.ok) : call tab laws_szUnit [x.x, I n] = some (I (if n < x.sz then -1 else n - x.sz)) := by
  rw [call_of t_laws_szUnit _ rfl, c_laws_szUnit]
  have hsz : x.sz = (x.fName.size : Int) + TTac.szs x.fCode := rfl
  rw [hsz]
  have b0 := hx.fName
  have b1 := hx.fCode.1
  have z1 := TTac.szs_nn x.fCode
  by_cases c0 : n - (x.fName.size : Int) < 0
  · rw [if_pos (show n < (x.fName.size : Int) + TTac.szs x.fCode by omega)]
    simp (maxSteps := 2000000) (implicitDefEqProofs := false) (disch := (first | omega | assumption | (refine ⟨?_, ?_⟩ <;> omega) | (unfold catOk; (try simp only [ByteArray.size_append, size_lit, List.length_cons, List.length_nil]); omega) | (unfold mkOk; omega) | (unfold appOk; (try simp only [List.length_map, List.length_append, List.length_cons, List.length_nil]); omega))) only [go_sem, Nat.reduceEqDiff, Nat.reduceBEq, Nat.reduceAdd, Nat.reduceSub, Nat.reduceMul, Nat.reduceLeDiff, Nat.reduceLT, ↓reduceIte, reduceCtorEq, Int.reduceEq, Int.reduceLE, Int.reduceLT, Int.reduceToNat, Int.reduceNeg, Int.reduceSub, Int.reduceAdd, Int.reduceMul, ltT, ltF, leT, leF, neF, catT, mkT, appT, wrap_id, List.length_map, Int.toNat_natCast, TUnit.x, c0]
  · have f1 := laws_szTacS_ok x.fCode (n - (x.fName.size : Int)) (by omega) hx.fCode
    by_cases c1 : n - (x.fName.size : Int) - TTac.szs x.fCode < 0
    · rw [if_pos (by omega)] at f1
      rw [if_pos (show n < (x.fName.size : Int) + TTac.szs x.fCode by omega)]
      simp (maxSteps := 2000000) (implicitDefEqProofs := false) (disch := (first | omega | assumption | (refine ⟨?_, ?_⟩ <;> omega) | (unfold catOk; (try simp only [ByteArray.size_append, size_lit, List.length_cons, List.length_nil]); omega) | (unfold mkOk; omega) | (unfold appOk; (try simp only [List.length_map, List.length_append, List.length_cons, List.length_nil]); omega))) only [go_sem, Nat.reduceEqDiff, Nat.reduceBEq, Nat.reduceAdd, Nat.reduceSub, Nat.reduceMul, Nat.reduceLeDiff, Nat.reduceLT, ↓reduceIte, reduceCtorEq, Int.reduceEq, Int.reduceLE, Int.reduceLT, Int.reduceToNat, Int.reduceNeg, Int.reduceSub, Int.reduceAdd, Int.reduceMul, ltT, ltF, leT, leF, neF, catT, mkT, appT, wrap_id, List.length_map, Int.toNat_natCast, TUnit.x, c0, c1, f1]
    · rw [if_neg (by omega)] at f1
      rw [if_neg (show ¬ n < (x.fName.size : Int) + TTac.szs x.fCode by omega)]
      rw [show n - ((x.fName.size : Int) + TTac.szs x.fCode) = n - (x.fName.size : Int) - TTac.szs x.fCode by omega]
      simp (maxSteps := 2000000) (implicitDefEqProofs := false) (disch := (first | omega | assumption | (refine ⟨?_, ?_⟩ <;> omega) | (unfold catOk; (try simp only [ByteArray.size_append, size_lit, List.length_cons, List.length_nil]); omega) | (unfold mkOk; omega) | (unfold appOk; (try simp only [List.length_map, List.length_append, List.length_cons, List.length_nil]); omega))) only [go_sem, Nat.reduceEqDiff, Nat.reduceBEq, Nat.reduceAdd, Nat.reduceSub, Nat.reduceMul, Nat.reduceLeDiff, Nat.reduceLT, ↓reduceIte, reduceCtorEq, Int.reduceEq, Int.reduceLE, Int.reduceLT, Int.reduceToNat, Int.reduceNeg, Int.reduceSub, Int.reduceAdd, Int.reduceMul, ltT, ltF, leT, leF, neF, catT, mkT, appT, wrap_id, List.length_map, Int.toNat_natCast, TUnit.x, c0, f1, c1]
theorem laws_szUnitS_l0 (xs : List TUnit) (hx : xs.length ≤ 1048576) (hok : ∀ y ∈ xs, y.ok) : ∀ (B A : List TUnit) (n : Int), xs = A ++ B → 0 ≤ n ∧ n ≤ 1048576 →
    loopW tab [0, 1, 5] b_laws_szUnitS_0 { env := upd (upd (upd emp 5 (some (I (A.length : Int)))) 1 (some (I n))) 0 (some (.d (.r (xs.map TUnit.r)))), heap := emp, fr := 0, next := 0 } = (if n < TUnit.szl B then some (.ret, { env := upd emp 4 (some (I (-1))), heap := emp, fr := 0, next := 0 }) else some (.ext 0, { env := upd emp 1 (some (I (n - TUnit.szl B))), heap := emp, fr := 0, next := 0 }))
  | [], A, n, h, hn => by
    rw [List.append_nil] at h
    subst h
    unfold loopW
    conv => lhs; arg 1; unfold b_laws_szUnitS_0
    rw [if_neg (show ¬ n < TUnit.szl [] by simp only [TUnit.szl]; omega)]
    simp (maxSteps := 2000000) (implicitDefEqProofs := false) (disch := (first | omega | assumption | (refine ⟨?_, ?_⟩ <;> omega) | (unfold catOk; (try simp only [ByteArray.size_append, size_lit, List.length_cons, List.length_nil]); omega) | (unfold mkOk; omega) | (unfold appOk; (try simp only [List.length_map, List.length_append, List.length_cons, List.length_nil]); omega))) only [go_sem, Nat.reduceEqDiff, Nat.reduceBEq, Nat.reduceAdd, Nat.reduceSub, Nat.reduceMul, Nat.reduceLeDiff, Nat.reduceLT, ↓reduceIte, reduceCtorEq, Int.reduceEq, Int.reduceLE, Int.reduceLT, Int.reduceToNat, Int.reduceNeg, Int.reduceSub, Int.reduceAdd, Int.reduceMul, ltT, ltF, leT, leF, neF, catT, mkT, appT, wrap_id, List.length_map, Int.toNat_natCast, TUnit.szl, Int.sub_zero]
  | x :: B, A, n, h, hn => by
    unfold loopW
    conv => lhs; arg 1; unfold b_laws_szUnitS_0
    have hl : xs.length = A.length + (B.length + 1) := by rw [h]; simp
    have h2 : (xs.map TUnit.r)[A.length]? = some x.r := by rw [h]; simp
    have hto := laws_szUnit_ok x n hn (hok x (by rw [h]; simp))
    have hnn := TUnit.szl_nn B
    have hxn := x.sz_nn
    simp only [TUnit.r] at h2
    simp only [TUnit.x] at hto
    rw [show TUnit.szl (x :: B) = x.sz + TUnit.szl B from rfl]
    by_cases hc : n < x.sz
    · rw [if_pos hc] at hto
      rw [if_pos (show n < x.sz + TUnit.szl B by omega)]
      simp (maxSteps := 2000000) (implicitDefEqProofs := false) (disch := (first | omega | assumption | (refine ⟨?_, ?_⟩ <;> omega) | (unfold catOk; (try simp only [ByteArray.size_append, size_lit, List.length_cons, List.length_nil]); omega) | (unfold mkOk; omega) | (unfold appOk; (try simp only [List.length_map, List.length_append, List.length_cons, List.length_nil]); omega))) only [go_sem, Nat.reduceEqDiff, Nat.reduceBEq, Nat.reduceAdd, Nat.reduceSub, Nat.reduceMul, Nat.reduceLeDiff, Nat.reduceLT, ↓reduceIte, reduceCtorEq, Int.reduceEq, Int.reduceLE, Int.reduceLT, Int.reduceToNat, Int.reduceNeg, Int.reduceSub, Int.reduceAdd, Int.reduceMul, ltT, ltF, leT, leF, neF, catT, mkT, appT, wrap_id, List.length_map, Int.toNat_natCast, h2, hto]
    · rw [if_neg hc] at hto
      have ih := laws_szUnitS_l0 xs hx hok B (A ++ [x]) (n - x.sz) (by simp [h]) (by omega)
      rw [show (((A ++ [x]).length : Nat) : Int) = (A.length : Int) + 1 by simp] at ih
      by_cases hd : n - x.sz < TUnit.szl B
      · rw [if_pos hd] at ih
        rw [if_pos (show n < x.sz + TUnit.szl B by omega)]
        simp (maxSteps := 2000000) (implicitDefEqProofs := false) (disch := (first | omega | assumption | (refine ⟨?_, ?_⟩ <;> omega) | (unfold catOk; (try simp only [ByteArray.size_append, size_lit, List.length_cons, List.length_nil]); omega) | (unfold mkOk; omega) | (unfold appOk; (try simp only [List.length_map, List.length_append, List.length_cons, List.length_nil]); omega))) only [go_sem, Nat.reduceEqDiff, Nat.reduceBEq, Nat.reduceAdd, Nat.reduceSub, Nat.reduceMul, Nat.reduceLeDiff, Nat.reduceLT, ↓reduceIte, reduceCtorEq, Int.reduceEq, Int.reduceLE, Int.reduceLT, Int.reduceToNat, Int.reduceNeg, Int.reduceSub, Int.reduceAdd, Int.reduceMul, ltT, ltF, leT, leF, neF, catT, mkT, appT, wrap_id, List.length_map, Int.toNat_natCast, h2, hto, ih]
      · rw [if_neg hd, show n - x.sz - TUnit.szl B = n - (x.sz + TUnit.szl B) by omega] at ih
        rw [if_neg (show ¬ n < x.sz + TUnit.szl B by omega)]
        simp (maxSteps := 2000000) (implicitDefEqProofs := false) (disch := (first | omega | assumption | (refine ⟨?_, ?_⟩ <;> omega) | (unfold catOk; (try simp only [ByteArray.size_append, size_lit, List.length_cons, List.length_nil]); omega) | (unfold mkOk; omega) | (unfold appOk; (try simp only [List.length_map, List.length_append, List.length_cons, List.length_nil]); omega))) only [go_sem, Nat.reduceEqDiff, Nat.reduceBEq, Nat.reduceAdd, Nat.reduceSub, Nat.reduceMul, Nat.reduceLeDiff, Nat.reduceLT, ↓reduceIte, reduceCtorEq, Int.reduceEq, Int.reduceLE, Int.reduceLT, Int.reduceToNat, Int.reduceNeg, Int.reduceSub, Int.reduceAdd, Int.reduceMul, ltT, ltF, leT, leF, neF, catT, mkT, appT, wrap_id, List.length_map, Int.toNat_natCast, h2, hto, ih]
theorem laws_szUnitS_ok (xs : List TUnit) (n : Int) (hn : 0 ≤ n ∧ n ≤ 1048576) (hx : xs.length ≤ 140737488351232 ∧ ∀ y ∈ xs, y.ok) : call tab laws_szUnitS [.d (.r (xs.map TUnit.r)), I n] = some (I (if n < TUnit.szs xs then -1 else n - TUnit.szs xs)) := by
  rw [call_of t_laws_szUnitS _ rfl, c_laws_szUnitS]
  have hx1 := hx.1
  have hnn := TUnit.szl_nn xs
  rw [show TUnit.szs xs = xs.length + TUnit.szl xs from rfl]
  by_cases h : n - (xs.length : Int) < 0
  · rw [if_pos (show n < xs.length + TUnit.szl xs by omega)]
    simp (maxSteps := 2000000) (implicitDefEqProofs := false) (disch := (first | omega | assumption | (refine ⟨?_, ?_⟩ <;> omega) | (unfold catOk; (try simp only [ByteArray.size_append, size_lit, List.length_cons, List.length_nil]); omega) | (unfold mkOk; omega) | (unfold appOk; (try simp only [List.length_map, List.length_append, List.length_cons, List.length_nil]); omega))) only [go_sem, Nat.reduceEqDiff, Nat.reduceBEq, Nat.reduceAdd, Nat.reduceSub, Nat.reduceMul, Nat.reduceLeDiff, Nat.reduceLT, ↓reduceIte, reduceCtorEq, Int.reduceEq, Int.reduceLE, Int.reduceLT, Int.reduceToNat, Int.reduceNeg, Int.reduceSub, Int.reduceAdd, Int.reduceMul, ltT, ltF, leT, leF, neF, catT, mkT, appT, wrap_id, List.length_map, Int.toNat_natCast, h]
  · have hl := laws_szUnitS_l0 xs (by omega) hx.2 xs [] (n - xs.length) rfl (by omega)
    simp only [List.length_nil, Int.cast_ofNat_Int] at hl
    by_cases hd : n - (xs.length : Int) < TUnit.szl xs
    · rw [if_pos hd] at hl
      rw [if_pos (show n < xs.length + TUnit.szl xs by omega)]
      simp (maxSteps := 2000000) (implicitDefEqProofs := false) (disch := (first | omega | assumption | (refine ⟨?_, ?_⟩ <;> omega) | (unfold catOk; (try simp only [ByteArray.size_append, size_lit, List.length_cons, List.length_nil]); omega) | (unfold mkOk; omega) | (unfold appOk; (try simp only [List.length_map, List.length_append, List.length_cons, List.length_nil]); omega))) only [go_sem, Nat.reduceEqDiff, Nat.reduceBEq, Nat.reduceAdd, Nat.reduceSub, Nat.reduceMul, Nat.reduceLeDiff, Nat.reduceLT, ↓reduceIte, reduceCtorEq, Int.reduceEq, Int.reduceLE, Int.reduceLT, Int.reduceToNat, Int.reduceNeg, Int.reduceSub, Int.reduceAdd, Int.reduceMul, ltT, ltF, leT, leF, neF, catT, mkT, appT, wrap_id, List.length_map, Int.toNat_natCast, h, hl]
    · rw [if_neg hd, show n - (xs.length : Int) - TUnit.szl xs = n - (xs.length + TUnit.szl xs) by omega] at hl
      rw [if_neg (show ¬ n < xs.length + TUnit.szl xs by omega)]
      simp (maxSteps := 2000000) (implicitDefEqProofs := false) (disch := (first | omega | assumption | (refine ⟨?_, ?_⟩ <;> omega) | (unfold catOk; (try simp only [ByteArray.size_append, size_lit, List.length_cons, List.length_nil]); omega) | (unfold mkOk; omega) | (unfold appOk; (try simp only [List.length_map, List.length_append, List.length_cons, List.length_nil]); omega))) only [go_sem, Nat.reduceEqDiff, Nat.reduceBEq, Nat.reduceAdd, Nat.reduceSub, Nat.reduceMul, Nat.reduceLeDiff, Nat.reduceLT, ↓reduceIte, reduceCtorEq, Int.reduceEq, Int.reduceLE, Int.reduceLT, Int.reduceToNat, Int.reduceNeg, Int.reduceSub, Int.reduceAdd, Int.reduceMul, ltT, ltF, leT, leF, neF, catT, mkT, appT, wrap_id, List.length_map, Int.toNat_natCast, h, hl]
end Go.Ev.G
