/- The laws' own helpers on the type Core: written by genq.py. -/
import Derived.Test.YtcoigakalblkgaaEvQInt
set_option linter.all false
namespace Go.Ev.G
set_option maxRecDepth 8000
set_option maxHeartbeats 4000000
structure TCore where
  fPc : Int
  fFp : Int
  fRegs : List Int
def TCore.r (x : TCore) : List D := [DI x.fPc, DI x.fFp, .r (numR x.fRegs)]
def TCore.o (x : TCore) : List D := [DI x.fPc, DI x.fFp, .s 1 (numR x.fRegs)]
abbrev TCore.x (x : TCore) : X := .agg [I x.fPc, I x.fFp, .d (.r (numR x.fRegs))]
abbrev TCore.xo (x : TCore) : X := .agg [I x.fPc, I x.fFp, .d (.s 1 (numR x.fRegs))]
theorem TCore.fzl (x : TCore) : fzl x.o = x.r := by simp only [TCore.o, TCore.r, Ev.fzl, D.fz, fzs_numR]
theorem TCore.fzs (xs : List TCore) : fzs (xs.map TCore.o) = xs.map TCore.r := fzs_map _ _ TCore.fzl xs
theorem TCore.noR (xs : List TCore) : D.noR.noRss (xs.map TCore.o) = true := noRss_map _ (fun x => by simp only [TCore.o, D.noR.noRs, D.noR, Bool.and_true, Bool.true_and, noR_numR]) xs
def TCore.sz (x : TCore) : Int := (x.fRegs.length : Int)
theorem TCore.sz_nn (x : TCore) : 0 ≤ x.sz := by
  unfold TCore.sz; omega
def TCore.szl : List TCore → Int
  | [] => 0
  | x :: xs => x.sz + TCore.szl xs
def TCore.szs (xs : List TCore) : Int := xs.length + TCore.szl xs
theorem TCore.szl_nn : ∀ xs : List TCore, 0 ≤ TCore.szl xs
  | [] => by simp [TCore.szl]
  | x :: xs => by simp only [TCore.szl]; have := x.sz_nn; have := TCore.szl_nn xs; omega
theorem TCore.szs_nn (xs : List TCore) : 0 ≤ TCore.szs xs ∧ (xs.length : Int) ≤ TCore.szs xs := by have := TCore.szl_nn xs; unfold TCore.szs; omega
theorem TCore.sz_le : ∀ {xs : List TCore} {x : TCore}, x ∈ xs → x.sz ≤ TCore.szl xs
  | y :: xs, x, h => by
    simp only [TCore.szl]
    have h1 := y.sz_nn; have h2 := TCore.szl_nn xs
    rcases List.mem_cons.1 h with rfl | h
    · omega
    · have := TCore.sz_le h; omega
def TCore.sm (x : TCore) : Prop := x.fRegs.length ≤ 1048576
theorem TCore.sm_of {x : TCore} (h : x.sz ≤ 1048576) : x.sm := by
  unfold TCore.sz at h
  unfold TCore.sm
  exact by omega
structure TCore.ok (x : TCore) : Prop where
  fPc : i64 x.fPc
  fFp : i64 x.fFp
  fRegs : x.fRegs.length ≤ 140737488351232 ∧ ∀ n ∈ x.fRegs, i64 n
theorem TCore.fit {c : List D} (h : fitL [.i .i64, .i .i64, .l 8 [.i .i64]] c) : ∃ x : TCore, c = x.r ∧ x.ok := by
  simp only [fitL] at h
  obtain ⟨_, _, rfl, h0, _, _, rfl, h1, _, _, rfl, h2, rfl⟩ := h
  rw [Ev.fit] at h0; obtain ⟨a0, rfl, g0⟩ := h0
  rw [Ev.fit] at h1; obtain ⟨a1, rfl, g1⟩ := h1
  rw [Ev.fit] at h2; obtain ⟨e2, rfl, b2, c2⟩ := h2; obtain ⟨a2, rfl, g2⟩ := fit_all (enc := fun n => [DI n]) (ok := i64) (fun c hc => fit_int hc) c2; rw [List.length_map] at b2
  exact ⟨⟨a0, a1, a2⟩, rfl, ⟨wf64 g0, wf64 g1, ⟨(by omega : a2.length ≤ 140737488351232), g2⟩⟩⟩
def TCore.mk_ (k : Int) (x : TCore) : TCore := ⟨k, k + 1, mkInt (k + 1 + 1) x.fRegs⟩
def TCore.ct (x : TCore) : Int := 1 + 1 + (x.fRegs.length : Int)
theorem TCore.ct_nn (x : TCore) : 1 ≤ x.ct := by
  unfold TCore.ct; omega
def TCore.mks : Int → List TCore → List TCore
  | _, [] => []
  | k, x :: xs => TCore.mk_ k x :: TCore.mks (k + x.ct) xs
def TCore.cts : List TCore → Int
  | [] => 0
  | x :: xs => x.ct + TCore.cts xs
theorem TCore.cts_nn : ∀ xs : List TCore, (xs.length : Int) ≤ TCore.cts xs
  | [] => by simp [TCore.cts]
  | x :: xs => by simp only [TCore.cts, List.length_cons]; have := x.ct_nn; have := TCore.cts_nn xs; omega
theorem TCore.mks_len : ∀ (k : Int) (xs : List TCore), (TCore.mks k xs).length = xs.length
  | _, [] => rfl
  | k, x :: xs => by simp [TCore.mks, TCore.mks_len (k + x.ct) xs]
theorem TCore.ct_le (x : TCore) : x.ct ≤ 64 + 64 * x.sz := by
  unfold TCore.ct TCore.sz; omega
theorem TCore.cts_le : ∀ xs : List TCore, TCore.cts xs ≤ 64 * TCore.szs xs
  | [] => by simp [TCore.cts, TCore.szs, TCore.szl]
  | x :: xs => by
    have h1 := x.ct_le; have h2 := TCore.cts_le xs
    simp only [TCore.cts, TCore.szs, TCore.szl, List.length_cons] at *; omega
def TCore.mkv (k : Int) (x : TCore) : TCore := ⟨x.fPc, x.fFp, mkInt (k) x.fRegs⟩
def TCore.ctv (x : TCore) : Int := (x.fRegs.length : Int)
theorem TCore.ctv_le (x : TCore) : x.ctv ≤ 64 * x.sz := by
  unfold TCore.ctv TCore.sz; omega
theorem laws_eqCore_ok (x : TCore) (hx : x.sm) : call tab laws_eqCore [x.x, x.x] = some (B true) := by
  simp only [TCore.sm] at hx
  have t0 := laws_eqIntS_ok x.fRegs (by omega)
  rw [call_of t_laws_eqCore _ rfl, c_laws_eqCore]
  simp (maxSteps := 2000000) (implicitDefEqProofs := false) (disch := (first | omega | assumption | (refine ⟨?_, ?_⟩ <;> omega) | (unfold catOk; (try simp only [ByteArray.size_append, size_lit, List.length_cons, List.length_nil]); omega) | (unfold mkOk; omega) | (unfold appOk; (try simp only [List.length_map, List.length_append, List.length_cons, List.length_nil]); omega))) only [go_sem, Nat.reduceEqDiff, Nat.reduceBEq, Nat.reduceAdd, Nat.reduceSub, Nat.reduceMul, Nat.reduceLeDiff, Nat.reduceLT, ↓reduceIte, reduceCtorEq, Int.reduceEq, Int.reduceLE, Int.reduceLT, Int.reduceToNat, Int.reduceNeg, Int.reduceSub, Int.reduceAdd, Int.reduceMul, ltT, ltF, leT, leF, neF, catT, mkT, appT, wrap_id, List.length_map, Int.toNat_natCast, TCore.x, t0]
theorem laws_eqCoreS_l0 (xs : List TCore) (hx : xs.length ≤ 1048576 ∧ ∀ y ∈ xs, y.sm) : ∀ (B A : List TCore), xs = A ++ B →
    loopW tab [0, 1, 5] b_laws_eqCoreS_0 { env := upd (upd (upd emp 5 (some (I (A.length : Int)))) 1 (some (.d (.r (xs.map TCore.r))))) 0 (some (.d (.r (xs.map TCore.r)))), heap := emp, fr := 0, next := 0 } = some (.ext 0, { env := emp, heap := emp, fr := 0, next := 0 })
  | [], A, h => by
    rw [List.append_nil] at h
    subst h
    unfold loopW
    conv => lhs; arg 1; unfold b_laws_eqCoreS_0
    have hx' := hx.1
    simp (maxSteps := 2000000) (implicitDefEqProofs := false) (disch := (first | omega | assumption | (refine ⟨?_, ?_⟩ <;> omega) | (unfold catOk; (try simp only [ByteArray.size_append, size_lit, List.length_cons, List.length_nil]); omega) | (unfold mkOk; omega) | (unfold appOk; (try simp only [List.length_map, List.length_append, List.length_cons, List.length_nil]); omega))) only [go_sem, Nat.reduceEqDiff, Nat.reduceBEq, Nat.reduceAdd, Nat.reduceSub, Nat.reduceMul, Nat.reduceLeDiff, Nat.reduceLT, ↓reduceIte, reduceCtorEq, Int.reduceEq, Int.reduceLE, Int.reduceLT, Int.reduceToNat, Int.reduceNeg, Int.reduceSub, Int.reduceAdd, Int.reduceMul, ltT, ltF, leT, leF, neF, catT, mkT, appT, wrap_id, List.length_map, Int.toNat_natCast]
  | x :: B, A, h => by
    unfold loopW
    conv => lhs; arg 1; unfold b_laws_eqCoreS_0
    have hl : xs.length = A.length + (B.length + 1) := by rw [h]; simp
    have h2 : (xs.map TCore.r)[A.length]? = some x.r := by rw [h]; simp
    have hx' := hx.1
    have hto := laws_eqCore_ok x (hx.2 x (by rw [h]; simp))
    have ih := laws_eqCoreS_l0 xs hx B (A ++ [x]) (by simp [h])
    rw [show (((A ++ [x]).length : Nat) : Int) = (A.length : Int) + 1 by simp] at ih
    simp only [TCore.r] at h2
    simp only [TCore.x] at hto
    simp (maxSteps := 2000000) (implicitDefEqProofs := false) (disch := (first | omega | assumption | (refine ⟨?_, ?_⟩ <;> omega) | (unfold catOk; (try simp only [ByteArray.size_append, size_lit, List.length_cons, List.length_nil]); omega) | (unfold mkOk; omega) | (unfold appOk; (try simp only [List.length_map, List.length_append, List.length_cons, List.length_nil]); omega))) only [go_sem, Nat.reduceEqDiff, Nat.reduceBEq, Nat.reduceAdd, Nat.reduceSub, Nat.reduceMul, Nat.reduceLeDiff, Nat.reduceLT, ↓reduceIte, reduceCtorEq, Int.reduceEq, Int.reduceLE, Int.reduceLT, Int.reduceToNat, Int.reduceNeg, Int.reduceSub, Int.reduceAdd, Int.reduceMul, ltT, ltF, leT, leF, neF, catT, mkT, appT, wrap_id, List.length_map, Int.toNat_natCast, h2, hto, ih]
theorem laws_eqCoreS_ok (xs : List TCore) (hx : xs.length ≤ 1048576 ∧ ∀ y ∈ xs, y.sm) : call tab laws_eqCoreS [.d (.r (xs.map TCore.r)), .d (.r (xs.map TCore.r))] = some (B true) := by
  rw [call_of t_laws_eqCoreS _ rfl, c_laws_eqCoreS]
  have hl := laws_eqCoreS_l0 xs hx xs [] rfl
  have hx' := hx.1
  simp only [List.length_nil, Int.cast_ofNat_Int] at hl
  simp (maxSteps := 2000000) (implicitDefEqProofs := false) (disch := (first | omega | assumption | (refine ⟨?_, ?_⟩ <;> omega) | (unfold catOk; (try simp only [ByteArray.size_append, size_lit, List.length_cons, List.length_nil]); omega) | (unfold mkOk; omega) | (unfold appOk; (try simp only [List.length_map, List.length_append, List.length_cons, List.length_nil]); omega))) only [go_sem, Nat.reduceEqDiff, Nat.reduceBEq, Nat.reduceAdd, Nat.reduceSub, Nat.reduceMul, Nat.reduceLeDiff, Nat.reduceLT, ↓reduceIte, reduceCtorEq, Int.reduceEq, Int.reduceLE, Int.reduceLT, Int.reduceToNat, Int.reduceNeg, Int.reduceSub, Int.reduceAdd, Int.reduceMul, ltT, ltF, leT, leF, neF, catT, mkT, appT, wrap_id, List.length_map, Int.toNat_natCast, hl]
theorem laws_markCoreS_l0 : ∀ (B A : List TCore) (k : Int), (A.length : Int) + TCore.cts B ≤ 1099511627776 → 0 ≤ k ∧ k + TCore.cts B ≤ 4611686018427387904 →
    loopW tab [0, 1, 5] b_laws_markCoreS_0 { env := upd (upd (upd emp 5 (some (I (A.length : Int)))) 1 (some (I k))) 0 (some (.ref (0, 0) [])), heap := upd emp (0, 0) (some (.s 3 (A.map TCore.o ++ B.map TCore.o))), fr := 1, next := 0 } = some (.ext 0, { env := upd emp 1 (some (I (k + TCore.cts B))), heap := upd emp (0, 0) (some (.s 3 (A.map TCore.o ++ (TCore.mks k B).map TCore.o))), fr := 1, next := 0 })
  | [], A, k, h, hk => by
    unfold loopW
    conv => lhs; arg 1; unfold b_laws_markCoreS_0
    simp only [TCore.cts] at h hk
    simp (maxSteps := 2000000) (implicitDefEqProofs := false) (disch := (first | omega | assumption | (refine ⟨?_, ?_⟩ <;> omega) | (unfold catOk; (try simp only [ByteArray.size_append, size_lit, List.length_cons, List.length_nil]); omega) | (unfold mkOk; omega) | (unfold appOk; (try simp only [List.length_map, List.length_append, List.length_cons, List.length_nil]); omega))) only [go_sem, Nat.reduceEqDiff, Nat.reduceBEq, Nat.reduceAdd, Nat.reduceSub, Nat.reduceMul, Nat.reduceLeDiff, Nat.reduceLT, ↓reduceIte, reduceCtorEq, Int.reduceEq, Int.reduceLE, Int.reduceLT, Int.reduceToNat, Int.reduceNeg, Int.reduceSub, Int.reduceAdd, Int.reduceMul, ltT, ltF, leT, leF, neF, catT, mkT, appT, wrap_id, List.length_map, Int.toNat_natCast, TCore.cts, TCore.mks, List.map_nil, List.append_nil, Int.add_zero]
  | x :: B, A, k, h, hk => by
    unfold loopW
    conv => lhs; arg 1; unfold b_laws_markCoreS_0
    simp only [TCore.cts] at h hk
    have h1 := x.ct_nn
    have h0 := TCore.cts_nn B
    have ih := laws_markCoreS_l0 B (A ++ [x.mk_ k]) (k + x.ct) (by simp; omega) (by omega)
    rw [show (((A ++ [x.mk_ k]).length : Nat) : Int) = (A.length : Int) + 1 by simp, show k + x.ct + TCore.cts B = k + TCore.cts (x :: B) by simp only [TCore.cts]; omega] at ih
    simp only [List.map_append, List.map_cons, List.map_nil, List.append_assoc, List.cons_append, List.nil_append] at ih
    simp only [TCore.mks, List.map_cons]
    have hm : TCore.o (x.mk_ k) = [DI (k), DI (k + 1), .s 1 (numR (mkInt (k + 1 + 1) x.fRegs))] := rfl
    have hkx : k + x.ct = k + 1 + 1 + (x.fRegs.length : Int) := by unfold TCore.ct; omega
    rw [hm, hkx] at ih
    rw [hm, hkx]
    unfold TCore.ct at hk h0
    have f0 := laws_markIntS_ok x.fRegs (k + 1 + 1) (by omega) (by omega)
    simp (maxSteps := 2000000) (implicitDefEqProofs := false) (disch := (first | omega | assumption | (refine ⟨?_, ?_⟩ <;> omega) | (unfold catOk; (try simp only [ByteArray.size_append, size_lit, List.length_cons, List.length_nil]); omega) | (unfold mkOk; omega) | (unfold appOk; (try simp only [List.length_map, List.length_append, List.length_cons, List.length_nil]); omega))) only [go_sem, Nat.reduceEqDiff, Nat.reduceBEq, Nat.reduceAdd, Nat.reduceSub, Nat.reduceMul, Nat.reduceLeDiff, Nat.reduceLT, ↓reduceIte, reduceCtorEq, Int.reduceEq, Int.reduceLE, Int.reduceLT, Int.reduceToNat, Int.reduceNeg, Int.reduceSub, Int.reduceAdd, Int.reduceMul, ltT, ltF, leT, leF, neF, catT, mkT, appT, wrap_id, List.length_map, Int.toNat_natCast, TCore.o, List.length_cons, len_cat, get_mid, set_mid, f0, ih]
theorem laws_markCoreS_ok (xs : List TCore) (k : Int) (h : TCore.cts xs ≤ 1099511627776) (hk : 0 ≤ k ∧ k + TCore.cts xs ≤ 4611686018427387904) : evCW tab laws_markCoreS [.ref (0, 0) [], I k] (upd emp (0, 0) (some (.s 3 (xs.map TCore.o)))) 1 = some (I (k + TCore.cts xs), upd emp (0, 0) (some (.s 3 ((TCore.mks k xs).map TCore.o)))) := by
  rw [evCW_of t_laws_markCoreS _ _ _ rfl, c_laws_markCoreS]
  have hl := laws_markCoreS_l0 xs [] k (by simpa using h) hk
  simp only [List.map_nil, List.nil_append, List.length_nil, Int.cast_ofNat_Int] at hl
  simp (maxSteps := 2000000) (implicitDefEqProofs := false) (disch := (first | omega | assumption | (refine ⟨?_, ?_⟩ <;> omega) | (unfold catOk; (try simp only [ByteArray.size_append, size_lit, List.length_cons, List.length_nil]); omega) | (unfold mkOk; omega) | (unfold appOk; (try simp only [List.length_map, List.length_append, List.length_cons, List.length_nil]); omega))) only [go_sem, Nat.reduceEqDiff, Nat.reduceBEq, Nat.reduceAdd, Nat.reduceSub, Nat.reduceMul, Nat.reduceLeDiff, Nat.reduceLT, ↓reduceIte, reduceCtorEq, Int.reduceEq, Int.reduceLE, Int.reduceLT, Int.reduceToNat, Int.reduceNeg, Int.reduceSub, Int.reduceAdd, Int.reduceMul, ltT, ltF, leT, leF, neF, catT, mkT, appT, wrap_id, List.length_map, Int.toNat_natCast, hl]
theorem laws_heldCoreS_l0 (full : List (List D)) : ∀ (B A : List TCore) (k : Int), full = A.map TCore.r ++ (TCore.mks k B).map TCore.r → (A.length : Int) + TCore.cts B ≤ 1099511627776 → 0 ≤ k ∧ k + TCore.cts B ≤ 4611686018427387904 →
    loopW tab [0, 1, 5] b_laws_heldCoreS_0 { env := upd (upd (upd emp 5 (some (I (A.length : Int)))) 1 (some (I k))) 0 (some (.d (.r full))), heap := emp, fr := 0, next := 0 } = some (.ext 0, { env := upd emp 1 (some (I (k + TCore.cts B))), heap := emp, fr := 0, next := 0 })
  | [], A, k, hf, h, hk => by
    subst hf
    unfold loopW
    conv => lhs; arg 1; unfold b_laws_heldCoreS_0
    simp only [TCore.cts] at h hk
    simp (maxSteps := 2000000) (implicitDefEqProofs := false) (disch := (first | omega | assumption | (refine ⟨?_, ?_⟩ <;> omega) | (unfold catOk; (try simp only [ByteArray.size_append, size_lit, List.length_cons, List.length_nil]); omega) | (unfold mkOk; omega) | (unfold appOk; (try simp only [List.length_map, List.length_append, List.length_cons, List.length_nil]); omega))) only [go_sem, Nat.reduceEqDiff, Nat.reduceBEq, Nat.reduceAdd, Nat.reduceSub, Nat.reduceMul, Nat.reduceLeDiff, Nat.reduceLT, ↓reduceIte, reduceCtorEq, Int.reduceEq, Int.reduceLE, Int.reduceLT, Int.reduceToNat, Int.reduceNeg, Int.reduceSub, Int.reduceAdd, Int.reduceMul, ltT, ltF, leT, leF, neF, catT, mkT, appT, wrap_id, List.length_map, Int.toNat_natCast, TCore.cts, TCore.mks, List.map_nil, List.append_nil, Int.add_zero]
  | x :: B, A, k, hf, h, hk => by
    simp only [TCore.cts] at h hk
    have h1 := x.ct_nn
    have h0 := TCore.cts_nn B
    have ih := laws_heldCoreS_l0 full B (A ++ [x.mk_ k]) (k + x.ct) (by rw [hf]; simp [TCore.mks]) (by simp; omega) (by omega)
    unfold loopW
    conv => lhs; arg 1; unfold b_laws_heldCoreS_0
    have hlen := TCore.mks_len k (x :: B)
    have h2 : full[A.length]? = some (TCore.r (x.mk_ k)) := by rw [hf]; simp [TCore.mks]
    have h3 : full.length = A.length + (B.length + 1) := by rw [hf, List.length_append, List.length_map, List.length_map, hlen, List.length_cons]
    clear hf
    rw [show (((A ++ [x.mk_ k]).length : Nat) : Int) = (A.length : Int) + 1 by simp, show k + x.ct + TCore.cts B = k + TCore.cts (x :: B) by simp only [TCore.cts]; omega] at ih
    have hm : TCore.r (x.mk_ k) = [DI (k), DI (k + 1), .r (numR (mkInt (k + 1 + 1) x.fRegs))] := rfl
    have hkx : k + x.ct = k + 1 + 1 + (x.fRegs.length : Int) := by unfold TCore.ct; omega
    rw [hkx] at ih
    rw [hm] at h2
    unfold TCore.ct at hk h0
    have f0 := laws_heldIntS_ok x.fRegs (k + 1 + 1) (by omega) (by omega)
    simp (maxSteps := 2000000) (implicitDefEqProofs := false) (disch := (first | omega | assumption | (refine ⟨?_, ?_⟩ <;> omega) | (unfold catOk; (try simp only [ByteArray.size_append, size_lit, List.length_cons, List.length_nil]); omega) | (unfold mkOk; omega) | (unfold appOk; (try simp only [List.length_map, List.length_append, List.length_cons, List.length_nil]); omega))) only [go_sem, Nat.reduceEqDiff, Nat.reduceBEq, Nat.reduceAdd, Nat.reduceSub, Nat.reduceMul, Nat.reduceLeDiff, Nat.reduceLT, ↓reduceIte, reduceCtorEq, Int.reduceEq, Int.reduceLE, Int.reduceLT, Int.reduceToNat, Int.reduceNeg, Int.reduceSub, Int.reduceAdd, Int.reduceMul, ltT, ltF, leT, leF, neF, catT, mkT, appT, wrap_id, List.length_map, Int.toNat_natCast, h2, h3, f0, ih]
theorem laws_heldCoreS_ok (xs : List TCore) (k : Int) (h : TCore.cts xs ≤ 1099511627776) (hk : 0 ≤ k ∧ k + TCore.cts xs ≤ 4611686018427387904) : call tab laws_heldCoreS [.d (.r ((TCore.mks k xs).map TCore.r)), I k] = some (I (k + TCore.cts xs)) := by
  rw [call_of t_laws_heldCoreS _ rfl, c_laws_heldCoreS]
  have hl := laws_heldCoreS_l0 _ xs [] k rfl (by simpa using h) hk
  simp only [List.map_nil, List.nil_append, List.length_nil, Int.cast_ofNat_Int] at hl
  simp (maxSteps := 2000000) (implicitDefEqProofs := false) (disch := (first | omega | assumption | (refine ⟨?_, ?_⟩ <;> omega) | (unfold catOk; (try simp only [ByteArray.size_append, size_lit, List.length_cons, List.length_nil]); omega) | (unfold mkOk; omega) | (unfold appOk; (try simp only [List.length_map, List.length_append, List.length_cons, List.length_nil]); omega))) only [go_sem, Nat.reduceEqDiff, Nat.reduceBEq, Nat.reduceAdd, Nat.reduceSub, Nat.reduceMul, Nat.reduceLeDiff, Nat.reduceLT, ↓reduceIte, reduceCtorEq, Int.reduceEq, Int.reduceLE, Int.reduceLT, Int.reduceToNat, Int.reduceNeg, Int.reduceSub, Int.reduceAdd, Int.reduceMul, ltT, ltF, leT, leF, neF, catT, mkT, appT, wrap_id, List.length_map, Int.toNat_natCast, hl]
end Go.Ev.G
