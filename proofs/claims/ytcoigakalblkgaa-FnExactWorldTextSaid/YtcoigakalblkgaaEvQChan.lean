/- The laws' own helpers on the type Chan: written by genq.py. -/
import Derived.Test.YtcoigakalblkgaaEvQInt
import Derived.Test.YtcoigakalblkgaaEvQWait
set_option linter.all false
namespace Go.Ev.G
set_option maxRecDepth 8000
set_option maxHeartbeats 4000000
structure TChan where
  fCap : Int
  fClosed : Bool
  fBuf : List Int
  fTakes : List TWait
  fGives : List TWait
def TChan.r (x : TChan) : List D := [DI x.fCap, DB x.fClosed, .r (numR x.fBuf), .r (x.fTakes.map TWait.r), .r (x.fGives.map TWait.r)]
def TChan.o (x : TChan) : List D := [DI x.fCap, DB x.fClosed, .s 1 (numR x.fBuf), .s 4 (x.fTakes.map TWait.o), .s 4 (x.fGives.map TWait.o)]
abbrev TChan.x (x : TChan) : X := .agg [I x.fCap, B x.fClosed, .d (.r (numR x.fBuf)), .d (.r (x.fTakes.map TWait.r)), .d (.r (x.fGives.map TWait.r))]
abbrev TChan.xo (x : TChan) : X := .agg [I x.fCap, B x.fClosed, .d (.s 1 (numR x.fBuf)), .d (.s 4 (x.fTakes.map TWait.o)), .d (.s 4 (x.fGives.map TWait.o))]
theorem TChan.fzl (x : TChan) : fzl x.o = x.r := by simp only [TChan.o, TChan.r, Ev.fzl, D.fz, TWait.fzs, fzs_numR]
theorem TChan.fzlr (x : TChan) : Ev.fzl x.r = x.r := by simp only [TChan.r, Ev.fzl, D.fz, TWait.fzr, fzs_numR]
theorem TChan.fzs (xs : List TChan) : fzs (xs.map TChan.o) = xs.map TChan.r := fzs_map _ _ TChan.fzl xs
theorem TChan.fzr (xs : List TChan) : Ev.fzs (xs.map TChan.r) = xs.map TChan.r := fzs_map _ _ TChan.fzlr xs
theorem TChan.noR (xs : List TChan) : D.noR.noRss (xs.map TChan.o) = true := noRss_map _ (fun x => by simp only [TChan.o, D.noR.noRs, D.noR, Bool.and_true, Bool.true_and, TWait.noR, noR_numR]) xs
def TChan.sz (x : TChan) : Int := (x.fBuf.length : Int) + (x.fTakes.length : Int) + (x.fGives.length : Int)
theorem TChan.sz_nn (x : TChan) : 0 ≤ x.sz := by
  unfold TChan.sz; omega
def TChan.szl : List TChan → Int
  | [] => 0
  | x :: xs => x.sz + TChan.szl xs
def TChan.szs (xs : List TChan) : Int := xs.length + TChan.szl xs
theorem TChan.szl_nn : ∀ xs : List TChan, 0 ≤ TChan.szl xs
  | [] => by simp [TChan.szl]
  | x :: xs => by simp only [TChan.szl]; have := x.sz_nn; have := TChan.szl_nn xs; omega
theorem TChan.szs_nn (xs : List TChan) : 0 ≤ TChan.szs xs ∧ (xs.length : Int) ≤ TChan.szs xs := by have := TChan.szl_nn xs; unfold TChan.szs; omega
theorem TChan.sz_le : ∀ {xs : List TChan} {x : TChan}, x ∈ xs → x.sz ≤ TChan.szl xs
  | y :: xs, x, h => by
    simp only [TChan.szl]
    have h1 := y.sz_nn; have h2 := TChan.szl_nn xs
    rcases List.mem_cons.1 h with rfl | h
    · omega
    · have := TChan.sz_le h; omega
def TChan.sm (x : TChan) : Prop := x.fBuf.length ≤ 1048576 ∧ x.fTakes.length ≤ 1048576 ∧ x.fGives.length ≤ 1048576
theorem TChan.sm_of {x : TChan} (h : x.sz ≤ 1048576) : x.sm := by
  unfold TChan.sz at h
  unfold TChan.sm
  exact ⟨by omega, by omega, by omega⟩
theorem TChan.sms_of {xs : List TChan} (h : TChan.szs xs ≤ 1048576) : xs.length ≤ 1048576 ∧ ∀ y ∈ xs, y.sm := by
  have := TChan.szl_nn xs
  unfold TChan.szs at h
  exact ⟨by omega, fun y hy => TChan.sm_of (by have := TChan.sz_le hy; omega)⟩
structure TChan.ok (x : TChan) : Prop where
  fCap : i64 x.fCap
  fClosed : True
  fBuf : x.fBuf.length ≤ 140737488351232 ∧ ∀ n ∈ x.fBuf, i64 n
  fTakes : x.fTakes.length ≤ 140737488351232 ∧ ∀ y ∈ x.fTakes, y.ok
  fGives : x.fGives.length ≤ 140737488351232 ∧ ∀ y ∈ x.fGives, y.ok
theorem TChan.fit {c : List D} (h : fitL [.i .i64, .b, .l 8 [.i .i64], .l 32 [.i .i64, .i .i64, .i .i64, .i .i64], .l 32 [.i .i64, .i .i64, .i .i64, .i .i64]] c) : ∃ x : TChan, c = x.r ∧ x.ok := by
  simp only [fitL] at h
  obtain ⟨_, _, rfl, h0, _, _, rfl, h1, _, _, rfl, h2, _, _, rfl, h3, _, _, rfl, h4, rfl⟩ := h
  rw [Ev.fit] at h0; obtain ⟨a0, rfl, g0⟩ := h0
  rw [Ev.fit] at h1; obtain ⟨a1, rfl⟩ := h1
  rw [Ev.fit] at h2; obtain ⟨e2, rfl, b2, c2⟩ := h2; obtain ⟨a2, rfl, g2⟩ := fit_all (enc := fun n => [DI n]) (ok := i64) (fun c hc => fit_int hc) c2; rw [List.length_map] at b2
  rw [Ev.fit] at h3; obtain ⟨e3, rfl, b3, c3⟩ := h3; obtain ⟨a3, rfl, g3⟩ := fit_all (fun c hc => TWait.fit hc) c3; rw [List.length_map] at b3
  rw [Ev.fit] at h4; obtain ⟨e4, rfl, b4, c4⟩ := h4; obtain ⟨a4, rfl, g4⟩ := fit_all (fun c hc => TWait.fit hc) c4; rw [List.length_map] at b4
  exact ⟨⟨a0, a1, a2, a3, a4⟩, rfl, ⟨wf64 g0, trivial, ⟨(by omega : a2.length ≤ 140737488351232), g2⟩, ⟨(by omega : a3.length ≤ 140737488351232), g3⟩, ⟨(by omega : a4.length ≤ 140737488351232), g4⟩⟩⟩
def TChan.mk_ (k : Int) (x : TChan) : TChan := ⟨k, decide ((k + 1).tmod 3 = 0), mkInt (k + 1 + 1) x.fBuf, TWait.mks (k + 1 + 1 + (x.fBuf.length : Int)) x.fTakes, TWait.mks (k + 1 + 1 + (x.fBuf.length : Int) + TWait.cts x.fTakes) x.fGives⟩
def TChan.ct (x : TChan) : Int := 1 + 1 + (x.fBuf.length : Int) + TWait.cts x.fTakes + TWait.cts x.fGives
theorem TChan.ct_nn (x : TChan) : 1 ≤ x.ct := by
  unfold TChan.ct; have := TWait.cts_nn x.fTakes; have := TWait.cts_nn x.fGives; omega
def TChan.mks : Int → List TChan → List TChan
  | _, [] => []
  | k, x :: xs => TChan.mk_ k x :: TChan.mks (k + x.ct) xs
def TChan.cts : List TChan → Int
  | [] => 0
  | x :: xs => x.ct + TChan.cts xs
theorem TChan.cts_nn : ∀ xs : List TChan, (xs.length : Int) ≤ TChan.cts xs
  | [] => by simp [TChan.cts]
  | x :: xs => by simp only [TChan.cts, List.length_cons]; have := x.ct_nn; have := TChan.cts_nn xs; omega
theorem TChan.mks_len : ∀ (k : Int) (xs : List TChan), (TChan.mks k xs).length = xs.length
  | _, [] => rfl
  | k, x :: xs => by simp [TChan.mks, TChan.mks_len (k + x.ct) xs]
theorem TChan.ct_le (x : TChan) : x.ct ≤ 64 + 64 * x.sz := by
  unfold TChan.ct TChan.sz; have := TWait.cts_le x.fTakes; have := TWait.szs_nn x.fTakes; have := TWait.cts_le x.fGives; have := TWait.szs_nn x.fGives; simp only [TWait.szs, TWait.szs] at *; omega
theorem TChan.cts_le : ∀ xs : List TChan, TChan.cts xs ≤ 64 * TChan.szs xs
  | [] => by simp [TChan.cts, TChan.szs, TChan.szl]
  | x :: xs => by
    have h1 := x.ct_le; have h2 := TChan.cts_le xs
    simp only [TChan.cts, TChan.szs, TChan.szl, List.length_cons] at *; omega
def TChan.mkv (k : Int) (x : TChan) : TChan := ⟨x.fCap, x.fClosed, mkInt (k) x.fBuf, TWait.mks (k + (x.fBuf.length : Int)) x.fTakes, TWait.mks (k + (x.fBuf.length : Int) + TWait.cts x.fTakes) x.fGives⟩
def TChan.ctv (x : TChan) : Int := (x.fBuf.length : Int) + TWait.cts x.fTakes + TWait.cts x.fGives
theorem TChan.ctv_le (x : TChan) : x.ctv ≤ 64 * x.sz := by
  unfold TChan.ctv TChan.sz; have := TWait.cts_le x.fTakes; have := TWait.szs_nn x.fTakes; have := TWait.cts_le x.fGives; have := TWait.szs_nn x.fGives; simp only [TWait.szs, TWait.szs] at *; omega
theorem laws_toChan_ok (x : TChan) (hx : x.sm) : call tab laws_toChan [x.x] = some x.xo := by
  simp only [TChan.sm] at hx
  have t0 := laws_toIntS_ok x.fBuf (by omega)
  have t1 := laws_toWaitS_ok x.fTakes (by omega)
  have t2 := laws_toWaitS_ok x.fGives (by omega)
  rw [call_of t_laws_toChan _ rfl, c_laws_toChan]
  simp (maxSteps := 2000000) (implicitDefEqProofs := false) (disch := (first | omega | assumption | (refine ⟨?_, ?_⟩ <;> omega) | (unfold catOk; (try simp only [ByteArray.size_append, size_lit, List.length_cons, List.length_nil]); omega) | (unfold mkOk; omega) | (unfold appOk; (try simp only [List.length_map, List.length_append, List.length_cons, List.length_nil]); omega))) only [go_sem, Nat.reduceEqDiff, Nat.reduceBEq, Nat.reduceAdd, Nat.reduceSub, Nat.reduceMul, Nat.reduceLeDiff, Nat.reduceLT, ↓reduceIte, reduceCtorEq, Int.reduceEq, Int.reduceLE, Int.reduceLT, Int.reduceToNat, Int.reduceNeg, Int.reduceSub, Int.reduceAdd, Int.reduceMul, ltT, ltF, leT, leF, neF, catT, mkT, appT, wrap_id, List.length_map, Int.toNat_natCast, TChan.x, TChan.xo, t0, t1, t2]
theorem laws_toChanS_l0 (xs : List TChan) (hx : xs.length ≤ 1048576 ∧ ∀ y ∈ xs, y.sm) : ∀ (B A : List TChan), xs = A ++ B →
    loopW tab [0, 3, 4] b_laws_toChanS_0 { env := upd (upd (upd emp 4 (some (I (A.length : Int)))) 3 (some (.ref (0, 0) []))) 0 (some (.d (.r (xs.map TChan.r)))), heap := upd emp (0, 0) (some (.s 5 (A.map TChan.o ++ List.replicate B.length [DI 0, DB false, .s 1 [], .s 4 [], .s 4 []]))), fr := 0, next := 1 } = some (.ext 0, { env := upd emp 3 (some (.ref (0, 0) [])), heap := upd emp (0, 0) (some (.s 5 (xs.map TChan.o))), fr := 0, next := 1 })
  | [], A, h => by
    rw [List.append_nil] at h
    subst h
    unfold loopW
    conv => lhs; arg 1; unfold b_laws_toChanS_0
    have hx' := hx.1
    simp (maxSteps := 2000000) (implicitDefEqProofs := false) (disch := (first | omega | assumption | (refine ⟨?_, ?_⟩ <;> omega) | (unfold catOk; (try simp only [ByteArray.size_append, size_lit, List.length_cons, List.length_nil]); omega) | (unfold mkOk; omega) | (unfold appOk; (try simp only [List.length_map, List.length_append, List.length_cons, List.length_nil]); omega))) only [go_sem, Nat.reduceEqDiff, Nat.reduceBEq, Nat.reduceAdd, Nat.reduceSub, Nat.reduceMul, Nat.reduceLeDiff, Nat.reduceLT, ↓reduceIte, reduceCtorEq, Int.reduceEq, Int.reduceLE, Int.reduceLT, Int.reduceToNat, Int.reduceNeg, Int.reduceSub, Int.reduceAdd, Int.reduceMul, ltT, ltF, leT, leF, neF, catT, mkT, appT, wrap_id, List.length_map, Int.toNat_natCast, List.replicate_zero]
  | x :: B, A, h => by
    unfold loopW
    conv => lhs; arg 1; unfold b_laws_toChanS_0
    have hl : xs.length = A.length + (B.length + 1) := by rw [h]; simp
    have h2 : (xs.map TChan.r)[A.length]? = some x.r := by rw [h]; simp
    have hx' := hx.1
    have hto := laws_toChan_ok x (hx.2 x (by rw [h]; simp))
    have ih := laws_toChanS_l0 xs hx B (A ++ [x]) (by simp [h])
    rw [show (((A ++ [x]).length : Nat) : Int) = (A.length : Int) + 1 by simp] at ih
    simp only [List.map_append, List.map_cons, List.map_nil, List.append_assoc, List.cons_append, List.nil_append, TChan.o] at ih
    simp only [TChan.r] at h2
    simp only [TChan.x, TChan.xo] at hto
    simp (maxSteps := 2000000) (implicitDefEqProofs := false) (disch := (first | omega | assumption | (refine ⟨?_, ?_⟩ <;> omega) | (unfold catOk; (try simp only [ByteArray.size_append, size_lit, List.length_cons, List.length_nil]); omega) | (unfold mkOk; omega) | (unfold appOk; (try simp only [List.length_map, List.length_append, List.length_cons, List.length_nil]); omega))) only [go_sem, Nat.reduceEqDiff, Nat.reduceBEq, Nat.reduceAdd, Nat.reduceSub, Nat.reduceMul, Nat.reduceLeDiff, Nat.reduceLT, ↓reduceIte, reduceCtorEq, Int.reduceEq, Int.reduceLE, Int.reduceLT, Int.reduceToNat, Int.reduceNeg, Int.reduceSub, Int.reduceAdd, Int.reduceMul, ltT, ltF, leT, leF, neF, catT, mkT, appT, wrap_id, List.length_map, Int.toNat_natCast, List.length_cons, List.replicate_succ, len_cat, get_mid, set_mid, h2, hto, ih]
theorem laws_toChanS_ok (xs : List TChan) (hx : xs.length ≤ 1048576 ∧ ∀ y ∈ xs, y.sm) : call tab laws_toChanS [.d (.r (xs.map TChan.r))] = some (.d (.s 5 (xs.map TChan.o))) := by
  rw [call_of t_laws_toChanS _ rfl, c_laws_toChanS]
  have hl := laws_toChanS_l0 xs hx xs [] rfl
  have hx' := hx.1
  simp only [List.map_nil, List.nil_append, List.length_nil, Int.cast_ofNat_Int] at hl
  simp (maxSteps := 2000000) (implicitDefEqProofs := false) (disch := (first | omega | assumption | (refine ⟨?_, ?_⟩ <;> omega) | (unfold catOk; (try simp only [ByteArray.size_append, size_lit, List.length_cons, List.length_nil]); omega) | (unfold mkOk; omega) | (unfold appOk; (try simp only [List.length_map, List.length_append, List.length_cons, List.length_nil]); omega))) only [go_sem, Nat.reduceEqDiff, Nat.reduceBEq, Nat.reduceAdd, Nat.reduceSub, Nat.reduceMul, Nat.reduceLeDiff, Nat.reduceLT, ↓reduceIte, reduceCtorEq, Int.reduceEq, Int.reduceLE, Int.reduceLT, Int.reduceToNat, Int.reduceNeg, Int.reduceSub, Int.reduceAdd, Int.reduceMul, ltT, ltF, leT, leF, neF, catT, mkT, appT, wrap_id, List.length_map, Int.toNat_natCast, hl]
theorem laws_eqChan_ok (x : TChan) (hx : x.sm) : call tab laws_eqChan [x.x, x.x] = some (B true) := by
  simp only [TChan.sm] at hx
  have t0 := laws_eqIntS_ok x.fBuf (by omega)
  have t1 := laws_eqWaitS_ok x.fTakes (by omega)
  have t2 := laws_eqWaitS_ok x.fGives (by omega)
  rw [call_of t_laws_eqChan _ rfl, c_laws_eqChan]
  simp (maxSteps := 2000000) (implicitDefEqProofs := false) (disch := (first | omega | assumption | (refine ⟨?_, ?_⟩ <;> omega) | (unfold catOk; (try simp only [ByteArray.size_append, size_lit, List.length_cons, List.length_nil]); omega) | (unfold mkOk; omega) | (unfold appOk; (try simp only [List.length_map, List.length_append, List.length_cons, List.length_nil]); omega))) only [go_sem, Nat.reduceEqDiff, Nat.reduceBEq, Nat.reduceAdd, Nat.reduceSub, Nat.reduceMul, Nat.reduceLeDiff, Nat.reduceLT, ↓reduceIte, reduceCtorEq, Int.reduceEq, Int.reduceLE, Int.reduceLT, Int.reduceToNat, Int.reduceNeg, Int.reduceSub, Int.reduceAdd, Int.reduceMul, ltT, ltF, leT, leF, neF, catT, mkT, appT, wrap_id, List.length_map, Int.toNat_natCast, TChan.x, t0, t1, t2]
theorem laws_eqChanS_l0 (xs : List TChan) (hx : xs.length ≤ 1048576 ∧ ∀ y ∈ xs, y.sm) : ∀ (B A : List TChan), xs = A ++ B →
    loopW tab [0, 1, 5] b_laws_eqChanS_0 { env := upd (upd (upd emp 5 (some (I (A.length : Int)))) 1 (some (.d (.r (xs.map TChan.r))))) 0 (some (.d (.r (xs.map TChan.r)))), heap := emp, fr := 0, next := 0 } = some (.ext 0, { env := emp, heap := emp, fr := 0, next := 0 })
  | [], A, h => by
    rw [List.append_nil] at h
    subst h
    unfold loopW
    conv => lhs; arg 1; unfold b_laws_eqChanS_0
    have hx' := hx.1
    simp (maxSteps := 2000000) (implicitDefEqProofs := false) (disch := (first | omega | assumption | (refine ⟨?_, ?_⟩ <;> omega) | (unfold catOk; (try simp only [ByteArray.size_append, size_lit, List.length_cons, List.length_nil]); omega) | (unfold mkOk; omega) | (unfold appOk; (try simp only [List.length_map, List.length_append, List.length_cons, List.length_nil]); omega))) only [go_sem, Nat.reduceEqDiff, Nat.reduceBEq, Nat.reduceAdd, Nat.reduceSub, Nat.reduceMul, Nat.reduceLeDiff, Nat.reduceLT, ↓reduceIte, reduceCtorEq, Int.reduceEq, Int.reduceLE, Int.reduceLT, Int.reduceToNat, Int.reduceNeg, Int.reduceSub, Int.reduceAdd, Int.reduceMul, ltT, ltF, leT, leF, neF, catT, mkT, appT, wrap_id, List.length_map, Int.toNat_natCast]
  | x :: B, A, h => by
    unfold loopW
    conv => lhs; arg 1; unfold b_laws_eqChanS_0
    have hl : xs.length = A.length + (B.length + 1) := by rw [h]; simp
    have h2 : (xs.map TChan.r)[A.length]? = some x.r := by rw [h]; simp
    have hx' := hx.1
    have hto := laws_eqChan_ok x (hx.2 x (by rw [h]; simp))
    have ih := laws_eqChanS_l0 xs hx B (A ++ [x]) (by simp [h])
    rw [show (((A ++ [x]).length : Nat) : Int) = (A.length : Int) + 1 by simp] at ih
    simp only [TChan.r] at h2
    simp only [TChan.x] at hto
    simp (maxSteps := 2000000) (implicitDefEqProofs := false) (disch := (first | omega | assumption | (refine ⟨?_, ?_⟩ <;> omega) | (unfold catOk; (try simp only [ByteArray.size_append, size_lit, List.length_cons, List.length_nil]); omega) | (unfold mkOk; omega) | (unfold appOk; (try simp only [List.length_map, List.length_append, List.length_cons, List.length_nil]); omega))) only [go_sem, Nat.reduceEqDiff, Nat.reduceBEq, Nat.reduceAdd, Nat.reduceSub, Nat.reduceMul, Nat.reduceLeDiff, Nat.reduceLT, ↓reduceIte, reduceCtorEq, Int.reduceEq, Int.reduceLE, Int.reduceLT, Int.reduceToNat, Int.reduceNeg, Int.reduceSub, Int.reduceAdd, Int.reduceMul, ltT, ltF, leT, leF, neF, catT, mkT, appT, wrap_id, List.length_map, Int.toNat_natCast, h2, hto, ih]
theorem laws_eqChanS_ok (xs : List TChan) (hx : xs.length ≤ 1048576 ∧ ∀ y ∈ xs, y.sm) : call tab laws_eqChanS [.d (.r (xs.map TChan.r)), .d (.r (xs.map TChan.r))] = some (B true) := by
  rw [call_of t_laws_eqChanS _ rfl, c_laws_eqChanS]
  have hl := laws_eqChanS_l0 xs hx xs [] rfl
  have hx' := hx.1
  simp only [List.length_nil, Int.cast_ofNat_Int] at hl
  simp (maxSteps := 2000000) (implicitDefEqProofs := false) (disch := (first | omega | assumption | (refine ⟨?_, ?_⟩ <;> omega) | (unfold catOk; (try simp only [ByteArray.size_append, size_lit, List.length_cons, List.length_nil]); omega) | (unfold mkOk; omega) | (unfold appOk; (try simp only [List.length_map, List.length_append, List.length_cons, List.length_nil]); omega))) only [go_sem, Nat.reduceEqDiff, Nat.reduceBEq, Nat.reduceAdd, Nat.reduceSub, Nat.reduceMul, Nat.reduceLeDiff, Nat.reduceLT, ↓reduceIte, reduceCtorEq, Int.reduceEq, Int.reduceLE, Int.reduceLT, Int.reduceToNat, Int.reduceNeg, Int.reduceSub, Int.reduceAdd, Int.reduceMul, ltT, ltF, leT, leF, neF, catT, mkT, appT, wrap_id, List.length_map, Int.toNat_natCast, hl]
theorem laws_szChan_ok (x : TChan) (n : Int) (hn : 0 ≤ n ∧ n ≤ 1048576) (hx : x.ok) : call tab laws_szChan [x.x, I n] = some (I (if n < x.sz then -1 else n - x.sz)) := by
  rw [call_of t_laws_szChan _ rfl, c_laws_szChan]
  have hsz : x.sz = (x.fBuf.length : Int) + (x.fTakes.length : Int) + (x.fGives.length : Int) := rfl
  rw [hsz]
  have b0 := hx.fBuf.1
  have b1 := hx.fTakes.1
  have b2 := hx.fGives.1
  have f0 := laws_szIntS_ok x.fBuf (n) (by omega) (by omega)
  by_cases c0 : n - (x.fBuf.length : Int) < 0
  · rw [if_pos (by omega)] at f0
    rw [if_pos (show n < (x.fBuf.length : Int) + (x.fTakes.length : Int) + (x.fGives.length : Int) by omega)]
    simp (maxSteps := 2000000) (implicitDefEqProofs := false) (disch := (first | omega | assumption | (refine ⟨?_, ?_⟩ <;> omega) | (unfold catOk; (try simp only [ByteArray.size_append, size_lit, List.length_cons, List.length_nil]); omega) | (unfold mkOk; omega) | (unfold appOk; (try simp only [List.length_map, List.length_append, List.length_cons, List.length_nil]); omega))) only [go_sem, Nat.reduceEqDiff, Nat.reduceBEq, Nat.reduceAdd, Nat.reduceSub, Nat.reduceMul, Nat.reduceLeDiff, Nat.reduceLT, ↓reduceIte, reduceCtorEq, Int.reduceEq, Int.reduceLE, Int.reduceLT, Int.reduceToNat, Int.reduceNeg, Int.reduceSub, Int.reduceAdd, Int.reduceMul, ltT, ltF, leT, leF, neF, catT, mkT, appT, wrap_id, List.length_map, Int.toNat_natCast, TChan.x, c0, f0]
  · rw [if_neg (by omega)] at f0
    have f1 := laws_szWaitS_ok x.fTakes (n - (x.fBuf.length : Int)) (by omega) (by omega)
    by_cases c1 : n - (x.fBuf.length : Int) - (x.fTakes.length : Int) < 0
    · rw [if_pos (by omega)] at f1
      rw [if_pos (show n < (x.fBuf.length : Int) + (x.fTakes.length : Int) + (x.fGives.length : Int) by omega)]
      simp (maxSteps := 2000000) (implicitDefEqProofs := false) (disch := (first | omega | assumption | (refine ⟨?_, ?_⟩ <;> omega) | (unfold catOk; (try simp only [ByteArray.size_append, size_lit, List.length_cons, List.length_nil]); omega) | (unfold mkOk; omega) | (unfold appOk; (try simp only [List.length_map, List.length_append, List.length_cons, List.length_nil]); omega))) only [go_sem, Nat.reduceEqDiff, Nat.reduceBEq, Nat.reduceAdd, Nat.reduceSub, Nat.reduceMul, Nat.reduceLeDiff, Nat.reduceLT, ↓reduceIte, reduceCtorEq, Int.reduceEq, Int.reduceLE, Int.reduceLT, Int.reduceToNat, Int.reduceNeg, Int.reduceSub, Int.reduceAdd, Int.reduceMul, ltT, ltF, leT, leF, neF, catT, mkT, appT, wrap_id, List.length_map, Int.toNat_natCast, TChan.x, f0, c0, c1, f1]
    · rw [if_neg (by omega)] at f1
      have f2 := laws_szWaitS_ok x.fGives (n - (x.fBuf.length : Int) - (x.fTakes.length : Int)) (by omega) (by omega)
      by_cases c2 : n - (x.fBuf.length : Int) - (x.fTakes.length : Int) - (x.fGives.length : Int) < 0
      · rw [if_pos (by omega)] at f2
        rw [if_pos (show n < (x.fBuf.length : Int) + (x.fTakes.length : Int) + (x.fGives.length : Int) by omega)]
        simp (maxSteps := 2000000) (implicitDefEqProofs := false) (disch := (first | omega | assumption | (refine ⟨?_, ?_⟩ <;> omega) | (unfold catOk; (try simp only [ByteArray.size_append, size_lit, List.length_cons, List.length_nil]); omega) | (unfold mkOk; omega) | (unfold appOk; (try simp only [List.length_map, List.length_append, List.length_cons, List.length_nil]); omega))) only [go_sem, Nat.reduceEqDiff, Nat.reduceBEq, Nat.reduceAdd, Nat.reduceSub, Nat.reduceMul, Nat.reduceLeDiff, Nat.reduceLT, ↓reduceIte, reduceCtorEq, Int.reduceEq, Int.reduceLE, Int.reduceLT, Int.reduceToNat, Int.reduceNeg, Int.reduceSub, Int.reduceAdd, Int.reduceMul, ltT, ltF, leT, leF, neF, catT, mkT, appT, wrap_id, List.length_map, Int.toNat_natCast, TChan.x, f0, c0, f1, c1, c2, f2]
      · rw [if_neg (by omega)] at f2
        rw [if_neg (show ¬ n < (x.fBuf.length : Int) + (x.fTakes.length : Int) + (x.fGives.length : Int) by omega)]
        rw [show n - ((x.fBuf.length : Int) + (x.fTakes.length : Int) + (x.fGives.length : Int)) = n - (x.fBuf.length : Int) - (x.fTakes.length : Int) - (x.fGives.length : Int) by omega]
        simp (maxSteps := 2000000) (implicitDefEqProofs := false) (disch := (first | omega | assumption | (refine ⟨?_, ?_⟩ <;> omega) | (unfold catOk; (try simp only [ByteArray.size_append, size_lit, List.length_cons, List.length_nil]); omega) | (unfold mkOk; omega) | (unfold appOk; (try simp only [List.length_map, List.length_append, List.length_cons, List.length_nil]); omega))) only [go_sem, Nat.reduceEqDiff, Nat.reduceBEq, Nat.reduceAdd, Nat.reduceSub, Nat.reduceMul, Nat.reduceLeDiff, Nat.reduceLT, ↓reduceIte, reduceCtorEq, Int.reduceEq, Int.reduceLE, Int.reduceLT, Int.reduceToNat, Int.reduceNeg, Int.reduceSub, Int.reduceAdd, Int.reduceMul, ltT, ltF, leT, leF, neF, catT, mkT, appT, wrap_id, List.length_map, Int.toNat_natCast, TChan.x, f0, c0, f1, c1, f2, c2]
theorem laws_szChanS_l0 (xs : List TChan) (hx : xs.length ≤ 1048576) (hok : ∀ y ∈ xs, y.ok) : ∀ (B A : List TChan) (n : Int), xs = A ++ B → 0 ≤ n ∧ n ≤ 1048576 →
    loopW tab [0, 1, 5] b_laws_szChanS_0 { env := upd (upd (upd emp 5 (some (I (A.length : Int)))) 1 (some (I n))) 0 (some (.d (.r (xs.map TChan.r)))), heap := emp, fr := 0, next := 0 } = (if n < TChan.szl B then some (.ret, { env := upd emp 4 (some (I (-1))), heap := emp, fr := 0, next := 0 }) else some (.ext 0, { env := upd emp 1 (some (I (n - TChan.szl B))), heap := emp, fr := 0, next := 0 }))
  | [], A, n, h, hn => by
    rw [List.append_nil] at h
    subst h
    unfold loopW
    conv => lhs; arg 1; unfold b_laws_szChanS_0
    rw [if_neg (show ¬ n < TChan.szl [] by simp only [TChan.szl]; omega)]
    simp (maxSteps := 2000000) (implicitDefEqProofs := false) (disch := (first | omega | assumption | (refine ⟨?_, ?_⟩ <;> omega) | (unfold catOk; (try simp only [ByteArray.size_append, size_lit, List.length_cons, List.length_nil]); omega) | (unfold mkOk; omega) | (unfold appOk; (try simp only [List.length_map, List.length_append, List.length_cons, List.length_nil]); omega))) only [go_sem, Nat.reduceEqDiff, Nat.reduceBEq, Nat.reduceAdd, Nat.reduceSub, Nat.reduceMul, Nat.reduceLeDiff, Nat.reduceLT, ↓reduceIte, reduceCtorEq, Int.reduceEq, Int.reduceLE, Int.reduceLT, Int.reduceToNat, Int.reduceNeg, Int.reduceSub, Int.reduceAdd, Int.reduceMul, ltT, ltF, leT, leF, neF, catT, mkT, appT, wrap_id, List.length_map, Int.toNat_natCast, TChan.szl, Int.sub_zero]
  | x :: B, A, n, h, hn => by
    unfold loopW
    conv => lhs; arg 1; unfold b_laws_szChanS_0
    have hl : xs.length = A.length + (B.length + 1) := by rw [h]; simp
    have h2 : (xs.map TChan.r)[A.length]? = some x.r := by rw [h]; simp
    have hto := laws_szChan_ok x n hn (hok x (by rw [h]; simp))
    have hnn := TChan.szl_nn B
    have hxn := x.sz_nn
    simp only [TChan.r] at h2
    simp only [TChan.x] at hto
    rw [show TChan.szl (x :: B) = x.sz + TChan.szl B from rfl]
    by_cases hc : n < x.sz
    · rw [if_pos hc] at hto
      rw [if_pos (show n < x.sz + TChan.szl B by omega)]
      simp (maxSteps := 2000000) (implicitDefEqProofs := false) (disch := (first | omega | assumption | (refine ⟨?_, ?_⟩ <;> omega) | (unfold catOk; (try simp only [ByteArray.size_append, size_lit, List.length_cons, List.length_nil]); omega) | (unfold mkOk; omega) | (unfold appOk; (try simp only [List.length_map, List.length_append, List.length_cons, List.length_nil]); omega))) only [go_sem, Nat.reduceEqDiff, Nat.reduceBEq, Nat.reduceAdd, Nat.reduceSub, Nat.reduceMul, Nat.reduceLeDiff, Nat.reduceLT, ↓reduceIte, reduceCtorEq, Int.reduceEq, Int.reduceLE, Int.reduceLT, Int.reduceToNat, Int.reduceNeg, Int.reduceSub, Int.reduceAdd, Int.reduceMul, ltT, ltF, leT, leF, neF, catT, mkT, appT, wrap_id, List.length_map, Int.toNat_natCast, h2, hto]
    · rw [if_neg hc] at hto
      have ih := laws_szChanS_l0 xs hx hok B (A ++ [x]) (n - x.sz) (by simp [h]) (by omega)
      rw [show (((A ++ [x]).length : Nat) : Int) = (A.length : Int) + 1 by simp] at ih
      by_cases hd : n - x.sz < TChan.szl B
      · rw [if_pos hd] at ih
        rw [if_pos (show n < x.sz + TChan.szl B by omega)]
        simp (maxSteps := 2000000) (implicitDefEqProofs := false) (disch := (first | omega | assumption | (refine ⟨?_, ?_⟩ <;> omega) | (unfold catOk; (try simp only [ByteArray.size_append, size_lit, List.length_cons, List.length_nil]); omega) | (unfold mkOk; omega) | (unfold appOk; (try simp only [List.length_map, List.length_append, List.length_cons, List.length_nil]); omega))) only [go_sem, Nat.reduceEqDiff, Nat.reduceBEq, Nat.reduceAdd, Nat.reduceSub, Nat.reduceMul, Nat.reduceLeDiff, Nat.reduceLT, ↓reduceIte, reduceCtorEq, Int.reduceEq, Int.reduceLE, Int.reduceLT, Int.reduceToNat, Int.reduceNeg, Int.reduceSub, Int.reduceAdd, Int.reduceMul, ltT, ltF, leT, leF, neF, catT, mkT, appT, wrap_id, List.length_map, Int.toNat_natCast, h2, hto, ih]
      · rw [if_neg hd, show n - x.sz - TChan.szl B = n - (x.sz + TChan.szl B) by omega] at ih
        rw [if_neg (show ¬ n < x.sz + TChan.szl B by omega)]
        simp (maxSteps := 2000000) (implicitDefEqProofs := false) (disch := (first | omega | assumption | (refine ⟨?_, ?_⟩ <;> omega) | (unfold catOk; (try simp only [ByteArray.size_append, size_lit, List.length_cons, List.length_nil]); omega) | (unfold mkOk; omega) | (unfold appOk; (try simp only [List.length_map, List.length_append, List.length_cons, List.length_nil]); omega))) only [go_sem, Nat.reduceEqDiff, Nat.reduceBEq, Nat.reduceAdd, Nat.reduceSub, Nat.reduceMul, Nat.reduceLeDiff, Nat.reduceLT, ↓reduceIte, reduceCtorEq, Int.reduceEq, Int.reduceLE, Int.reduceLT, Int.reduceToNat, Int.reduceNeg, Int.reduceSub, Int.reduceAdd, Int.reduceMul, ltT, ltF, leT, leF, neF, catT, mkT, appT, wrap_id, List.length_map, Int.toNat_natCast, h2, hto, ih]
theorem laws_szChanS_ok (xs : List TChan) (n : Int) (hn : 0 ≤ n ∧ n ≤ 1048576) (hx : xs.length ≤ 140737488351232 ∧ ∀ y ∈ xs, y.ok) : call tab laws_szChanS [.d (.r (xs.map TChan.r)), I n] = some (I (if n < TChan.szs xs then -1 else n - TChan.szs xs)) := by
  rw [call_of t_laws_szChanS _ rfl, c_laws_szChanS]
  have hx1 := hx.1
  have hnn := TChan.szl_nn xs
  rw [show TChan.szs xs = xs.length + TChan.szl xs from rfl]
  by_cases h : n - (xs.length : Int) < 0
  · rw [if_pos (show n < xs.length + TChan.szl xs by omega)]
    simp (maxSteps := 2000000) (implicitDefEqProofs := false) (disch := (first | omega | assumption | (refine ⟨?_, ?_⟩ <;> omega) | (unfold catOk; (try simp only [ByteArray.size_append, size_lit, List.length_cons, List.length_nil]); omega) | (unfold mkOk; omega) | (unfold appOk; (try simp only [List.length_map, List.length_append, List.length_cons, List.length_nil]); omega))) only [go_sem, Nat.reduceEqDiff, Nat.reduceBEq, Nat.reduceAdd, Nat.reduceSub, Nat.reduceMul, Nat.reduceLeDiff, Nat.reduceLT, ↓reduceIte, reduceCtorEq, Int.reduceEq, Int.reduceLE, Int.reduceLT, Int.reduceToNat, Int.reduceNeg, Int.reduceSub, Int.reduceAdd, Int.reduceMul, ltT, ltF, leT, leF, neF, catT, mkT, appT, wrap_id, List.length_map, Int.toNat_natCast, h]
  · have hl := laws_szChanS_l0 xs (by omega) hx.2 xs [] (n - xs.length) rfl (by omega)
    simp only [List.length_nil, Int.cast_ofNat_Int] at hl
    by_cases hd : n - (xs.length : Int) < TChan.szl xs
    · rw [if_pos hd] at hl
      rw [if_pos (show n < xs.length + TChan.szl xs by omega)]
      simp (maxSteps := 2000000) (implicitDefEqProofs := false) (disch := (first | omega | assumption | (refine ⟨?_, ?_⟩ <;> omega) | (unfold catOk; (try simp only [ByteArray.size_append, size_lit, List.length_cons, List.length_nil]); omega) | (unfold mkOk; omega) | (unfold appOk; (try simp only [List.length_map, List.length_append, List.length_cons, List.length_nil]); omega))) only [go_sem, Nat.reduceEqDiff, Nat.reduceBEq, Nat.reduceAdd, Nat.reduceSub, Nat.reduceMul, Nat.reduceLeDiff, Nat.reduceLT, ↓reduceIte, reduceCtorEq, Int.reduceEq, Int.reduceLE, Int.reduceLT, Int.reduceToNat, Int.reduceNeg, Int.reduceSub, Int.reduceAdd, Int.reduceMul, ltT, ltF, leT, leF, neF, catT, mkT, appT, wrap_id, List.length_map, Int.toNat_natCast, h, hl]
    · rw [if_neg hd, show n - (xs.length : Int) - TChan.szl xs = n - (xs.length + TChan.szl xs) by omega] at hl
      rw [if_neg (show ¬ n < xs.length + TChan.szl xs by omega)]
      simp (maxSteps := 2000000) (implicitDefEqProofs := false) (disch := (first | omega | assumption | (refine ⟨?_, ?_⟩ <;> omega) | (unfold catOk; (try simp only [ByteArray.size_append, size_lit, List.length_cons, List.length_nil]); omega) | (unfold mkOk; omega) | (unfold appOk; (try simp only [List.length_map, List.length_append, List.length_cons, List.length_nil]); omega))) only [go_sem, Nat.reduceEqDiff, Nat.reduceBEq, Nat.reduceAdd, Nat.reduceSub, Nat.reduceMul, Nat.reduceLeDiff, Nat.reduceLT, ↓reduceIte, reduceCtorEq, Int.reduceEq, Int.reduceLE, Int.reduceLT, Int.reduceToNat, Int.reduceNeg, Int.reduceSub, Int.reduceAdd, Int.reduceMul, ltT, ltF, leT, leF, neF, catT, mkT, appT, wrap_id, List.length_map, Int.toNat_natCast, h, hl]
end Go.Ev.G
