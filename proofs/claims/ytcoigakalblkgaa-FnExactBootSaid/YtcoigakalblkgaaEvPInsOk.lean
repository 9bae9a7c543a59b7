/- InsOk: an instruction is right. -/
import Derived.Test.YtcoigakalblkgaaEvPPlace
import Derived.Test.YtcoigakalblkgaaEvPWord
set_option linter.all false
namespace Go.Ev.G
set_option maxRecDepth 8000
set_option maxHeartbeats 4000000
def hasL : List Int := [0, 9, 3, 7, 7, 7, 7, 7, 11, 14, 7, 8, 10, 24, 0, 2, 6, 6, 1, 2]
def hasN (op : Int) : Int := if 1 ≤ op ∧ op ≤ 19 then (hasL[op.toNat]?).getD 0 else 0
def inB (x lo hi : Int) : Bool := decide (lo ≤ x) && decide (x ≤ hi)
theorem spec_l1In_ok' (x lo hi : Int) : call tab spec_l1In [I x, I lo, I hi] = some (B (inB x lo hi)) := by
  rw [spec_l1In_ok, inB]
def fieldB (x most : Int) (h : Bool) : Bool := inB x 0 most && (h || decide (x = 0))
theorem spec_l2Field_ok (x most : Int) (h : Bool) : call tab spec_l2Field [I x, I most, B h] = some (B (fieldB x most h)) := by
  rw [call_of t_spec_l2Field _ rfl, c_spec_l2Field, fieldB]
  ((try simp (maxSteps := 2000000) (implicitDefEqProofs := false) (disch := (first | assumption | omega | (refine ⟨?_, ?_⟩ <;> omega) | (unfold catOk; (try simp only [ByteArray.size_append, size_lit, List.length_cons, List.length_nil]); omega) | (unfold mkOk; omega) | (unfold appOk; (try simp only [List.length_map, List.length_append, List.length_cons, List.length_nil]); omega))) only [go_sem, Nat.reduceEqDiff, Nat.reduceBEq, Nat.reduceAdd, Nat.reduceSub, Nat.reduceMul, Nat.reduceLeDiff, Nat.reduceLT, ↓reduceIte, reduceCtorEq, Int.reduceEq, Int.reduceLE, Int.reduceLT, Int.reduceToNat, Int.reduceNeg, Int.reduceSub, Int.reduceAdd, Int.reduceMul, ltT, ltF, leT, leF, neF, eqT, baT, baF, bvT, bvF, catT, mkT, appT, wrap_id, List.length_map, Int.toNat_natCast, Bool.not_not, condK_n, condK_bt, condK_bf, condK_bg, guardK_nt, guardK_nf, guardK_tT, guardK_fT, guardK_tF, guardK_fF, guardK_tG, guardK_fG, pickK_n, pickK_bt, pickK_bf, pickK_bg, spec_l1In_ok']) <;> repeat' ((first | rw [condK_d] | rw [guardK_dt] | rw [guardK_df] | rw [pickK_d] | rw [condK_b] | rw [guardK_bt] | rw [guardK_bf] | rw [pickK_b] | skip); split <;> (try simp (maxSteps := 2000000) (implicitDefEqProofs := false) (disch := (first | assumption | omega | (refine ⟨?_, ?_⟩ <;> omega) | (unfold catOk; (try simp only [ByteArray.size_append, size_lit, List.length_cons, List.length_nil]); omega) | (unfold mkOk; omega) | (unfold appOk; (try simp only [List.length_map, List.length_append, List.length_cons, List.length_nil]); omega))) only [go_sem, Nat.reduceEqDiff, Nat.reduceBEq, Nat.reduceAdd, Nat.reduceSub, Nat.reduceMul, Nat.reduceLeDiff, Nat.reduceLT, ↓reduceIte, reduceCtorEq, Int.reduceEq, Int.reduceLE, Int.reduceLT, Int.reduceToNat, Int.reduceNeg, Int.reduceSub, Int.reduceAdd, Int.reduceMul, ltT, ltF, leT, leF, neF, eqT, baT, baF, bvT, bvF, catT, mkT, appT, wrap_id, List.length_map, Int.toNat_natCast, Bool.not_not, condK_n, condK_bt, condK_bf, condK_bg, guardK_nt, guardK_nf, guardK_tT, guardK_fT, guardK_tF, guardK_fF, guardK_tG, guardK_fG, pickK_n, pickK_bt, pickK_bf, pickK_bg, spec_l1In_ok'])))
  all_goals simp [*]
theorem ops19 {op : Int} (h : 1 ≤ op) (h2 : op ≤ 19) : op = 1 ∨ op = 2 ∨ op = 3 ∨ op = 4 ∨ op = 5 ∨ op = 6 ∨ op = 7 ∨ op = 8 ∨ op = 9 ∨ op = 10 ∨ op = 11 ∨ op = 12 ∨ op = 13 ∨ op = 14 ∨ op = 15 ∨ op = 16 ∨ op = 17 ∨ op = 18 ∨ op = 19 := by omega
theorem spec_l2Has_ok (op : Int) : call tab spec_l2Has [I op] = some (I (hasN op)) := by
  rw [call_of t_spec_l2Has _ rfl, c_spec_l2Has]
  by_cases h : 1 ≤ op ∧ op ≤ 19
  · obtain ⟨h1, h2⟩ := h
    have h3 := spec_l1In_ok op 1 19
    rw [decide_eq_true h1, decide_eq_true h2] at h3
    rw [hasN, if_pos ⟨h1, h2⟩]
    rcases ops19 h1 h2 with rfl | rfl | rfl | rfl | rfl | rfl | rfl | rfl | rfl | rfl | rfl | rfl | rfl | rfl | rfl | rfl | rfl | rfl | rfl <;> simp (maxSteps := 2000000) (implicitDefEqProofs := false) (disch := (first | omega | assumption | (refine ⟨?_, ?_⟩ <;> omega) | (unfold catOk; (try simp only [ByteArray.size_append, size_lit, List.length_cons, List.length_nil]); omega) | (unfold mkOk; omega) | (unfold appOk; (try simp only [List.length_map, List.length_append, List.length_cons, List.length_nil]); omega))) only [go_sem, Nat.reduceEqDiff, Nat.reduceBEq, Nat.reduceAdd, Nat.reduceSub, Nat.reduceMul, Nat.reduceLeDiff, Nat.reduceLT, ↓reduceIte, reduceCtorEq, Int.reduceEq, Int.reduceLE, Int.reduceLT, Int.reduceToNat, Int.reduceNeg, Int.reduceSub, Int.reduceAdd, Int.reduceMul, ltT, ltF, leT, leF, neF, catT, mkT, appT, wrap_id, List.length_map, Int.toNat_natCast, h3, hasL]
  · have h3 := spec_l1In_ok op 1 19
    have h4 : (decide (1 ≤ op) && decide (op ≤ 19)) = false := by
      rw [← Bool.decide_and]
      exact decide_eq_false h
    rw [h4] at h3
    rw [hasN, if_neg h]
    simp (maxSteps := 2000000) (implicitDefEqProofs := false) (disch := (first | omega | assumption | (refine ⟨?_, ?_⟩ <;> omega) | (unfold catOk; (try simp only [ByteArray.size_append, size_lit, List.length_cons, List.length_nil]); omega) | (unfold mkOk; omega) | (unfold appOk; (try simp only [List.length_map, List.length_append, List.length_cons, List.length_nil]); omega))) only [go_sem, Nat.reduceEqDiff, Nat.reduceBEq, Nat.reduceAdd, Nat.reduceSub, Nat.reduceMul, Nat.reduceLeDiff, Nat.reduceLT, ↓reduceIte, reduceCtorEq, Int.reduceEq, Int.reduceLE, Int.reduceLT, Int.reduceToNat, Int.reduceNeg, Int.reduceSub, Int.reduceAdd, Int.reduceMul, ltT, ltF, leT, leF, neF, catT, mkT, appT, wrap_id, List.length_map, Int.toNat_natCast, h3]
theorem spec_WordOk_ok (n : Int) : call tab spec_WordOk [I n] = some (B (inB n (-2147483648) 2147483647)) := by
  rw [call_of t_spec_WordOk _ rfl, c_spec_WordOk]
  simp (maxSteps := 2000000) (implicitDefEqProofs := false) (disch := (first | omega | assumption | (refine ⟨?_, ?_⟩ <;> omega) | (unfold catOk; (try simp only [ByteArray.size_append, size_lit, List.length_cons, List.length_nil]); omega) | (unfold mkOk; omega) | (unfold appOk; (try simp only [List.length_map, List.length_append, List.length_cons, List.length_nil]); omega))) only [go_sem, Nat.reduceEqDiff, Nat.reduceBEq, Nat.reduceAdd, Nat.reduceSub, Nat.reduceMul, Nat.reduceLeDiff, Nat.reduceLT, ↓reduceIte, reduceCtorEq, Int.reduceEq, Int.reduceLE, Int.reduceLT, Int.reduceToNat, Int.reduceNeg, Int.reduceSub, Int.reduceAdd, Int.reduceMul, ltT, ltF, leT, leF, neF, catT, mkT, appT, wrap_id, List.length_map, Int.toNat_natCast, spec_l1In_ok, inB]
def bitB (h m : Int) : Bool := !decide (bits .and .i64 h m = 0)
def insB (x : TIns) : Bool := inB x.fOp 1 19 && fieldB x.fR 5 (bitB (hasN x.fOp) 1) && fieldB x.fA (if x.fOp = 8 ∨ x.fOp = 9 then 6 else 5) (bitB (hasN x.fOp) 2) && fieldB x.fB 5 (bitB (hasN x.fOp) 4) && inB x.fN (-2147483648) 2147483647 && (bitB (hasN x.fOp) 8 || decide (x.fN = 0)) && fieldB x.fM 60 (bitB (hasN x.fOp) 16)
theorem spec_InsOk_ok (x : TIns) : call tab spec_InsOk [x.x] = some (B (insB x)) := by
  rw [call_of t_spec_InsOk _ rfl, c_spec_InsOk]
  have e1 : ∀ y m, decide (bits .and .i64 y m = 0) = !bitB y m := fun y m => by simp [bitB]
  ((try simp (maxSteps := 2000000) (implicitDefEqProofs := false) (disch := (first | assumption | omega | (refine ⟨?_, ?_⟩ <;> omega) | (unfold catOk; (try simp only [ByteArray.size_append, size_lit, List.length_cons, List.length_nil]); omega) | (unfold mkOk; omega) | (unfold appOk; (try simp only [List.length_map, List.length_append, List.length_cons, List.length_nil]); omega))) only [go_sem, Nat.reduceEqDiff, Nat.reduceBEq, Nat.reduceAdd, Nat.reduceSub, Nat.reduceMul, Nat.reduceLeDiff, Nat.reduceLT, ↓reduceIte, reduceCtorEq, Int.reduceEq, Int.reduceLE, Int.reduceLT, Int.reduceToNat, Int.reduceNeg, Int.reduceSub, Int.reduceAdd, Int.reduceMul, ltT, ltF, leT, leF, neF, eqT, baT, baF, bvT, bvF, catT, mkT, appT, wrap_id, List.length_map, Int.toNat_natCast, Bool.not_not, condK_n, condK_bt, condK_bf, condK_bg, guardK_nt, guardK_nf, guardK_tT, guardK_fT, guardK_tF, guardK_fF, guardK_tG, guardK_fG, pickK_n, pickK_bt, pickK_bf, pickK_bg, spec_l1In_ok', spec_l2Has_ok, e1, spec_l2Field_ok, spec_WordOk_ok]) <;> repeat' ((first | rw [condK_d] | rw [guardK_dt] | rw [guardK_df] | rw [pickK_d] | rw [condK_b] | rw [guardK_bt] | rw [guardK_bf] | rw [pickK_b] | skip); split <;> (try simp (maxSteps := 2000000) (implicitDefEqProofs := false) (disch := (first | assumption | omega | (refine ⟨?_, ?_⟩ <;> omega) | (unfold catOk; (try simp only [ByteArray.size_append, size_lit, List.length_cons, List.length_nil]); omega) | (unfold mkOk; omega) | (unfold appOk; (try simp only [List.length_map, List.length_append, List.length_cons, List.length_nil]); omega))) only [go_sem, Nat.reduceEqDiff, Nat.reduceBEq, Nat.reduceAdd, Nat.reduceSub, Nat.reduceMul, Nat.reduceLeDiff, Nat.reduceLT, ↓reduceIte, reduceCtorEq, Int.reduceEq, Int.reduceLE, Int.reduceLT, Int.reduceToNat, Int.reduceNeg, Int.reduceSub, Int.reduceAdd, Int.reduceMul, ltT, ltF, leT, leF, neF, eqT, baT, baF, bvT, bvF, catT, mkT, appT, wrap_id, List.length_map, Int.toNat_natCast, Bool.not_not, condK_n, condK_bt, condK_bf, condK_bg, guardK_nt, guardK_nf, guardK_tT, guardK_fT, guardK_tF, guardK_fF, guardK_tG, guardK_fG, pickK_n, pickK_bt, pickK_bf, pickK_bg, spec_l1In_ok', spec_l2Has_ok, e1, spec_l2Field_ok, spec_WordOk_ok])))
  all_goals simp_all [insB]
theorem impl_within_ok' (x lo hi : Int) : call tab impl_within [I x, I lo, I hi] = some (B (inB x lo hi)) := by
  rw [impl_within_ok, inB]
theorem impl_WordOk_ok (n : Int) : call tab impl_WordOk [I n] = some (B (inB n (-2147483648) 2147483647)) := by
  rw [call_of t_impl_WordOk _ rfl, c_impl_WordOk]
  simp (maxSteps := 2000000) (implicitDefEqProofs := false) (disch := (first | omega | assumption | (refine ⟨?_, ?_⟩ <;> omega) | (unfold catOk; (try simp only [ByteArray.size_append, size_lit, List.length_cons, List.length_nil]); omega) | (unfold mkOk; omega) | (unfold appOk; (try simp only [List.length_map, List.length_append, List.length_cons, List.length_nil]); omega))) only [go_sem, Nat.reduceEqDiff, Nat.reduceBEq, Nat.reduceAdd, Nat.reduceSub, Nat.reduceMul, Nat.reduceLeDiff, Nat.reduceLT, ↓reduceIte, reduceCtorEq, Int.reduceEq, Int.reduceLE, Int.reduceLT, Int.reduceToNat, Int.reduceNeg, Int.reduceSub, Int.reduceAdd, Int.reduceMul, ltT, ltF, leT, leF, neF, catT, mkT, appT, wrap_id, List.length_map, Int.toNat_natCast, impl_within_ok, inB]
theorem impl_isReg_ok (n : Int) : call tab impl_isReg [I n] = some (B (inB n 0 5)) := by
  rw [call_of t_impl_isReg _ rfl, c_impl_isReg]
  simp (maxSteps := 2000000) (implicitDefEqProofs := false) (disch := (first | omega | assumption | (refine ⟨?_, ?_⟩ <;> omega) | (unfold catOk; (try simp only [ByteArray.size_append, size_lit, List.length_cons, List.length_nil]); omega) | (unfold mkOk; omega) | (unfold appOk; (try simp only [List.length_map, List.length_append, List.length_cons, List.length_nil]); omega))) only [go_sem, Nat.reduceEqDiff, Nat.reduceBEq, Nat.reduceAdd, Nat.reduceSub, Nat.reduceMul, Nat.reduceLeDiff, Nat.reduceLT, ↓reduceIte, reduceCtorEq, Int.reduceEq, Int.reduceLE, Int.reduceLT, Int.reduceToNat, Int.reduceNeg, Int.reduceSub, Int.reduceAdd, Int.reduceMul, ltT, ltF, leT, leF, neF, catT, mkT, appT, wrap_id, List.length_map, Int.toNat_natCast, impl_within_ok, inB]
def hasF : List ByteArray := [noS, ⟨#[82, 78]⟩, ⟨#[82, 65]⟩, ⟨#[82, 65, 66]⟩, ⟨#[82, 65, 66]⟩, ⟨#[82, 65, 66]⟩, ⟨#[82, 65, 66]⟩, ⟨#[82, 65, 66]⟩, ⟨#[82, 65, 78]⟩, ⟨#[65, 66, 78]⟩, ⟨#[82, 65, 66]⟩, ⟨#[78]⟩, ⟨#[65, 78]⟩, ⟨#[78, 77]⟩, ⟨#[45]⟩, ⟨#[65]⟩, ⟨#[65, 66]⟩, ⟨#[65, 66]⟩, ⟨#[82]⟩, ⟨#[65]⟩]
def hasS (op : Int) : ByteArray := if 1 ≤ op ∧ op ≤ 19 then (hasF[op.toNat]?).getD noS else noS
theorem impl_has_ok (op : Int) : call tab impl_has [I op] = some (Str (hasS op)) := by
  rw [call_of t_impl_has _ rfl, c_impl_has]
  by_cases h : 1 ≤ op ∧ op ≤ 19
  · obtain ⟨h1, h2⟩ := h
    rw [hasS, if_pos ⟨h1, h2⟩]
    rcases ops19 h1 h2 with rfl | rfl | rfl | rfl | rfl | rfl | rfl | rfl | rfl | rfl | rfl | rfl | rfl | rfl | rfl | rfl | rfl | rfl | rfl <;> simp (maxSteps := 2000000) (implicitDefEqProofs := false) (disch := (first | omega | assumption | (refine ⟨?_, ?_⟩ <;> omega) | (unfold catOk; (try simp only [ByteArray.size_append, size_lit, List.length_cons, List.length_nil]); omega) | (unfold mkOk; omega) | (unfold appOk; (try simp only [List.length_map, List.length_append, List.length_cons, List.length_nil]); omega))) only [go_sem, Nat.reduceEqDiff, Nat.reduceBEq, Nat.reduceAdd, Nat.reduceSub, Nat.reduceMul, Nat.reduceLeDiff, Nat.reduceLT, ↓reduceIte, reduceCtorEq, Int.reduceEq, Int.reduceLE, Int.reduceLT, Int.reduceToNat, Int.reduceNeg, Int.reduceSub, Int.reduceAdd, Int.reduceMul, ltT, ltF, leT, leF, neF, catT, mkT, appT, wrap_id, List.length_map, Int.toNat_natCast, hasF]
  · rw [hasS, if_neg h]
    have e : ∀ k : Int, 1 ≤ k → k ≤ 19 → ¬ op = k := fun k h1 h2 e => h (by omega)
    simp (maxSteps := 2000000) (implicitDefEqProofs := false) (disch := (first | omega | assumption | (refine ⟨?_, ?_⟩ <;> omega) | (unfold catOk; (try simp only [ByteArray.size_append, size_lit, List.length_cons, List.length_nil]); omega) | (unfold mkOk; omega) | (unfold appOk; (try simp only [List.length_map, List.length_append, List.length_cons, List.length_nil]); omega))) only [go_sem, Nat.reduceEqDiff, Nat.reduceBEq, Nat.reduceAdd, Nat.reduceSub, Nat.reduceMul, Nat.reduceLeDiff, Nat.reduceLT, ↓reduceIte, reduceCtorEq, Int.reduceEq, Int.reduceLE, Int.reduceLT, Int.reduceToNat, Int.reduceNeg, Int.reduceSub, Int.reduceAdd, Int.reduceMul, ltT, ltF, leT, leF, neF, catT, mkT, appT, wrap_id, List.length_map, Int.toNat_natCast, e 1 (by omega) (by omega), e 2 (by omega) (by omega), e 3 (by omega) (by omega), e 4 (by omega) (by omega), e 5 (by omega) (by omega), e 6 (by omega) (by omega), e 7 (by omega) (by omega), e 8 (by omega) (by omega), e 9 (by omega) (by omega), e 10 (by omega) (by omega), e 11 (by omega) (by omega), e 12 (by omega) (by omega), e 13 (by omega) (by omega), e 14 (by omega) (by omega), e 15 (by omega) (by omega), e 16 (by omega) (by omega), e 17 (by omega) (by omega), e 18 (by omega) (by omega), e 19 (by omega) (by omega)]

def aOk (x : TIns) : Bool := inB x.fA 0 5 || (decide (x.fA = 6) && (decide (x.fOp = 8) || decide (x.fOp = 9)))
def stepC (x : TIns) (y : TIns × Bool) (c : UInt8) : TIns × Bool :=
  if (c.toNat : Int) = 82 then ({ y.1 with fR := 0 }, y.2 && inB x.fR 0 5)
  else if (c.toNat : Int) = 65 then ({ y.1 with fA := 0 }, y.2 && aOk x)
  else if (c.toNat : Int) = 66 then ({ y.1 with fB := 0 }, y.2 && inB x.fB 0 5)
  else if (c.toNat : Int) = 78 then ({ y.1 with fN := 0 }, y.2 && inB x.fN (-2147483648) 2147483647)
  else if (c.toNat : Int) = 77 then ({ y.1 with fM := 0 }, y.2 && inB x.fM 0 60)
  else y
theorem impl_InsOk_l0 (x : TIns) (s : ByteArray) (hs : s.size ≤ 3) : ∀ (B : List UInt8) (n : Nat) (f1 f2 f3 f4 f5 f6 : Int) (ok : Bool), (∀ k, s[n + k]? = B[k]?) → s.size = n + B.length →
    loopW tab [1, 3, 4, 5, 15, 16] b_impl_InsOk_0 { env := upd (upd (upd (upd (upd (upd emp 16 (some (I (n : Int)))) 15 (some (I (s.size : Int)))) 5 (some (.d (.v (.bool ok))))) 4 (some (.ptr (0, 0) [] 0 0))) 3 (some (Str s))) 1 (some (.vp [I x.fOp, I x.fR, I x.fA, I x.fB, I x.fN, I x.fM])), heap := upd emp (0, 0) (some (.s 6 [[DI f1, DI f2, DI f3, DI f4, DI f5, DI f6]])), fr := 0, next := 1 } = some (.ext 0, { env := upd (upd emp 5 (some (.d (.v (.bool (B.foldl (stepC x) (⟨f1, f2, f3, f4, f5, f6⟩, ok)).2))))) 4 (some (.ptr (0, 0) [] 0 0)), heap := upd emp (0, 0) (some (.s 6 [(B.foldl (stepC x) (⟨f1, f2, f3, f4, f5, f6⟩, ok)).1.o])), fr := 0, next := 1 })
  | [], n, f1, f2, f3, f4, f5, f6, ok, h, hl => by
    unfold loopW
    conv => lhs; arg 1; unfold b_impl_InsOk_0
    simp only [List.length_nil, Nat.add_zero] at hl
    simp (maxSteps := 2000000) (implicitDefEqProofs := false) (disch := (first | omega | assumption | (refine ⟨?_, ?_⟩ <;> omega) | (unfold catOk; (try simp only [ByteArray.size_append, size_lit, List.length_cons, List.length_nil]); omega) | (unfold mkOk; omega) | (unfold appOk; (try simp only [List.length_map, List.length_append, List.length_cons, List.length_nil]); omega))) only [go_sem, Nat.reduceEqDiff, Nat.reduceBEq, Nat.reduceAdd, Nat.reduceSub, Nat.reduceMul, Nat.reduceLeDiff, Nat.reduceLT, ↓reduceIte, reduceCtorEq, Int.reduceEq, Int.reduceLE, Int.reduceLT, Int.reduceToNat, Int.reduceNeg, Int.reduceSub, Int.reduceAdd, Int.reduceMul, ltT, ltF, leT, leF, neF, catT, mkT, appT, wrap_id, List.length_map, Int.toNat_natCast, hl, List.foldl_nil, TIns.o]
  | c :: B, n, f1, f2, f3, f4, f5, f6, ok, h, hl => by
    unfold loopW
    conv => lhs; arg 1; unfold b_impl_InsOk_0
    simp only [List.length_cons] at hl
    have h2 : s[n]? = some c := by simpa using h 0
    have ih := fun f1 f2 f3 f4 f5 f6 ok => impl_InsOk_l0 x s hs B (n + 1) f1 f2 f3 f4 f5 f6 ok (fun k => by have := h (k + 1); simpa [Nat.add_assoc, Nat.add_comm 1] using this) (by omega)
    rw [show (((n + 1 : Nat)) : Int) = (n : Int) + 1 by simp] at ih
    rw [List.foldl_cons]
    cases ok <;> ((try simp (maxSteps := 2000000) (implicitDefEqProofs := false) (disch := (first | assumption | omega | (refine ⟨?_, ?_⟩ <;> omega) | (unfold catOk; (try simp only [ByteArray.size_append, size_lit, List.length_cons, List.length_nil]); omega) | (unfold mkOk; omega) | (unfold appOk; (try simp only [List.length_map, List.length_append, List.length_cons, List.length_nil]); omega))) only [go_sem, Nat.reduceEqDiff, Nat.reduceBEq, Nat.reduceAdd, Nat.reduceSub, Nat.reduceMul, Nat.reduceLeDiff, Nat.reduceLT, ↓reduceIte, reduceCtorEq, Int.reduceEq, Int.reduceLE, Int.reduceLT, Int.reduceToNat, Int.reduceNeg, Int.reduceSub, Int.reduceAdd, Int.reduceMul, ltT, ltF, leT, leF, neF, eqT, baT, baF, bvT, bvF, catT, mkT, appT, wrap_id, List.length_map, Int.toNat_natCast, Bool.not_not, condK_n, condK_bt, condK_bf, condK_bg, guardK_nt, guardK_nf, guardK_tT, guardK_fT, guardK_tF, guardK_fF, guardK_tG, guardK_fG, pickK_n, pickK_bt, pickK_bf, pickK_bg, h2, ih, stepC, aOk, impl_isReg_ok, impl_within_ok', impl_WordOk_ok]) <;> repeat' ((first | rw [condK_d] | rw [guardK_dt] | rw [guardK_df] | rw [pickK_d] | rw [condK_b] | rw [guardK_bt] | rw [guardK_bf] | rw [pickK_b] | skip); split <;> (try simp (maxSteps := 2000000) (implicitDefEqProofs := false) (disch := (first | assumption | omega | (refine ⟨?_, ?_⟩ <;> omega) | (unfold catOk; (try simp only [ByteArray.size_append, size_lit, List.length_cons, List.length_nil]); omega) | (unfold mkOk; omega) | (unfold appOk; (try simp only [List.length_map, List.length_append, List.length_cons, List.length_nil]); omega))) only [go_sem, Nat.reduceEqDiff, Nat.reduceBEq, Nat.reduceAdd, Nat.reduceSub, Nat.reduceMul, Nat.reduceLeDiff, Nat.reduceLT, ↓reduceIte, reduceCtorEq, Int.reduceEq, Int.reduceLE, Int.reduceLT, Int.reduceToNat, Int.reduceNeg, Int.reduceSub, Int.reduceAdd, Int.reduceMul, ltT, ltF, leT, leF, neF, eqT, baT, baF, bvT, bvF, catT, mkT, appT, wrap_id, List.length_map, Int.toNat_natCast, Bool.not_not, condK_n, condK_bt, condK_bf, condK_bg, guardK_nt, guardK_nf, guardK_tT, guardK_fT, guardK_tF, guardK_fF, guardK_tG, guardK_fG, pickK_n, pickK_bt, pickK_bf, pickK_bg, h2, ih, stepC, aOk, impl_isReg_ok, impl_within_ok', impl_WordOk_ok])))
    all_goals (clear ih h hl h2; simp_all)

theorem hasS_size (op : Int) : (hasS op).size ≤ 3 := by
  unfold hasS
  split
  · rename_i h
    rcases ops19 h.1 h.2 with rfl | rfl | rfl | rfl | rfl | rfl | rfl | rfl | rfl | rfl | rfl | rfl | rfl | rfl | rfl | rfl | rfl | rfl | rfl <;> decide
  · decide
theorem ba_get (s : ByteArray) (k : Nat) : s[k]? = s.data.toList[k]? := by
  by_cases h : k < s.size
  · rw [getElem?_pos s k h, List.getElem?_eq_getElem (by simpa using h)]; rfl
  · rw [getElem?_neg s k h, List.getElem?_eq_none (by simpa using h)]
def insF (z : TIns × Bool) : Bool := z.2 && (decide (z.1.fOp = 0) && (decide (z.1.fR = 0) && (decide (z.1.fA = 0) && (decide (z.1.fB = 0) && (decide (z.1.fN = 0) && decide (z.1.fM = 0))))))
theorem impl_InsOk_h (x : TIns) : call tab impl_InsOk [x.x] = some (B (insF ((hasS x.fOp).data.toList.foldl (stepC x) (⟨0, x.fR, x.fA, x.fB, x.fN, x.fM⟩, !decide (hasS x.fOp = noS))))) := by
  rw [call_of t_impl_InsOk _ rfl, c_impl_InsOk]
  have hl := impl_InsOk_l0 x (hasS x.fOp) (hasS_size _) (hasS x.fOp).data.toList 0 0 x.fR x.fA x.fB x.fN x.fM (!decide (hasS x.fOp = noS)) (fun k => by rw [ba_get, Nat.zero_add]) (by rw [Nat.zero_add, Array.length_toList]; rfl)
  simp only [Int.cast_ofNat_Int, TIns.o] at hl
  generalize (hasS x.fOp).data.toList.foldl (stepC x) (⟨0, x.fR, x.fA, x.fB, x.fN, x.fM⟩, !decide (hasS x.fOp = noS)) = z at hl ⊢
  rw [insF]
  ((try simp (maxSteps := 2000000) (implicitDefEqProofs := false) (disch := (first | assumption | omega | (refine ⟨?_, ?_⟩ <;> omega) | (unfold catOk; (try simp only [ByteArray.size_append, size_lit, List.length_cons, List.length_nil]); omega) | (unfold mkOk; omega) | (unfold appOk; (try simp only [List.length_map, List.length_append, List.length_cons, List.length_nil]); omega))) only [go_sem, Nat.reduceEqDiff, Nat.reduceBEq, Nat.reduceAdd, Nat.reduceSub, Nat.reduceMul, Nat.reduceLeDiff, Nat.reduceLT, ↓reduceIte, reduceCtorEq, Int.reduceEq, Int.reduceLE, Int.reduceLT, Int.reduceToNat, Int.reduceNeg, Int.reduceSub, Int.reduceAdd, Int.reduceMul, ltT, ltF, leT, leF, neF, eqT, baT, baF, bvT, bvF, catT, mkT, appT, wrap_id, List.length_map, Int.toNat_natCast, Bool.not_not, condK_n, condK_bt, condK_bf, condK_bg, guardK_nt, guardK_nf, guardK_tT, guardK_fT, guardK_tF, guardK_fF, guardK_tG, guardK_fG, pickK_n, pickK_bt, pickK_bf, pickK_bg, impl_has_ok, hl]) <;> repeat' ((first | rw [condK_d] | rw [guardK_dt] | rw [guardK_df] | rw [pickK_d] | rw [condK_b] | rw [guardK_bt] | rw [guardK_bf] | rw [pickK_b] | skip); split <;> (try simp (maxSteps := 2000000) (implicitDefEqProofs := false) (disch := (first | assumption | omega | (refine ⟨?_, ?_⟩ <;> omega) | (unfold catOk; (try simp only [ByteArray.size_append, size_lit, List.length_cons, List.length_nil]); omega) | (unfold mkOk; omega) | (unfold appOk; (try simp only [List.length_map, List.length_append, List.length_cons, List.length_nil]); omega))) only [go_sem, Nat.reduceEqDiff, Nat.reduceBEq, Nat.reduceAdd, Nat.reduceSub, Nat.reduceMul, Nat.reduceLeDiff, Nat.reduceLT, ↓reduceIte, reduceCtorEq, Int.reduceEq, Int.reduceLE, Int.reduceLT, Int.reduceToNat, Int.reduceNeg, Int.reduceSub, Int.reduceAdd, Int.reduceMul, ltT, ltF, leT, leF, neF, eqT, baT, baF, bvT, bvF, catT, mkT, appT, wrap_id, List.length_map, Int.toNat_natCast, Bool.not_not, condK_n, condK_bt, condK_bf, condK_bg, guardK_nt, guardK_nf, guardK_tT, guardK_fT, guardK_tF, guardK_fF, guardK_tG, guardK_fG, pickK_n, pickK_bt, pickK_bf, pickK_bg, impl_has_ok, hl])))
  all_goals simp_all
theorem impl_InsOk_ok (x : TIns) : call tab impl_InsOk [x.x] = some (B (insB x)) := by
  rw [impl_InsOk_h]
  congr 4
  obtain ⟨op, r, a, b, n, m⟩ := x
  simp only [insB]
  by_cases h : 1 ≤ op ∧ op ≤ 19
  · rcases ops19 h.1 h.2 with rfl | rfl | rfl | rfl | rfl | rfl | rfl | rfl | rfl | rfl | rfl | rfl | rfl | rfl | rfl | rfl | rfl | rfl | rfl
    · rw [show hasS 1 = ⟨#[82, 78]⟩ from rfl]
      simp only [show bitB (hasN 1) 1 = true from rfl, show bitB (hasN 1) 2 = false from rfl, show bitB (hasN 1) 4 = false from rfl, show bitB (hasN 1) 8 = true from rfl, show bitB (hasN 1) 16 = false from rfl]
      rw [Bool.eq_iff_iff]
      simp [insF, stepC, fieldB, inB, aOk]
      try omega
    · rw [show hasS 2 = ⟨#[82, 65]⟩ from rfl]
      simp only [show bitB (hasN 2) 1 = true from rfl, show bitB (hasN 2) 2 = true from rfl, show bitB (hasN 2) 4 = false from rfl, show bitB (hasN 2) 8 = false from rfl, show bitB (hasN 2) 16 = false from rfl]
      rw [Bool.eq_iff_iff]
      simp [insF, stepC, fieldB, inB, aOk]
      try omega
    · rw [show hasS 3 = ⟨#[82, 65, 66]⟩ from rfl]
      simp only [show bitB (hasN 3) 1 = true from rfl, show bitB (hasN 3) 2 = true from rfl, show bitB (hasN 3) 4 = true from rfl, show bitB (hasN 3) 8 = false from rfl, show bitB (hasN 3) 16 = false from rfl]
      rw [Bool.eq_iff_iff]
      simp [insF, stepC, fieldB, inB, aOk]
      try omega
    · rw [show hasS 4 = ⟨#[82, 65, 66]⟩ from rfl]
      simp only [show bitB (hasN 4) 1 = true from rfl, show bitB (hasN 4) 2 = true from rfl, show bitB (hasN 4) 4 = true from rfl, show bitB (hasN 4) 8 = false from rfl, show bitB (hasN 4) 16 = false from rfl]
      rw [Bool.eq_iff_iff]
      simp [insF, stepC, fieldB, inB, aOk]
      try omega
    · rw [show hasS 5 = ⟨#[82, 65, 66]⟩ from rfl]
      simp only [show bitB (hasN 5) 1 = true from rfl, show bitB (hasN 5) 2 = true from rfl, show bitB (hasN 5) 4 = true from rfl, show bitB (hasN 5) 8 = false from rfl, show bitB (hasN 5) 16 = false from rfl]
      rw [Bool.eq_iff_iff]
      simp [insF, stepC, fieldB, inB, aOk]
      try omega
    · rw [show hasS 6 = ⟨#[82, 65, 66]⟩ from rfl]
      simp only [show bitB (hasN 6) 1 = true from rfl, show bitB (hasN 6) 2 = true from rfl, show bitB (hasN 6) 4 = true from rfl, show bitB (hasN 6) 8 = false from rfl, show bitB (hasN 6) 16 = false from rfl]
      rw [Bool.eq_iff_iff]
      simp [insF, stepC, fieldB, inB, aOk]
      try omega
    · rw [show hasS 7 = ⟨#[82, 65, 66]⟩ from rfl]
      simp only [show bitB (hasN 7) 1 = true from rfl, show bitB (hasN 7) 2 = true from rfl, show bitB (hasN 7) 4 = true from rfl, show bitB (hasN 7) 8 = false from rfl, show bitB (hasN 7) 16 = false from rfl]
      rw [Bool.eq_iff_iff]
      simp [insF, stepC, fieldB, inB, aOk]
      try omega
    · rw [show hasS 8 = ⟨#[82, 65, 78]⟩ from rfl]
      simp only [show bitB (hasN 8) 1 = true from rfl, show bitB (hasN 8) 2 = true from rfl, show bitB (hasN 8) 4 = false from rfl, show bitB (hasN 8) 8 = true from rfl, show bitB (hasN 8) 16 = false from rfl]
      rw [Bool.eq_iff_iff]
      simp [insF, stepC, fieldB, inB, aOk]
      try omega
    · rw [show hasS 9 = ⟨#[65, 66, 78]⟩ from rfl]
      simp only [show bitB (hasN 9) 1 = false from rfl, show bitB (hasN 9) 2 = true from rfl, show bitB (hasN 9) 4 = true from rfl, show bitB (hasN 9) 8 = true from rfl, show bitB (hasN 9) 16 = false from rfl]
      rw [Bool.eq_iff_iff]
      simp [insF, stepC, fieldB, inB, aOk]
      try omega
    · rw [show hasS 10 = ⟨#[82, 65, 66]⟩ from rfl]
      simp only [show bitB (hasN 10) 1 = true from rfl, show bitB (hasN 10) 2 = true from rfl, show bitB (hasN 10) 4 = true from rfl, show bitB (hasN 10) 8 = false from rfl, show bitB (hasN 10) 16 = false from rfl]
      rw [Bool.eq_iff_iff]
      simp [insF, stepC, fieldB, inB, aOk]
      try omega
    · rw [show hasS 11 = ⟨#[78]⟩ from rfl]
      simp only [show bitB (hasN 11) 1 = false from rfl, show bitB (hasN 11) 2 = false from rfl, show bitB (hasN 11) 4 = false from rfl, show bitB (hasN 11) 8 = true from rfl, show bitB (hasN 11) 16 = false from rfl]
      rw [Bool.eq_iff_iff]
      simp [insF, stepC, fieldB, inB, aOk]
      try omega
    · rw [show hasS 12 = ⟨#[65, 78]⟩ from rfl]
      simp only [show bitB (hasN 12) 1 = false from rfl, show bitB (hasN 12) 2 = true from rfl, show bitB (hasN 12) 4 = false from rfl, show bitB (hasN 12) 8 = true from rfl, show bitB (hasN 12) 16 = false from rfl]
      rw [Bool.eq_iff_iff]
      simp [insF, stepC, fieldB, inB, aOk]
      try omega
    · rw [show hasS 13 = ⟨#[78, 77]⟩ from rfl]
      simp only [show bitB (hasN 13) 1 = false from rfl, show bitB (hasN 13) 2 = false from rfl, show bitB (hasN 13) 4 = false from rfl, show bitB (hasN 13) 8 = true from rfl, show bitB (hasN 13) 16 = true from rfl]
      rw [Bool.eq_iff_iff]
      simp [insF, stepC, fieldB, inB, aOk]
      try omega
    · rw [show hasS 14 = ⟨#[45]⟩ from rfl]
      simp only [show bitB (hasN 14) 1 = false from rfl, show bitB (hasN 14) 2 = false from rfl, show bitB (hasN 14) 4 = false from rfl, show bitB (hasN 14) 8 = false from rfl, show bitB (hasN 14) 16 = false from rfl]
      rw [Bool.eq_iff_iff]
      simp [insF, stepC, fieldB, inB, aOk]
      try omega
    · rw [show hasS 15 = ⟨#[65]⟩ from rfl]
      simp only [show bitB (hasN 15) 1 = false from rfl, show bitB (hasN 15) 2 = true from rfl, show bitB (hasN 15) 4 = false from rfl, show bitB (hasN 15) 8 = false from rfl, show bitB (hasN 15) 16 = false from rfl]
      rw [Bool.eq_iff_iff]
      simp [insF, stepC, fieldB, inB, aOk]
      try omega
    · rw [show hasS 16 = ⟨#[65, 66]⟩ from rfl]
      simp only [show bitB (hasN 16) 1 = false from rfl, show bitB (hasN 16) 2 = true from rfl, show bitB (hasN 16) 4 = true from rfl, show bitB (hasN 16) 8 = false from rfl, show bitB (hasN 16) 16 = false from rfl]
      rw [Bool.eq_iff_iff]
      simp [insF, stepC, fieldB, inB, aOk]
      try omega
    · rw [show hasS 17 = ⟨#[65, 66]⟩ from rfl]
      simp only [show bitB (hasN 17) 1 = false from rfl, show bitB (hasN 17) 2 = true from rfl, show bitB (hasN 17) 4 = true from rfl, show bitB (hasN 17) 8 = false from rfl, show bitB (hasN 17) 16 = false from rfl]
      rw [Bool.eq_iff_iff]
      simp [insF, stepC, fieldB, inB, aOk]
      try omega
    · rw [show hasS 18 = ⟨#[82]⟩ from rfl]
      simp only [show bitB (hasN 18) 1 = true from rfl, show bitB (hasN 18) 2 = false from rfl, show bitB (hasN 18) 4 = false from rfl, show bitB (hasN 18) 8 = false from rfl, show bitB (hasN 18) 16 = false from rfl]
      rw [Bool.eq_iff_iff]
      simp [insF, stepC, fieldB, inB, aOk]
      try omega
    · rw [show hasS 19 = ⟨#[65]⟩ from rfl]
      simp only [show bitB (hasN 19) 1 = false from rfl, show bitB (hasN 19) 2 = true from rfl, show bitB (hasN 19) 4 = false from rfl, show bitB (hasN 19) 8 = false from rfl, show bitB (hasN 19) 16 = false from rfl]
      rw [Bool.eq_iff_iff]
      simp [insF, stepC, fieldB, inB, aOk]
      try omega
  · have h1 : hasS op = noS := by unfold hasS; rw [if_neg h]
    have h2 : inB op 1 19 = false := by unfold inB; rw [← Bool.decide_and]; exact decide_eq_false h
    rw [h1, h2]
    simp [insF]
end Go.Ev.G
