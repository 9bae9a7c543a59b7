import Derived.Test.YtonoomibdlhonaaEvPNote
set_option linter.all false
namespace Go.Ev.G
set_option maxRecDepth 4000
set_option maxHeartbeats 2000000
structure Ins where
  Op : Int
  R : Int
  A : Int
  B : Int
  N : Int
  M : Int
def Ins.enc (x : Ins) : List D := [DI x.Op, DI x.R, DI x.A, DI x.B, DI x.N, DI x.M]
def Ins.x (x : Ins) : X := .agg [I x.Op, I x.R, I x.A, I x.B, I x.N, I x.M]
structure Ins.ok (x : Ins) : Prop where
  Op : i64 x.Op
  R : i64 x.R
  A : i64 x.A
  B : i64 x.B
  N : i64 x.N
  M : i64 x.M
theorem laws_toIns_ok (x : Ins) : call tab laws_toIns [x.x] = some x.x := by
  rw [call_of t_laws_toIns _ rfl, c_laws_toIns]
  simp only [go_sem, Nat.reduceEqDiff, Nat.reduceBEq, Nat.reduceAdd, Nat.reduceSub, Nat.reduceMul, Nat.reduceLeDiff, Nat.reduceLT, ↓reduceIte, reduceCtorEq, Int.reduceEq, Int.reduceLE, Int.reduceLT, Int.reduceToNat, Int.reduceNeg, Int.reduceSub, Int.reduceAdd, Int.reduceMul, Ins.x]
abbrev zIns : List D := [DI 0, DI 0, DI 0, DI 0, DI 0, DI 0]
theorem laws_toInsS_l0 (xs : List Ins) (hx : xs.length < 9223372036854775807) : ∀ (rest done : List Ins), xs = done ++ rest →
    loopW tab [0, 3, 4] b_laws_toInsS_0 { env := upd (upd (upd emp 4 (some (I (done.length : Int)))) 3 (some (.ref (0, 0) []))) 0 (some (.d (.r (xs.map Ins.enc)))), heap := upd emp (0, 0) (some (.s 6 (done.map Ins.enc ++ List.replicate rest.length zIns))), fr := 0, next := 1 } = some (.ext 0, { env := upd emp 3 (some (.ref (0, 0) [])), heap := upd emp (0, 0) (some (.s 6 (xs.map Ins.enc))), fr := 0, next := 1 })
  | [], done, h => by
    rw [List.append_nil] at h
    subst h
    unfold loopW
    conv => lhs; arg 1; unfold b_laws_toInsS_0
    have h1 : ¬ ((xs.length : Nat) : Int) < (((xs.map Ins.enc).length : Nat) : Int) := by rw [List.length_map]; omega
    simp only [go_sem, Nat.reduceEqDiff, Nat.reduceBEq, Nat.reduceAdd, Nat.reduceSub, Nat.reduceMul, Nat.reduceLeDiff, Nat.reduceLT, ↓reduceIte, reduceCtorEq, Int.reduceEq, Int.reduceLE, Int.reduceLT, Int.reduceToNat, Int.reduceNeg, Int.reduceSub, Int.reduceAdd, Int.reduceMul, h1, List.replicate_zero]
  | x :: rest, done, h => by
    unfold loopW
    conv => lhs; arg 1; unfold b_laws_toInsS_0
    have hl : xs.length = done.length + (rest.length + 1) := by rw [h]; simp
    have h1 : ((done.length : Nat) : Int) < (((xs.map Ins.enc).length : Nat) : Int) := by rw [List.length_map]; omega
    have h2 : (xs.map Ins.enc)[done.length]? = some [DI x.Op, DI x.R, DI x.A, DI x.B, DI x.N, DI x.M] := by rw [h]; simp [Ins.enc]
    have h3 : ((done.length : Nat) : Int) < (((done.map Ins.enc ++ List.replicate (rest.length + 1) zIns).length : Nat) : Int) := by simp; omega
    have h4 : (done.map Ins.enc ++ List.replicate (rest.length + 1) zIns)[done.length]? = some zIns := by
      rw [List.getElem?_append_right (by simp)]
      simp
    have h5 : (0 : Int) ≤ ((done.length : Nat) : Int) := by omega
    have h6 : IntKind.i64.wrap ((done.length : Int) + 1) = (((done ++ [x]).length : Nat) : Int) := by
      rw [w64 (by constructor <;> omega)]
      simp
    have h7 : call tab laws_toIns [.agg [I x.Op, I x.R, I x.A, I x.B, I x.N, I x.M]] = some (.agg [I x.Op, I x.R, I x.A, I x.B, I x.N, I x.M]) := laws_toIns_ok x
    have h8 : (done.map Ins.enc ++ List.replicate (rest.length + 1) zIns).set done.length [DI x.Op, DI x.R, DI x.A, DI x.B, DI x.N, DI x.M] = (done ++ [x]).map Ins.enc ++ List.replicate rest.length zIns := by
      rw [List.set_append_right _ _ (by simp)]
      simp [List.replicate_succ, Ins.enc]
    simp only [go_sem, Nat.reduceEqDiff, Nat.reduceBEq, Nat.reduceAdd, Nat.reduceSub, Nat.reduceMul, Nat.reduceLeDiff, Nat.reduceLT, ↓reduceIte, reduceCtorEq, Int.reduceEq, Int.reduceLE, Int.reduceLT, Int.reduceToNat, Int.reduceNeg, Int.reduceSub, Int.reduceAdd, Int.reduceMul, List.length_cons, h1, h2, h3, h4, h5, h6, h7, h8, Int.toNat_natCast]
    exact laws_toInsS_l0 xs hx rest (done ++ [x]) (by simp [h])
theorem fzs_Ins (xs : List Ins) : fzs (xs.map Ins.enc) = xs.map Ins.enc := fzs_map _ _ (fun x => by simp only [Ins.enc, fzl, D.fz]) xs
abbrev insX (xs : List Ins) : X := .d (.r (xs.map Ins.enc))
theorem laws_toInsS_ok (xs : List Ins) (hx : xs.length ≤ 1048576) : call tab laws_toInsS [insX xs] = some (.d (.s 6 (xs.map Ins.enc))) := by
  rw [call_of t_laws_toInsS _ rfl, c_laws_toInsS]
  have hl := laws_toInsS_l0 xs (by omega) xs [] rfl
  simp only [List.map_nil, List.nil_append, List.length_nil, Int.cast_ofNat_Int] at hl
  simp (disch := (first | omega | assumption | (refine ⟨?_, ?_⟩ <;> omega) | (unfold catOk; (try simp only [ByteArray.size_append, size_lit, List.length_cons, List.length_nil]); omega) | (unfold mkOk; omega) | (unfold appOk; (try simp only [List.length_map, List.length_append, List.length_cons, List.length_nil]); omega))) only [go_sem, Nat.reduceEqDiff, Nat.reduceBEq, Nat.reduceAdd, Nat.reduceSub, Nat.reduceMul, Nat.reduceLeDiff, Nat.reduceLT, ↓reduceIte, reduceCtorEq, Int.reduceEq, Int.reduceLE, Int.reduceLT, Int.reduceToNat, Int.reduceNeg, Int.reduceSub, Int.reduceAdd, Int.reduceMul, ltT, ltF, leT, leF, neF, catT, mkT, appT, wrap_id, List.length_map, Int.toNat_natCast, hl]
theorem laws_eqIns_ok (x : Ins) : call tab laws_eqIns [x.x, x.x] = some (B true) := by
  rw [call_of t_laws_eqIns _ rfl, c_laws_eqIns]
  simp only [go_sem, Nat.reduceEqDiff, Nat.reduceBEq, Nat.reduceAdd, Nat.reduceSub, Nat.reduceMul, Nat.reduceLeDiff, Nat.reduceLT, ↓reduceIte, reduceCtorEq, Int.reduceEq, Int.reduceLE, Int.reduceLT, Int.reduceToNat, Int.reduceNeg, Int.reduceSub, Int.reduceAdd, Int.reduceMul, Ins.x]
theorem laws_szInsS_ok (xs : List Ins) (n : Int) (hn : -1 ≤ n ∧ n ≤ 1048576) (hx : xs.length ≤ 4611686018427387904) : call tab laws_szInsS [insX xs, I n] = some (I (if n - xs.length < 0 then -1 else n - xs.length)) := by
  rw [call_of t_laws_szInsS _ rfl, c_laws_szInsS]
  by_cases h : n - (xs.length : Int) < 0
  · rw [if_pos h]
    simp (disch := (first | omega | assumption | (refine ⟨?_, ?_⟩ <;> omega) | (unfold catOk; (try simp only [ByteArray.size_append, size_lit, List.length_cons, List.length_nil]); omega) | (unfold mkOk; omega) | (unfold appOk; (try simp only [List.length_map, List.length_append, List.length_cons, List.length_nil]); omega))) only [go_sem, Nat.reduceEqDiff, Nat.reduceBEq, Nat.reduceAdd, Nat.reduceSub, Nat.reduceMul, Nat.reduceLeDiff, Nat.reduceLT, ↓reduceIte, reduceCtorEq, Int.reduceEq, Int.reduceLE, Int.reduceLT, Int.reduceToNat, Int.reduceNeg, Int.reduceSub, Int.reduceAdd, Int.reduceMul, ltT, ltF, leT, leF, neF, catT, mkT, appT, wrap_id, List.length_map, Int.toNat_natCast, h]
  · rw [if_neg h]
    simp (disch := (first | omega | assumption | (refine ⟨?_, ?_⟩ <;> omega) | (unfold catOk; (try simp only [ByteArray.size_append, size_lit, List.length_cons, List.length_nil]); omega) | (unfold mkOk; omega) | (unfold appOk; (try simp only [List.length_map, List.length_append, List.length_cons, List.length_nil]); omega))) only [go_sem, Nat.reduceEqDiff, Nat.reduceBEq, Nat.reduceAdd, Nat.reduceSub, Nat.reduceMul, Nat.reduceLeDiff, Nat.reduceLT, ↓reduceIte, reduceCtorEq, Int.reduceEq, Int.reduceLE, Int.reduceLT, Int.reduceToNat, Int.reduceNeg, Int.reduceSub, Int.reduceAdd, Int.reduceMul, ltT, ltF, leT, leF, neF, catT, mkT, appT, wrap_id, List.length_map, Int.toNat_natCast, h]
theorem laws_eqInsS_l0 (xs : List Ins) (hx : xs.length ≤ 1048576) : ∀ (rest done : List Ins), xs = done ++ rest →
    loopW tab [0, 1, 5] b_laws_eqInsS_0 { env := upd (upd (upd emp 5 (some (I (done.length : Int)))) 1 (some (insX xs))) 0 (some (insX xs)), heap := emp, fr := 0, next := 0 } = some (.ext 0, { env := emp, heap := emp, fr := 0, next := 0 })
  | [], done, h => by
    rw [List.append_nil] at h
    subst h
    unfold loopW
    conv => lhs; arg 1; unfold b_laws_eqInsS_0
    simp (disch := (first | omega | assumption | (refine ⟨?_, ?_⟩ <;> omega) | (unfold catOk; (try simp only [ByteArray.size_append, size_lit, List.length_cons, List.length_nil]); omega) | (unfold mkOk; omega) | (unfold appOk; (try simp only [List.length_map, List.length_append, List.length_cons, List.length_nil]); omega))) only [go_sem, Nat.reduceEqDiff, Nat.reduceBEq, Nat.reduceAdd, Nat.reduceSub, Nat.reduceMul, Nat.reduceLeDiff, Nat.reduceLT, ↓reduceIte, reduceCtorEq, Int.reduceEq, Int.reduceLE, Int.reduceLT, Int.reduceToNat, Int.reduceNeg, Int.reduceSub, Int.reduceAdd, Int.reduceMul, ltT, ltF, leT, leF, neF, catT, mkT, appT, wrap_id, List.length_map, Int.toNat_natCast]
  | x :: rest, done, h => by
    unfold loopW
    conv => lhs; arg 1; unfold b_laws_eqInsS_0
    have hl : xs.length = done.length + (rest.length + 1) := by rw [h]; simp
    have h2 : (xs.map Ins.enc)[done.length]? = some [DI x.Op, DI x.R, DI x.A, DI x.B, DI x.N, DI x.M] := by rw [h]; simp [Ins.enc]
    have h7 : call tab laws_eqIns [.agg [I x.Op, I x.R, I x.A, I x.B, I x.N, I x.M], .agg [I x.Op, I x.R, I x.A, I x.B, I x.N, I x.M]] = some (B true) := laws_eqIns_ok x
    have ih := laws_eqInsS_l0 xs hx rest (done ++ [x]) (by simp [h])
    rw [show (((done ++ [x]).length : Nat) : Int) = (done.length : Int) + 1 by simp] at ih
    simp (disch := (first | omega | assumption | (refine ⟨?_, ?_⟩ <;> omega) | (unfold catOk; (try simp only [ByteArray.size_append, size_lit, List.length_cons, List.length_nil]); omega) | (unfold mkOk; omega) | (unfold appOk; (try simp only [List.length_map, List.length_append, List.length_cons, List.length_nil]); omega))) only [go_sem, Nat.reduceEqDiff, Nat.reduceBEq, Nat.reduceAdd, Nat.reduceSub, Nat.reduceMul, Nat.reduceLeDiff, Nat.reduceLT, ↓reduceIte, reduceCtorEq, Int.reduceEq, Int.reduceLE, Int.reduceLT, Int.reduceToNat, Int.reduceNeg, Int.reduceSub, Int.reduceAdd, Int.reduceMul, ltT, ltF, leT, leF, neF, catT, mkT, appT, wrap_id, List.length_map, Int.toNat_natCast, h2, h7, ih]
theorem laws_eqInsS_ok (xs : List Ins) (hx : xs.length ≤ 1048576) : call tab laws_eqInsS [insX xs, insX xs] = some (B true) := by
  rw [call_of t_laws_eqInsS _ rfl, c_laws_eqInsS]
  have hl := laws_eqInsS_l0 xs hx xs [] rfl
  simp only [List.length_nil, Int.cast_ofNat_Int] at hl
  simp (disch := (first | omega | assumption | (refine ⟨?_, ?_⟩ <;> omega) | (unfold catOk; (try simp only [ByteArray.size_append, size_lit, List.length_cons, List.length_nil]); omega) | (unfold mkOk; omega) | (unfold appOk; (try simp only [List.length_map, List.length_append, List.length_cons, List.length_nil]); omega))) only [go_sem, Nat.reduceEqDiff, Nat.reduceBEq, Nat.reduceAdd, Nat.reduceSub, Nat.reduceMul, Nat.reduceLeDiff, Nat.reduceLT, ↓reduceIte, reduceCtorEq, Int.reduceEq, Int.reduceLE, Int.reduceLT, Int.reduceToNat, Int.reduceNeg, Int.reduceSub, Int.reduceAdd, Int.reduceMul, ltT, ltF, leT, leF, neF, catT, mkT, appT, wrap_id, List.length_map, Int.toNat_natCast, hl]
end Go.Ev.G
