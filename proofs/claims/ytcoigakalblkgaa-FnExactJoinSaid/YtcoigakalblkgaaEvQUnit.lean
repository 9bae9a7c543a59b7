/- The laws' own helpers on the type Unit: written by genq.py. -/
import Derived.Test.YtcoigakalblkgaaEvQInt
import Derived.Test.YtcoigakalblkgaaEvQText
import Derived.Test.YtcoigakalblkgaaEvQTac
set_option linter.all false
namespace Go.Ev.G
set_option maxRecDepth 8000
set_option maxHeartbeats 4000000
structure TUnit where
  fName : ByteArray
  fParams : Int
  fRegs : Int
  fCode : List TTac
def TUnit.r (x : TUnit) : List D := [DS x.fName, DI x.fParams, DI x.fRegs, .r (x.fCode.map TTac.r)]
def TUnit.o (x : TUnit) : List D := [DS x.fName, DI x.fParams, DI x.fRegs, .s 7 (x.fCode.map TTac.o)]
abbrev TUnit.x (x : TUnit) : X := .agg [Str x.fName, I x.fParams, I x.fRegs, .d (.r (x.fCode.map TTac.r))]
abbrev TUnit.xo (x : TUnit) : X := .agg [Str x.fName, I x.fParams, I x.fRegs, .d (.s 7 (x.fCode.map TTac.o))]
theorem TUnit.fzl (x : TUnit) : fzl x.o = x.r := by simp only [TUnit.o, TUnit.r, Ev.fzl, D.fz, TTac.fzs, fzs_numR]
theorem TUnit.fzs (xs : List TUnit) : fzs (xs.map TUnit.o) = xs.map TUnit.r := fzs_map _ _ TUnit.fzl xs
theorem TUnit.noR (xs : List TUnit) : D.noR.noRss (xs.map TUnit.o) = true := noRss_map _ (fun x => by simp only [TUnit.o, D.noR.noRs, D.noR, Bool.and_true, Bool.true_and, TTac.noR, noR_numR]) xs
def TUnit.sz (x : TUnit) : Int := (x.fName.size : Int) + TTac.szs x.fCode
theorem TUnit.sz_nn (x : TUnit) : 0 ≤ x.sz := by
  unfold TUnit.sz; have := TTac.szs_nn x.fCode; omega
def TUnit.szl : List TUnit → Int
  | [] => 0
  | x :: xs => x.sz + TUnit.szl xs
def TUnit.szs (xs : List TUnit) : Int := xs.length + TUnit.szl xs
theorem TUnit.szl_nn : ∀ xs : List TUnit, 0 ≤ TUnit.szl xs
  | [] => by simp [TUnit.szl]
  | x :: xs => by simp only [TUnit.szl]; have := x.sz_nn; have := TUnit.szl_nn xs; omega
theorem TUnit.szs_nn (xs : List TUnit) : 0 ≤ TUnit.szs xs ∧ (xs.length : Int) ≤ TUnit.szs xs := by have := TUnit.szl_nn xs; unfold TUnit.szs; omega
theorem TUnit.sz_le : ∀ {xs : List TUnit} {x : TUnit}, x ∈ xs → x.sz ≤ TUnit.szl xs
  | y :: xs, x, h => by
    simp only [TUnit.szl]
    have h1 := y.sz_nn; have h2 := TUnit.szl_nn xs
    rcases List.mem_cons.1 h with rfl | h
    · omega
    · have := TUnit.sz_le h; omega
def TUnit.sm (x : TUnit) : Prop := x.fName.size ≤ 1048576 ∧ (x.fCode.length ≤ 1048576 ∧ ∀ y ∈ x.fCode, y.sm)
theorem TUnit.sm_of {x : TUnit} (h : x.sz ≤ 1048576) : x.sm := by
  unfold TUnit.sz at h
  unfold TUnit.sm
  have := TTac.szs_nn x.fCode
  exact ⟨by omega, ⟨by omega, fun y hy => TTac.sm_of (by have := TTac.sz_le hy; unfold TTac.szs at *; omega)⟩⟩
structure TUnit.ok (x : TUnit) : Prop where
  fName : x.fName.size ≤ 140737488351232
  fParams : i64 x.fParams
  fRegs : i64 x.fRegs
  fCode : x.fCode.length ≤ 140737488351232 ∧ ∀ y ∈ x.fCode, y.ok
theorem TUnit.fit {c : List D} (h : fitL [.s, .i .i64, .i .i64, .l 80 [.i .i64, .i .i64, .i .i64, .i .i64, .i .i64, .s, .l 8 [.i .i64]]] c) : ∃ x : TUnit, c = x.r ∧ x.ok := by
  simp only [fitL] at h
  obtain ⟨_, _, rfl, h0, _, _, rfl, h1, _, _, rfl, h2, _, _, rfl, h3, rfl⟩ := h
  rw [Ev.fit] at h0; obtain ⟨a0, rfl, g0⟩ := h0
  rw [Ev.fit] at h1; obtain ⟨a1, rfl, g1⟩ := h1
  rw [Ev.fit] at h2; obtain ⟨a2, rfl, g2⟩ := h2
  rw [Ev.fit] at h3; obtain ⟨e3, rfl, b3, c3⟩ := h3; obtain ⟨a3, rfl, g3⟩ := fit_all (fun c hc => TTac.fit hc) c3; rw [List.length_map] at b3
  exact ⟨⟨a0, a1, a2, a3⟩, rfl, ⟨g0, wf64 g1, wf64 g2, ⟨(by omega : a3.length ≤ 140737488351232), g3⟩⟩⟩
def TUnit.mk_ (k : Int) (x : TUnit) : TUnit := ⟨mtxt (k), k + 1, k + 1 + 1, TTac.mks (k + 1 + 1 + 1) x.fCode⟩
def TUnit.ct (x : TUnit) : Int := 1 + 1 + 1 + TTac.cts x.fCode
theorem TUnit.ct_nn (x : TUnit) : 1 ≤ x.ct := by
  unfold TUnit.ct; have := TTac.cts_nn x.fCode; omega
def TUnit.mks : Int → List TUnit → List TUnit
  | _, [] => []
  | k, x :: xs => TUnit.mk_ k x :: TUnit.mks (k + x.ct) xs
def TUnit.cts : List TUnit → Int
  | [] => 0
  | x :: xs => x.ct + TUnit.cts xs
theorem TUnit.cts_nn : ∀ xs : List TUnit, (xs.length : Int) ≤ TUnit.cts xs
  | [] => by simp [TUnit.cts]
  | x :: xs => by simp only [TUnit.cts, List.length_cons]; have := x.ct_nn; have := TUnit.cts_nn xs; omega
theorem TUnit.mks_len : ∀ (k : Int) (xs : List TUnit), (TUnit.mks k xs).length = xs.length
  | _, [] => rfl
  | k, x :: xs => by simp [TUnit.mks, TUnit.mks_len (k + x.ct) xs]
theorem TUnit.ct_le (x : TUnit) : x.ct ≤ 64 + 64 * x.sz := by
  unfold TUnit.ct TUnit.sz; have := TTac.cts_le x.fCode; have := TTac.szs_nn x.fCode; omega
theorem TUnit.cts_le : ∀ xs : List TUnit, TUnit.cts xs ≤ 64 * TUnit.szs xs
  | [] => by simp [TUnit.cts, TUnit.szs, TUnit.szl]
  | x :: xs => by
    have h1 := x.ct_le; have h2 := TUnit.cts_le xs
    simp only [TUnit.cts, TUnit.szs, TUnit.szl, List.length_cons] at *; omega
def TUnit.mkv (k : Int) (x : TUnit) : TUnit := ⟨x.fName, x.fParams, x.fRegs, TTac.mks (k) x.fCode⟩
def TUnit.ctv (x : TUnit) : Int := TTac.cts x.fCode
theorem TUnit.ctv_le (x : TUnit) : x.ctv ≤ 64 * x.sz := by
  unfold TUnit.ctv TUnit.sz; have := TTac.cts_le x.fCode; have := TTac.szs_nn x.fCode; omega
theorem laws_toUnit_ok (x : TUnit) (hx : x.sm) : call tab laws_toUnit [x.x] = some x.xo := by
  simp only [TUnit.sm] at hx
  have t0 := laws_toTacS_ok x.fCode (by first | exact hx | exact hx.1 | exact hx.2 | exact hx.2.1 | exact hx.2.2 | exact hx.2.2.1 | exact hx.2.2.2 | exact hx.2.2.2.1)
  rw [call_of t_laws_toUnit _ rfl, c_laws_toUnit]
  simp (maxSteps := 2000000) (implicitDefEqProofs := false) (disch := (first | omega | assumption | (refine ⟨?_, ?_⟩ <;> omega) | (unfold catOk; (try simp only [ByteArray.size_append, size_lit, List.length_cons, List.length_nil]); omega) | (unfold mkOk; omega) | (unfold appOk; (try simp only [List.length_map, List.length_append, List.length_cons, List.length_nil]); omega))) only [go_sem, Nat.reduceEqDiff, Nat.reduceBEq, Nat.reduceAdd, Nat.reduceSub, Nat.reduceMul, Nat.reduceLeDiff, Nat.reduceLT, ↓reduceIte, reduceCtorEq, Int.reduceEq, Int.reduceLE, Int.reduceLT, Int.reduceToNat, Int.reduceNeg, Int.reduceSub, Int.reduceAdd, Int.reduceMul, ltT, ltF, leT, leF, neF, catT, mkT, appT, wrap_id, List.length_map, Int.toNat_natCast, TUnit.x, TUnit.xo, t0]
theorem laws_eqUnit_ok (x : TUnit) (hx : x.sm) : call tab laws_eqUnit [x.x, x.x] = some (B true) := by
  simp only [TUnit.sm] at hx
  have t0 := laws_eqTacS_ok x.fCode (by first | exact hx | exact hx.1 | exact hx.2 | exact hx.2.1 | exact hx.2.2 | exact hx.2.2.1 | exact hx.2.2.2 | exact hx.2.2.2.1)
  rw [call_of t_laws_eqUnit _ rfl, c_laws_eqUnit]
  simp (maxSteps := 2000000) (implicitDefEqProofs := false) (disch := (first | omega | assumption | (refine ⟨?_, ?_⟩ <;> omega) | (unfold catOk; (try simp only [ByteArray.size_append, size_lit, List.length_cons, List.length_nil]); omega) | (unfold mkOk; omega) | (unfold appOk; (try simp only [List.length_map, List.length_append, List.length_cons, List.length_nil]); omega))) only [go_sem, Nat.reduceEqDiff, Nat.reduceBEq, Nat.reduceAdd, Nat.reduceSub, Nat.reduceMul, Nat.reduceLeDiff, Nat.reduceLT, ↓reduceIte, reduceCtorEq, Int.reduceEq, Int.reduceLE, Int.reduceLT, Int.reduceToNat, Int.reduceNeg, Int.reduceSub, Int.reduceAdd, Int.reduceMul, ltT, ltF, leT, leF, neF, catT, mkT, appT, wrap_id, List.length_map, Int.toNat_natCast, TUnit.x, t0]
theorem laws_szUnit_ok (x : TUnit) (n : Int) (hn : 0 ≤ n ∧ n ≤ 1048576) (hx : x.ok) : call tab laws_szUnit [x.x, I n] = some (I (if n < x.sz then -1 else n - x.sz)) := by
  rw [call_of t_laws_szUnit _ rfl, c_laws_szUnit]
  have hsz : x.sz = (x.fName.size : Int) + TTac.szs x.fCode := rfl
  rw [hsz]
  have b0 := hx.fName
  have b1 := hx.fCode.1
  have z1 := TTac.szs_nn x.fCode
  by_cases c0 : n - (x.fName.size : Int) < 0
  · rw [if_pos (show n < (x.fName.size : Int) + TTac.szs x.fCode by omega)]
    simp (maxSteps := 2000000) (implicitDefEqProofs := false) (disch := (first | omega | assumption | (refine ⟨?_, ?_⟩ <;> omega) | (unfold catOk; (try simp only [ByteArray.size_append, size_lit, List.length_cons, List.length_nil]); omega) | (unfold mkOk; omega) | (unfold appOk; (try simp only [List.length_map, List.length_append, List.length_cons, List.length_nil]); omega))) only [go_sem, Nat.reduceEqDiff, Nat.reduceBEq, Nat.reduceAdd, Nat.reduceSub, Nat.reduceMul, Nat.reduceLeDiff, Nat.reduceLT, ↓reduceIte, reduceCtorEq, Int.reduceEq, Int.reduceLE, Int.reduceLT, Int.reduceToNat, Int.reduceNeg, Int.reduceSub, Int.reduceAdd, Int.reduceMul, ltT, ltF, leT, leF, neF, catT, mkT, appT, wrap_id, List.length_map, Int.toNat_natCast, TUnit.x, c0]
  · have f1 := laws_szTacS_ok x.fCode (n - (x.fName.size : Int)) (by omega) hx.fCode
    by_cases c1 : n - (x.fName.size : Int) - TTac.szs x.fCode < 0
    · rw [if_pos (by omega)] at f1
      rw [if_pos (show n < (x.fName.size : Int) + TTac.szs x.fCode by omega)]
      simp (maxSteps := 2000000) (implicitDefEqProofs := false) (disch := (first | omega | assumption | (refine ⟨?_, ?_⟩ <;> omega) | (unfold catOk; (try simp only [ByteArray.size_append, size_lit, List.length_cons, List.length_nil]); omega) | (unfold mkOk; omega) | (unfold appOk; (try simp only [List.length_map, List.length_append, List.length_cons, List.length_nil]); omega))) only [go_sem, Nat.reduceEqDiff, Nat.reduceBEq, Nat.reduceAdd, Nat.reduceSub, Nat.reduceMul, Nat.reduceLeDiff, Nat.reduceLT, ↓reduceIte, reduceCtorEq, Int.reduceEq, Int.reduceLE, Int.reduceLT, Int.reduceToNat, Int.reduceNeg, Int.reduceSub, Int.reduceAdd, Int.reduceMul, ltT, ltF, leT, leF, neF, catT, mkT, appT, wrap_id, List.length_map, Int.toNat_natCast, TUnit.x, c0, c1, f1]
    · rw [if_neg (by omega)] at f1
      rw [if_neg (show ¬ n < (x.fName.size : Int) + TTac.szs x.fCode by omega)]
      rw [show n - ((x.fName.size : Int) + TTac.szs x.fCode) = n - (x.fName.size : Int) - TTac.szs x.fCode by omega]
      simp (maxSteps := 2000000) (implicitDefEqProofs := false) (disch := (first | omega | assumption | (refine ⟨?_, ?_⟩ <;> omega) | (unfold catOk; (try simp only [ByteArray.size_append, size_lit, List.length_cons, List.length_nil]); omega) | (unfold mkOk; omega) | (unfold appOk; (try simp only [List.length_map, List.length_append, List.length_cons, List.length_nil]); omega))) only [go_sem, Nat.reduceEqDiff, Nat.reduceBEq, Nat.reduceAdd, Nat.reduceSub, Nat.reduceMul, Nat.reduceLeDiff, Nat.reduceLT, ↓reduceIte, reduceCtorEq, Int.reduceEq, Int.reduceLE, Int.reduceLT, Int.reduceToNat, Int.reduceNeg, Int.reduceSub, Int.reduceAdd, Int.reduceMul, ltT, ltF, leT, leF, neF, catT, mkT, appT, wrap_id, List.length_map, Int.toNat_natCast, TUnit.x, c0, f1, c1]
theorem laws_markUnit_ok (x : TUnit) (k : Int) (h : x.ctv ≤ 1099511627776) (hk : 0 ≤ k ∧ k + x.ctv ≤ 4611686018427387904) : evCW tab laws_markUnit [.agg [Str x.fName, I x.fParams, I x.fRegs, .ref (0, 0) []], I k] (upd emp (0, 0) (some (.s 7 (x.fCode.map TTac.o)))) 1 = some (I (k + x.ctv), upd emp (0, 0) (some (.s 7 ((TTac.mks (k) x.fCode).map TTac.o)))) := by
  rw [evCW_of t_laws_markUnit _ _ _ rfl, c_laws_markUnit]
  have n0 := TTac.cts_nn x.fCode
  unfold TUnit.ctv at h hk
  have f0 := laws_markTacS_ok x.fCode (k) (by omega) (by omega)
  unfold TUnit.ctv
  try simp only [← Int.add_assoc]
  simp (maxSteps := 2000000) (implicitDefEqProofs := false) (disch := (first | omega | assumption | (refine ⟨?_, ?_⟩ <;> omega) | (unfold catOk; (try simp only [ByteArray.size_append, size_lit, List.length_cons, List.length_nil]); omega) | (unfold mkOk; omega) | (unfold appOk; (try simp only [List.length_map, List.length_append, List.length_cons, List.length_nil]); omega))) only [go_sem, Nat.reduceEqDiff, Nat.reduceBEq, Nat.reduceAdd, Nat.reduceSub, Nat.reduceMul, Nat.reduceLeDiff, Nat.reduceLT, ↓reduceIte, reduceCtorEq, Int.reduceEq, Int.reduceLE, Int.reduceLT, Int.reduceToNat, Int.reduceNeg, Int.reduceSub, Int.reduceAdd, Int.reduceMul, ltT, ltF, leT, leF, neF, catT, mkT, appT, wrap_id, List.length_map, Int.toNat_natCast, f0]
theorem laws_heldUnit_ok (x : TUnit) (k : Int) (h : x.ctv ≤ 1099511627776) (hk : 0 ≤ k ∧ k + x.ctv ≤ 4611686018427387904) : call tab laws_heldUnit [(x.mkv k).x, I k] = some (I (k + x.ctv)) := by
  rw [call_of t_laws_heldUnit _ rfl, c_laws_heldUnit]
  have n0 := TTac.cts_nn x.fCode
  unfold TUnit.ctv at h hk
  have f0 := laws_heldTacS_ok x.fCode (k) (by omega) (by omega)
  unfold TUnit.ctv
  simp only [TUnit.x, TUnit.mkv]
  try simp only [← Int.add_assoc]
  simp (maxSteps := 2000000) (implicitDefEqProofs := false) (disch := (first | omega | assumption | (refine ⟨?_, ?_⟩ <;> omega) | (unfold catOk; (try simp only [ByteArray.size_append, size_lit, List.length_cons, List.length_nil]); omega) | (unfold mkOk; omega) | (unfold appOk; (try simp only [List.length_map, List.length_append, List.length_cons, List.length_nil]); omega))) only [go_sem, Nat.reduceEqDiff, Nat.reduceBEq, Nat.reduceAdd, Nat.reduceSub, Nat.reduceMul, Nat.reduceLeDiff, Nat.reduceLT, ↓reduceIte, reduceCtorEq, Int.reduceEq, Int.reduceLE, Int.reduceLT, Int.reduceToNat, Int.reduceNeg, Int.reduceSub, Int.reduceAdd, Int.reduceMul, ltT, ltF, leT, leF, neF, catT, mkT, appT, wrap_id, List.length_map, Int.toNat_natCast, f0]
end Go.Ev.G
