/- The laws' own helpers on the type Body: written by genq.py. -/
import Derived.Test.YtonoomibdlhonaaEvQInt
import Derived.Test.YtonoomibdlhonaaEvQFrame
set_option linter.all false
namespace Go.Ev.G
set_option maxRecDepth 8000
set_option maxHeartbeats 4000000
structure TBody where
  fFrames : List TFrame
  fEnded : Bool
  fWaits : Bool
  fTicket : Int
  fValue : Int
  fCase : Int
  fDst : Int
  fTwo : Int
def TBody.r (x : TBody) : List D := [.r (x.fFrames.map TFrame.r), DB x.fEnded, DB x.fWaits, DI x.fTicket, DI x.fValue, DI x.fCase, DI x.fDst, DI x.fTwo]
def TBody.o (x : TBody) : List D := [.s 4 (x.fFrames.map TFrame.o), DB x.fEnded, DB x.fWaits, DI x.fTicket, DI x.fValue, DI x.fCase, DI x.fDst, DI x.fTwo]
abbrev TBody.x (x : TBody) : X := .agg [.d (.r (x.fFrames.map TFrame.r)), B x.fEnded, B x.fWaits, I x.fTicket, I x.fValue, I x.fCase, I x.fDst, I x.fTwo]
abbrev TBody.xo (x : TBody) : X := .agg [.d (.s 4 (x.fFrames.map TFrame.o)), B x.fEnded, B x.fWaits, I x.fTicket, I x.fValue, I x.fCase, I x.fDst, I x.fTwo]
theorem TBody.fzl (x : TBody) : fzl x.o = x.r := by simp only [TBody.o, TBody.r, Ev.fzl, D.fz, TFrame.fzs, fzs_numR]
theorem TBody.fzlr (x : TBody) : Ev.fzl x.r = x.r := by simp only [TBody.r, Ev.fzl, D.fz, TFrame.fzr, fzs_numR]
theorem TBody.fzs (xs : List TBody) : fzs (xs.map TBody.o) = xs.map TBody.r := fzs_map _ _ TBody.fzl xs
theorem TBody.fzr (xs : List TBody) : Ev.fzs (xs.map TBody.r) = xs.map TBody.r := fzs_map _ _ TBody.fzlr xs
theorem TBody.noR (xs : List TBody) : D.noR.noRss (xs.map TBody.o) = true := noRss_map _ (fun x => by simp only [TBody.o, D.noR.noRs, D.noR, Bool.and_true, Bool.true_and, TFrame.noR, noR_numR]) xs
def TBody.sz (x : TBody) : Int := TFrame.szs x.fFrames
theorem TBody.sz_nn (x : TBody) : 0 ≤ x.sz := by
  unfold TBody.sz; have := TFrame.szs_nn x.fFrames; omega
def TBody.szl : List TBody → Int
  | [] => 0
  | x :: xs => x.sz + TBody.szl xs
def TBody.szs (xs : List TBody) : Int := xs.length + TBody.szl xs
theorem TBody.szl_nn : ∀ xs : List TBody, 0 ≤ TBody.szl xs
  | [] => by simp [TBody.szl]
  | x :: xs => by simp only [TBody.szl]; have := x.sz_nn; have := TBody.szl_nn xs; omega
theorem TBody.szs_nn (xs : List TBody) : 0 ≤ TBody.szs xs ∧ (xs.length : Int) ≤ TBody.szs xs := by have := TBody.szl_nn xs; unfold TBody.szs; omega
theorem TBody.sz_le : ∀ {xs : List TBody} {x : TBody}, x ∈ xs → x.sz ≤ TBody.szl xs
  | y :: xs, x, h => by
    simp only [TBody.szl]
    have h1 := y.sz_nn; have h2 := TBody.szl_nn xs
    rcases List.mem_cons.1 h with rfl | h
    · omega
    · have := TBody.sz_le h; omega
def TBody.sm (x : TBody) : Prop := (x.fFrames.length ≤ 1048576 ∧ ∀ y ∈ x.fFrames, y.sm)
theorem TBody.sm_of {x : TBody} (h : x.sz ≤ 1048576) : x.sm := by
  unfold TBody.sz at h
  unfold TBody.sm
  have := TFrame.szs_nn x.fFrames
  exact ⟨by omega, fun y hy => TFrame.sm_of (by have := TFrame.sz_le hy; unfold TFrame.szs at *; omega)⟩
theorem TBody.sms_of {xs : List TBody} (h : TBody.szs xs ≤ 1048576) : xs.length ≤ 1048576 ∧ ∀ y ∈ xs, y.sm := by
  have := TBody.szl_nn xs
  unfold TBody.szs at h
  exact ⟨by omega, fun y hy => TBody.sm_of (by have := TBody.sz_le hy; omega)⟩
structure TBody.ok (x : TBody) : Prop where
  fFrames : x.fFrames.length ≤ 140737488351232 ∧ ∀ y ∈ x.fFrames, y.ok
  fEnded : True
  fWaits : True
  fTicket : i64 x.fTicket
  fValue : i64 x.fValue
  fCase : i64 x.fCase
  fDst : i64 x.fDst
  fTwo : i64 x.fTwo
theorem TBody.fit {c : List D} (h : fitL [.l 48 [.i .i64, .i .i64, .l 8 [.i .i64], .i .i64], .b, .b, .i .i64, .i .i64, .i .i64, .i .i64, .i .i64] c) : ∃ x : TBody, c = x.r ∧ x.ok := by
  simp only [fitL] at h
  obtain ⟨_, _, rfl, h0, _, _, rfl, h1, _, _, rfl, h2, _, _, rfl, h3, _, _, rfl, h4, _, _, rfl, h5, _, _, rfl, h6, _, _, rfl, h7, rfl⟩ := h
  rw [Ev.fit] at h0; obtain ⟨e0, rfl, b0, c0⟩ := h0; obtain ⟨a0, rfl, g0⟩ := fit_all (fun c hc => TFrame.fit hc) c0; rw [List.length_map] at b0
  rw [Ev.fit] at h1; obtain ⟨a1, rfl⟩ := h1
  rw [Ev.fit] at h2; obtain ⟨a2, rfl⟩ := h2
  rw [Ev.fit] at h3; obtain ⟨a3, rfl, g3⟩ := h3
  rw [Ev.fit] at h4; obtain ⟨a4, rfl, g4⟩ := h4
  rw [Ev.fit] at h5; obtain ⟨a5, rfl, g5⟩ := h5
  rw [Ev.fit] at h6; obtain ⟨a6, rfl, g6⟩ := h6
  rw [Ev.fit] at h7; obtain ⟨a7, rfl, g7⟩ := h7
  exact ⟨⟨a0, a1, a2, a3, a4, a5, a6, a7⟩, rfl, ⟨⟨(by omega : a0.length ≤ 140737488351232), g0⟩, trivial, trivial, wf64 g3, wf64 g4, wf64 g5, wf64 g6, wf64 g7⟩⟩
def TBody.mk_ (k : Int) (x : TBody) : TBody := ⟨TFrame.mks (k) x.fFrames, decide ((k + TFrame.cts x.fFrames).tmod 3 = 0), decide ((k + TFrame.cts x.fFrames + 1).tmod 3 = 0), k + TFrame.cts x.fFrames + 1 + 1, k + TFrame.cts x.fFrames + 1 + 1 + 1, k + TFrame.cts x.fFrames + 1 + 1 + 1 + 1, k + TFrame.cts x.fFrames + 1 + 1 + 1 + 1 + 1, k + TFrame.cts x.fFrames + 1 + 1 + 1 + 1 + 1 + 1⟩
def TBody.ct (x : TBody) : Int := TFrame.cts x.fFrames + 1 + 1 + 1 + 1 + 1 + 1 + 1
theorem TBody.ct_nn (x : TBody) : 1 ≤ x.ct := by
  unfold TBody.ct; have := TFrame.cts_nn x.fFrames; omega
def TBody.mks : Int → List TBody → List TBody
  | _, [] => []
  | k, x :: xs => TBody.mk_ k x :: TBody.mks (k + x.ct) xs
def TBody.cts : List TBody → Int
  | [] => 0
  | x :: xs => x.ct + TBody.cts xs
theorem TBody.cts_nn : ∀ xs : List TBody, (xs.length : Int) ≤ TBody.cts xs
  | [] => by simp [TBody.cts]
  | x :: xs => by simp only [TBody.cts, List.length_cons]; have := x.ct_nn; have := TBody.cts_nn xs; omega
theorem TBody.mks_len : ∀ (k : Int) (xs : List TBody), (TBody.mks k xs).length = xs.length
  | _, [] => rfl
  | k, x :: xs => by simp [TBody.mks, TBody.mks_len (k + x.ct) xs]
theorem TBody.ct_le (x : TBody) : x.ct ≤ 64 + 64 * x.sz := by
  unfold TBody.ct TBody.sz; have := TFrame.cts_le x.fFrames; have := TFrame.szs_nn x.fFrames; omega
theorem TBody.cts_le : ∀ xs : List TBody, TBody.cts xs ≤ 64 * TBody.szs xs
  | [] => by simp [TBody.cts, TBody.szs, TBody.szl]
  | x :: xs => by
    have h1 := x.ct_le; have h2 := TBody.cts_le xs
    simp only [TBody.cts, TBody.szs, TBody.szl, List.length_cons] at *; omega
def TBody.mkv (k : Int) (x : TBody) : TBody := ⟨TFrame.mks (k) x.fFrames, x.fEnded, x.fWaits, x.fTicket, x.fValue, x.fCase, x.fDst, x.fTwo⟩
def TBody.ctv (x : TBody) : Int := TFrame.cts x.fFrames
theorem TBody.ctv_le (x : TBody) : x.ctv ≤ 64 * x.sz := by
  unfold TBody.ctv TBody.sz; have := TFrame.cts_le x.fFrames; have := TFrame.szs_nn x.fFrames; omega
theorem laws_toBody_ok (x : TBody) (hx : x.sm) : call tab laws_toBody [x.x] = some x.xo := by
  simp only [TBody.sm] at hx
  have t0 := laws_toFrameS_ok x.fFrames (by first | exact hx | exact hx.1 | exact hx.2 | exact hx.2.1 | exact hx.2.2 | exact hx.2.2.1 | exact hx.2.2.2 | exact hx.2.2.2.1)
  rw [call_of t_laws_toBody _ rfl, c_laws_toBody]
  simp (maxSteps := 2000000) (implicitDefEqProofs := false) (disch := (first | omega | assumption | (refine ⟨?_, ?_⟩ <;> omega) | (unfold catOk; (try simp only [ByteArray.size_append, size_lit, List.length_cons, List.length_nil]); omega) | (unfold mkOk; omega) | (unfold appOk; (try simp only [List.length_map, List.length_append, List.length_cons, List.length_nil]); omega))) only [go_sem, Nat.reduceEqDiff, Nat.reduceBEq, Nat.reduceAdd, Nat.reduceSub, Nat.reduceMul, Nat.reduceLeDiff, Nat.reduceLT, ↓reduceIte, reduceCtorEq, Int.reduceEq, Int.reduceLE, Int.reduceLT, Int.reduceToNat, Int.reduceNeg, Int.reduceSub, Int.reduceAdd, Int.reduceMul, ltT, ltF, leT, leF, neF, catT, mkT, appT, wrap_id, List.length_map, Int.toNat_natCast, TBody.x, TBody.xo, t0]
theorem laws_eqBody_ok (x : TBody) (hx : x.sm) : call tab laws_eqBody [x.x, x.x] = some (B true) := by
  simp only [TBody.sm] at hx
  have t0 := laws_eqFrameS_ok x.fFrames (by first | exact hx | exact hx.1 | exact hx.2 | exact hx.2.1 | exact hx.2.2 | exact hx.2.2.1 | exact hx.2.2.2 | exact hx.2.2.2.1)
  rw [call_of t_laws_eqBody _ rfl, c_laws_eqBody]
  simp (maxSteps := 2000000) (implicitDefEqProofs := false) (disch := (first | omega | assumption | (refine ⟨?_, ?_⟩ <;> omega) | (unfold catOk; (try simp only [ByteArray.size_append, size_lit, List.length_cons, List.length_nil]); omega) | (unfold mkOk; omega) | (unfold appOk; (try simp only [List.length_map, List.length_append, List.length_cons, List.length_nil]); omega))) only [go_sem, Nat.reduceEqDiff, Nat.reduceBEq, Nat.reduceAdd, Nat.reduceSub, Nat.reduceMul, Nat.reduceLeDiff, Nat.reduceLT, ↓reduceIte, reduceCtorEq, Int.reduceEq, Int.reduceLE, Int.reduceLT, Int.reduceToNat, Int.reduceNeg, Int.reduceSub, Int.reduceAdd, Int.reduceMul, ltT, ltF, leT, leF, neF, catT, mkT, appT, wrap_id, List.length_map, Int.toNat_natCast, TBody.x, t0]
theorem laws_szBody_ok (x : TBody) (n : Int) (hn : 0 ≤ n ∧ n ≤ 1048576) (hx : x.ok) : call tab laws_szBody [x.x, I n] = some (I (if n < x.sz then -1 else n - x.sz)) := by
  rw [call_of t_laws_szBody _ rfl, c_laws_szBody]
  have hsz : x.sz = TFrame.szs x.fFrames := rfl
  rw [hsz]
  have b0 := hx.fFrames.1
  have z0 := TFrame.szs_nn x.fFrames
  have f0 := laws_szFrameS_ok x.fFrames (n) (by omega) hx.fFrames
  by_cases c0 : n - TFrame.szs x.fFrames < 0
  · rw [if_pos (by omega)] at f0
    rw [if_pos (show n < TFrame.szs x.fFrames by omega)]
    simp (maxSteps := 2000000) (implicitDefEqProofs := false) (disch := (first | omega | assumption | (refine ⟨?_, ?_⟩ <;> omega) | (unfold catOk; (try simp only [ByteArray.size_append, size_lit, List.length_cons, List.length_nil]); omega) | (unfold mkOk; omega) | (unfold appOk; (try simp only [List.length_map, List.length_append, List.length_cons, List.length_nil]); omega))) only [go_sem, Nat.reduceEqDiff, Nat.reduceBEq, Nat.reduceAdd, Nat.reduceSub, Nat.reduceMul, Nat.reduceLeDiff, Nat.reduceLT, ↓reduceIte, reduceCtorEq, Int.reduceEq, Int.reduceLE, Int.reduceLT, Int.reduceToNat, Int.reduceNeg, Int.reduceSub, Int.reduceAdd, Int.reduceMul, ltT, ltF, leT, leF, neF, catT, mkT, appT, wrap_id, List.length_map, Int.toNat_natCast, TBody.x, c0, f0]
  · rw [if_neg (by omega)] at f0
    rw [if_neg (show ¬ n < TFrame.szs x.fFrames by omega)]
    simp (maxSteps := 2000000) (implicitDefEqProofs := false) (disch := (first | omega | assumption | (refine ⟨?_, ?_⟩ <;> omega) | (unfold catOk; (try simp only [ByteArray.size_append, size_lit, List.length_cons, List.length_nil]); omega) | (unfold mkOk; omega) | (unfold appOk; (try simp only [List.length_map, List.length_append, List.length_cons, List.length_nil]); omega))) only [go_sem, Nat.reduceEqDiff, Nat.reduceBEq, Nat.reduceAdd, Nat.reduceSub, Nat.reduceMul, Nat.reduceLeDiff, Nat.reduceLT, ↓reduceIte, reduceCtorEq, Int.reduceEq, Int.reduceLE, Int.reduceLT, Int.reduceToNat, Int.reduceNeg, Int.reduceSub, Int.reduceAdd, Int.reduceMul, ltT, ltF, leT, leF, neF, catT, mkT, appT, wrap_id, List.length_map, Int.toNat_natCast, TBody.x, f0, c0]
end Go.Ev.G
