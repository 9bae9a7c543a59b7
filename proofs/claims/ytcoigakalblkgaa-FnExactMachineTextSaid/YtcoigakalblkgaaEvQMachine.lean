/- The laws' own helpers on the type Machine: written by genq.py. -/
import Derived.Test.YtcoigakalblkgaaEvQInt
import Derived.Test.YtcoigakalblkgaaEvQIns
import Derived.Test.YtcoigakalblkgaaEvQCore
import Derived.Test.YtcoigakalblkgaaEvQNote
set_option linter.all false
namespace Go.Ev.G
set_option maxRecDepth 8000
set_option maxHeartbeats 4000000
structure TMachine where
  fImage : List TIns
  fMem : List Int
  fCores : List TCore
  fOut : List Int
  fNotes : List TNote
  fOver : Bool
  fCode : Int
def TMachine.r (x : TMachine) : List D := [.r (x.fImage.map TIns.r), .r (numR x.fMem), .r (x.fCores.map TCore.r), .r (numR x.fOut), .r (x.fNotes.map TNote.r), DB x.fOver, DI x.fCode]
def TMachine.o (x : TMachine) : List D := [.s 6 (x.fImage.map TIns.o), .s 1 (numR x.fMem), .s 3 (x.fCores.map TCore.o), .s 1 (numR x.fOut), .s 2 (x.fNotes.map TNote.o), DB x.fOver, DI x.fCode]
abbrev TMachine.x (x : TMachine) : X := .agg [.d (.r (x.fImage.map TIns.r)), .d (.r (numR x.fMem)), .d (.r (x.fCores.map TCore.r)), .d (.r (numR x.fOut)), .d (.r (x.fNotes.map TNote.r)), B x.fOver, I x.fCode]
abbrev TMachine.xo (x : TMachine) : X := .agg [.d (.s 6 (x.fImage.map TIns.o)), .d (.s 1 (numR x.fMem)), .d (.s 3 (x.fCores.map TCore.o)), .d (.s 1 (numR x.fOut)), .d (.s 2 (x.fNotes.map TNote.o)), B x.fOver, I x.fCode]
theorem TMachine.fzl (x : TMachine) : fzl x.o = x.r := by simp only [TMachine.o, TMachine.r, Ev.fzl, D.fz, TCore.fzs, TIns.fzs, TNote.fzs, fzs_numR]
theorem TMachine.fzlr (x : TMachine) : Ev.fzl x.r = x.r := by simp only [TMachine.r, Ev.fzl, D.fz, TCore.fzr, TIns.fzr, TNote.fzr, fzs_numR]
theorem TMachine.fzs (xs : List TMachine) : fzs (xs.map TMachine.o) = xs.map TMachine.r := fzs_map _ _ TMachine.fzl xs
theorem TMachine.fzr (xs : List TMachine) : Ev.fzs (xs.map TMachine.r) = xs.map TMachine.r := fzs_map _ _ TMachine.fzlr xs
theorem TMachine.noR (xs : List TMachine) : D.noR.noRss (xs.map TMachine.o) = true := noRss_map _ (fun x => by simp only [TMachine.o, D.noR.noRs, D.noR, Bool.and_true, Bool.true_and, TCore.noR, TIns.noR, TNote.noR, noR_numR]) xs
def TMachine.sz (x : TMachine) : Int := (x.fImage.length : Int) + (x.fMem.length : Int) + TCore.szs x.fCores + (x.fOut.length : Int) + (x.fNotes.length : Int)
theorem TMachine.sz_nn (x : TMachine) : 0 ≤ x.sz := by
  unfold TMachine.sz; have := TCore.szs_nn x.fCores; omega
def TMachine.szl : List TMachine → Int
  | [] => 0
  | x :: xs => x.sz + TMachine.szl xs
def TMachine.szs (xs : List TMachine) : Int := xs.length + TMachine.szl xs
theorem TMachine.szl_nn : ∀ xs : List TMachine, 0 ≤ TMachine.szl xs
  | [] => by simp [TMachine.szl]
  | x :: xs => by simp only [TMachine.szl]; have := x.sz_nn; have := TMachine.szl_nn xs; omega
theorem TMachine.szs_nn (xs : List TMachine) : 0 ≤ TMachine.szs xs ∧ (xs.length : Int) ≤ TMachine.szs xs := by have := TMachine.szl_nn xs; unfold TMachine.szs; omega
theorem TMachine.sz_le : ∀ {xs : List TMachine} {x : TMachine}, x ∈ xs → x.sz ≤ TMachine.szl xs
  | y :: xs, x, h => by
    simp only [TMachine.szl]
    have h1 := y.sz_nn; have h2 := TMachine.szl_nn xs
    rcases List.mem_cons.1 h with rfl | h
    · omega
    · have := TMachine.sz_le h; omega
def TMachine.sm (x : TMachine) : Prop := x.fImage.length ≤ 1048576 ∧ x.fMem.length ≤ 1048576 ∧ (x.fCores.length ≤ 1048576 ∧ ∀ y ∈ x.fCores, y.sm) ∧ x.fOut.length ≤ 1048576 ∧ x.fNotes.length ≤ 1048576
theorem TMachine.sm_of {x : TMachine} (h : x.sz ≤ 1048576) : x.sm := by
  unfold TMachine.sz at h
  unfold TMachine.sm
  have := TCore.szs_nn x.fCores
  exact ⟨by omega, by omega, ⟨by omega, fun y hy => TCore.sm_of (by have := TCore.sz_le hy; unfold TCore.szs at *; omega)⟩, by omega, by omega⟩
theorem TMachine.sms_of {xs : List TMachine} (h : TMachine.szs xs ≤ 1048576) : xs.length ≤ 1048576 ∧ ∀ y ∈ xs, y.sm := by
  have := TMachine.szl_nn xs
  unfold TMachine.szs at h
  exact ⟨by omega, fun y hy => TMachine.sm_of (by have := TMachine.sz_le hy; omega)⟩
structure TMachine.ok (x : TMachine) : Prop where
  fImage : x.fImage.length ≤ 140737488351232 ∧ ∀ y ∈ x.fImage, y.ok
  fMem : x.fMem.length ≤ 140737488351232 ∧ ∀ n ∈ x.fMem, i64 n
  fCores : x.fCores.length ≤ 140737488351232 ∧ ∀ y ∈ x.fCores, y.ok
  fOut : x.fOut.length ≤ 140737488351232 ∧ ∀ n ∈ x.fOut, i64 n
  fNotes : x.fNotes.length ≤ 140737488351232 ∧ ∀ y ∈ x.fNotes, y.ok
  fOver : True
  fCode : i64 x.fCode
theorem TMachine.fit {c : List D} (h : fitL [.l 48 [.i .i64, .i .i64, .i .i64, .i .i64, .i .i64, .i .i64], .l 8 [.i .i64], .l 40 [.i .i64, .i .i64, .l 8 [.i .i64]], .l 8 [.i .i64], .l 16 [.i .i64, .i .i64], .b, .i .i64] c) : ∃ x : TMachine, c = x.r ∧ x.ok := by
  simp only [fitL] at h
  obtain ⟨_, _, rfl, h0, _, _, rfl, h1, _, _, rfl, h2, _, _, rfl, h3, _, _, rfl, h4, _, _, rfl, h5, _, _, rfl, h6, rfl⟩ := h
  rw [Ev.fit] at h0; obtain ⟨e0, rfl, b0, c0⟩ := h0; obtain ⟨a0, rfl, g0⟩ := fit_all (fun c hc => TIns.fit hc) c0; rw [List.length_map] at b0
  rw [Ev.fit] at h1; obtain ⟨e1, rfl, b1, c1⟩ := h1; obtain ⟨a1, rfl, g1⟩ := fit_all (enc := fun n => [DI n]) (ok := i64) (fun c hc => fit_int hc) c1; rw [List.length_map] at b1
  rw [Ev.fit] at h2; obtain ⟨e2, rfl, b2, c2⟩ := h2; obtain ⟨a2, rfl, g2⟩ := fit_all (fun c hc => TCore.fit hc) c2; rw [List.length_map] at b2
  rw [Ev.fit] at h3; obtain ⟨e3, rfl, b3, c3⟩ := h3; obtain ⟨a3, rfl, g3⟩ := fit_all (enc := fun n => [DI n]) (ok := i64) (fun c hc => fit_int hc) c3; rw [List.length_map] at b3
  rw [Ev.fit] at h4; obtain ⟨e4, rfl, b4, c4⟩ := h4; obtain ⟨a4, rfl, g4⟩ := fit_all (fun c hc => TNote.fit hc) c4; rw [List.length_map] at b4
  rw [Ev.fit] at h5; obtain ⟨a5, rfl⟩ := h5
  rw [Ev.fit] at h6; obtain ⟨a6, rfl, g6⟩ := h6
  exact ⟨⟨a0, a1, a2, a3, a4, a5, a6⟩, rfl, ⟨⟨(by omega : a0.length ≤ 140737488351232), g0⟩, ⟨(by omega : a1.length ≤ 140737488351232), g1⟩, ⟨(by omega : a2.length ≤ 140737488351232), g2⟩, ⟨(by omega : a3.length ≤ 140737488351232), g3⟩, ⟨(by omega : a4.length ≤ 140737488351232), g4⟩, trivial, wf64 g6⟩⟩
def TMachine.mk_ (k : Int) (x : TMachine) : TMachine := ⟨TIns.mks (k) x.fImage, mkInt (k + TIns.cts x.fImage) x.fMem, TCore.mks (k + TIns.cts x.fImage + (x.fMem.length : Int)) x.fCores, mkInt (k + TIns.cts x.fImage + (x.fMem.length : Int) + TCore.cts x.fCores) x.fOut, TNote.mks (k + TIns.cts x.fImage + (x.fMem.length : Int) + TCore.cts x.fCores + (x.fOut.length : Int)) x.fNotes, decide ((k + TIns.cts x.fImage + (x.fMem.length : Int) + TCore.cts x.fCores + (x.fOut.length : Int) + TNote.cts x.fNotes).tmod 3 = 0), k + TIns.cts x.fImage + (x.fMem.length : Int) + TCore.cts x.fCores + (x.fOut.length : Int) + TNote.cts x.fNotes + 1⟩
def TMachine.ct (x : TMachine) : Int := TIns.cts x.fImage + (x.fMem.length : Int) + TCore.cts x.fCores + (x.fOut.length : Int) + TNote.cts x.fNotes + 1 + 1
theorem TMachine.ct_nn (x : TMachine) : 1 ≤ x.ct := by
  unfold TMachine.ct; have := TIns.cts_nn x.fImage; have := TCore.cts_nn x.fCores; have := TNote.cts_nn x.fNotes; omega
def TMachine.mks : Int → List TMachine → List TMachine
  | _, [] => []
  | k, x :: xs => TMachine.mk_ k x :: TMachine.mks (k + x.ct) xs
def TMachine.cts : List TMachine → Int
  | [] => 0
  | x :: xs => x.ct + TMachine.cts xs
theorem TMachine.cts_nn : ∀ xs : List TMachine, (xs.length : Int) ≤ TMachine.cts xs
  | [] => by simp [TMachine.cts]
  | x :: xs => by simp only [TMachine.cts, List.length_cons]; have := x.ct_nn; have := TMachine.cts_nn xs; omega
theorem TMachine.mks_len : ∀ (k : Int) (xs : List TMachine), (TMachine.mks k xs).length = xs.length
  | _, [] => rfl
  | k, x :: xs => by simp [TMachine.mks, TMachine.mks_len (k + x.ct) xs]
theorem TMachine.ct_le (x : TMachine) : x.ct ≤ 64 + 64 * x.sz := by
  unfold TMachine.ct TMachine.sz; have := TIns.cts_le x.fImage; have := TIns.szs_nn x.fImage; have := TCore.cts_le x.fCores; have := TCore.szs_nn x.fCores; have := TNote.cts_le x.fNotes; have := TNote.szs_nn x.fNotes; simp only [TIns.szs, TNote.szs] at *; omega
theorem TMachine.cts_le : ∀ xs : List TMachine, TMachine.cts xs ≤ 64 * TMachine.szs xs
  | [] => by simp [TMachine.cts, TMachine.szs, TMachine.szl]
  | x :: xs => by
    have h1 := x.ct_le; have h2 := TMachine.cts_le xs
    simp only [TMachine.cts, TMachine.szs, TMachine.szl, List.length_cons] at *; omega
def TMachine.mkv (k : Int) (x : TMachine) : TMachine := ⟨TIns.mks (k) x.fImage, mkInt (k + TIns.cts x.fImage) x.fMem, TCore.mks (k + TIns.cts x.fImage + (x.fMem.length : Int)) x.fCores, mkInt (k + TIns.cts x.fImage + (x.fMem.length : Int) + TCore.cts x.fCores) x.fOut, TNote.mks (k + TIns.cts x.fImage + (x.fMem.length : Int) + TCore.cts x.fCores + (x.fOut.length : Int)) x.fNotes, x.fOver, x.fCode⟩
def TMachine.ctv (x : TMachine) : Int := TIns.cts x.fImage + (x.fMem.length : Int) + TCore.cts x.fCores + (x.fOut.length : Int) + TNote.cts x.fNotes
theorem TMachine.ctv_le (x : TMachine) : x.ctv ≤ 64 * x.sz := by
  unfold TMachine.ctv TMachine.sz; have := TIns.cts_le x.fImage; have := TIns.szs_nn x.fImage; have := TCore.cts_le x.fCores; have := TCore.szs_nn x.fCores; have := TNote.cts_le x.fNotes; have := TNote.szs_nn x.fNotes; simp only [TIns.szs, TNote.szs] at *; omega
theorem laws_toMachine_ok (x : TMachine) (hx : x.sm) : call tab laws_toMachine [x.x] = some x.xo := by
  simp only [TMachine.sm] at hx
  have t0 := laws_toInsS_ok x.fImage (by omega)
  have t1 := laws_toIntS_ok x.fMem (by omega)
  have t2 := laws_toCoreS_ok x.fCores (by first | exact hx | exact hx.1 | exact hx.2 | exact hx.2.1 | exact hx.2.2 | exact hx.2.2.1 | exact hx.2.2.2 | exact hx.2.2.2.1)
  have t3 := laws_toIntS_ok x.fOut (by omega)
  have t4 := laws_toNoteS_ok x.fNotes (by omega)
  rw [call_of t_laws_toMachine _ rfl, c_laws_toMachine]
  simp (maxSteps := 2000000) (implicitDefEqProofs := false) (disch := (first | omega | assumption | (refine ⟨?_, ?_⟩ <;> omega) | (unfold catOk; (try simp only [ByteArray.size_append, size_lit, List.length_cons, List.length_nil]); omega) | (unfold mkOk; omega) | (unfold appOk; (try simp only [List.length_map, List.length_append, List.length_cons, List.length_nil]); omega))) only [go_sem, Nat.reduceEqDiff, Nat.reduceBEq, Nat.reduceAdd, Nat.reduceSub, Nat.reduceMul, Nat.reduceLeDiff, Nat.reduceLT, ↓reduceIte, reduceCtorEq, Int.reduceEq, Int.reduceLE, Int.reduceLT, Int.reduceToNat, Int.reduceNeg, Int.reduceSub, Int.reduceAdd, Int.reduceMul, ltT, ltF, leT, leF, neF, catT, mkT, appT, wrap_id, List.length_map, Int.toNat_natCast, TMachine.x, TMachine.xo, t0, t1, t2, t3, t4]
theorem laws_eqMachine_ok (x : TMachine) (hx : x.sm) : call tab laws_eqMachine [x.x, x.x] = some (B true) := by
  simp only [TMachine.sm] at hx
  have t0 := laws_eqInsS_ok x.fImage (by omega)
  have t1 := laws_eqIntS_ok x.fMem (by omega)
  have t2 := laws_eqCoreS_ok x.fCores (by first | exact hx | exact hx.1 | exact hx.2 | exact hx.2.1 | exact hx.2.2 | exact hx.2.2.1 | exact hx.2.2.2 | exact hx.2.2.2.1)
  have t3 := laws_eqIntS_ok x.fOut (by omega)
  have t4 := laws_eqNoteS_ok x.fNotes (by omega)
  rw [call_of t_laws_eqMachine _ rfl, c_laws_eqMachine]
  simp (maxSteps := 2000000) (implicitDefEqProofs := false) (disch := (first | omega | assumption | (refine ⟨?_, ?_⟩ <;> omega) | (unfold catOk; (try simp only [ByteArray.size_append, size_lit, List.length_cons, List.length_nil]); omega) | (unfold mkOk; omega) | (unfold appOk; (try simp only [List.length_map, List.length_append, List.length_cons, List.length_nil]); omega))) only [go_sem, Nat.reduceEqDiff, Nat.reduceBEq, Nat.reduceAdd, Nat.reduceSub, Nat.reduceMul, Nat.reduceLeDiff, Nat.reduceLT, ↓reduceIte, reduceCtorEq, Int.reduceEq, Int.reduceLE, Int.reduceLT, Int.reduceToNat, Int.reduceNeg, Int.reduceSub, Int.reduceAdd, Int.reduceMul, ltT, ltF, leT, leF, neF, catT, mkT, appT, wrap_id, List.length_map, Int.toNat_natCast, TMachine.x, t0, t1, t2, t3, t4]
theorem laws_szMachine_ok (x : TMachine) (n : Int) (hn : 0 ≤ n ∧ n ≤ 1048576) (hx : x.ok) : call tab laws_szMachine [x.x, I n] = some (I (if n < x.sz then -1 else n - x.sz)) := by
  rw [call_of t_laws_szMachine _ rfl, c_laws_szMachine]
  have hsz : x.sz = (x.fImage.length : Int) + (x.fMem.length : Int) + TCore.szs x.fCores + (x.fOut.length : Int) + (x.fNotes.length : Int) := rfl
  rw [hsz]
  have b0 := hx.fImage.1
  have b1 := hx.fMem.1
  have b2 := hx.fCores.1
  have z2 := TCore.szs_nn x.fCores
  have b3 := hx.fOut.1
  have b4 := hx.fNotes.1
  have f0 := laws_szInsS_ok x.fImage (n) (by omega) (by omega)
  by_cases c0 : n - (x.fImage.length : Int) < 0
  · rw [if_pos (by omega)] at f0
    rw [if_pos (show n < (x.fImage.length : Int) + (x.fMem.length : Int) + TCore.szs x.fCores + (x.fOut.length : Int) + (x.fNotes.length : Int) by omega)]
    simp (maxSteps := 2000000) (implicitDefEqProofs := false) (disch := (first | omega | assumption | (refine ⟨?_, ?_⟩ <;> omega) | (unfold catOk; (try simp only [ByteArray.size_append, size_lit, List.length_cons, List.length_nil]); omega) | (unfold mkOk; omega) | (unfold appOk; (try simp only [List.length_map, List.length_append, List.length_cons, List.length_nil]); omega))) only [go_sem, Nat.reduceEqDiff, Nat.reduceBEq, Nat.reduceAdd, Nat.reduceSub, Nat.reduceMul, Nat.reduceLeDiff, Nat.reduceLT, ↓reduceIte, reduceCtorEq, Int.reduceEq, Int.reduceLE, Int.reduceLT, Int.reduceToNat, Int.reduceNeg, Int.reduceSub, Int.reduceAdd, Int.reduceMul, ltT, ltF, leT, leF, neF, catT, mkT, appT, wrap_id, List.length_map, Int.toNat_natCast, TMachine.x, c0, f0]
  · rw [if_neg (by omega)] at f0
    have f1 := laws_szIntS_ok x.fMem (n - (x.fImage.length : Int)) (by omega) (by omega)
    by_cases c1 : n - (x.fImage.length : Int) - (x.fMem.length : Int) < 0
    · rw [if_pos (by omega)] at f1
      rw [if_pos (show n < (x.fImage.length : Int) + (x.fMem.length : Int) + TCore.szs x.fCores + (x.fOut.length : Int) + (x.fNotes.length : Int) by omega)]
      simp (maxSteps := 2000000) (implicitDefEqProofs := false) (disch := (first | omega | assumption | (refine ⟨?_, ?_⟩ <;> omega) | (unfold catOk; (try simp only [ByteArray.size_append, size_lit, List.length_cons, List.length_nil]); omega) | (unfold mkOk; omega) | (unfold appOk; (try simp only [List.length_map, List.length_append, List.length_cons, List.length_nil]); omega))) only [go_sem, Nat.reduceEqDiff, Nat.reduceBEq, Nat.reduceAdd, Nat.reduceSub, Nat.reduceMul, Nat.reduceLeDiff, Nat.reduceLT, ↓reduceIte, reduceCtorEq, Int.reduceEq, Int.reduceLE, Int.reduceLT, Int.reduceToNat, Int.reduceNeg, Int.reduceSub, Int.reduceAdd, Int.reduceMul, ltT, ltF, leT, leF, neF, catT, mkT, appT, wrap_id, List.length_map, Int.toNat_natCast, TMachine.x, f0, c0, c1, f1]
    · rw [if_neg (by omega)] at f1
      have f2 := laws_szCoreS_ok x.fCores (n - (x.fImage.length : Int) - (x.fMem.length : Int)) (by omega) hx.fCores
      by_cases c2 : n - (x.fImage.length : Int) - (x.fMem.length : Int) - TCore.szs x.fCores < 0
      · rw [if_pos (by omega)] at f2
        rw [if_pos (show n < (x.fImage.length : Int) + (x.fMem.length : Int) + TCore.szs x.fCores + (x.fOut.length : Int) + (x.fNotes.length : Int) by omega)]
        simp (maxSteps := 2000000) (implicitDefEqProofs := false) (disch := (first | omega | assumption | (refine ⟨?_, ?_⟩ <;> omega) | (unfold catOk; (try simp only [ByteArray.size_append, size_lit, List.length_cons, List.length_nil]); omega) | (unfold mkOk; omega) | (unfold appOk; (try simp only [List.length_map, List.length_append, List.length_cons, List.length_nil]); omega))) only [go_sem, Nat.reduceEqDiff, Nat.reduceBEq, Nat.reduceAdd, Nat.reduceSub, Nat.reduceMul, Nat.reduceLeDiff, Nat.reduceLT, ↓reduceIte, reduceCtorEq, Int.reduceEq, Int.reduceLE, Int.reduceLT, Int.reduceToNat, Int.reduceNeg, Int.reduceSub, Int.reduceAdd, Int.reduceMul, ltT, ltF, leT, leF, neF, catT, mkT, appT, wrap_id, List.length_map, Int.toNat_natCast, TMachine.x, f0, c0, f1, c1, c2, f2]
      · rw [if_neg (by omega)] at f2
        have f3 := laws_szIntS_ok x.fOut (n - (x.fImage.length : Int) - (x.fMem.length : Int) - TCore.szs x.fCores) (by omega) (by omega)
        by_cases c3 : n - (x.fImage.length : Int) - (x.fMem.length : Int) - TCore.szs x.fCores - (x.fOut.length : Int) < 0
        · rw [if_pos (by omega)] at f3
          rw [if_pos (show n < (x.fImage.length : Int) + (x.fMem.length : Int) + TCore.szs x.fCores + (x.fOut.length : Int) + (x.fNotes.length : Int) by omega)]
          simp (maxSteps := 2000000) (implicitDefEqProofs := false) (disch := (first | omega | assumption | (refine ⟨?_, ?_⟩ <;> omega) | (unfold catOk; (try simp only [ByteArray.size_append, size_lit, List.length_cons, List.length_nil]); omega) | (unfold mkOk; omega) | (unfold appOk; (try simp only [List.length_map, List.length_append, List.length_cons, List.length_nil]); omega))) only [go_sem, Nat.reduceEqDiff, Nat.reduceBEq, Nat.reduceAdd, Nat.reduceSub, Nat.reduceMul, Nat.reduceLeDiff, Nat.reduceLT, ↓reduceIte, reduceCtorEq, Int.reduceEq, Int.reduceLE, Int.reduceLT, Int.reduceToNat, Int.reduceNeg, Int.reduceSub, Int.reduceAdd, Int.reduceMul, ltT, ltF, leT, leF, neF, catT, mkT, appT, wrap_id, List.length_map, Int.toNat_natCast, TMachine.x, f0, c0, f1, c1, f2, c2, c3, f3]
        · rw [if_neg (by omega)] at f3
          have f4 := laws_szNoteS_ok x.fNotes (n - (x.fImage.length : Int) - (x.fMem.length : Int) - TCore.szs x.fCores - (x.fOut.length : Int)) (by omega) (by omega)
          by_cases c4 : n - (x.fImage.length : Int) - (x.fMem.length : Int) - TCore.szs x.fCores - (x.fOut.length : Int) - (x.fNotes.length : Int) < 0
          · rw [if_pos (by omega)] at f4
            rw [if_pos (show n < (x.fImage.length : Int) + (x.fMem.length : Int) + TCore.szs x.fCores + (x.fOut.length : Int) + (x.fNotes.length : Int) by omega)]
            simp (maxSteps := 2000000) (implicitDefEqProofs := false) (disch := (first | omega | assumption | (refine ⟨?_, ?_⟩ <;> omega) | (unfold catOk; (try simp only [ByteArray.size_append, size_lit, List.length_cons, List.length_nil]); omega) | (unfold mkOk; omega) | (unfold appOk; (try simp only [List.length_map, List.length_append, List.length_cons, List.length_nil]); omega))) only [go_sem, Nat.reduceEqDiff, Nat.reduceBEq, Nat.reduceAdd, Nat.reduceSub, Nat.reduceMul, Nat.reduceLeDiff, Nat.reduceLT, ↓reduceIte, reduceCtorEq, Int.reduceEq, Int.reduceLE, Int.reduceLT, Int.reduceToNat, Int.reduceNeg, Int.reduceSub, Int.reduceAdd, Int.reduceMul, ltT, ltF, leT, leF, neF, catT, mkT, appT, wrap_id, List.length_map, Int.toNat_natCast, TMachine.x, f0, c0, f1, c1, f2, c2, f3, c3, c4, f4]
          · rw [if_neg (by omega)] at f4
            rw [if_neg (show ¬ n < (x.fImage.length : Int) + (x.fMem.length : Int) + TCore.szs x.fCores + (x.fOut.length : Int) + (x.fNotes.length : Int) by omega)]
            rw [show n - ((x.fImage.length : Int) + (x.fMem.length : Int) + TCore.szs x.fCores + (x.fOut.length : Int) + (x.fNotes.length : Int)) = n - (x.fImage.length : Int) - (x.fMem.length : Int) - TCore.szs x.fCores - (x.fOut.length : Int) - (x.fNotes.length : Int) by omega]
            simp (maxSteps := 2000000) (implicitDefEqProofs := false) (disch := (first | omega | assumption | (refine ⟨?_, ?_⟩ <;> omega) | (unfold catOk; (try simp only [ByteArray.size_append, size_lit, List.length_cons, List.length_nil]); omega) | (unfold mkOk; omega) | (unfold appOk; (try simp only [List.length_map, List.length_append, List.length_cons, List.length_nil]); omega))) only [go_sem, Nat.reduceEqDiff, Nat.reduceBEq, Nat.reduceAdd, Nat.reduceSub, Nat.reduceMul, Nat.reduceLeDiff, Nat.reduceLT, ↓reduceIte, reduceCtorEq, Int.reduceEq, Int.reduceLE, Int.reduceLT, Int.reduceToNat, Int.reduceNeg, Int.reduceSub, Int.reduceAdd, Int.reduceMul, ltT, ltF, leT, leF, neF, catT, mkT, appT, wrap_id, List.length_map, Int.toNat_natCast, TMachine.x, f0, c0, f1, c1, f2, c2, f3, c3, f4, c4]
end Go.Ev.G
