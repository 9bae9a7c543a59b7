/- The laws' own helpers on the type Machine: written by genq.py. -/
import Derived.Test.YtcoigakalblkgaaEvQInt
import Derived.Test.YtcoigakalblkgaaEvQIns
import Derived.Test.YtcoigakalblkgaaEvQCore
import Derived.Test.YtcoigakalblkgaaEvQNote
set_option linter.all false
namespace Go.Ev.G
set_option maxRecDepth 8000
set_option maxHeartbeats 4000000
structure TMachine where
  fImage : List TIns
  fMem : List Int
  fCores : List TCore
  fOut : List Int
  fNotes : List TNote
  fOver : Bool
  fCode : Int
def TMachine.r (x : TMachine) : List D := [.r (x.fImage.map TIns.r), .r (numR x.fMem), .r (x.fCores.map TCore.r), .r (numR x.fOut), .r (x.fNotes.map TNote.r), DB x.fOver, DI x.fCode]
def TMachine.o (x : TMachine) : List D := [.s 6 (x.fImage.map TIns.o), .s 1 (numR x.fMem), .s 3 (x.fCores.map TCore.o), .s 1 (numR x.fOut), .s 2 (x.fNotes.map TNote.o), DB x.fOver, DI x.fCode]
abbrev TMachine.x (x : TMachine) : X := .agg [.d (.r (x.fImage.map TIns.r)), .d (.r (numR x.fMem)), .d (.r (x.fCores.map TCore.r)), .d (.r (numR x.fOut)), .d (.r (x.fNotes.map TNote.r)), B x.fOver, I x.fCode]
abbrev TMachine.xo (x : TMachine) : X := .agg [.d (.s 6 (x.fImage.map TIns.o)), .d (.s 1 (numR x.fMem)), .d (.s 3 (x.fCores.map TCore.o)), .d (.s 1 (numR x.fOut)), .d (.s 2 (x.fNotes.map TNote.o)), B x.fOver, I x.fCode]
theorem TMachine.fzl (x : TMachine) : fzl x.o = x.r := by simp only [TMachine.o, TMachine.r, Ev.fzl, D.fz, TCore.fzs, TIns.fzs, TNote.fzs, fzs_numR]
theorem TMachine.fzs (xs : List TMachine) : fzs (xs.map TMachine.o) = xs.map TMachine.r := fzs_map _ _ TMachine.fzl xs
theorem TMachine.noR (xs : List TMachine) : D.noR.noRss (xs.map TMachine.o) = true := noRss_map _ (fun x => by simp only [TMachine.o, D.noR.noRs, D.noR, Bool.and_true, Bool.true_and, TCore.noR, TIns.noR, TNote.noR, noR_numR]) xs
def TMachine.sz (x : TMachine) : Int := (x.fImage.length : Int) + (x.fMem.length : Int) + TCore.szs x.fCores + (x.fOut.length : Int) + (x.fNotes.length : Int)
theorem TMachine.sz_nn (x : TMachine) : 0 ≤ x.sz := by
  unfold TMachine.sz; have := TCore.szs_nn x.fCores; omega
def TMachine.szl : List TMachine → Int
  | [] => 0
  | x :: xs => x.sz + TMachine.szl xs
def TMachine.szs (xs : List TMachine) : Int := xs.length + TMachine.szl xs
theorem TMachine.szl_nn : ∀ xs : List TMachine, 0 ≤ TMachine.szl xs
  | [] => by simp [TMachine.szl]
  | x :: xs => by simp only [TMachine.szl]; have := x.sz_nn; have := TMachine.szl_nn xs; omega
theorem TMachine.szs_nn (xs : List TMachine) : 0 ≤ TMachine.szs xs ∧ (xs.length : Int) ≤ TMachine.szs xs := by have := TMachine.szl_nn xs; unfold TMachine.szs; omega
theorem TMachine.sz_le : ∀ {xs : List TMachine} {x : TMachine}, x ∈ xs → x.sz ≤ TMachine.szl xs
  | y :: xs, x, h => by
    simp only [TMachine.szl]
    have h1 := y.sz_nn; have h2 := TMachine.szl_nn xs
    rcases List.mem_cons.1 h with rfl | h
    · omega
    · have := TMachine.sz_le h; omega
def TMachine.sm (x : TMachine) : Prop := x.fImage.length ≤ 1048576 ∧ x.fMem.length ≤ 1048576 ∧ (x.fCores.length ≤ 1048576 ∧ ∀ y ∈ x.fCores, y.sm) ∧ x.fOut.length ≤ 1048576 ∧ x.fNotes.length ≤ 1048576
theorem TMachine.sm_of {x : TMachine} (h : x.sz ≤ 1048576) : x.sm := by
  unfold TMachine.sz at h
  unfold TMachine.sm
  have := TCore.szs_nn x.fCores
  exact ⟨by omega, by omega, ⟨by omega, fun y hy => TCore.sm_of (by have := TCore.sz_le hy; unfold TCore.szs at *; omega)⟩, by omega, by omega⟩
structure TMachine.ok (x : TMachine) : Prop where
  fImage : x.fImage.length ≤ 140737488351232 ∧ ∀ y ∈ x.fImage, y.ok
  fMem : x.fMem.length ≤ 140737488351232 ∧ ∀ n ∈ x.fMem, i64 n
  fCores : x.fCores.length ≤ 140737488351232 ∧ ∀ y ∈ x.fCores, y.ok
  fOut : x.fOut.length ≤ 140737488351232 ∧ ∀ n ∈ x.fOut, i64 n
  fNotes : x.fNotes.length ≤ 140737488351232 ∧ ∀ y ∈ x.fNotes, y.ok
  fOver : True
  fCode : i64 x.fCode
theorem TMachine.fit {c : List D} (h : fitL [.l 48 [.i .i64, .i .i64, .i .i64, .i .i64, .i .i64, .i .i64], .l 8 [.i .i64], .l 40 [.i .i64, .i .i64, .l 8 [.i .i64]], .l 8 [.i .i64], .l 16 [.i .i64, .i .i64], .b, .i .i64] c) : ∃ x : TMachine, c = x.r ∧ x.ok := by
  simp only [fitL] at h
  obtain ⟨_, _, rfl, h0, _, _, rfl, h1, _, _, rfl, h2, _, _, rfl, h3, _, _, rfl, h4, _, _, rfl, h5, _, _, rfl, h6, rfl⟩ := h
  rw [Ev.fit] at h0; obtain ⟨e0, rfl, b0, c0⟩ := h0; obtain ⟨a0, rfl, g0⟩ := fit_all (fun c hc => TIns.fit hc) c0; rw [List.length_map] at b0
  rw [Ev.fit] at h1; obtain ⟨e1, rfl, b1, c1⟩ := h1; obtain ⟨a1, rfl, g1⟩ := fit_all (enc := fun n => [DI n]) (ok := i64) (fun c hc => fit_int hc) c1; rw [List.length_map] at b1
  rw [Ev.fit] at h2; obtain ⟨e2, rfl, b2, c2⟩ := h2; obtain ⟨a2, rfl, g2⟩ := fit_all (fun c hc => TCore.fit hc) c2; rw [List.length_map] at b2
  rw [Ev.fit] at h3; obtain ⟨e3, rfl, b3, c3⟩ := h3; obtain ⟨a3, rfl, g3⟩ := fit_all (enc := fun n => [DI n]) (ok := i64) (fun c hc => fit_int hc) c3; rw [List.length_map] at b3
  rw [Ev.fit] at h4; obtain ⟨e4, rfl, b4, c4⟩ := h4; obtain ⟨a4, rfl, g4⟩ := fit_all (fun c hc => TNote.fit hc) c4; rw [List.length_map] at b4
  rw [Ev.fit] at h5; obtain ⟨a5, rfl⟩ := h5
  rw [Ev.fit] at h6; obtain ⟨a6, rfl, g6⟩ := h6
  exact ⟨⟨a0, a1, a2, a3, a4, a5, a6⟩, rfl, ⟨⟨(by omega : a0.length ≤ 140737488351232), g0⟩, ⟨(by omega : a1.length ≤ 140737488351232), g1⟩, ⟨(by omega : a2.length ≤ 140737488351232), g2⟩, ⟨(by omega : a3.length ≤ 140737488351232), g3⟩, ⟨(by omega : a4.length ≤ 140737488351232), g4⟩, trivial, wf64 g6⟩⟩
def TMachine.mk_ (k : Int) (x : TMachine) : TMachine := ⟨TIns.mks (k) x.fImage, mkInt (k + TIns.cts x.fImage) x.fMem, TCore.mks (k + TIns.cts x.fImage + (x.fMem.length : Int)) x.fCores, mkInt (k + TIns.cts x.fImage + (x.fMem.length : Int) + TCore.cts x.fCores) x.fOut, TNote.mks (k + TIns.cts x.fImage + (x.fMem.length : Int) + TCore.cts x.fCores + (x.fOut.length : Int)) x.fNotes, decide ((k + TIns.cts x.fImage + (x.fMem.length : Int) + TCore.cts x.fCores + (x.fOut.length : Int) + TNote.cts x.fNotes).tmod 3 = 0), k + TIns.cts x.fImage + (x.fMem.length : Int) + TCore.cts x.fCores + (x.fOut.length : Int) + TNote.cts x.fNotes + 1⟩
def TMachine.ct (x : TMachine) : Int := TIns.cts x.fImage + (x.fMem.length : Int) + TCore.cts x.fCores + (x.fOut.length : Int) + TNote.cts x.fNotes + 1 + 1
theorem TMachine.ct_nn (x : TMachine) : 1 ≤ x.ct := by
  unfold TMachine.ct; have := TIns.cts_nn x.fImage; have := TCore.cts_nn x.fCores; have := TNote.cts_nn x.fNotes; omega
def TMachine.mks : Int → List TMachine → List TMachine
  | _, [] => []
  | k, x :: xs => TMachine.mk_ k x :: TMachine.mks (k + x.ct) xs
def TMachine.cts : List TMachine → Int
  | [] => 0
  | x :: xs => x.ct + TMachine.cts xs
theorem TMachine.cts_nn : ∀ xs : List TMachine, (xs.length : Int) ≤ TMachine.cts xs
  | [] => by simp [TMachine.cts]
  | x :: xs => by simp only [TMachine.cts, List.length_cons]; have := x.ct_nn; have := TMachine.cts_nn xs; omega
theorem TMachine.mks_len : ∀ (k : Int) (xs : List TMachine), (TMachine.mks k xs).length = xs.length
  | _, [] => rfl
  | k, x :: xs => by simp [TMachine.mks, TMachine.mks_len (k + x.ct) xs]
theorem TMachine.ct_le (x : TMachine) : x.ct ≤ 64 + 64 * x.sz := by
  unfold TMachine.ct TMachine.sz; have := TIns.cts_le x.fImage; have := TIns.szs_nn x.fImage; have := TCore.cts_le x.fCores; have := TCore.szs_nn x.fCores; have := TNote.cts_le x.fNotes; have := TNote.szs_nn x.fNotes; simp only [TIns.szs, TNote.szs] at *; omega
theorem TMachine.cts_le : ∀ xs : List TMachine, TMachine.cts xs ≤ 64 * TMachine.szs xs
  | [] => by simp [TMachine.cts, TMachine.szs, TMachine.szl]
  | x :: xs => by
    have h1 := x.ct_le; have h2 := TMachine.cts_le xs
    simp only [TMachine.cts, TMachine.szs, TMachine.szl, List.length_cons] at *; omega
def TMachine.mkv (k : Int) (x : TMachine) : TMachine := ⟨TIns.mks (k) x.fImage, mkInt (k + TIns.cts x.fImage) x.fMem, TCore.mks (k + TIns.cts x.fImage + (x.fMem.length : Int)) x.fCores, mkInt (k + TIns.cts x.fImage + (x.fMem.length : Int) + TCore.cts x.fCores) x.fOut, TNote.mks (k + TIns.cts x.fImage + (x.fMem.length : Int) + TCore.cts x.fCores + (x.fOut.length : Int)) x.fNotes, x.fOver, x.fCode⟩
def TMachine.ctv (x : TMachine) : Int := TIns.cts x.fImage + (x.fMem.length : Int) + TCore.cts x.fCores + (x.fOut.length : Int) + TNote.cts x.fNotes
theorem TMachine.ctv_le (x : TMachine) : x.ctv ≤ 64 * x.sz := by
  unfold TMachine.ctv TMachine.sz; have := TIns.cts_le x.fImage; have := TIns.szs_nn x.fImage; have := TCore.cts_le x.fCores; have := TCore.szs_nn x.fCores; have := TNote.cts_le x.fNotes; have := TNote.szs_nn x.fNotes; simp only [TIns.szs, TNote.szs] at *; omega
theorem laws_eqMachine_ok (x : TMachine) (hx : x.sm) : call tab laws_eqMachine [x.x, x.x] = some (B true) := by
  simp only [TMachine.sm] at hx
  have t0 := laws_eqInsS_ok x.fImage (by omega)
  have t1 := laws_eqIntS_ok x.fMem (by omega)
  have t2 := laws_eqCoreS_ok x.fCores (by first | exact hx | exact hx.1 | exact hx.2 | exact hx.2.1 | exact hx.2.2 | exact hx.2.2.1 | exact hx.2.2.2 | exact hx.2.2.2.1)
  have t3 := laws_eqIntS_ok x.fOut (by omega)
  have t4 := laws_eqNoteS_ok x.fNotes (by omega)
  rw [call_of t_laws_eqMachine _ rfl, c_laws_eqMachine]
  simp (maxSteps := 2000000) (implicitDefEqProofs := false) (disch := (first | omega | assumption | (refine ⟨?_, ?_⟩ <;> omega) | (unfold catOk; (try simp only [ByteArray.size_append, size_lit, List.length_cons, List.length_nil]); omega) | (unfold mkOk; omega) | (unfold appOk; (try simp only [List.length_map, List.length_append, List.length_cons, List.length_nil]); omega))) only [go_sem, Nat.reduceEqDiff, Nat.reduceBEq, Nat.reduceAdd, Nat.reduceSub, Nat.reduceMul, Nat.reduceLeDiff, Nat.reduceLT, ↓reduceIte, reduceCtorEq, Int.reduceEq, Int.reduceLE, Int.reduceLT, Int.reduceToNat, Int.reduceNeg, Int.reduceSub, Int.reduceAdd, Int.reduceMul, ltT, ltF, leT, leF, neF, catT, mkT, appT, wrap_id, List.length_map, Int.toNat_natCast, TMachine.x, t0, t1, t2, t3, t4]
theorem laws_markMachine_ok (x : TMachine) (k : Int) (h : x.ctv ≤ 1099511627776) (hk : 0 ≤ k ∧ k + x.ctv ≤ 4611686018427387904) : evCW tab laws_markMachine [.agg [.ref (0, 0) [], .ref (0, 1) [], .ref (0, 2) [], .ref (0, 3) [], .ref (0, 4) [], B x.fOver, I x.fCode], I k] (upd (upd (upd (upd (upd emp (0, 4) (some (.s 2 (x.fNotes.map TNote.o)))) (0, 3) (some (.s 1 (numR x.fOut)))) (0, 2) (some (.s 3 (x.fCores.map TCore.o)))) (0, 1) (some (.s 1 (numR x.fMem)))) (0, 0) (some (.s 6 (x.fImage.map TIns.o)))) 1 = some (I (k + x.ctv), upd (upd (upd (upd (upd emp (0, 4) (some (.s 2 ((TNote.mks (k + TIns.cts x.fImage + (x.fMem.length : Int) + TCore.cts x.fCores + (x.fOut.length : Int)) x.fNotes).map TNote.o)))) (0, 3) (some (.s 1 (numR (mkInt (k + TIns.cts x.fImage + (x.fMem.length : Int) + TCore.cts x.fCores) x.fOut))))) (0, 2) (some (.s 3 ((TCore.mks (k + TIns.cts x.fImage + (x.fMem.length : Int)) x.fCores).map TCore.o)))) (0, 1) (some (.s 1 (numR (mkInt (k + TIns.cts x.fImage) x.fMem))))) (0, 0) (some (.s 6 ((TIns.mks (k) x.fImage).map TIns.o)))) := by
  rw [evCW_of t_laws_markMachine _ _ _ rfl, c_laws_markMachine]
  have n0 := TIns.cts_nn x.fImage
  have n2 := TCore.cts_nn x.fCores
  have n4 := TNote.cts_nn x.fNotes
  unfold TMachine.ctv at h hk
  have f0 := laws_markInsS_ok x.fImage (k) (by omega) (by omega)
  have f1 := laws_markIntS_ok x.fMem (k + TIns.cts x.fImage) (by omega) (by omega)
  have f2 := laws_markCoreS_ok x.fCores (k + TIns.cts x.fImage + (x.fMem.length : Int)) (by omega) (by omega)
  have f3 := laws_markIntS_ok x.fOut (k + TIns.cts x.fImage + (x.fMem.length : Int) + TCore.cts x.fCores) (by omega) (by omega)
  have f4 := laws_markNoteS_ok x.fNotes (k + TIns.cts x.fImage + (x.fMem.length : Int) + TCore.cts x.fCores + (x.fOut.length : Int)) (by omega) (by omega)
  unfold TMachine.ctv
  try simp only [← Int.add_assoc]
  simp (maxSteps := 2000000) (implicitDefEqProofs := false) (disch := (first | omega | assumption | (refine ⟨?_, ?_⟩ <;> omega) | (unfold catOk; (try simp only [ByteArray.size_append, size_lit, List.length_cons, List.length_nil]); omega) | (unfold mkOk; omega) | (unfold appOk; (try simp only [List.length_map, List.length_append, List.length_cons, List.length_nil]); omega))) only [go_sem, Nat.reduceEqDiff, Nat.reduceBEq, Nat.reduceAdd, Nat.reduceSub, Nat.reduceMul, Nat.reduceLeDiff, Nat.reduceLT, ↓reduceIte, reduceCtorEq, Int.reduceEq, Int.reduceLE, Int.reduceLT, Int.reduceToNat, Int.reduceNeg, Int.reduceSub, Int.reduceAdd, Int.reduceMul, ltT, ltF, leT, leF, neF, catT, mkT, appT, wrap_id, List.length_map, Int.toNat_natCast, f0, f1, f2, f3, f4]
theorem laws_heldMachine_ok (x : TMachine) (k : Int) (h : x.ctv ≤ 1099511627776) (hk : 0 ≤ k ∧ k + x.ctv ≤ 4611686018427387904) : call tab laws_heldMachine [(x.mkv k).x, I k] = some (I (k + x.ctv)) := by
  rw [call_of t_laws_heldMachine _ rfl, c_laws_heldMachine]
  have n0 := TIns.cts_nn x.fImage
  have n2 := TCore.cts_nn x.fCores
  have n4 := TNote.cts_nn x.fNotes
  unfold TMachine.ctv at h hk
  have f0 := laws_heldInsS_ok x.fImage (k) (by omega) (by omega)
  have f1 := laws_heldIntS_ok x.fMem (k + TIns.cts x.fImage) (by omega) (by omega)
  have f2 := laws_heldCoreS_ok x.fCores (k + TIns.cts x.fImage + (x.fMem.length : Int)) (by omega) (by omega)
  have f3 := laws_heldIntS_ok x.fOut (k + TIns.cts x.fImage + (x.fMem.length : Int) + TCore.cts x.fCores) (by omega) (by omega)
  have f4 := laws_heldNoteS_ok x.fNotes (k + TIns.cts x.fImage + (x.fMem.length : Int) + TCore.cts x.fCores + (x.fOut.length : Int)) (by omega) (by omega)
  unfold TMachine.ctv
  simp only [TMachine.x, TMachine.mkv]
  try simp only [← Int.add_assoc]
  simp (maxSteps := 2000000) (implicitDefEqProofs := false) (disch := (first | omega | assumption | (refine ⟨?_, ?_⟩ <;> omega) | (unfold catOk; (try simp only [ByteArray.size_append, size_lit, List.length_cons, List.length_nil]); omega) | (unfold mkOk; omega) | (unfold appOk; (try simp only [List.length_map, List.length_append, List.length_cons, List.length_nil]); omega))) only [go_sem, Nat.reduceEqDiff, Nat.reduceBEq, Nat.reduceAdd, Nat.reduceSub, Nat.reduceMul, Nat.reduceLeDiff, Nat.reduceLT, ↓reduceIte, reduceCtorEq, Int.reduceEq, Int.reduceLE, Int.reduceLT, Int.reduceToNat, Int.reduceNeg, Int.reduceSub, Int.reduceAdd, Int.reduceMul, ltT, ltF, leT, leF, neF, catT, mkT, appT, wrap_id, List.length_map, Int.toNat_natCast, f0, f1, f2, f3, f4]
end Go.Ev.G
