import Derived.Test.YtcoigakalblkgaaEvPBoot
set_option linter.all false
namespace Go.Ev.G
set_option maxRecDepth 8000
set_option maxHeartbeats 4000000
theorem cores0_sz (lp : Int) : ∀ (n : Nat) (j : Int), TCore.szl (cores0 lp j n) = 6 * n
  | 0, j => by simp [cores0, TCore.szl]
  | n + 1, j => by
    simp only [cores0, TCore.szl, cores0_sz lp n (j + 1), TCore.sz, core0, List.length_replicate]
    omega
theorem bootT_facts (im : List TIns) (mn ex lp cores : Int) (hi : im.length ≤ 1048576) : (bootT im mn ex lp cores).1.sm ∧ 0 ≤ (bootT im mn ex lp cores).1.ctv ∧ (bootT im mn ex lp cores).1.ctv ≤ 1099511627776 := by
  have hnn : ∀ m : TMachine, 0 ≤ m.ctv := fun m => by
    unfold TMachine.ctv
    have := TIns.cts_nn m.fImage; have := TCore.cts_nn m.fCores; have := TNote.cts_nn m.fNotes
    omega
  refine ⟨?_, hnn _, ?_⟩
  · rw [bootT]
    split
    · rename_i c1
      have hc : 1 ≤ cores ∧ cores ≤ 8 := by simpa [inB] using c1
      split
      · exact bootM_sm im mn ex lp cores hi hc.2
      · exact TMachine.sm_of (by simp [mZ, TMachine.sz, TCore.szs, TCore.szl])
    · exact TMachine.sm_of (by simp [mZ, TMachine.sz, TCore.szs, TCore.szl])
  · have h := (bootT im mn ex lp cores).1.ctv_le
    suffices (bootT im mn ex lp cores).1.sz ≤ 1100000 by omega
    rw [bootT]
    split
    · rename_i c1
      have hc : 1 ≤ cores ∧ cores ≤ 8 := by simpa [inB] using c1
      split
      · simp only [TMachine.sz, bootM, TCore.szs, cores0_sz, (cores0_len lp cores.toNat 0).1, memB, List.length_set, List.length_replicate, List.length_nil]
        omega
      · simp [mZ, TMachine.sz, TCore.szs, TCore.szl]
    · simp [mZ, TMachine.sz, TCore.szs, TCore.szl]
theorem machine_noR (x : TMachine) : noRL [.d (.s 6 (x.fImage.map TIns.o)), .d (.s 1 (numR x.fMem)), .d (.s 3 (x.fCores.map TCore.o)), .d (.s 1 (numR x.fOut)), .d (.s 2 (x.fNotes.map TNote.o)), B x.fOver, I x.fCode] = true := by
  simp [noRL, X.noRC, X.noR, D.noR, TIns.noR, TCore.noR, TNote.noR, noR_numR]
theorem law_FnExactBoot (im : List TIns) (hx : im.length ≤ 140737488351232 ∧ ∀ y ∈ im, y.ok) (mn : Int) (hmn : i64 mn) (ex : Int) (hex : i64 ex) (lp : Int) (hlp : i64 lp) (cores : Int) (hco : i64 cores) : call tab laws_FnExactBoot [.d (.r (im.map TIns.r)), I mn, I ex, I lp, I cores] = some (B true) := by
  rw [call_of t_laws_FnExactBoot _ rfl, c_laws_FnExactBoot]
  have hs := laws_szInsS_ok im 1048576 (by omega) (by omega)
  by_cases h0 : (1048576 : Int) - im.length < 0
  · rw [if_pos h0] at hs
    ((try simp (maxSteps := 2000000) (implicitDefEqProofs := false) (disch := (first | assumption | omega | (refine ⟨?_, ?_⟩ <;> omega) | (unfold catOk; (try simp only [ByteArray.size_append, size_lit, List.length_cons, List.length_nil]); omega) | (unfold mkOk; omega) | (unfold appOk; (try simp only [List.length_map, List.length_append, List.length_cons, List.length_nil]); omega))) only [go_sem, Nat.reduceEqDiff, Nat.reduceBEq, Nat.reduceAdd, Nat.reduceSub, Nat.reduceMul, Nat.reduceLeDiff, Nat.reduceLT, ↓reduceIte, reduceCtorEq, Int.reduceEq, Int.reduceLE, Int.reduceLT, Int.reduceToNat, Int.reduceNeg, Int.reduceSub, Int.reduceAdd, Int.reduceMul, ltT, ltF, leT, leF, neF, eqT, baT, baF, bvT, bvF, catT, mkT, appT, wrap_id, List.length_map, Int.toNat_natCast, Bool.not_not, condK_n, condK_bt, condK_bf, condK_bg, guardK_nt, guardK_nf, guardK_tT, guardK_fT, guardK_tF, guardK_fF, guardK_tG, guardK_fG, pickK_n, pickK_bt, pickK_bf, pickK_bg, hs]) <;> repeat' ((first | rw [condK_d] | rw [guardK_dt] | rw [guardK_df] | rw [pickK_d] | rw [condK_b] | rw [guardK_bt] | rw [guardK_bf] | rw [pickK_b] | skip); split <;> (try simp (maxSteps := 2000000) (implicitDefEqProofs := false) (disch := (first | assumption | omega | (refine ⟨?_, ?_⟩ <;> omega) | (unfold catOk; (try simp only [ByteArray.size_append, size_lit, List.length_cons, List.length_nil]); omega) | (unfold mkOk; omega) | (unfold appOk; (try simp only [List.length_map, List.length_append, List.length_cons, List.length_nil]); omega))) only [go_sem, Nat.reduceEqDiff, Nat.reduceBEq, Nat.reduceAdd, Nat.reduceSub, Nat.reduceMul, Nat.reduceLeDiff, Nat.reduceLT, ↓reduceIte, reduceCtorEq, Int.reduceEq, Int.reduceLE, Int.reduceLT, Int.reduceToNat, Int.reduceNeg, Int.reduceSub, Int.reduceAdd, Int.reduceMul, ltT, ltF, leT, leF, neF, eqT, baT, baF, bvT, bvF, catT, mkT, appT, wrap_id, List.length_map, Int.toNat_natCast, Bool.not_not, condK_n, condK_bt, condK_bf, condK_bg, guardK_nt, guardK_nf, guardK_tT, guardK_fT, guardK_tF, guardK_fF, guardK_tG, guardK_fG, pickK_n, pickK_bt, pickK_bf, pickK_bg, hs])))
  · rw [if_neg h0] at hs
    have hi : im.length ≤ 1048576 := by omega
    have h1 := laws_toInsS_ok im hi
    have h2 := laws_eqInsS_ok im hi
    have h3 := impl_Boot_ok im mn ex lp cores hi
    have h4 := spec_Boot_ok im mn ex lp cores hi
    obtain ⟨f1, f2, f3⟩ := bootT_facts im mn ex lp cores hi
    have hct : TIns.cts im ≤ 1099511627776 := by have := TIns.cts_le im; unfold TIns.szs at this; omega
    have hcn := TIns.cts_nn im
    have h5 := laws_markInsS_ok im 1 hct (by omega)
    generalize (bootT im mn ex lp cores).1 = y at *
    generalize (bootT im mn ex lp cores).2 = b at *
    have h6 := laws_eqMachine_ok y f1
    have h7 := laws_markMachine_ok y 1 f3 (by omega)
    have h8 := laws_heldMachine_ok y 1 f3 (by omega)
    simp only [TMachine.x, TMachine.xo, TMachine.mkv] at h3 h4 h6 h7 h8 ⊢
    cases b <;> ((try simp (maxSteps := 2000000) (implicitDefEqProofs := false) (disch := (first | assumption | omega | (refine ⟨?_, ?_⟩ <;> omega) | (unfold catOk; (try simp only [ByteArray.size_append, size_lit, List.length_cons, List.length_nil]); omega) | (unfold mkOk; omega) | (unfold appOk; (try simp only [List.length_map, List.length_append, List.length_cons, List.length_nil]); omega))) only [go_sem, Nat.reduceEqDiff, Nat.reduceBEq, Nat.reduceAdd, Nat.reduceSub, Nat.reduceMul, Nat.reduceLeDiff, Nat.reduceLT, ↓reduceIte, reduceCtorEq, Int.reduceEq, Int.reduceLE, Int.reduceLT, Int.reduceToNat, Int.reduceNeg, Int.reduceSub, Int.reduceAdd, Int.reduceMul, ltT, ltF, leT, leF, neF, eqT, baT, baF, bvT, bvF, catT, mkT, appT, wrap_id, List.length_map, Int.toNat_natCast, Bool.not_not, condK_n, condK_bt, condK_bf, condK_bg, guardK_nt, guardK_nf, guardK_tT, guardK_fT, guardK_tF, guardK_fF, guardK_tG, guardK_fG, pickK_n, pickK_bt, pickK_bf, pickK_bg, hs, h1, h2, h3, h4, h5, h6, h7, h8, TIns.fzs, TCore.fzs, TNote.fzs, fzs_numR, TIns.noR, TCore.noR, TNote.noR, noR_numR, machine_noR]) <;> repeat' ((first | rw [condK_d] | rw [guardK_dt] | rw [guardK_df] | rw [pickK_d] | rw [condK_b] | rw [guardK_bt] | rw [guardK_bf] | rw [pickK_b] | skip); split <;> (try simp (maxSteps := 2000000) (implicitDefEqProofs := false) (disch := (first | assumption | omega | (refine ⟨?_, ?_⟩ <;> omega) | (unfold catOk; (try simp only [ByteArray.size_append, size_lit, List.length_cons, List.length_nil]); omega) | (unfold mkOk; omega) | (unfold appOk; (try simp only [List.length_map, List.length_append, List.length_cons, List.length_nil]); omega))) only [go_sem, Nat.reduceEqDiff, Nat.reduceBEq, Nat.reduceAdd, Nat.reduceSub, Nat.reduceMul, Nat.reduceLeDiff, Nat.reduceLT, ↓reduceIte, reduceCtorEq, Int.reduceEq, Int.reduceLE, Int.reduceLT, Int.reduceToNat, Int.reduceNeg, Int.reduceSub, Int.reduceAdd, Int.reduceMul, ltT, ltF, leT, leF, neF, eqT, baT, baF, bvT, bvF, catT, mkT, appT, wrap_id, List.length_map, Int.toNat_natCast, Bool.not_not, condK_n, condK_bt, condK_bf, condK_bg, guardK_nt, guardK_nf, guardK_tT, guardK_fT, guardK_tF, guardK_fF, guardK_tG, guardK_fG, pickK_n, pickK_bt, pickK_bf, pickK_bg, hs, h1, h2, h3, h4, h5, h6, h7, h8, TIns.fzs, TCore.fzs, TNote.fzs, fzs_numR, TIns.noR, TCore.noR, TNote.noR, noR_numR, machine_noR])))
theorem pure_FnExactBoot (xs : List X) (h : fitXs [(false, [.l 48 [.i .i64, .i .i64, .i .i64, .i .i64, .i .i64, .i .i64]]), (false, [.i .i64]), (false, [.i .i64]), (false, [.i .i64]), (false, [.i .i64])] xs) : call tab laws_FnExactBoot xs = some (.d (.v (.bool true))) := by
  simp only [fitXs, fitX] at h
  obtain ⟨x0, r0, rfl, ⟨d0, rfl, hf0⟩, x1, r1, rfl, ⟨d1, rfl, hf1⟩, x2, r2, rfl, ⟨d2, rfl, hf2⟩, x3, r3, rfl, ⟨d3, rfl, hf3⟩, x4, r4, rfl, ⟨d4, rfl, hf4⟩, rfl⟩ := h
  rw [fit] at hf0
  obtain ⟨els0, rfl, hb0, hc0⟩ := hf0
  obtain ⟨y0, rfl, hy0⟩ := fit_all (fun c hc => TIns.fit hc) hc0
  rw [List.length_map] at hb0
  rw [fit] at hf1
  obtain ⟨y1, rfl, hy1⟩ := hf1
  rw [fit] at hf2
  obtain ⟨y2, rfl, hy2⟩ := hf2
  rw [fit] at hf3
  obtain ⟨y3, rfl, hy3⟩ := hf3
  rw [fit] at hf4
  obtain ⟨y4, rfl, hy4⟩ := hf4
  exact law_FnExactBoot y0 ⟨by omega, hy0⟩ y1 (wf64 hy1) y2 (wf64 hy2) y3 (wf64 hy3) y4 (wf64 hy4)
end Go.Ev.G
