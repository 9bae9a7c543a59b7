/- The laws' own helpers on the type World: written by genq.py. -/
import Derived.Test.YtcoigakalblkgaaEvQInt
import Derived.Test.YtcoigakalblkgaaEvQUnit
import Derived.Test.YtcoigakalblkgaaEvQBody
import Derived.Test.YtcoigakalblkgaaEvQChan
set_option linter.all false
namespace Go.Ev.G
set_option maxRecDepth 8000
set_option maxHeartbeats 4000000
structure TWorld where
  fUnits : List TUnit
  fBodies : List TBody
  fChans : List TChan
  fOut : List Int
  fOver : Bool
  fCode : Int
def TWorld.r (x : TWorld) : List D := [.r (x.fUnits.map TUnit.r), .r (x.fBodies.map TBody.r), .r (x.fChans.map TChan.r), .r (numR x.fOut), DB x.fOver, DI x.fCode]
def TWorld.o (x : TWorld) : List D := [.s 4 (x.fUnits.map TUnit.o), .s 8 (x.fBodies.map TBody.o), .s 5 (x.fChans.map TChan.o), .s 1 (numR x.fOut), DB x.fOver, DI x.fCode]
abbrev TWorld.x (x : TWorld) : X := .agg [.d (.r (x.fUnits.map TUnit.r)), .d (.r (x.fBodies.map TBody.r)), .d (.r (x.fChans.map TChan.r)), .d (.r (numR x.fOut)), B x.fOver, I x.fCode]
abbrev TWorld.xo (x : TWorld) : X := .agg [.d (.s 4 (x.fUnits.map TUnit.o)), .d (.s 8 (x.fBodies.map TBody.o)), .d (.s 5 (x.fChans.map TChan.o)), .d (.s 1 (numR x.fOut)), B x.fOver, I x.fCode]
theorem TWorld.fzl (x : TWorld) : fzl x.o = x.r := by simp only [TWorld.o, TWorld.r, Ev.fzl, D.fz, TBody.fzs, TChan.fzs, TUnit.fzs, fzs_numR]
theorem TWorld.fzlr (x : TWorld) : Ev.fzl x.r = x.r := by simp only [TWorld.r, Ev.fzl, D.fz, TBody.fzr, TChan.fzr, TUnit.fzr, fzs_numR]
theorem TWorld.fzs (xs : List TWorld) : fzs (xs.map TWorld.o) = xs.map TWorld.r := fzs_map _ _ TWorld.fzl xs
theorem TWorld.fzr (xs : List TWorld) : Ev.fzs (xs.map TWorld.r) = xs.map TWorld.r := fzs_map _ _ TWorld.fzlr xs
theorem TWorld.noR (xs : List TWorld) : D.noR.noRss (xs.map TWorld.o) = true := noRss_map _ (fun x => by simp only [TWorld.o, D.noR.noRs, D.noR, Bool.and_true, Bool.true_and, TBody.noR, TChan.noR, TUnit.noR, noR_numR]) xs
def TWorld.sz (x : TWorld) : Int := TUnit.szs x.fUnits + TBody.szs x.fBodies + TChan.szs x.fChans + (x.fOut.length : Int)
theorem TWorld.sz_nn (x : TWorld) : 0 ≤ x.sz := by
  unfold TWorld.sz; have := TUnit.szs_nn x.fUnits; have := TBody.szs_nn x.fBodies; have := TChan.szs_nn x.fChans; omega
def TWorld.szl : List TWorld → Int
  | [] => 0
  | x :: xs => x.sz + TWorld.szl xs
def TWorld.szs (xs : List TWorld) : Int := xs.length + TWorld.szl xs
theorem TWorld.szl_nn : ∀ xs : List TWorld, 0 ≤ TWorld.szl xs
  | [] => by simp [TWorld.szl]
  | x :: xs => by simp only [TWorld.szl]; have := x.sz_nn; have := TWorld.szl_nn xs; omega
theorem TWorld.szs_nn (xs : List TWorld) : 0 ≤ TWorld.szs xs ∧ (xs.length : Int) ≤ TWorld.szs xs := by have := TWorld.szl_nn xs; unfold TWorld.szs; omega
theorem TWorld.sz_le : ∀ {xs : List TWorld} {x : TWorld}, x ∈ xs → x.sz ≤ TWorld.szl xs
  | y :: xs, x, h => by
    simp only [TWorld.szl]
    have h1 := y.sz_nn; have h2 := TWorld.szl_nn xs
    rcases List.mem_cons.1 h with rfl | h
    · omega
    · have := TWorld.sz_le h; omega
def TWorld.sm (x : TWorld) : Prop := (x.fUnits.length ≤ 1048576 ∧ ∀ y ∈ x.fUnits, y.sm) ∧ (x.fBodies.length ≤ 1048576 ∧ ∀ y ∈ x.fBodies, y.sm) ∧ (x.fChans.length ≤ 1048576 ∧ ∀ y ∈ x.fChans, y.sm) ∧ x.fOut.length ≤ 1048576
theorem TWorld.sm_of {x : TWorld} (h : x.sz ≤ 1048576) : x.sm := by
  unfold TWorld.sz at h
  unfold TWorld.sm
  have := TUnit.szs_nn x.fUnits
  have := TBody.szs_nn x.fBodies
  have := TChan.szs_nn x.fChans
  exact ⟨⟨by omega, fun y hy => TUnit.sm_of (by have := TUnit.sz_le hy; unfold TUnit.szs at *; omega)⟩, ⟨by omega, fun y hy => TBody.sm_of (by have := TBody.sz_le hy; unfold TBody.szs at *; omega)⟩, ⟨by omega, fun y hy => TChan.sm_of (by have := TChan.sz_le hy; unfold TChan.szs at *; omega)⟩, by omega⟩
theorem TWorld.sms_of {xs : List TWorld} (h : TWorld.szs xs ≤ 1048576) : xs.length ≤ 1048576 ∧ ∀ y ∈ xs, y.sm := by
  have := TWorld.szl_nn xs
  unfold TWorld.szs at h
  exact ⟨by omega, fun y hy => TWorld.sm_of (by have := TWorld.sz_le hy; omega)⟩
structure TWorld.ok (x : TWorld) : Prop where
  fUnits : x.fUnits.length ≤ 140737488351232 ∧ ∀ y ∈ x.fUnits, y.ok
  fBodies : x.fBodies.length ≤ 140737488351232 ∧ ∀ y ∈ x.fBodies, y.ok
  fChans : x.fChans.length ≤ 140737488351232 ∧ ∀ y ∈ x.fChans, y.ok
  fOut : x.fOut.length ≤ 140737488351232 ∧ ∀ n ∈ x.fOut, i64 n
  fOver : True
  fCode : i64 x.fCode
theorem TWorld.fit {c : List D} (h : fitL [.l 56 [.s, .i .i64, .i .i64, .l 80 [.i .i64, .i .i64, .i .i64, .i .i64, .i .i64, .s, .l 8 [.i .i64]]], .l 72 [.l 48 [.i .i64, .i .i64, .l 8 [.i .i64], .i .i64], .b, .b, .i .i64, .i .i64, .i .i64, .i .i64, .i .i64], .l 88 [.i .i64, .b, .l 8 [.i .i64], .l 32 [.i .i64, .i .i64, .i .i64, .i .i64], .l 32 [.i .i64, .i .i64, .i .i64, .i .i64]], .l 8 [.i .i64], .b, .i .i64] c) : ∃ x : TWorld, c = x.r ∧ x.ok := by
  simp only [fitL] at h
  obtain ⟨_, _, rfl, h0, _, _, rfl, h1, _, _, rfl, h2, _, _, rfl, h3, _, _, rfl, h4, _, _, rfl, h5, rfl⟩ := h
  rw [Ev.fit] at h0; obtain ⟨e0, rfl, b0, c0⟩ := h0; obtain ⟨a0, rfl, g0⟩ := fit_all (fun c hc => TUnit.fit hc) c0; rw [List.length_map] at b0
  rw [Ev.fit] at h1; obtain ⟨e1, rfl, b1, c1⟩ := h1; obtain ⟨a1, rfl, g1⟩ := fit_all (fun c hc => TBody.fit hc) c1; rw [List.length_map] at b1
  rw [Ev.fit] at h2; obtain ⟨e2, rfl, b2, c2⟩ := h2; obtain ⟨a2, rfl, g2⟩ := fit_all (fun c hc => TChan.fit hc) c2; rw [List.length_map] at b2
  rw [Ev.fit] at h3; obtain ⟨e3, rfl, b3, c3⟩ := h3; obtain ⟨a3, rfl, g3⟩ := fit_all (enc := fun n => [DI n]) (ok := i64) (fun c hc => fit_int hc) c3; rw [List.length_map] at b3
  rw [Ev.fit] at h4; obtain ⟨a4, rfl⟩ := h4
  rw [Ev.fit] at h5; obtain ⟨a5, rfl, g5⟩ := h5
  exact ⟨⟨a0, a1, a2, a3, a4, a5⟩, rfl, ⟨⟨(by omega : a0.length ≤ 140737488351232), g0⟩, ⟨(by omega : a1.length ≤ 140737488351232), g1⟩, ⟨(by omega : a2.length ≤ 140737488351232), g2⟩, ⟨(by omega : a3.length ≤ 140737488351232), g3⟩, trivial, wf64 g5⟩⟩
def TWorld.mk_ (k : Int) (x : TWorld) : TWorld := ⟨TUnit.mks (k) x.fUnits, TBody.mks (k + TUnit.cts x.fUnits) x.fBodies, TChan.mks (k + TUnit.cts x.fUnits + TBody.cts x.fBodies) x.fChans, mkInt (k + TUnit.cts x.fUnits + TBody.cts x.fBodies + TChan.cts x.fChans) x.fOut, decide ((k + TUnit.cts x.fUnits + TBody.cts x.fBodies + TChan.cts x.fChans + (x.fOut.length : Int)).tmod 3 = 0), k + TUnit.cts x.fUnits + TBody.cts x.fBodies + TChan.cts x.fChans + (x.fOut.length : Int) + 1⟩
def TWorld.ct (x : TWorld) : Int := TUnit.cts x.fUnits + TBody.cts x.fBodies + TChan.cts x.fChans + (x.fOut.length : Int) + 1 + 1
theorem TWorld.ct_nn (x : TWorld) : 1 ≤ x.ct := by
  unfold TWorld.ct; have := TUnit.cts_nn x.fUnits; have := TBody.cts_nn x.fBodies; have := TChan.cts_nn x.fChans; omega
def TWorld.mks : Int → List TWorld → List TWorld
  | _, [] => []
  | k, x :: xs => TWorld.mk_ k x :: TWorld.mks (k + x.ct) xs
def TWorld.cts : List TWorld → Int
  | [] => 0
  | x :: xs => x.ct + TWorld.cts xs
theorem TWorld.cts_nn : ∀ xs : List TWorld, (xs.length : Int) ≤ TWorld.cts xs
  | [] => by simp [TWorld.cts]
  | x :: xs => by simp only [TWorld.cts, List.length_cons]; have := x.ct_nn; have := TWorld.cts_nn xs; omega
theorem TWorld.mks_len : ∀ (k : Int) (xs : List TWorld), (TWorld.mks k xs).length = xs.length
  | _, [] => rfl
  | k, x :: xs => by simp [TWorld.mks, TWorld.mks_len (k + x.ct) xs]
theorem TWorld.ct_le (x : TWorld) : x.ct ≤ 64 + 64 * x.sz := by
  unfold TWorld.ct TWorld.sz; have := TUnit.cts_le x.fUnits; have := TUnit.szs_nn x.fUnits; have := TBody.cts_le x.fBodies; have := TBody.szs_nn x.fBodies; have := TChan.cts_le x.fChans; have := TChan.szs_nn x.fChans; omega
theorem TWorld.cts_le : ∀ xs : List TWorld, TWorld.cts xs ≤ 64 * TWorld.szs xs
  | [] => by simp [TWorld.cts, TWorld.szs, TWorld.szl]
  | x :: xs => by
    have h1 := x.ct_le; have h2 := TWorld.cts_le xs
    simp only [TWorld.cts, TWorld.szs, TWorld.szl, List.length_cons] at *; omega
def TWorld.mkv (k : Int) (x : TWorld) : TWorld := ⟨TUnit.mks (k) x.fUnits, TBody.mks (k + TUnit.cts x.fUnits) x.fBodies, TChan.mks (k + TUnit.cts x.fUnits + TBody.cts x.fBodies) x.fChans, mkInt (k + TUnit.cts x.fUnits + TBody.cts x.fBodies + TChan.cts x.fChans) x.fOut, x.fOver, x.fCode⟩
def TWorld.ctv (x : TWorld) : Int := TUnit.cts x.fUnits + TBody.cts x.fBodies + TChan.cts x.fChans + (x.fOut.length : Int)
theorem TWorld.ctv_le (x : TWorld) : x.ctv ≤ 64 * x.sz := by
  unfold TWorld.ctv TWorld.sz; have := TUnit.cts_le x.fUnits; have := TUnit.szs_nn x.fUnits; have := TBody.cts_le x.fBodies; have := TBody.szs_nn x.fBodies; have := TChan.cts_le x.fChans; have := TChan.szs_nn x.fChans; omega
theorem laws_toWorld_ok (x : TWorld) (hx : x.sm) : call tab laws_toWorld [x.x] = some x.xo := by
  simp only [TWorld.sm] at hx
  have t0 := laws_toUnitS_ok x.fUnits (by first | exact hx | exact hx.1 | exact hx.2 | exact hx.2.1 | exact hx.2.2 | exact hx.2.2.1 | exact hx.2.2.2 | exact hx.2.2.2.1)
  have t1 := laws_toBodyS_ok x.fBodies (by first | exact hx | exact hx.1 | exact hx.2 | exact hx.2.1 | exact hx.2.2 | exact hx.2.2.1 | exact hx.2.2.2 | exact hx.2.2.2.1)
  have t2 := laws_toChanS_ok x.fChans (by first | exact hx | exact hx.1 | exact hx.2 | exact hx.2.1 | exact hx.2.2 | exact hx.2.2.1 | exact hx.2.2.2 | exact hx.2.2.2.1)
  have t3 := laws_toIntS_ok x.fOut (by omega)
  rw [call_of t_laws_toWorld _ rfl, c_laws_toWorld]
  simp (maxSteps := 2000000) (implicitDefEqProofs := false) (disch := (first | omega | assumption | (refine ⟨?_, ?_⟩ <;> omega) | (unfold catOk; (try simp only [ByteArray.size_append, size_lit, List.length_cons, List.length_nil]); omega) | (unfold mkOk; omega) | (unfold appOk; (try simp only [List.length_map, List.length_append, List.length_cons, List.length_nil]); omega))) only [go_sem, Nat.reduceEqDiff, Nat.reduceBEq, Nat.reduceAdd, Nat.reduceSub, Nat.reduceMul, Nat.reduceLeDiff, Nat.reduceLT, ↓reduceIte, reduceCtorEq, Int.reduceEq, Int.reduceLE, Int.reduceLT, Int.reduceToNat, Int.reduceNeg, Int.reduceSub, Int.reduceAdd, Int.reduceMul, ltT, ltF, leT, leF, neF, catT, mkT, appT, wrap_id, List.length_map, Int.toNat_natCast, TWorld.x, TWorld.xo, t0, t1, t2, t3]
theorem laws_eqWorld_ok (x : TWorld) (hx : x.sm) : call tab laws_eqWorld [x.x, x.x] = some (B true) := by
  simp only [TWorld.sm] at hx
  have t0 := laws_eqUnitS_ok x.fUnits (by first | exact hx | exact hx.1 | exact hx.2 | exact hx.2.1 | exact hx.2.2 | exact hx.2.2.1 | exact hx.2.2.2 | exact hx.2.2.2.1)
  have t1 := laws_eqBodyS_ok x.fBodies (by first | exact hx | exact hx.1 | exact hx.2 | exact hx.2.1 | exact hx.2.2 | exact hx.2.2.1 | exact hx.2.2.2 | exact hx.2.2.2.1)
  have t2 := laws_eqChanS_ok x.fChans (by first | exact hx | exact hx.1 | exact hx.2 | exact hx.2.1 | exact hx.2.2 | exact hx.2.2.1 | exact hx.2.2.2 | exact hx.2.2.2.1)
  have t3 := laws_eqIntS_ok x.fOut (by omega)
  rw [call_of t_laws_eqWorld _ rfl, c_laws_eqWorld]
  simp (maxSteps := 2000000) (implicitDefEqProofs := false) (disch := (first | omega | assumption | (refine ⟨?_, ?_⟩ <;> omega) | (unfold catOk; (try simp only [ByteArray.size_append, size_lit, List.length_cons, List.length_nil]); omega) | (unfold mkOk; omega) | (unfold appOk; (try simp only [List.length_map, List.length_append, List.length_cons, List.length_nil]); omega))) only [go_sem, Nat.reduceEqDiff, Nat.reduceBEq, Nat.reduceAdd, Nat.reduceSub, Nat.reduceMul, Nat.reduceLeDiff, Nat.reduceLT, ↓reduceIte, reduceCtorEq, Int.reduceEq, Int.reduceLE, Int.reduceLT, Int.reduceToNat, Int.reduceNeg, Int.reduceSub, Int.reduceAdd, Int.reduceMul, ltT, ltF, leT, leF, neF, catT, mkT, appT, wrap_id, List.length_map, Int.toNat_natCast, TWorld.x, t0, t1, t2, t3]
theorem laws_szWorld_ok (x : TWorld) (n : Int) (hn : 0 ≤ n ∧ n ≤ 1048576) (hx : x.ok) : call tab laws_szWorld [x.x, I n] = some (I (if n < x.sz then -1 else n - x.sz)) := by
  rw [call_of t_laws_szWorld _ rfl, c_laws_szWorld]
  have hsz : x.sz = TUnit.szs x.fUnits + TBody.szs x.fBodies + TChan.szs x.fChans + (x.fOut.length : Int) := rfl
  rw [hsz]
  have b0 := hx.fUnits.1
  have z0 := TUnit.szs_nn x.fUnits
  have b1 := hx.fBodies.1
  have z1 := TBody.szs_nn x.fBodies
  have b2 := hx.fChans.1
  have z2 := TChan.szs_nn x.fChans
  have b3 := hx.fOut.1
  have f0 := laws_szUnitS_ok x.fUnits (n) (by omega) hx.fUnits
  by_cases c0 : n - TUnit.szs x.fUnits < 0
  · rw [if_pos (by omega)] at f0
    rw [if_pos (show n < TUnit.szs x.fUnits + TBody.szs x.fBodies + TChan.szs x.fChans + (x.fOut.length : Int) by omega)]
    simp (maxSteps := 2000000) (implicitDefEqProofs := false) (disch := (first | omega | assumption | (refine ⟨?_, ?_⟩ <;> omega) | (unfold catOk; (try simp only [ByteArray.size_append, size_lit, List.length_cons, List.length_nil]); omega) | (unfold mkOk; omega) | (unfold appOk; (try simp only [List.length_map, List.length_append, List.length_cons, List.length_nil]); omega))) only [go_sem, Nat.reduceEqDiff, Nat.reduceBEq, Nat.reduceAdd, Nat.reduceSub, Nat.reduceMul, Nat.reduceLeDiff, Nat.reduceLT, ↓reduceIte, reduceCtorEq, Int.reduceEq, Int.reduceLE, Int.reduceLT, Int.reduceToNat, Int.reduceNeg, Int.reduceSub, Int.reduceAdd, Int.reduceMul, ltT, ltF, leT, leF, neF, catT, mkT, appT, wrap_id, List.length_map, Int.toNat_natCast, TWorld.x, c0, f0]
  · rw [if_neg (by omega)] at f0
    have f1 := laws_szBodyS_ok x.fBodies (n - TUnit.szs x.fUnits) (by omega) hx.fBodies
    by_cases c1 : n - TUnit.szs x.fUnits - TBody.szs x.fBodies < 0
    · rw [if_pos (by omega)] at f1
      rw [if_pos (show n < TUnit.szs x.fUnits + TBody.szs x.fBodies + TChan.szs x.fChans + (x.fOut.length : Int) by omega)]
      simp (maxSteps := 2000000) (implicitDefEqProofs := false) (disch := (first | omega | assumption | (refine ⟨?_, ?_⟩ <;> omega) | (unfold catOk; (try simp only [ByteArray.size_append, size_lit, List.length_cons, List.length_nil]); omega) | (unfold mkOk; omega) | (unfold appOk; (try simp only [List.length_map, List.length_append, List.length_cons, List.length_nil]); omega))) only [go_sem, Nat.reduceEqDiff, Nat.reduceBEq, Nat.reduceAdd, Nat.reduceSub, Nat.reduceMul, Nat.reduceLeDiff, Nat.reduceLT, ↓reduceIte, reduceCtorEq, Int.reduceEq, Int.reduceLE, Int.reduceLT, Int.reduceToNat, Int.reduceNeg, Int.reduceSub, Int.reduceAdd, Int.reduceMul, ltT, ltF, leT, leF, neF, catT, mkT, appT, wrap_id, List.length_map, Int.toNat_natCast, TWorld.x, f0, c0, c1, f1]
    · rw [if_neg (by omega)] at f1
      have f2 := laws_szChanS_ok x.fChans (n - TUnit.szs x.fUnits - TBody.szs x.fBodies) (by omega) hx.fChans
      by_cases c2 : n - TUnit.szs x.fUnits - TBody.szs x.fBodies - TChan.szs x.fChans < 0
      · rw [if_pos (by omega)] at f2
        rw [if_pos (show n < TUnit.szs x.fUnits + TBody.szs x.fBodies + TChan.szs x.fChans + (x.fOut.length : Int) by omega)]
        simp (maxSteps := 2000000) (implicitDefEqProofs := false) (disch := (first | omega | assumption | (refine ⟨?_, ?_⟩ <;> omega) | (unfold catOk; (try simp only [ByteArray.size_append, size_lit, List.length_cons, List.length_nil]); omega) | (unfold mkOk; omega) | (unfold appOk; (try simp only [List.length_map, List.length_append, List.length_cons, List.length_nil]); omega))) only [go_sem, Nat.reduceEqDiff, Nat.reduceBEq, Nat.reduceAdd, Nat.reduceSub, Nat.reduceMul, Nat.reduceLeDiff, Nat.reduceLT, ↓reduceIte, reduceCtorEq, Int.reduceEq, Int.reduceLE, Int.reduceLT, Int.reduceToNat, Int.reduceNeg, Int.reduceSub, Int.reduceAdd, Int.reduceMul, ltT, ltF, leT, leF, neF, catT, mkT, appT, wrap_id, List.length_map, Int.toNat_natCast, TWorld.x, f0, c0, f1, c1, c2, f2]
      · rw [if_neg (by omega)] at f2
        have f3 := laws_szIntS_ok x.fOut (n - TUnit.szs x.fUnits - TBody.szs x.fBodies - TChan.szs x.fChans) (by omega) (by omega)
        by_cases c3 : n - TUnit.szs x.fUnits - TBody.szs x.fBodies - TChan.szs x.fChans - (x.fOut.length : Int) < 0
        · rw [if_pos (by omega)] at f3
          rw [if_pos (show n < TUnit.szs x.fUnits + TBody.szs x.fBodies + TChan.szs x.fChans + (x.fOut.length : Int) by omega)]
          simp (maxSteps := 2000000) (implicitDefEqProofs := false) (disch := (first | omega | assumption | (refine ⟨?_, ?_⟩ <;> omega) | (unfold catOk; (try simp only [ByteArray.size_append, size_lit, List.length_cons, List.length_nil]); omega) | (unfold mkOk; omega) | (unfold appOk; (try simp only [List.length_map, List.length_append, List.length_cons, List.length_nil]); omega))) only [go_sem, Nat.reduceEqDiff, Nat.reduceBEq, Nat.reduceAdd, Nat.reduceSub, Nat.reduceMul, Nat.reduceLeDiff, Nat.reduceLT, ↓reduceIte, reduceCtorEq, Int.reduceEq, Int.reduceLE, Int.reduceLT, Int.reduceToNat, Int.reduceNeg, Int.reduceSub, Int.reduceAdd, Int.reduceMul, ltT, ltF, leT, leF, neF, catT, mkT, appT, wrap_id, List.length_map, Int.toNat_natCast, TWorld.x, f0, c0, f1, c1, f2, c2, c3, f3]
        · rw [if_neg (by omega)] at f3
          rw [if_neg (show ¬ n < TUnit.szs x.fUnits + TBody.szs x.fBodies + TChan.szs x.fChans + (x.fOut.length : Int) by omega)]
          rw [show n - (TUnit.szs x.fUnits + TBody.szs x.fBodies + TChan.szs x.fChans + (x.fOut.length : Int)) = n - TUnit.szs x.fUnits - TBody.szs x.fBodies - TChan.szs x.fChans - (x.fOut.length : Int) by omega]
          simp (maxSteps := 2000000) (implicitDefEqProofs := false) (disch := (first | omega | assumption | (refine ⟨?_, ?_⟩ <;> omega) | (unfold catOk; (try simp only [ByteArray.size_append, size_lit, List.length_cons, List.length_nil]); omega) | (unfold mkOk; omega) | (unfold appOk; (try simp only [List.length_map, List.length_append, List.length_cons, List.length_nil]); omega))) only [go_sem, Nat.reduceEqDiff, Nat.reduceBEq, Nat.reduceAdd, Nat.reduceSub, Nat.reduceMul, Nat.reduceLeDiff, Nat.reduceLT, ↓reduceIte, reduceCtorEq, Int.reduceEq, Int.reduceLE, Int.reduceLT, Int.reduceToNat, Int.reduceNeg, Int.reduceSub, Int.reduceAdd, Int.reduceMul, ltT, ltF, leT, leF, neF, catT, mkT, appT, wrap_id, List.length_map, Int.toNat_natCast, TWorld.x, f0, c0, f1, c1, f2, c2, f3, c3]
end Go.Ev.G
