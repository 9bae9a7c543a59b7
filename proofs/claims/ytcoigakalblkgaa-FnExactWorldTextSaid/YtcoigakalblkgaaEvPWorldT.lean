/- A world as text. -/
import Derived.Test.YtcoigakalblkgaaEvQWorld
import Derived.Test.YtcoigakalblkgaaEvPBodyT
import Derived.Test.YtcoigakalblkgaaEvPText
set_option linter.all false
namespace Go.Ev.G
set_option maxRecDepth 8000
set_option maxHeartbeats 4000000
abbrev vpW (w : TWorld) : X := .vp [.d (.r (w.fUnits.map TUnit.r)), .d (.r (w.fBodies.map TBody.r)), .d (.r (w.fChans.map TChan.r)), .d (.r (numR w.fOut)), B w.fOver, I w.fCode]
def bodiesT : Int → List TBody → ByteArray
  | _, [] => ⟨#[]⟩
  | j, x :: xs => dig j ++ (⟨#[32]⟩ ++ (bodyTxt x ++ (⟨#[10]⟩ ++ bodiesT (j + 1) xs)))
def chanT (x : TChan) : ByteArray := ⟨#[99, 104, 97, 110, 32]⟩ ++ (dig x.fCap ++ (⟨#[32]⟩ ++ (dig x.fBuf.length ++ (⟨#[32]⟩ ++ ((if x.fClosed = true then ⟨#[99, 108, 111, 115, 101, 100]⟩ else ⟨#[111, 112, 101, 110]⟩) ++ ⟨#[10]⟩)))))
def chansT : List TChan → ByteArray
  | [] => ⟨#[]⟩
  | x :: xs => chanT x ++ chansT xs
theorem chanT_size {x : TChan} (h : x.ok) (hs : x.sm) : (chanT x).size ≤ 60 := by
  have h1 := dig_size h.fCap
  have i1 : i64 (x.fBuf.length : Int) := ⟨by omega, by have := hs.1; omega⟩
  have h2 := dig_size i1
  unfold chanT
  split <;> simp only [ByteArray.size_append, size_lit, List.length_cons, List.length_nil] <;> omega
theorem chansT_size : ∀ {xs : List TChan}, (∀ x ∈ xs, x.ok) → (∀ x ∈ xs, x.sm) → (chansT xs).size ≤ 60 * xs.length
  | [], _, _ => by simp only [chansT, size_lit]; simp
  | x :: xs, h, hs => by
    have h1 := chanT_size (h x (by simp)) (hs x (by simp))
    have h2 := chansT_size (xs := xs) (fun m hm => h m (by simp [hm])) (fun m hm => hs m (by simp [hm]))
    simp only [chansT, ByteArray.size_append, List.length_cons]
    omega
theorem bodiesT_size : ∀ {xs : List TBody} (j : Int), 0 ≤ j → j + xs.length ≤ 1048576 → (∀ x ∈ xs, x.ok) → (∀ x ∈ xs, x.sm) → (bodiesT j xs).size ≤ 50000000 * xs.length
  | [], _, _, _, _, _ => by simp only [bodiesT, size_lit]; simp
  | x :: xs, j, hj, hl, h, hs => by
    simp only [List.length_cons] at hl
    have h1 := bodyTxt_size (h x (by simp))
    have h2 := bodiesT_size (xs := xs) (j + 1) (by omega) (by omega) (fun m hm => h m (by simp [hm])) (fun m hm => hs m (by simp [hm]))
    have h3 := dig_size (n := j) ⟨by omega, by omega⟩
    have h4 := (hs x (by simp)).1
    simp only [bodiesT, ByteArray.size_append, List.length_cons, size_lit, List.length_nil]
    omega
theorem impl_WorldText_l0 (w : TWorld) (hs : w.sm) (hok : w.ok) : ∀ (Bl : List TBody) (j : Int) (out : ByteArray), w.fBodies.drop j.toNat = Bl → 0 ≤ j → out.size + 50000000 * Bl.length ≤ 70368744177664 →
    loopW tab [1, 3, 10, 11, 12] b_impl_WorldText_0 { env := upd (upd (upd (upd (upd emp 12 (some (I j))) 11 (some (I (w.fBodies.length : Int)))) 10 (some (.d (.r (w.fBodies.map TBody.r))))) 3 (some (Str out))) 1 (some (vpW w)), heap := emp, fr := 0, next := 0 } = some (.ext 0, { env := upd (upd emp 3 (some (Str (out ++ bodiesT j Bl)))) 1 (some (vpW w)), heap := emp, fr := 0, next := 0 })
  | [], j, out, hd, hj, ho => by
    unfold loopW
    conv => lhs; arg 1; unfold b_impl_WorldText_0
    have h1 := dropn hd hj
    have hl := hs.2.1.1
    ((try simp (maxSteps := 2000000) (implicitDefEqProofs := false) (disch := (first | assumption | omega | (refine ⟨?_, ?_⟩ <;> omega) | (unfold catOk; (try simp only [ByteArray.size_append, size_lit, List.length_cons, List.length_nil]); omega) | (unfold mkOk; omega) | (unfold appOk; (try simp only [List.length_map, List.length_append, List.length_cons, List.length_nil]); omega))) only [go_sem, Nat.reduceEqDiff, Nat.reduceBEq, Nat.reduceAdd, Nat.reduceSub, Nat.reduceMul, Nat.reduceLeDiff, Nat.reduceLT, ↓reduceIte, reduceCtorEq, Int.reduceEq, Int.reduceLE, Int.reduceLT, Int.reduceToNat, Int.reduceNeg, Int.reduceSub, Int.reduceAdd, Int.reduceMul, ltT, ltF, leT, leF, neF, eqT, baT, baF, bvT, bvF, catT, mkT, appT, wrap_id, List.length_map, Int.toNat_natCast, Bool.not_not, condK_n, condK_bt, condK_bf, condK_bg, guardK_nt, guardK_nf, guardK_tT, guardK_fT, guardK_tF, guardK_fF, guardK_tG, guardK_fG, pickK_n, pickK_bt, pickK_bf, pickK_bg, bodiesT, app_nil]) <;> repeat' ((first | rw [condK_d] | rw [guardK_dt] | rw [guardK_df] | rw [pickK_d] | rw [condK_b] | rw [guardK_bt] | rw [guardK_bf] | rw [pickK_b] | skip); split <;> (try simp (maxSteps := 2000000) (implicitDefEqProofs := false) (disch := (first | assumption | omega | (refine ⟨?_, ?_⟩ <;> omega) | (unfold catOk; (try simp only [ByteArray.size_append, size_lit, List.length_cons, List.length_nil]); omega) | (unfold mkOk; omega) | (unfold appOk; (try simp only [List.length_map, List.length_append, List.length_cons, List.length_nil]); omega))) only [go_sem, Nat.reduceEqDiff, Nat.reduceBEq, Nat.reduceAdd, Nat.reduceSub, Nat.reduceMul, Nat.reduceLeDiff, Nat.reduceLT, ↓reduceIte, reduceCtorEq, Int.reduceEq, Int.reduceLE, Int.reduceLT, Int.reduceToNat, Int.reduceNeg, Int.reduceSub, Int.reduceAdd, Int.reduceMul, ltT, ltF, leT, leF, neF, eqT, baT, baF, bvT, bvF, catT, mkT, appT, wrap_id, List.length_map, Int.toNat_natCast, Bool.not_not, condK_n, condK_bt, condK_bf, condK_bg, guardK_nt, guardK_nf, guardK_tT, guardK_fT, guardK_tF, guardK_fF, guardK_tG, guardK_fG, pickK_n, pickK_bt, pickK_bf, pickK_bg, bodiesT, app_nil])))
  | x :: Bl, j, out, hd, hj, ho => by
    unfold loopW
    conv => lhs; arg 1; unfold b_impl_WorldText_0
    have h1 := dropc hd hj
    have h5 := h1.2.1
    have h2 := getm TBody.r h1.1
    simp only [TBody.r] at h2
    have hl := hs.2.1.1
    have hx := hok.fBodies.2 x h1.2.2.2.1
    have hsx := hs.2.1.2 x h1.2.2.2.1
    have hb := impl_BodyText_ok x hx hsx
    have z1 := bodyTxt_size hx
    have z2 := hsx.1
    have i1 : i64 j := ⟨by omega, by omega⟩
    have z3 := dig_size i1
    simp only [List.length_cons] at ho
    have ih := impl_WorldText_l0 w hs hok Bl (j + 1) (out ++ (dig j ++ (⟨#[32]⟩ ++ (bodyTxt x ++ ⟨#[10]⟩)))) h1.2.2.1 (by omega) (by simp only [ByteArray.size_append, size_lit, List.length_cons, List.length_nil]; omega)
    simp only [ByteArray.append_assoc] at ih
    ((try simp (maxSteps := 2000000) (implicitDefEqProofs := false) (disch := (first | assumption | omega | (refine ⟨?_, ?_⟩ <;> omega) | (unfold catOk; (try simp only [ByteArray.size_append, size_lit, List.length_cons, List.length_nil]); omega) | (unfold mkOk; omega) | (unfold appOk; (try simp only [List.length_map, List.length_append, List.length_cons, List.length_nil]); omega))) only [go_sem, Nat.reduceEqDiff, Nat.reduceBEq, Nat.reduceAdd, Nat.reduceSub, Nat.reduceMul, Nat.reduceLeDiff, Nat.reduceLT, ↓reduceIte, reduceCtorEq, Int.reduceEq, Int.reduceLE, Int.reduceLT, Int.reduceToNat, Int.reduceNeg, Int.reduceSub, Int.reduceAdd, Int.reduceMul, ltT, ltF, leT, leF, neF, eqT, baT, baF, bvT, bvF, catT, mkT, appT, wrap_id, List.length_map, Int.toNat_natCast, Bool.not_not, condK_n, condK_bt, condK_bf, condK_bg, guardK_nt, guardK_nf, guardK_tT, guardK_fT, guardK_tF, guardK_fF, guardK_tG, guardK_fG, pickK_n, pickK_bt, pickK_bf, pickK_bg, h2, hb, impl_Digits_ok i1, ih, bodiesT, ByteArray.append_assoc]) <;> repeat' ((first | rw [condK_d] | rw [guardK_dt] | rw [guardK_df] | rw [pickK_d] | rw [condK_b] | rw [guardK_bt] | rw [guardK_bf] | rw [pickK_b] | skip); split <;> (try simp (maxSteps := 2000000) (implicitDefEqProofs := false) (disch := (first | assumption | omega | (refine ⟨?_, ?_⟩ <;> omega) | (unfold catOk; (try simp only [ByteArray.size_append, size_lit, List.length_cons, List.length_nil]); omega) | (unfold mkOk; omega) | (unfold appOk; (try simp only [List.length_map, List.length_append, List.length_cons, List.length_nil]); omega))) only [go_sem, Nat.reduceEqDiff, Nat.reduceBEq, Nat.reduceAdd, Nat.reduceSub, Nat.reduceMul, Nat.reduceLeDiff, Nat.reduceLT, ↓reduceIte, reduceCtorEq, Int.reduceEq, Int.reduceLE, Int.reduceLT, Int.reduceToNat, Int.reduceNeg, Int.reduceSub, Int.reduceAdd, Int.reduceMul, ltT, ltF, leT, leF, neF, eqT, baT, baF, bvT, bvF, catT, mkT, appT, wrap_id, List.length_map, Int.toNat_natCast, Bool.not_not, condK_n, condK_bt, condK_bf, condK_bg, guardK_nt, guardK_nf, guardK_tT, guardK_fT, guardK_tF, guardK_fF, guardK_tG, guardK_fG, pickK_n, pickK_bt, pickK_bf, pickK_bg, h2, hb, impl_Digits_ok i1, ih, bodiesT, ByteArray.append_assoc])))
theorem impl_WorldText_l1 (w : TWorld) (hs : w.sm) (hok : w.ok) : ∀ (Bl : List TChan) (j : Int) (out : ByteArray), w.fChans.drop j.toNat = Bl → 0 ≤ j → out.size + 60 * Bl.length ≤ 140737488355328 →
    loopW tab [1, 3, 28, 29, 30] b_impl_WorldText_1 { env := upd (upd (upd (upd (upd emp 30 (some (I j))) 29 (some (I (w.fChans.length : Int)))) 28 (some (.d (.r (w.fChans.map TChan.r))))) 3 (some (Str out))) 1 (some (vpW w)), heap := emp, fr := 0, next := 0 } = some (.ext 2, { env := upd (upd emp 3 (some (Str (out ++ chansT Bl)))) 1 (some (vpW w)), heap := emp, fr := 0, next := 0 })
  | [], j, out, hd, hj, ho => by
    unfold loopW
    conv => lhs; arg 1; unfold b_impl_WorldText_1
    have h1 := dropn hd hj
    have hl := hs.2.2.1.1
    ((try simp (maxSteps := 2000000) (implicitDefEqProofs := false) (disch := (first | assumption | omega | (refine ⟨?_, ?_⟩ <;> omega) | (unfold catOk; (try simp only [ByteArray.size_append, size_lit, List.length_cons, List.length_nil]); omega) | (unfold mkOk; omega) | (unfold appOk; (try simp only [List.length_map, List.length_append, List.length_cons, List.length_nil]); omega))) only [go_sem, Nat.reduceEqDiff, Nat.reduceBEq, Nat.reduceAdd, Nat.reduceSub, Nat.reduceMul, Nat.reduceLeDiff, Nat.reduceLT, ↓reduceIte, reduceCtorEq, Int.reduceEq, Int.reduceLE, Int.reduceLT, Int.reduceToNat, Int.reduceNeg, Int.reduceSub, Int.reduceAdd, Int.reduceMul, ltT, ltF, leT, leF, neF, eqT, baT, baF, bvT, bvF, catT, mkT, appT, wrap_id, List.length_map, Int.toNat_natCast, Bool.not_not, condK_n, condK_bt, condK_bf, condK_bg, guardK_nt, guardK_nf, guardK_tT, guardK_fT, guardK_tF, guardK_fF, guardK_tG, guardK_fG, pickK_n, pickK_bt, pickK_bf, pickK_bg, chansT, app_nil]) <;> repeat' ((first | rw [condK_d] | rw [guardK_dt] | rw [guardK_df] | rw [pickK_d] | rw [condK_b] | rw [guardK_bt] | rw [guardK_bf] | rw [pickK_b] | skip); split <;> (try simp (maxSteps := 2000000) (implicitDefEqProofs := false) (disch := (first | assumption | omega | (refine ⟨?_, ?_⟩ <;> omega) | (unfold catOk; (try simp only [ByteArray.size_append, size_lit, List.length_cons, List.length_nil]); omega) | (unfold mkOk; omega) | (unfold appOk; (try simp only [List.length_map, List.length_append, List.length_cons, List.length_nil]); omega))) only [go_sem, Nat.reduceEqDiff, Nat.reduceBEq, Nat.reduceAdd, Nat.reduceSub, Nat.reduceMul, Nat.reduceLeDiff, Nat.reduceLT, ↓reduceIte, reduceCtorEq, Int.reduceEq, Int.reduceLE, Int.reduceLT, Int.reduceToNat, Int.reduceNeg, Int.reduceSub, Int.reduceAdd, Int.reduceMul, ltT, ltF, leT, leF, neF, eqT, baT, baF, bvT, bvF, catT, mkT, appT, wrap_id, List.length_map, Int.toNat_natCast, Bool.not_not, condK_n, condK_bt, condK_bf, condK_bg, guardK_nt, guardK_nf, guardK_tT, guardK_fT, guardK_tF, guardK_fF, guardK_tG, guardK_fG, pickK_n, pickK_bt, pickK_bf, pickK_bg, chansT, app_nil])))
  | x :: Bl, j, out, hd, hj, ho => by
    unfold loopW
    conv => lhs; arg 1; unfold b_impl_WorldText_1
    have h1 := dropc hd hj
    have h5 := h1.2.1
    have h2 := getm TChan.r h1.1
    simp only [TChan.r] at h2
    have hl := hs.2.2.1.1
    have hx := hok.fChans.2 x h1.2.2.2.1
    have hsx := hs.2.2.1.2 x h1.2.2.2.1
    have z1 := chanT_size hx hsx
    have z2 := hsx.1
    have i1 : i64 (x.fBuf.length : Int) := ⟨by omega, by omega⟩
    have z3 := dig_size i1
    have z4 := dig_size hx.fCap
    simp only [List.length_cons] at ho
    have ih := impl_WorldText_l1 w hs hok Bl (j + 1) (out ++ chanT x) h1.2.2.1 (by omega) (by rw [ByteArray.size_append]; omega)
    simp only [ByteArray.append_assoc] at ih
    unfold chanT at ih
    cases hc : x.fClosed <;> simp only [hc, Bool.false_eq_true, if_true, if_false, ByteArray.append_assoc] at ih <;> ((try simp (maxSteps := 2000000) (implicitDefEqProofs := false) (disch := (first | assumption | omega | (refine ⟨?_, ?_⟩ <;> omega) | (unfold catOk; (try simp only [ByteArray.size_append, size_lit, List.length_cons, List.length_nil]); omega) | (unfold mkOk; omega) | (unfold appOk; (try simp only [List.length_map, List.length_append, List.length_cons, List.length_nil]); omega))) only [go_sem, Nat.reduceEqDiff, Nat.reduceBEq, Nat.reduceAdd, Nat.reduceSub, Nat.reduceMul, Nat.reduceLeDiff, Nat.reduceLT, ↓reduceIte, reduceCtorEq, Int.reduceEq, Int.reduceLE, Int.reduceLT, Int.reduceToNat, Int.reduceNeg, Int.reduceSub, Int.reduceAdd, Int.reduceMul, ltT, ltF, leT, leF, neF, eqT, baT, baF, bvT, bvF, catT, mkT, appT, wrap_id, List.length_map, Int.toNat_natCast, Bool.not_not, condK_n, condK_bt, condK_bf, condK_bg, guardK_nt, guardK_nf, guardK_tT, guardK_fT, guardK_tF, guardK_fF, guardK_tG, guardK_fG, pickK_n, pickK_bt, pickK_bf, pickK_bg, h2, hc, impl_Digits_ok i1, impl_Digits_ok hx.fCap, ih, chansT, chanT, ByteArray.append_assoc]) <;> repeat' ((first | rw [condK_d] | rw [guardK_dt] | rw [guardK_df] | rw [pickK_d] | rw [condK_b] | rw [guardK_bt] | rw [guardK_bf] | rw [pickK_b] | skip); split <;> (try simp (maxSteps := 2000000) (implicitDefEqProofs := false) (disch := (first | assumption | omega | (refine ⟨?_, ?_⟩ <;> omega) | (unfold catOk; (try simp only [ByteArray.size_append, size_lit, List.length_cons, List.length_nil]); omega) | (unfold mkOk; omega) | (unfold appOk; (try simp only [List.length_map, List.length_append, List.length_cons, List.length_nil]); omega))) only [go_sem, Nat.reduceEqDiff, Nat.reduceBEq, Nat.reduceAdd, Nat.reduceSub, Nat.reduceMul, Nat.reduceLeDiff, Nat.reduceLT, ↓reduceIte, reduceCtorEq, Int.reduceEq, Int.reduceLE, Int.reduceLT, Int.reduceToNat, Int.reduceNeg, Int.reduceSub, Int.reduceAdd, Int.reduceMul, ltT, ltF, leT, leF, neF, eqT, baT, baF, bvT, bvF, catT, mkT, appT, wrap_id, List.length_map, Int.toNat_natCast, Bool.not_not, condK_n, condK_bt, condK_bf, condK_bg, guardK_nt, guardK_nf, guardK_tT, guardK_fT, guardK_tF, guardK_fF, guardK_tG, guardK_fG, pickK_n, pickK_bt, pickK_bf, pickK_bg, h2, hc, impl_Digits_ok i1, impl_Digits_ok hx.fCap, ih, chansT, chanT, ByteArray.append_assoc])))
def worldT (w : TWorld) : ByteArray := bodiesT 0 w.fBodies ++ (chansT w.fChans ++ (outT w.fOut ++ (⟨#[10]⟩ ++ (if w.fOver = true then ⟨#[111, 118, 101, 114, 32]⟩ ++ (dig w.fCode ++ ⟨#[10]⟩) else ⟨#[]⟩))))
theorem impl_WorldText_ok (w : TWorld) (hs : w.sm) (hok : w.ok) : call tab impl_WorldText [w.x] = some (Str (worldT w)) := by
  rw [call_of t_impl_WorldText _ rfl, c_impl_WorldText, worldT]
  have g1 := hs.2.1.1
  have g2 := hs.2.2.1.1
  have g3 := hs.2.2.2
  have z1 := bodiesT_size (xs := w.fBodies) 0 (by omega) (by omega) hok.fBodies.2 hs.2.1.2
  have z2 := chansT_size hok.fChans.2 hs.2.2.1.2
  have h0 := impl_WorldText_l0 w hs hok w.fBodies 0 ⟨#[]⟩ rfl (by omega) (by simp only [size_lit, List.length_nil]; omega)
  have h1 := impl_WorldText_l1 w hs hok w.fChans 0 (bodiesT 0 w.fBodies) rfl (by omega) (by omega)
  rw [show (⟨#[]⟩ : ByteArray) ++ bodiesT 0 w.fBodies = bodiesT 0 w.fBodies from ByteArray.empty_append] at h0
  have z3 := dig_size hok.fCode
  have z4 := numsT_size hok.fOut.2
  have z5 : (outT w.fOut).size = 3 + (numsT w.fOut).size := by simp only [outT, ByteArray.size_append, size_lit, List.length_cons, List.length_nil]
  ((try simp (maxSteps := 2000000) (implicitDefEqProofs := false) (disch := (first | assumption | omega | (refine ⟨?_, ?_⟩ <;> omega) | (unfold catOk; (try simp only [ByteArray.size_append, size_lit, List.length_cons, List.length_nil]); omega) | (unfold mkOk; omega) | (unfold appOk; (try simp only [List.length_map, List.length_append, List.length_cons, List.length_nil]); omega))) only [go_sem, Nat.reduceEqDiff, Nat.reduceBEq, Nat.reduceAdd, Nat.reduceSub, Nat.reduceMul, Nat.reduceLeDiff, Nat.reduceLT, ↓reduceIte, reduceCtorEq, Int.reduceEq, Int.reduceLE, Int.reduceLT, Int.reduceToNat, Int.reduceNeg, Int.reduceSub, Int.reduceAdd, Int.reduceMul, ltT, ltF, leT, leF, neF, eqT, baT, baF, bvT, bvF, catT, mkT, appT, wrap_id, List.length_map, Int.toNat_natCast, Bool.not_not, condK_n, condK_bt, condK_bf, condK_bg, guardK_nt, guardK_nf, guardK_tT, guardK_fT, guardK_tF, guardK_fF, guardK_tG, guardK_fG, pickK_n, pickK_bt, pickK_bf, pickK_bg, h0, h1, impl_Digits_ok hok.fCode, impl_outText_ok w.fOut g3 hok.fOut.2]) <;> repeat' ((first | rw [condK_d] | rw [guardK_dt] | rw [guardK_df] | rw [pickK_d] | rw [condK_b] | rw [guardK_bt] | rw [guardK_bf] | rw [pickK_b] | skip); split <;> (try simp (maxSteps := 2000000) (implicitDefEqProofs := false) (disch := (first | assumption | omega | (refine ⟨?_, ?_⟩ <;> omega) | (unfold catOk; (try simp only [ByteArray.size_append, size_lit, List.length_cons, List.length_nil]); omega) | (unfold mkOk; omega) | (unfold appOk; (try simp only [List.length_map, List.length_append, List.length_cons, List.length_nil]); omega))) only [go_sem, Nat.reduceEqDiff, Nat.reduceBEq, Nat.reduceAdd, Nat.reduceSub, Nat.reduceMul, Nat.reduceLeDiff, Nat.reduceLT, ↓reduceIte, reduceCtorEq, Int.reduceEq, Int.reduceLE, Int.reduceLT, Int.reduceToNat, Int.reduceNeg, Int.reduceSub, Int.reduceAdd, Int.reduceMul, ltT, ltF, leT, leF, neF, eqT, baT, baF, bvT, bvF, catT, mkT, appT, wrap_id, List.length_map, Int.toNat_natCast, Bool.not_not, condK_n, condK_bt, condK_bf, condK_bg, guardK_nt, guardK_nf, guardK_tT, guardK_fT, guardK_tF, guardK_fF, guardK_tG, guardK_fG, pickK_n, pickK_bt, pickK_bf, pickK_bg, h0, h1, impl_Digits_ok hok.fCode, impl_outText_ok w.fOut g3 hok.fOut.2])))
  all_goals simp only [ByteArray.append_assoc, app_nil]
theorem spec_WorldText_l0 (w : TWorld) (hs : w.sm) (hok : w.ok) : ∀ (Bl : List TBody) (j : Int) (out : ByteArray), w.fBodies.drop j.toNat = Bl → 0 ≤ j → out.size + 50000000 * Bl.length ≤ 70368744177664 →
    loopW tab [1, 3, 4] b_spec_WorldText_0 { env := upd (upd (upd emp 4 (some (I j))) 3 (some (Str out))) 1 (some (vpW w)), heap := emp, fr := 0, next := 0 } = some (.ext 0, { env := upd (upd emp 3 (some (Str (out ++ bodiesT j Bl)))) 1 (some (vpW w)), heap := emp, fr := 0, next := 0 })
  | [], j, out, hd, hj, ho => by
    unfold loopW
    conv => lhs; arg 1; unfold b_spec_WorldText_0
    have h1 := dropn hd hj
    have hl := hs.2.1.1
    ((try simp (maxSteps := 2000000) (implicitDefEqProofs := false) (disch := (first | assumption | omega | (refine ⟨?_, ?_⟩ <;> omega) | (unfold catOk; (try simp only [ByteArray.size_append, size_lit, List.length_cons, List.length_nil]); omega) | (unfold mkOk; omega) | (unfold appOk; (try simp only [List.length_map, List.length_append, List.length_cons, List.length_nil]); omega))) only [go_sem, Nat.reduceEqDiff, Nat.reduceBEq, Nat.reduceAdd, Nat.reduceSub, Nat.reduceMul, Nat.reduceLeDiff, Nat.reduceLT, ↓reduceIte, reduceCtorEq, Int.reduceEq, Int.reduceLE, Int.reduceLT, Int.reduceToNat, Int.reduceNeg, Int.reduceSub, Int.reduceAdd, Int.reduceMul, ltT, ltF, leT, leF, neF, eqT, baT, baF, bvT, bvF, catT, mkT, appT, wrap_id, List.length_map, Int.toNat_natCast, Bool.not_not, condK_n, condK_bt, condK_bf, condK_bg, guardK_nt, guardK_nf, guardK_tT, guardK_fT, guardK_tF, guardK_fF, guardK_tG, guardK_fG, pickK_n, pickK_bt, pickK_bf, pickK_bg, bodiesT, app_nil]) <;> repeat' ((first | rw [condK_d] | rw [guardK_dt] | rw [guardK_df] | rw [pickK_d] | rw [condK_b] | rw [guardK_bt] | rw [guardK_bf] | rw [pickK_b] | skip); split <;> (try simp (maxSteps := 2000000) (implicitDefEqProofs := false) (disch := (first | assumption | omega | (refine ⟨?_, ?_⟩ <;> omega) | (unfold catOk; (try simp only [ByteArray.size_append, size_lit, List.length_cons, List.length_nil]); omega) | (unfold mkOk; omega) | (unfold appOk; (try simp only [List.length_map, List.length_append, List.length_cons, List.length_nil]); omega))) only [go_sem, Nat.reduceEqDiff, Nat.reduceBEq, Nat.reduceAdd, Nat.reduceSub, Nat.reduceMul, Nat.reduceLeDiff, Nat.reduceLT, ↓reduceIte, reduceCtorEq, Int.reduceEq, Int.reduceLE, Int.reduceLT, Int.reduceToNat, Int.reduceNeg, Int.reduceSub, Int.reduceAdd, Int.reduceMul, ltT, ltF, leT, leF, neF, eqT, baT, baF, bvT, bvF, catT, mkT, appT, wrap_id, List.length_map, Int.toNat_natCast, Bool.not_not, condK_n, condK_bt, condK_bf, condK_bg, guardK_nt, guardK_nf, guardK_tT, guardK_fT, guardK_tF, guardK_fF, guardK_tG, guardK_fG, pickK_n, pickK_bt, pickK_bf, pickK_bg, bodiesT, app_nil])))
  | x :: Bl, j, out, hd, hj, ho => by
    unfold loopW
    conv => lhs; arg 1; unfold b_spec_WorldText_0
    have h1 := dropc hd hj
    have h5 := h1.2.1
    have h2 := getm TBody.r h1.1
    simp only [TBody.r] at h2
    have hl := hs.2.1.1
    have hx := hok.fBodies.2 x h1.2.2.2.1
    have hsx := hs.2.1.2 x h1.2.2.2.1
    have hb := spec_BodyText_ok x hx hsx
    have z1 := bodyTxt_size hx
    have z2 := hsx.1
    have i1 : i64 j := ⟨by omega, by omega⟩
    have z3 := dig_size i1
    simp only [List.length_cons] at ho
    have ih := spec_WorldText_l0 w hs hok Bl (j + 1) (out ++ (dig j ++ (⟨#[32]⟩ ++ (bodyTxt x ++ ⟨#[10]⟩)))) h1.2.2.1 (by omega) (by simp only [ByteArray.size_append, size_lit, List.length_cons, List.length_nil]; omega)
    simp only [ByteArray.append_assoc] at ih
    ((try simp (maxSteps := 2000000) (implicitDefEqProofs := false) (disch := (first | assumption | omega | (refine ⟨?_, ?_⟩ <;> omega) | (unfold catOk; (try simp only [ByteArray.size_append, size_lit, List.length_cons, List.length_nil]); omega) | (unfold mkOk; omega) | (unfold appOk; (try simp only [List.length_map, List.length_append, List.length_cons, List.length_nil]); omega))) only [go_sem, Nat.reduceEqDiff, Nat.reduceBEq, Nat.reduceAdd, Nat.reduceSub, Nat.reduceMul, Nat.reduceLeDiff, Nat.reduceLT, ↓reduceIte, reduceCtorEq, Int.reduceEq, Int.reduceLE, Int.reduceLT, Int.reduceToNat, Int.reduceNeg, Int.reduceSub, Int.reduceAdd, Int.reduceMul, ltT, ltF, leT, leF, neF, eqT, baT, baF, bvT, bvF, catT, mkT, appT, wrap_id, List.length_map, Int.toNat_natCast, Bool.not_not, condK_n, condK_bt, condK_bf, condK_bg, guardK_nt, guardK_nf, guardK_tT, guardK_fT, guardK_tF, guardK_fF, guardK_tG, guardK_fG, pickK_n, pickK_bt, pickK_bf, pickK_bg, h2, hb, spec_Digits_ok i1, ih, bodiesT, ByteArray.append_assoc]) <;> repeat' ((first | rw [condK_d] | rw [guardK_dt] | rw [guardK_df] | rw [pickK_d] | rw [condK_b] | rw [guardK_bt] | rw [guardK_bf] | rw [pickK_b] | skip); split <;> (try simp (maxSteps := 2000000) (implicitDefEqProofs := false) (disch := (first | assumption | omega | (refine ⟨?_, ?_⟩ <;> omega) | (unfold catOk; (try simp only [ByteArray.size_append, size_lit, List.length_cons, List.length_nil]); omega) | (unfold mkOk; omega) | (unfold appOk; (try simp only [List.length_map, List.length_append, List.length_cons, List.length_nil]); omega))) only [go_sem, Nat.reduceEqDiff, Nat.reduceBEq, Nat.reduceAdd, Nat.reduceSub, Nat.reduceMul, Nat.reduceLeDiff, Nat.reduceLT, ↓reduceIte, reduceCtorEq, Int.reduceEq, Int.reduceLE, Int.reduceLT, Int.reduceToNat, Int.reduceNeg, Int.reduceSub, Int.reduceAdd, Int.reduceMul, ltT, ltF, leT, leF, neF, eqT, baT, baF, bvT, bvF, catT, mkT, appT, wrap_id, List.length_map, Int.toNat_natCast, Bool.not_not, condK_n, condK_bt, condK_bf, condK_bg, guardK_nt, guardK_nf, guardK_tT, guardK_fT, guardK_tF, guardK_fF, guardK_tG, guardK_fG, pickK_n, pickK_bt, pickK_bf, pickK_bg, h2, hb, spec_Digits_ok i1, ih, bodiesT, ByteArray.append_assoc])))
theorem spec_WorldText_l1 (w : TWorld) (hs : w.sm) (hok : w.ok) : ∀ (Bl : List TChan) (j : Int) (out : ByteArray), w.fChans.drop j.toNat = Bl → 0 ≤ j → out.size + 60 * Bl.length ≤ 140737488355328 →
    loopW tab [1, 3, 5] b_spec_WorldText_1 { env := upd (upd (upd emp 5 (some (I j))) 3 (some (Str out))) 1 (some (vpW w)), heap := emp, fr := 0, next := 0 } = some (.ext 2, { env := upd (upd emp 3 (some (Str (out ++ chansT Bl)))) 1 (some (vpW w)), heap := emp, fr := 0, next := 0 })
  | [], j, out, hd, hj, ho => by
    unfold loopW
    conv => lhs; arg 1; unfold b_spec_WorldText_1
    have h1 := dropn hd hj
    have hl := hs.2.2.1.1
    ((try simp (maxSteps := 2000000) (implicitDefEqProofs := false) (disch := (first | assumption | omega | (refine ⟨?_, ?_⟩ <;> omega) | (unfold catOk; (try simp only [ByteArray.size_append, size_lit, List.length_cons, List.length_nil]); omega) | (unfold mkOk; omega) | (unfold appOk; (try simp only [List.length_map, List.length_append, List.length_cons, List.length_nil]); omega))) only [go_sem, Nat.reduceEqDiff, Nat.reduceBEq, Nat.reduceAdd, Nat.reduceSub, Nat.reduceMul, Nat.reduceLeDiff, Nat.reduceLT, ↓reduceIte, reduceCtorEq, Int.reduceEq, Int.reduceLE, Int.reduceLT, Int.reduceToNat, Int.reduceNeg, Int.reduceSub, Int.reduceAdd, Int.reduceMul, ltT, ltF, leT, leF, neF, eqT, baT, baF, bvT, bvF, catT, mkT, appT, wrap_id, List.length_map, Int.toNat_natCast, Bool.not_not, condK_n, condK_bt, condK_bf, condK_bg, guardK_nt, guardK_nf, guardK_tT, guardK_fT, guardK_tF, guardK_fF, guardK_tG, guardK_fG, pickK_n, pickK_bt, pickK_bf, pickK_bg, chansT, app_nil]) <;> repeat' ((first | rw [condK_d] | rw [guardK_dt] | rw [guardK_df] | rw [pickK_d] | rw [condK_b] | rw [guardK_bt] | rw [guardK_bf] | rw [pickK_b] | skip); split <;> (try simp (maxSteps := 2000000) (implicitDefEqProofs := false) (disch := (first | assumption | omega | (refine ⟨?_, ?_⟩ <;> omega) | (unfold catOk; (try simp only [ByteArray.size_append, size_lit, List.length_cons, List.length_nil]); omega) | (unfold mkOk; omega) | (unfold appOk; (try simp only [List.length_map, List.length_append, List.length_cons, List.length_nil]); omega))) only [go_sem, Nat.reduceEqDiff, Nat.reduceBEq, Nat.reduceAdd, Nat.reduceSub, Nat.reduceMul, Nat.reduceLeDiff, Nat.reduceLT, ↓reduceIte, reduceCtorEq, Int.reduceEq, Int.reduceLE, Int.reduceLT, Int.reduceToNat, Int.reduceNeg, Int.reduceSub, Int.reduceAdd, Int.reduceMul, ltT, ltF, leT, leF, neF, eqT, baT, baF, bvT, bvF, catT, mkT, appT, wrap_id, List.length_map, Int.toNat_natCast, Bool.not_not, condK_n, condK_bt, condK_bf, condK_bg, guardK_nt, guardK_nf, guardK_tT, guardK_fT, guardK_tF, guardK_fF, guardK_tG, guardK_fG, pickK_n, pickK_bt, pickK_bf, pickK_bg, chansT, app_nil])))
  | x :: Bl, j, out, hd, hj, ho => by
    unfold loopW
    conv => lhs; arg 1; unfold b_spec_WorldText_1
    have h1 := dropc hd hj
    have h5 := h1.2.1
    have h2 := getm TChan.r h1.1
    simp only [TChan.r] at h2
    have hl := hs.2.2.1.1
    have hx := hok.fChans.2 x h1.2.2.2.1
    have hsx := hs.2.2.1.2 x h1.2.2.2.1
    have z1 := chanT_size hx hsx
    have z2 := hsx.1
    have i1 : i64 (x.fBuf.length : Int) := ⟨by omega, by omega⟩
    have z3 := dig_size i1
    have z4 := dig_size hx.fCap
    simp only [List.length_cons] at ho
    have ih := spec_WorldText_l1 w hs hok Bl (j + 1) (out ++ chanT x) h1.2.2.1 (by omega) (by rw [ByteArray.size_append]; omega)
    simp only [ByteArray.append_assoc] at ih
    unfold chanT at ih
    cases hc : x.fClosed <;> simp only [hc, Bool.false_eq_true, if_true, if_false, ByteArray.append_assoc] at ih <;> ((try simp (maxSteps := 2000000) (implicitDefEqProofs := false) (disch := (first | assumption | omega | (refine ⟨?_, ?_⟩ <;> omega) | (unfold catOk; (try simp only [ByteArray.size_append, size_lit, List.length_cons, List.length_nil]); omega) | (unfold mkOk; omega) | (unfold appOk; (try simp only [List.length_map, List.length_append, List.length_cons, List.length_nil]); omega))) only [go_sem, Nat.reduceEqDiff, Nat.reduceBEq, Nat.reduceAdd, Nat.reduceSub, Nat.reduceMul, Nat.reduceLeDiff, Nat.reduceLT, ↓reduceIte, reduceCtorEq, Int.reduceEq, Int.reduceLE, Int.reduceLT, Int.reduceToNat, Int.reduceNeg, Int.reduceSub, Int.reduceAdd, Int.reduceMul, ltT, ltF, leT, leF, neF, eqT, baT, baF, bvT, bvF, catT, mkT, appT, wrap_id, List.length_map, Int.toNat_natCast, Bool.not_not, condK_n, condK_bt, condK_bf, condK_bg, guardK_nt, guardK_nf, guardK_tT, guardK_fT, guardK_tF, guardK_fF, guardK_tG, guardK_fG, pickK_n, pickK_bt, pickK_bf, pickK_bg, h2, hc, spec_Digits_ok i1, spec_Digits_ok hx.fCap, ih, chansT, chanT, ByteArray.append_assoc]) <;> repeat' ((first | rw [condK_d] | rw [guardK_dt] | rw [guardK_df] | rw [pickK_d] | rw [condK_b] | rw [guardK_bt] | rw [guardK_bf] | rw [pickK_b] | skip); split <;> (try simp (maxSteps := 2000000) (implicitDefEqProofs := false) (disch := (first | assumption | omega | (refine ⟨?_, ?_⟩ <;> omega) | (unfold catOk; (try simp only [ByteArray.size_append, size_lit, List.length_cons, List.length_nil]); omega) | (unfold mkOk; omega) | (unfold appOk; (try simp only [List.length_map, List.length_append, List.length_cons, List.length_nil]); omega))) only [go_sem, Nat.reduceEqDiff, Nat.reduceBEq, Nat.reduceAdd, Nat.reduceSub, Nat.reduceMul, Nat.reduceLeDiff, Nat.reduceLT, ↓reduceIte, reduceCtorEq, Int.reduceEq, Int.reduceLE, Int.reduceLT, Int.reduceToNat, Int.reduceNeg, Int.reduceSub, Int.reduceAdd, Int.reduceMul, ltT, ltF, leT, leF, neF, eqT, baT, baF, bvT, bvF, catT, mkT, appT, wrap_id, List.length_map, Int.toNat_natCast, Bool.not_not, condK_n, condK_bt, condK_bf, condK_bg, guardK_nt, guardK_nf, guardK_tT, guardK_fT, guardK_tF, guardK_fF, guardK_tG, guardK_fG, pickK_n, pickK_bt, pickK_bf, pickK_bg, h2, hc, spec_Digits_ok i1, spec_Digits_ok hx.fCap, ih, chansT, chanT, ByteArray.append_assoc])))
theorem spec_WorldText_ok (w : TWorld) (hs : w.sm) (hok : w.ok) : call tab spec_WorldText [w.x] = some (Str (worldT w)) := by
  rw [call_of t_spec_WorldText _ rfl, c_spec_WorldText, worldT]
  have g1 := hs.2.1.1
  have g2 := hs.2.2.1.1
  have g3 := hs.2.2.2
  have z1 := bodiesT_size (xs := w.fBodies) 0 (by omega) (by omega) hok.fBodies.2 hs.2.1.2
  have z2 := chansT_size hok.fChans.2 hs.2.2.1.2
  have h0 := spec_WorldText_l0 w hs hok w.fBodies 0 ⟨#[]⟩ rfl (by omega) (by simp only [size_lit, List.length_nil]; omega)
  have h1 := spec_WorldText_l1 w hs hok w.fChans 0 (bodiesT 0 w.fBodies) rfl (by omega) (by omega)
  rw [show (⟨#[]⟩ : ByteArray) ++ bodiesT 0 w.fBodies = bodiesT 0 w.fBodies from ByteArray.empty_append] at h0
  have z3 := dig_size hok.fCode
  have z4 := numsT_size hok.fOut.2
  have z5 : (outT w.fOut).size = 3 + (numsT w.fOut).size := by simp only [outT, ByteArray.size_append, size_lit, List.length_cons, List.length_nil]
  ((try simp (maxSteps := 2000000) (implicitDefEqProofs := false) (disch := (first | assumption | omega | (refine ⟨?_, ?_⟩ <;> omega) | (unfold catOk; (try simp only [ByteArray.size_append, size_lit, List.length_cons, List.length_nil]); omega) | (unfold mkOk; omega) | (unfold appOk; (try simp only [List.length_map, List.length_append, List.length_cons, List.length_nil]); omega))) only [go_sem, Nat.reduceEqDiff, Nat.reduceBEq, Nat.reduceAdd, Nat.reduceSub, Nat.reduceMul, Nat.reduceLeDiff, Nat.reduceLT, ↓reduceIte, reduceCtorEq, Int.reduceEq, Int.reduceLE, Int.reduceLT, Int.reduceToNat, Int.reduceNeg, Int.reduceSub, Int.reduceAdd, Int.reduceMul, ltT, ltF, leT, leF, neF, eqT, baT, baF, bvT, bvF, catT, mkT, appT, wrap_id, List.length_map, Int.toNat_natCast, Bool.not_not, condK_n, condK_bt, condK_bf, condK_bg, guardK_nt, guardK_nf, guardK_tT, guardK_fT, guardK_tF, guardK_fF, guardK_tG, guardK_fG, pickK_n, pickK_bt, pickK_bf, pickK_bg, h0, h1, spec_Digits_ok hok.fCode, spec_l28Out_ok w.fOut g3 hok.fOut.2]) <;> repeat' ((first | rw [condK_d] | rw [guardK_dt] | rw [guardK_df] | rw [pickK_d] | rw [condK_b] | rw [guardK_bt] | rw [guardK_bf] | rw [pickK_b] | skip); split <;> (try simp (maxSteps := 2000000) (implicitDefEqProofs := false) (disch := (first | assumption | omega | (refine ⟨?_, ?_⟩ <;> omega) | (unfold catOk; (try simp only [ByteArray.size_append, size_lit, List.length_cons, List.length_nil]); omega) | (unfold mkOk; omega) | (unfold appOk; (try simp only [List.length_map, List.length_append, List.length_cons, List.length_nil]); omega))) only [go_sem, Nat.reduceEqDiff, Nat.reduceBEq, Nat.reduceAdd, Nat.reduceSub, Nat.reduceMul, Nat.reduceLeDiff, Nat.reduceLT, ↓reduceIte, reduceCtorEq, Int.reduceEq, Int.reduceLE, Int.reduceLT, Int.reduceToNat, Int.reduceNeg, Int.reduceSub, Int.reduceAdd, Int.reduceMul, ltT, ltF, leT, leF, neF, eqT, baT, baF, bvT, bvF, catT, mkT, appT, wrap_id, List.length_map, Int.toNat_natCast, Bool.not_not, condK_n, condK_bt, condK_bf, condK_bg, guardK_nt, guardK_nf, guardK_tT, guardK_fT, guardK_tF, guardK_fF, guardK_tG, guardK_fG, pickK_n, pickK_bt, pickK_bf, pickK_bg, h0, h1, spec_Digits_ok hok.fCode, spec_l28Out_ok w.fOut g3 hok.fOut.2])))
  all_goals simp only [ByteArray.append_assoc, app_nil]
theorem law_FnExactWorldText (x : TWorld) (hx : x.ok) : call tab laws_FnExactWorldText [x.x] = some (B true) := by
  rw [call_of t_laws_FnExactWorldText _ rfl, c_laws_FnExactWorldText]
  have hs := laws_szWorld_ok x 1048576 (by omega) hx
  by_cases h0 : (1048576 : Int) < x.sz
  · rw [if_pos h0] at hs
    ((try simp (maxSteps := 2000000) (implicitDefEqProofs := false) (disch := (first | assumption | omega | (refine ⟨?_, ?_⟩ <;> omega) | (unfold catOk; (try simp only [ByteArray.size_append, size_lit, List.length_cons, List.length_nil]); omega) | (unfold mkOk; omega) | (unfold appOk; (try simp only [List.length_map, List.length_append, List.length_cons, List.length_nil]); omega))) only [go_sem, Nat.reduceEqDiff, Nat.reduceBEq, Nat.reduceAdd, Nat.reduceSub, Nat.reduceMul, Nat.reduceLeDiff, Nat.reduceLT, ↓reduceIte, reduceCtorEq, Int.reduceEq, Int.reduceLE, Int.reduceLT, Int.reduceToNat, Int.reduceNeg, Int.reduceSub, Int.reduceAdd, Int.reduceMul, ltT, ltF, leT, leF, neF, eqT, baT, baF, bvT, bvF, catT, mkT, appT, wrap_id, List.length_map, Int.toNat_natCast, Bool.not_not, condK_n, condK_bt, condK_bf, condK_bg, guardK_nt, guardK_nf, guardK_tT, guardK_fT, guardK_tF, guardK_fF, guardK_tG, guardK_fG, pickK_n, pickK_bt, pickK_bf, pickK_bg, TWorld.x, hs]) <;> repeat' ((first | rw [condK_d] | rw [guardK_dt] | rw [guardK_df] | rw [pickK_d] | rw [condK_b] | rw [guardK_bt] | rw [guardK_bf] | rw [pickK_b] | skip); split <;> (try simp (maxSteps := 2000000) (implicitDefEqProofs := false) (disch := (first | assumption | omega | (refine ⟨?_, ?_⟩ <;> omega) | (unfold catOk; (try simp only [ByteArray.size_append, size_lit, List.length_cons, List.length_nil]); omega) | (unfold mkOk; omega) | (unfold appOk; (try simp only [List.length_map, List.length_append, List.length_cons, List.length_nil]); omega))) only [go_sem, Nat.reduceEqDiff, Nat.reduceBEq, Nat.reduceAdd, Nat.reduceSub, Nat.reduceMul, Nat.reduceLeDiff, Nat.reduceLT, ↓reduceIte, reduceCtorEq, Int.reduceEq, Int.reduceLE, Int.reduceLT, Int.reduceToNat, Int.reduceNeg, Int.reduceSub, Int.reduceAdd, Int.reduceMul, ltT, ltF, leT, leF, neF, eqT, baT, baF, bvT, bvF, catT, mkT, appT, wrap_id, List.length_map, Int.toNat_natCast, Bool.not_not, condK_n, condK_bt, condK_bf, condK_bg, guardK_nt, guardK_nf, guardK_tT, guardK_fT, guardK_tF, guardK_fF, guardK_tG, guardK_fG, pickK_n, pickK_bt, pickK_bf, pickK_bg, TWorld.x, hs])))
  · rw [if_neg h0] at hs
    have hm := TWorld.sm_of (x := x) (by omega)
    ((try simp (maxSteps := 2000000) (implicitDefEqProofs := false) (disch := (first | assumption | omega | (refine ⟨?_, ?_⟩ <;> omega) | (unfold catOk; (try simp only [ByteArray.size_append, size_lit, List.length_cons, List.length_nil]); omega) | (unfold mkOk; omega) | (unfold appOk; (try simp only [List.length_map, List.length_append, List.length_cons, List.length_nil]); omega))) only [go_sem, Nat.reduceEqDiff, Nat.reduceBEq, Nat.reduceAdd, Nat.reduceSub, Nat.reduceMul, Nat.reduceLeDiff, Nat.reduceLT, ↓reduceIte, reduceCtorEq, Int.reduceEq, Int.reduceLE, Int.reduceLT, Int.reduceToNat, Int.reduceNeg, Int.reduceSub, Int.reduceAdd, Int.reduceMul, ltT, ltF, leT, leF, neF, eqT, baT, baF, bvT, bvF, catT, mkT, appT, wrap_id, List.length_map, Int.toNat_natCast, Bool.not_not, condK_n, condK_bt, condK_bf, condK_bg, guardK_nt, guardK_nf, guardK_tT, guardK_fT, guardK_tF, guardK_fF, guardK_tG, guardK_fG, pickK_n, pickK_bt, pickK_bf, pickK_bg, TWorld.x, hs, laws_toWorld_ok x hm, spec_WorldText_ok x hm hx, impl_WorldText_ok x hm hx, laws_eqWorld_ok x hm, TUnit.fzs, TBody.fzs, TChan.fzs, fzs_numR, TWorld.xo]) <;> repeat' ((first | rw [condK_d] | rw [guardK_dt] | rw [guardK_df] | rw [pickK_d] | rw [condK_b] | rw [guardK_bt] | rw [guardK_bf] | rw [pickK_b] | skip); split <;> (try simp (maxSteps := 2000000) (implicitDefEqProofs := false) (disch := (first | assumption | omega | (refine ⟨?_, ?_⟩ <;> omega) | (unfold catOk; (try simp only [ByteArray.size_append, size_lit, List.length_cons, List.length_nil]); omega) | (unfold mkOk; omega) | (unfold appOk; (try simp only [List.length_map, List.length_append, List.length_cons, List.length_nil]); omega))) only [go_sem, Nat.reduceEqDiff, Nat.reduceBEq, Nat.reduceAdd, Nat.reduceSub, Nat.reduceMul, Nat.reduceLeDiff, Nat.reduceLT, ↓reduceIte, reduceCtorEq, Int.reduceEq, Int.reduceLE, Int.reduceLT, Int.reduceToNat, Int.reduceNeg, Int.reduceSub, Int.reduceAdd, Int.reduceMul, ltT, ltF, leT, leF, neF, eqT, baT, baF, bvT, bvF, catT, mkT, appT, wrap_id, List.length_map, Int.toNat_natCast, Bool.not_not, condK_n, condK_bt, condK_bf, condK_bg, guardK_nt, guardK_nf, guardK_tT, guardK_fT, guardK_tF, guardK_fF, guardK_tG, guardK_fG, pickK_n, pickK_bt, pickK_bf, pickK_bg, TWorld.x, hs, laws_toWorld_ok x hm, spec_WorldText_ok x hm hx, impl_WorldText_ok x hm hx, laws_eqWorld_ok x hm, TUnit.fzs, TBody.fzs, TChan.fzs, fzs_numR, TWorld.xo])))
theorem pure_FnExactWorldText (xs : List X) (h : fitXs [(true, [.l 56 [.s, .i .i64, .i .i64, .l 80 [.i .i64, .i .i64, .i .i64, .i .i64, .i .i64, .s, .l 8 [.i .i64]]], .l 72 [.l 48 [.i .i64, .i .i64, .l 8 [.i .i64], .i .i64], .b, .b, .i .i64, .i .i64, .i .i64, .i .i64, .i .i64], .l 88 [.i .i64, .b, .l 8 [.i .i64], .l 32 [.i .i64, .i .i64, .i .i64, .i .i64], .l 32 [.i .i64, .i .i64, .i .i64, .i .i64]], .l 8 [.i .i64], .b, .i .i64])] xs) : call tab laws_FnExactWorldText xs = some (.d (.v (.bool true))) := by
  simp only [fitXs, fitX] at h
  obtain ⟨x0, r0, rfl, ⟨d0, rfl, hf0⟩, rfl⟩ := h
  obtain ⟨y0, rfl, hy0⟩ := TWorld.fit hf0
  exact law_FnExactWorldText y0 hy0
end Go.Ev.G
