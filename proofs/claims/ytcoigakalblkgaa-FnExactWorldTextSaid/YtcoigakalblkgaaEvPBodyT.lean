/- A body as text. -/
import Derived.Test.YtcoigakalblkgaaEvQBody
import Derived.Test.YtcoigakalblkgaaEvPWord
set_option linter.all false
namespace Go.Ev.G
set_option maxRecDepth 8000
set_option maxHeartbeats 4000000
def frTxt (x : TFrame) : ByteArray := ⟨#[32]⟩ ++ dig x.fUnit ++ ⟨#[58]⟩ ++ dig x.fPc
def frsTxt : List TFrame → ByteArray
  | [] => ⟨#[]⟩
  | x :: xs => frTxt x ++ frsTxt xs
def stateTxt (e w : Bool) : ByteArray := if e = true then ⟨#[101, 110, 100, 101, 100]⟩ else if w = true then ⟨#[119, 97, 105, 116, 115]⟩ else ⟨#[111, 112, 101, 110]⟩
def bodyTxt (x : TBody) : ByteArray := stateTxt x.fEnded x.fWaits ++ frsTxt x.fFrames
theorem stateTxt_size (e w : Bool) : (stateTxt e w).size ≤ 5 := by cases e <;> cases w <;> decide
theorem frTxt_size {x : TFrame} (h : x.ok) : (frTxt x).size ≤ 42 := by
  have h1 := dig_size h.fUnit
  have h2 := dig_size h.fPc
  simp only [frTxt, ByteArray.size_append, size_lit, List.length_cons, List.length_nil]
  omega
theorem frsTxt_size : ∀ {xs : List TFrame}, (∀ x ∈ xs, x.ok) → (frsTxt xs).size ≤ 42 * xs.length
  | [], _ => by simp only [frsTxt, size_lit]; simp
  | x :: xs, h => by
    have h1 := frTxt_size (h x (by simp))
    have h2 := frsTxt_size (xs := xs) (fun m hm => h m (by simp [hm]))
    simp only [frsTxt, ByteArray.size_append, List.length_cons]
    omega
theorem bodyTxt_size {x : TBody} (h : x.ok) : (bodyTxt x).size ≤ 42 * x.fFrames.length + 5 := by
  have h1 := frsTxt_size h.fFrames.2
  have h2 := stateTxt_size x.fEnded x.fWaits
  simp only [bodyTxt, ByteArray.size_append]
  omega
theorem impl_BodyText_l0 (fs : List TFrame) (hl : fs.length ≤ 1048576) (hok : ∀ x ∈ fs, x.ok) : ∀ (B A : List TFrame) (out : ByteArray), fs = A ++ B → out.size + 42 * B.length ≤ 1099511627776 →
    loopW tab [3, 13, 14, 15] b_impl_BodyText_0 { env := upd (upd (upd (upd emp 15 (some (I (A.length : Int)))) 14 (some (I (fs.length : Int)))) 13 (some (.d (.r (fs.map TFrame.r))))) 3 (some (Str out)), heap := emp, fr := 0, next := 0 } = some (.ext 1, { env := upd emp 3 (some (Str (out ++ frsTxt B))), heap := emp, fr := 0, next := 0 })
  | [], A, out, h, ho => by
    rw [List.append_nil] at h
    subst h
    unfold loopW
    conv => lhs; arg 1; unfold b_impl_BodyText_0
    have h1 : out ++ frsTxt [] = out := ByteArray.append_empty
    simp (maxSteps := 2000000) (implicitDefEqProofs := false) (disch := (first | omega | assumption | (refine ⟨?_, ?_⟩ <;> omega) | (unfold catOk; (try simp only [ByteArray.size_append, size_lit, List.length_cons, List.length_nil]); omega) | (unfold mkOk; omega) | (unfold appOk; (try simp only [List.length_map, List.length_append, List.length_cons, List.length_nil]); omega))) only [go_sem, Nat.reduceEqDiff, Nat.reduceBEq, Nat.reduceAdd, Nat.reduceSub, Nat.reduceMul, Nat.reduceLeDiff, Nat.reduceLT, ↓reduceIte, reduceCtorEq, Int.reduceEq, Int.reduceLE, Int.reduceLT, Int.reduceToNat, Int.reduceNeg, Int.reduceSub, Int.reduceAdd, Int.reduceMul, ltT, ltF, leT, leF, neF, catT, mkT, appT, wrap_id, List.length_map, Int.toNat_natCast, h1]
  | x :: B, A, out, h, ho => by
    unfold loopW
    conv => lhs; arg 1; unfold b_impl_BodyText_0
    have hlen : fs.length = A.length + (B.length + 1) := by rw [h]; simp
    have h2 : (fs.map TFrame.r)[A.length]? = some x.r := by rw [h]; simp
    simp only [TFrame.r] at h2
    have hx := hok x (by rw [h]; simp)
    have hd1 := dig_size hx.fUnit
    have hd2 := dig_size hx.fPc
    simp only [List.length_cons] at ho
    have ih := impl_BodyText_l0 fs hl hok B (A ++ [x]) (out ++ frTxt x) (by simp [h]) (by have := frTxt_size hx; rw [ByteArray.size_append]; omega)
    rw [show (((A ++ [x]).length : Nat) : Int) = (A.length : Int) + 1 by simp, ByteArray.append_assoc, show frTxt x ++ frsTxt B = frsTxt (x :: B) from rfl] at ih
    simp only [frTxt] at ih
    simp (maxSteps := 2000000) (implicitDefEqProofs := false) (disch := (first | omega | assumption | (refine ⟨?_, ?_⟩ <;> omega) | (unfold catOk; (try simp only [ByteArray.size_append, size_lit, List.length_cons, List.length_nil]); omega) | (unfold mkOk; omega) | (unfold appOk; (try simp only [List.length_map, List.length_append, List.length_cons, List.length_nil]); omega))) only [go_sem, Nat.reduceEqDiff, Nat.reduceBEq, Nat.reduceAdd, Nat.reduceSub, Nat.reduceMul, Nat.reduceLeDiff, Nat.reduceLT, ↓reduceIte, reduceCtorEq, Int.reduceEq, Int.reduceLE, Int.reduceLT, Int.reduceToNat, Int.reduceNeg, Int.reduceSub, Int.reduceAdd, Int.reduceMul, ltT, ltF, leT, leF, neF, catT, mkT, appT, wrap_id, List.length_map, Int.toNat_natCast, h2, impl_Digits_ok hx.fUnit, impl_Digits_ok hx.fPc, ih]
theorem impl_BodyText_ok (x : TBody) (hx : x.ok) (hs : x.sm) : call tab impl_BodyText [x.x] = some (Str (bodyTxt x)) := by
  rw [call_of t_impl_BodyText _ rfl, c_impl_BodyText]
  have hl := fun out ho => impl_BodyText_l0 x.fFrames hs.1 hx.fFrames.2 x.fFrames [] out rfl ho
  simp only [List.length_nil, Int.cast_ofNat_Int] at hl
  have h1 := hs.1
  unfold bodyTxt
  have hl1 := hl ⟨#[101, 110, 100, 101, 100]⟩ (by simp only [size_lit, List.length_cons, List.length_nil]; omega)
  have hl2 := hl ⟨#[119, 97, 105, 116, 115]⟩ (by simp only [size_lit, List.length_cons, List.length_nil]; omega)
  have hl3 := hl ⟨#[111, 112, 101, 110]⟩ (by simp only [size_lit, List.length_cons, List.length_nil]; omega)
  cases he : x.fEnded with
  | true => simp (maxSteps := 2000000) (implicitDefEqProofs := false) (disch := (first | omega | assumption | (refine ⟨?_, ?_⟩ <;> omega) | (unfold catOk; (try simp only [ByteArray.size_append, size_lit, List.length_cons, List.length_nil]); omega) | (unfold mkOk; omega) | (unfold appOk; (try simp only [List.length_map, List.length_append, List.length_cons, List.length_nil]); omega))) only [go_sem, Nat.reduceEqDiff, Nat.reduceBEq, Nat.reduceAdd, Nat.reduceSub, Nat.reduceMul, Nat.reduceLeDiff, Nat.reduceLT, ↓reduceIte, reduceCtorEq, Int.reduceEq, Int.reduceLE, Int.reduceLT, Int.reduceToNat, Int.reduceNeg, Int.reduceSub, Int.reduceAdd, Int.reduceMul, ltT, ltF, leT, leF, neF, catT, mkT, appT, wrap_id, List.length_map, Int.toNat_natCast, TBody.x, he, hl1, stateTxt]
  | false =>
    cases hw : x.fWaits with
    | true => simp (maxSteps := 2000000) (implicitDefEqProofs := false) (disch := (first | omega | assumption | (refine ⟨?_, ?_⟩ <;> omega) | (unfold catOk; (try simp only [ByteArray.size_append, size_lit, List.length_cons, List.length_nil]); omega) | (unfold mkOk; omega) | (unfold appOk; (try simp only [List.length_map, List.length_append, List.length_cons, List.length_nil]); omega))) only [go_sem, Nat.reduceEqDiff, Nat.reduceBEq, Nat.reduceAdd, Nat.reduceSub, Nat.reduceMul, Nat.reduceLeDiff, Nat.reduceLT, ↓reduceIte, reduceCtorEq, Int.reduceEq, Int.reduceLE, Int.reduceLT, Int.reduceToNat, Int.reduceNeg, Int.reduceSub, Int.reduceAdd, Int.reduceMul, ltT, ltF, leT, leF, neF, catT, mkT, appT, wrap_id, List.length_map, Int.toNat_natCast, TBody.x, he, hw, hl2, stateTxt]
    | false => simp (maxSteps := 2000000) (implicitDefEqProofs := false) (disch := (first | omega | assumption | (refine ⟨?_, ?_⟩ <;> omega) | (unfold catOk; (try simp only [ByteArray.size_append, size_lit, List.length_cons, List.length_nil]); omega) | (unfold mkOk; omega) | (unfold appOk; (try simp only [List.length_map, List.length_append, List.length_cons, List.length_nil]); omega))) only [go_sem, Nat.reduceEqDiff, Nat.reduceBEq, Nat.reduceAdd, Nat.reduceSub, Nat.reduceMul, Nat.reduceLeDiff, Nat.reduceLT, ↓reduceIte, reduceCtorEq, Int.reduceEq, Int.reduceLE, Int.reduceLT, Int.reduceToNat, Int.reduceNeg, Int.reduceSub, Int.reduceAdd, Int.reduceMul, ltT, ltF, leT, leF, neF, catT, mkT, appT, wrap_id, List.length_map, Int.toNat_natCast, TBody.x, he, hw, hl3, stateTxt]
theorem spec_BodyText_l0 (y : TBody) (fs : List TFrame) (hl : fs.length ≤ 1048576) (hok : ∀ x ∈ fs, x.ok) (B : List TFrame) : ∀ (A : List TFrame) (out : ByteArray), fs = A ++ B → out.size + 42 * B.length ≤ 1099511627776 →
    loopW tab [1, 3, 4] b_spec_BodyText_0 { env := upd (upd (upd emp 4 (some (I (A.length : Int)))) 3 (some (Str out))) 1 (some (.vp [.d (.r (fs.map TFrame.r)), Ev.B y.fEnded, Ev.B y.fWaits, I y.fTicket, I y.fValue, I y.fCase, I y.fDst, I y.fTwo])), heap := emp, fr := 0, next := 0 } = some (.ext 1, { env := upd emp 3 (some (Str (out ++ frsTxt B))), heap := emp, fr := 0, next := 0 }) := by
  induction B with
  | nil =>
    intro A out h ho
    rw [List.append_nil] at h
    subst h
    unfold loopW
    conv => lhs; arg 1; unfold b_spec_BodyText_0
    have h1 : out ++ frsTxt [] = out := ByteArray.append_empty
    simp (maxSteps := 2000000) (implicitDefEqProofs := false) (disch := (first | omega | assumption | (refine ⟨?_, ?_⟩ <;> omega) | (unfold catOk; (try simp only [ByteArray.size_append, size_lit, List.length_cons, List.length_nil]); omega) | (unfold mkOk; omega) | (unfold appOk; (try simp only [List.length_map, List.length_append, List.length_cons, List.length_nil]); omega))) only [go_sem, Nat.reduceEqDiff, Nat.reduceBEq, Nat.reduceAdd, Nat.reduceSub, Nat.reduceMul, Nat.reduceLeDiff, Nat.reduceLT, ↓reduceIte, reduceCtorEq, Int.reduceEq, Int.reduceLE, Int.reduceLT, Int.reduceToNat, Int.reduceNeg, Int.reduceSub, Int.reduceAdd, Int.reduceMul, ltT, ltF, leT, leF, neF, catT, mkT, appT, wrap_id, List.length_map, Int.toNat_natCast, h1]
  | cons x B ih0 =>
    intro A out h ho
    unfold loopW
    conv => lhs; arg 1; unfold b_spec_BodyText_0
    have hlen : fs.length = A.length + (B.length + 1) := by rw [h]; simp
    have h2 : (fs.map TFrame.r)[A.length]? = some x.r := by rw [h]; simp
    simp only [TFrame.r] at h2
    have hx := hok x (by rw [h]; simp)
    have hd1 := dig_size hx.fUnit
    have hd2 := dig_size hx.fPc
    simp only [List.length_cons] at ho
    have hsz := frTxt_size hx
    have ih := ih0 (A ++ [x]) (out ++ frTxt x) (by simp [h]) (by rw [ByteArray.size_append]; omega)
    have e1 : out ++ frTxt x ++ frsTxt B = out ++ frsTxt (x :: B) := by rw [frsTxt, ByteArray.append_assoc]
    have e2 : out ++ ⟨#[32]⟩ ++ dig x.fUnit ++ ⟨#[58]⟩ ++ dig x.fPc = out ++ frTxt x := by simp only [frTxt, ByteArray.append_assoc]
    rw [show (((A ++ [x]).length : Nat) : Int) = (A.length : Int) + 1 by simp, e1] at ih
    simp (maxSteps := 2000000) (implicitDefEqProofs := false) (disch := (first | omega | assumption | (refine ⟨?_, ?_⟩ <;> omega) | (unfold catOk; (try simp only [ByteArray.size_append, size_lit, List.length_cons, List.length_nil]); omega) | (unfold mkOk; omega) | (unfold appOk; (try simp only [List.length_map, List.length_append, List.length_cons, List.length_nil]); omega))) only [go_sem, Nat.reduceEqDiff, Nat.reduceBEq, Nat.reduceAdd, Nat.reduceSub, Nat.reduceMul, Nat.reduceLeDiff, Nat.reduceLT, ↓reduceIte, reduceCtorEq, Int.reduceEq, Int.reduceLE, Int.reduceLT, Int.reduceToNat, Int.reduceNeg, Int.reduceSub, Int.reduceAdd, Int.reduceMul, ltT, ltF, leT, leF, neF, catT, mkT, appT, wrap_id, List.length_map, Int.toNat_natCast, h2, spec_Digits_ok hx.fUnit, spec_Digits_ok hx.fPc, e2, ih]
theorem spec_BodyText_ok (x : TBody) (hx : x.ok) (hs : x.sm) : call tab spec_BodyText [x.x] = some (Str (bodyTxt x)) := by
  rw [call_of t_spec_BodyText _ rfl, c_spec_BodyText]
  have hl := fun out ho => spec_BodyText_l0 x x.fFrames hs.1 hx.fFrames.2 x.fFrames [] out rfl ho
  simp only [List.length_nil, Int.cast_ofNat_Int] at hl
  have h1 := hs.1
  unfold bodyTxt
  have hl1 := hl ⟨#[101, 110, 100, 101, 100]⟩ (by simp only [size_lit, List.length_cons, List.length_nil]; omega)
  have hl2 := hl ⟨#[119, 97, 105, 116, 115]⟩ (by simp only [size_lit, List.length_cons, List.length_nil]; omega)
  have hl3 := hl ⟨#[111, 112, 101, 110]⟩ (by simp only [size_lit, List.length_cons, List.length_nil]; omega)
  cases he : x.fEnded with
  | true => simp only [he] at hl1; simp (maxSteps := 2000000) (implicitDefEqProofs := false) (disch := (first | omega | assumption | (refine ⟨?_, ?_⟩ <;> omega) | (unfold catOk; (try simp only [ByteArray.size_append, size_lit, List.length_cons, List.length_nil]); omega) | (unfold mkOk; omega) | (unfold appOk; (try simp only [List.length_map, List.length_append, List.length_cons, List.length_nil]); omega))) only [go_sem, Nat.reduceEqDiff, Nat.reduceBEq, Nat.reduceAdd, Nat.reduceSub, Nat.reduceMul, Nat.reduceLeDiff, Nat.reduceLT, ↓reduceIte, reduceCtorEq, Int.reduceEq, Int.reduceLE, Int.reduceLT, Int.reduceToNat, Int.reduceNeg, Int.reduceSub, Int.reduceAdd, Int.reduceMul, ltT, ltF, leT, leF, neF, catT, mkT, appT, wrap_id, List.length_map, Int.toNat_natCast, TBody.x, he, hl1, stateTxt]
  | false =>
    cases hw : x.fWaits with
    | true => simp only [he, hw] at hl2; simp (maxSteps := 2000000) (implicitDefEqProofs := false) (disch := (first | omega | assumption | (refine ⟨?_, ?_⟩ <;> omega) | (unfold catOk; (try simp only [ByteArray.size_append, size_lit, List.length_cons, List.length_nil]); omega) | (unfold mkOk; omega) | (unfold appOk; (try simp only [List.length_map, List.length_append, List.length_cons, List.length_nil]); omega))) only [go_sem, Nat.reduceEqDiff, Nat.reduceBEq, Nat.reduceAdd, Nat.reduceSub, Nat.reduceMul, Nat.reduceLeDiff, Nat.reduceLT, ↓reduceIte, reduceCtorEq, Int.reduceEq, Int.reduceLE, Int.reduceLT, Int.reduceToNat, Int.reduceNeg, Int.reduceSub, Int.reduceAdd, Int.reduceMul, ltT, ltF, leT, leF, neF, catT, mkT, appT, wrap_id, List.length_map, Int.toNat_natCast, TBody.x, he, hw, hl2, stateTxt]
    | false => simp only [he, hw] at hl3; simp (maxSteps := 2000000) (implicitDefEqProofs := false) (disch := (first | omega | assumption | (refine ⟨?_, ?_⟩ <;> omega) | (unfold catOk; (try simp only [ByteArray.size_append, size_lit, List.length_cons, List.length_nil]); omega) | (unfold mkOk; omega) | (unfold appOk; (try simp only [List.length_map, List.length_append, List.length_cons, List.length_nil]); omega))) only [go_sem, Nat.reduceEqDiff, Nat.reduceBEq, Nat.reduceAdd, Nat.reduceSub, Nat.reduceMul, Nat.reduceLeDiff, Nat.reduceLT, ↓reduceIte, reduceCtorEq, Int.reduceEq, Int.reduceLE, Int.reduceLT, Int.reduceToNat, Int.reduceNeg, Int.reduceSub, Int.reduceAdd, Int.reduceMul, ltT, ltF, leT, leF, neF, catT, mkT, appT, wrap_id, List.length_map, Int.toNat_natCast, TBody.x, he, hw, hl3, stateTxt]
end Go.Ev.G
