/- Functions of programs: the laws' own helpers on the type Func. -/
import Derived.Test.YtcoigakalblkgaaEvQParam
import Derived.Test.YtcoigakalblkgaaEvQNode
set_option linter.all false
namespace Go.Ev.G
set_option maxRecDepth 8000
set_option maxHeartbeats 4000000
theorem TNode.op_mk (op : Int) (tx : ByteArray) (v : Int) (ks : List TNode) : (TNode.mk op tx v ks).op = op := rfl
theorem TNode.tx_mk (op : Int) (tx : ByteArray) (v : Int) (ks : List TNode) : (TNode.mk op tx v ks).tx = tx := rfl
theorem TNode.v_mk (op : Int) (tx : ByteArray) (v : Int) (ks : List TNode) : (TNode.mk op tx v ks).v = v := rfl
theorem TNode.ks_mk (op : Int) (tx : ByteArray) (v : Int) (ks : List TNode) : (TNode.mk op tx v ks).ks = ks := rfl
structure TFunc where
  fName : ByteArray
  fParams : List TParam
  fBody : TNode
def TFunc.r (x : TFunc) : List D := [DS x.fName, .r (x.fParams.map TParam.r), DI x.fBody.op, DS x.fBody.tx, DI x.fBody.v, .r (x.fBody.ks.map TNode.r)]
def TFunc.o (x : TFunc) : List D := [DS x.fName, .s 2 (x.fParams.map TParam.o), DI x.fBody.op, DS x.fBody.tx, DI x.fBody.v, .s 4 (x.fBody.ks.map TNode.o)]
abbrev TFunc.x (x : TFunc) : X := .agg [Str x.fName, .d (.r (x.fParams.map TParam.r)), I x.fBody.op, Str x.fBody.tx, I x.fBody.v, .d (.r (x.fBody.ks.map TNode.r))]
abbrev TFunc.xo (x : TFunc) : X := .agg [Str x.fName, .d (.s 2 (x.fParams.map TParam.o)), I x.fBody.op, Str x.fBody.tx, I x.fBody.v, .d (.s 4 (x.fBody.ks.map TNode.o))]
theorem TFunc.fzl (x : TFunc) : fzl x.o = x.r := by simp only [TFunc.o, TFunc.r, Ev.fzl, D.fz, TParam.fzs, TNode.fzs]
theorem TFunc.fzs (xs : List TFunc) : fzs (xs.map TFunc.o) = xs.map TFunc.r := fzs_map _ _ TFunc.fzl xs
theorem TFunc.noR (xs : List TFunc) : D.noR.noRss (xs.map TFunc.o) = true := noRss_map _ (fun x => by simp only [TFunc.o, D.noR.noRs, D.noR, Bool.and_true, Bool.true_and, TParam.noR, TNode.noR]) xs
structure TFunc.Sm (x : TFunc) : Prop where
  nm : x.fName.size ≤ 1048576
  ps : x.fParams.length ≤ 1048576 ∧ ∀ y ∈ x.fParams, y.sm
  bd : x.fBody.Sm
theorem laws_eqFunc_ok (x : TFunc) (hx : x.Sm) : call tab laws_eqFunc [x.x, x.x] = some (B true) := by
  have h1 := laws_eqParamS_ok x.fParams hx.ps
  have h2 := laws_eqNode_ok x.fBody hx.bd
  rw [call_of t_laws_eqFunc _ rfl, c_laws_eqFunc]
  simp (maxSteps := 999999) (implicitDefEqProofs := false) (disch := (first | assumption | omega | (unfold appOk; (try simp only [List.length_map, List.length_append, List.length_cons, List.length_nil]); omega))) only [go_sem, simprocAttr, h1, h2]
theorem laws_eqFuncS_l0 (xs : List TFunc) (hx : xs.length ≤ 1048576) (H : ∀ y ∈ xs, y.Sm) : ∀ (Bl : List TFunc) (j : Int), xs.drop j.toNat = Bl → 0 ≤ j →
    loopW tab [0, 1, 5] b_laws_eqFuncS_0 { env := upd (upd (upd emp 5 (some (I j))) 1 (some (.d (.r (xs.map TFunc.r))))) 0 (some (.d (.r (xs.map TFunc.r)))), heap := emp, fr := 0, next := 0 } = some (.ext 0, { env := emp, heap := emp, fr := 0, next := 0 })
  | [], j, hd, hj => by
    unfold loopW
    conv => lhs; arg 1; unfold b_laws_eqFuncS_0
    have h1 := dropn hd hj
    simp (maxSteps := 999999) (implicitDefEqProofs := false) (disch := (first | assumption | omega | (unfold appOk; (try simp only [List.length_map, List.length_append, List.length_cons, List.length_nil]); omega))) only [go_sem, simprocAttr]
  | x :: Bl, j, hd, hj => by
    unfold loopW
    conv => lhs; arg 1; unfold b_laws_eqFuncS_0
    have h1 := dropc hd hj
    have h5 := h1.2.1
    have h2 := getm TFunc.r h1.1
    simp only [TFunc.r] at h2
    have g0 := laws_eqFunc_ok x (H x h1.2.2.2.1)
    have ih := laws_eqFuncS_l0 xs hx H Bl (j + 1) h1.2.2.1 (by omega)
    simp (maxSteps := 999999) (implicitDefEqProofs := false) (disch := (first | assumption | omega | (unfold appOk; (try simp only [List.length_map, List.length_append, List.length_cons, List.length_nil]); omega))) only [go_sem, simprocAttr, h2, g0, ih]
theorem laws_eqFuncS_ok (xs : List TFunc) (hx : xs.length ≤ 1048576) (H : ∀ y ∈ xs, y.Sm) : call tab laws_eqFuncS [.d (.r (xs.map TFunc.r)), .d (.r (xs.map TFunc.r))] = some (B true) := by
  have h0 := laws_eqFuncS_l0 xs hx H xs 0 rfl (by omega)
  rw [call_of t_laws_eqFuncS _ rfl, c_laws_eqFuncS]
  simp (maxSteps := 999999) (implicitDefEqProofs := false) (disch := (first | assumption | omega | (unfold appOk; (try simp only [List.length_map, List.length_append, List.length_cons, List.length_nil]); omega))) only [go_sem, simprocAttr, h0]
def TFunc.ct (x : TFunc) : Int := 1 + TParam.cts x.fParams + 1 + 1 + 1 + nodesCt x.fBody.ks
def TFunc.mk_ (k : Int) (x : TFunc) : TFunc := ⟨mtxt k, TParam.mks (k + 1) x.fParams, .mk (k + 1 + TParam.cts x.fParams) (mtxt (k + 1 + TParam.cts x.fParams + 1)) (k + 1 + TParam.cts x.fParams + 1 + 1) (nodesMk x.fBody.ks (k + 1 + TParam.cts x.fParams + 1 + 1 + 1))⟩
def TFunc.cts : List TFunc → Int
  | [] => 0
  | x :: xs => x.ct + TFunc.cts xs
def TFunc.mks : Int → List TFunc → List TFunc
  | _, [] => []
  | k, x :: xs => x.mk_ k :: TFunc.mks (k + x.ct) xs
theorem TFunc.ct_nn (x : TFunc) : 4 ≤ x.ct := by
  have := TParam.cts_nn x.fParams; have := nodesCt_nn x.fBody.ks
  unfold TFunc.ct; omega
theorem TFunc.cts_nn : ∀ xs : List TFunc, (xs.length : Int) ≤ TFunc.cts xs
  | [] => by simp [TFunc.cts]
  | x :: xs => by have := x.ct_nn; have := TFunc.cts_nn xs; simp only [TFunc.cts, List.length_cons]; omega
theorem TFunc.mks_len : ∀ (k : Int) (xs : List TFunc), (TFunc.mks k xs).length = xs.length
  | _, [] => rfl
  | k, x :: xs => by simp only [TFunc.mks, List.length_cons, TFunc.mks_len _ xs]
theorem laws_markFuncS_l0 : ∀ (B A : List TFunc) (k : Int), (A.length : Int) + TFunc.cts B ≤ 1099511627776 → 0 ≤ k ∧ k + TFunc.cts B ≤ 4611686018427387904 →
    loopW tab [0, 1, 5] b_laws_markFuncS_0 { env := upd (upd (upd emp 5 (some (I (A.length : Int)))) 1 (some (I k))) 0 (some (.ref (0, 0) [])), heap := upd emp (0, 0) (some (.s 6 (A.map TFunc.o ++ B.map TFunc.o))), fr := 1, next := 0 } = some (.ext 0, { env := upd emp 1 (some (I (k + TFunc.cts B))), heap := upd emp (0, 0) (some (.s 6 (A.map TFunc.o ++ (TFunc.mks k B).map TFunc.o))), fr := 1, next := 0 })
  | [], A, k, h, hk => by
    unfold loopW
    conv => lhs; arg 1; unfold b_laws_markFuncS_0
    simp only [TFunc.cts] at h hk
    simp (maxSteps := 999999) (implicitDefEqProofs := false) (disch := (first | assumption | omega | (unfold appOk; (try simp only [List.length_map, List.length_append, List.length_cons, List.length_nil]); omega))) only [go_sem, simprocAttr, TFunc.cts, TFunc.mks, List.map_nil, List.append_nil, Int.add_zero]
  | x :: B, A, k, h, hk => by
    unfold loopW
    conv => lhs; arg 1; unfold b_laws_markFuncS_0
    simp only [TFunc.cts] at h hk
    have h1 := x.ct_nn
    have h0 := TFunc.cts_nn B
    have ih := laws_markFuncS_l0 B (A ++ [x.mk_ k]) (k + x.ct) (by simp; omega) (by omega)
    rw [show (((A ++ [x.mk_ k]).length : Nat) : Int) = (A.length : Int) + 1 by simp, show k + x.ct + TFunc.cts B = k + TFunc.cts (x :: B) by simp only [TFunc.cts]; omega] at ih
    simp only [List.map_append, List.map_cons, List.map_nil, List.append_assoc, List.cons_append, List.nil_append] at ih
    simp only [TFunc.mks, List.map_cons]
    have hp := TParam.cts_nn x.fParams
    have hkn := nodesCt_nn x.fBody.ks
    unfold TFunc.ct at hk h h1
    have f0 := laws_markParamS_ok x.fParams (k + 1) (by omega) (by omega)
    have f1 := laws_markNodeS_ok x.fBody.ks (k + 1 + TParam.cts x.fParams + 1 + 1 + 1) (by omega) (by omega)
    have e : k + x.ct = k + 1 + TParam.cts x.fParams + 1 + 1 + 1 + nodesCt x.fBody.ks := by unfold TFunc.ct; omega
    rw [e] at ih ⊢
    simp only [TFunc.mk_, TFunc.o, TNode.op_mk, TNode.tx_mk, TNode.v_mk, TNode.ks_mk] at ih ⊢
    simp (maxSteps := 999999) (implicitDefEqProofs := false) (disch := (first | assumption | omega | (unfold appOk; (try simp only [List.length_map, List.length_append, List.length_cons, List.length_nil]); omega))) only [go_sem, simprocAttr, List.length_cons, len_cat, get_mid, set_mid, f0, f1, laws_markText_ok, ih]
theorem laws_markFuncS_ok (xs : List TFunc) (k : Int) (h : TFunc.cts xs ≤ 1099511627776) (hk : 0 ≤ k ∧ k + TFunc.cts xs ≤ 4611686018427387904) : evCW tab laws_markFuncS [.ref (0, 0) [], I k] (upd emp (0, 0) (some (.s 6 (xs.map TFunc.o)))) 1 = some (I (k + TFunc.cts xs), upd emp (0, 0) (some (.s 6 ((TFunc.mks k xs).map TFunc.o)))) := by
  rw [evCW_of t_laws_markFuncS _ _ _ rfl, c_laws_markFuncS]
  have hl := laws_markFuncS_l0 xs [] k (by simpa using h) hk
  simp only [List.map_nil, List.nil_append, List.length_nil, Int.cast_ofNat_Int] at hl
  simp (maxSteps := 999999) (implicitDefEqProofs := false) (disch := (first | assumption | omega | (unfold appOk; (try simp only [List.length_map, List.length_append, List.length_cons, List.length_nil]); omega))) only [go_sem, simprocAttr, hl]
theorem laws_heldFuncS_l0 (full : List (List D)) : ∀ (B A : List TFunc) (k : Int), full = A.map TFunc.r ++ (TFunc.mks k B).map TFunc.r → (A.length : Int) + TFunc.cts B ≤ 1099511627776 → 0 ≤ k ∧ k + TFunc.cts B ≤ 4611686018427387904 →
    loopW tab [0, 1, 5] b_laws_heldFuncS_0 { env := upd (upd (upd emp 5 (some (I (A.length : Int)))) 1 (some (I k))) 0 (some (.d (.r full))), heap := emp, fr := 0, next := 0 } = some (.ext 0, { env := upd emp 1 (some (I (k + TFunc.cts B))), heap := emp, fr := 0, next := 0 })
  | [], A, k, hf, h, hk => by
    subst hf
    unfold loopW
    conv => lhs; arg 1; unfold b_laws_heldFuncS_0
    simp only [TFunc.cts] at h hk
    simp (maxSteps := 999999) (implicitDefEqProofs := false) (disch := (first | assumption | omega | (unfold appOk; (try simp only [List.length_map, List.length_append, List.length_cons, List.length_nil]); omega))) only [go_sem, simprocAttr, TFunc.cts, TFunc.mks, List.map_nil, List.append_nil, Int.add_zero]
  | x :: B, A, k, hf, h, hk => by
    simp only [TFunc.cts] at h hk
    have h1 := x.ct_nn
    have h0 := TFunc.cts_nn B
    have ih := laws_heldFuncS_l0 full B (A ++ [x.mk_ k]) (k + x.ct) (by rw [hf]; simp [TFunc.mks]) (by simp; omega) (by omega)
    unfold loopW
    conv => lhs; arg 1; unfold b_laws_heldFuncS_0
    have hlen := TFunc.mks_len k (x :: B)
    have h2 : full[A.length]? = some (TFunc.r (x.mk_ k)) := by rw [hf]; simp [TFunc.mks]
    have h3 : full.length = A.length + (B.length + 1) := by rw [hf, List.length_append, List.length_map, List.length_map, hlen, List.length_cons]
    clear hf
    rw [show (((A ++ [x.mk_ k]).length : Nat) : Int) = (A.length : Int) + 1 by simp, show k + x.ct + TFunc.cts B = k + TFunc.cts (x :: B) by simp only [TFunc.cts]; omega] at ih
    have hp := TParam.cts_nn x.fParams
    have hkn := nodesCt_nn x.fBody.ks
    have e : k + x.ct = k + 1 + TParam.cts x.fParams + 1 + 1 + 1 + nodesCt x.fBody.ks := by unfold TFunc.ct; omega
    rw [e] at ih
    unfold TFunc.ct at hk h h1
    have f0 := laws_heldParamS_ok x.fParams (k + 1) (by omega) (by omega)
    have f1 := laws_heldNodeS_ok x.fBody.ks (k + 1 + TParam.cts x.fParams + 1 + 1 + 1) (by omega) (by omega)
    simp only [TFunc.mk_, TFunc.r, TNode.op_mk, TNode.tx_mk, TNode.v_mk, TNode.ks_mk] at h2
    simp (maxSteps := 999999) (implicitDefEqProofs := false) (disch := (first | assumption | omega | (unfold appOk; (try simp only [List.length_map, List.length_append, List.length_cons, List.length_nil]); omega))) only [go_sem, simprocAttr, h2, h3, f0, f1, laws_markText_ok, ih]
theorem laws_heldFuncS_ok (xs : List TFunc) (k : Int) (h : TFunc.cts xs ≤ 1099511627776) (hk : 0 ≤ k ∧ k + TFunc.cts xs ≤ 4611686018427387904) : call tab laws_heldFuncS [.d (.r ((TFunc.mks k xs).map TFunc.r)), I k] = some (I (k + TFunc.cts xs)) := by
  rw [call_of t_laws_heldFuncS _ rfl, c_laws_heldFuncS]
  have hl := laws_heldFuncS_l0 _ xs [] k rfl (by simpa using h) hk
  simp only [List.map_nil, List.nil_append, List.length_nil, Int.cast_ofNat_Int] at hl
  simp (maxSteps := 999999) (implicitDefEqProofs := false) (disch := (first | assumption | omega | (unfold appOk; (try simp only [List.length_map, List.length_append, List.length_cons, List.length_nil]); omega))) only [go_sem, simprocAttr, hl]
end Go.Ev.G
