/- Trees: the laws' own helpers on the type Node. -/
import Derived.Test.YtcoigakalblkgaaEvPNames
set_option linter.all false
namespace Go.Ev.G
set_option maxRecDepth 8000
set_option maxHeartbeats 4000000
inductive TNode where
  | mk (op : Int) (tx : ByteArray) (v : Int) (ks : List TNode)
theorem TNode.ind {P : TNode → Prop} (h : ∀ op tx v ks, (∀ y ∈ ks, P y) → P (.mk op tx v ks)) : ∀ x, P x
  | .mk op tx v ks => h op tx v ks (fun y hy => TNode.ind h y)
  termination_by x => SizeOf.sizeOf x
  decreasing_by
    have := List.sizeOf_lt_of_mem hy
    simp only [TNode.mk.sizeOf_spec]
    omega
mutual
def TNode.r : TNode → List D
  | .mk op tx v ks => [DI op, DS tx, DI v, .r (nodesR ks)]
def nodesR : List TNode → List (List D)
  | [] => []
  | k :: ks => k.r :: nodesR ks
end
mutual
def TNode.o : TNode → List D
  | .mk op tx v ks => [DI op, DS tx, DI v, .s 4 (nodesO ks)]
def nodesO : List TNode → List (List D)
  | [] => []
  | k :: ks => k.o :: nodesO ks
end
theorem nodesR_map : ∀ ks : List TNode, nodesR ks = ks.map TNode.r
  | [] => by rw [nodesR]; rfl
  | k :: ks => by rw [nodesR, nodesR_map ks]; rfl
theorem nodesO_map : ∀ ks : List TNode, nodesO ks = ks.map TNode.o
  | [] => by rw [nodesO]; rfl
  | k :: ks => by rw [nodesO, nodesO_map ks]; rfl
theorem TNode.r_eq (op : Int) (tx : ByteArray) (v : Int) (ks : List TNode) : (TNode.mk op tx v ks).r = [DI op, DS tx, DI v, .r (ks.map TNode.r)] := by rw [TNode.r, nodesR_map]
theorem TNode.o_eq (op : Int) (tx : ByteArray) (v : Int) (ks : List TNode) : (TNode.mk op tx v ks).o = [DI op, DS tx, DI v, .s 4 (ks.map TNode.o)] := by rw [TNode.o, nodesO_map]
def TNode.op : TNode → Int | .mk op _ _ _ => op
def TNode.tx : TNode → ByteArray | .mk _ tx _ _ => tx
def TNode.v : TNode → Int | .mk _ _ v _ => v
def TNode.ks : TNode → List TNode | .mk _ _ _ ks => ks
abbrev TNode.x (x : TNode) : X := .agg [I x.op, Str x.tx, I x.v, .d (.r (x.ks.map TNode.r))]
abbrev TNode.xo (x : TNode) : X := .agg [I x.op, Str x.tx, I x.v, .d (.s 4 (x.ks.map TNode.o))]
theorem TNode.r_def (x : TNode) : x.r = [DI x.op, DS x.tx, DI x.v, .r (x.ks.map TNode.r)] := by cases x; exact TNode.r_eq ..
theorem TNode.o_def (x : TNode) : x.o = [DI x.op, DS x.tx, DI x.v, .s 4 (x.ks.map TNode.o)] := by cases x; exact TNode.o_eq ..
theorem TNode.fzl (x : TNode) : fzl x.o = x.r := by
  refine TNode.ind (P := fun x => Ev.fzl x.o = x.r) (fun op tx v ks ih => ?_) x
  rw [TNode.o_eq, TNode.r_eq]
  have h : Ev.fzs (ks.map TNode.o) = ks.map TNode.r := by
    induction ks with
    | nil => simp only [List.map_nil, Ev.fzs]
    | cons k ks ih2 => simp only [List.map_cons, Ev.fzs, ih k (by simp), ih2 (fun y hy => ih y (by simp [hy]))]
  simp only [Ev.fzl, D.fz, h]
theorem TNode.fzs (xs : List TNode) : fzs (xs.map TNode.o) = xs.map TNode.r := fzs_map _ _ TNode.fzl xs
theorem TNode.noRs (x : TNode) : D.noR.noRs x.o = true := by
  refine TNode.ind (P := fun x => D.noR.noRs x.o = true) (fun op tx v ks ih => ?_) x
  have h : D.noR.noRss (ks.map TNode.o) = true := by
    induction ks with
    | nil => simp only [List.map_nil, D.noR.noRss]
    | cons k ks ih2 => simp only [List.map_cons, D.noR.noRss, ih k (by simp), ih2 (fun y hy => ih y (by simp [hy])), Bool.and_self]
  simp only [TNode.o_eq, D.noR.noRs, D.noR, h, Bool.and_self]
theorem TNode.noR (xs : List TNode) : D.noR.noRss (xs.map TNode.o) = true := noRss_map _ TNode.noRs xs
inductive TNode.Sm : TNode → Prop where
  | mk {op tx v ks} : tx.size ≤ 1048576 → ks.length ≤ 1048576 → (∀ y ∈ ks, TNode.Sm y) → TNode.Sm (.mk op tx v ks)
theorem TNode.Sm.ks {x : TNode} (h : x.Sm) : x.ks.length ≤ 1048576 ∧ ∀ y ∈ x.ks, y.Sm := by cases h with | mk h1 h2 h3 => exact ⟨h2, h3⟩
theorem TNode.Sm.tx {x : TNode} (h : x.Sm) : x.tx.size ≤ 1048576 := by cases h with | mk h1 h2 h3 => exact h1
theorem laws_eqNodeS_l0 (xs : List TNode) (hx : xs.length ≤ 1048576) (H : ∀ y ∈ xs, call tab laws_eqNode [y.x, y.x] = some (B true)) : ∀ (Bl : List TNode) (j : Int), xs.drop j.toNat = Bl → 0 ≤ j →
    loopW tab [0, 1, 5] b_laws_eqNodeS_0 { env := upd (upd (upd emp 5 (some (I j))) 1 (some (.d (.r (xs.map TNode.r))))) 0 (some (.d (.r (xs.map TNode.r)))), heap := emp, fr := 0, next := 0 } = some (.ext 0, { env := emp, heap := emp, fr := 0, next := 0 })
  | [], j, hd, hj => by
    unfold loopW
    conv => lhs; arg 1; unfold b_laws_eqNodeS_0
    have h1 := dropn hd hj
    simp (maxSteps := 999999) (implicitDefEqProofs := false) (disch := (first | assumption | omega | (unfold appOk; (try simp only [List.length_map, List.length_append, List.length_cons, List.length_nil]); omega))) only [go_sem, simprocAttr]
  | x :: Bl, j, hd, hj => by
    unfold loopW
    conv => lhs; arg 1; unfold b_laws_eqNodeS_0
    have h1 := dropc hd hj
    have h5 := h1.2.1
    have h2 := getm TNode.r h1.1
    rw [TNode.r_def] at h2
    have g0 := H x h1.2.2.2.1
    have ih := laws_eqNodeS_l0 xs hx H Bl (j + 1) h1.2.2.1 (by omega)
    simp (maxSteps := 999999) (implicitDefEqProofs := false) (disch := (first | assumption | omega | (unfold appOk; (try simp only [List.length_map, List.length_append, List.length_cons, List.length_nil]); omega))) only [go_sem, simprocAttr, h2, g0, ih]
theorem laws_eqNode_ok (x : TNode) (hx : x.Sm) : call tab laws_eqNode [x.x, x.x] = some (B true) := by
  refine TNode.ind (P := fun x => x.Sm → call tab laws_eqNode [x.x, x.x] = some (B true)) (fun op tx v ks ih hx => ?_) x hx
  have hk := hx.ks
  have h0 := laws_eqNodeS_l0 ks hk.1 (fun y hy => ih y hy (hk.2 y hy)) ks 0 rfl (by omega)
  have hl := hk.1
  simp only [TNode.ks] at hl
  have h1 : call tab laws_eqNodeS [.d (.r (ks.map TNode.r)), .d (.r (ks.map TNode.r))] = some (B true) := by
    rw [call_of t_laws_eqNodeS _ rfl, c_laws_eqNodeS]
    simp (maxSteps := 999999) (implicitDefEqProofs := false) (disch := (first | assumption | omega | (unfold appOk; (try simp only [List.length_map, List.length_append, List.length_cons, List.length_nil]); omega))) only [go_sem, simprocAttr, h0]
  rw [call_of t_laws_eqNode _ rfl, c_laws_eqNode]
  simp (maxSteps := 999999) (implicitDefEqProofs := false) (disch := (first | assumption | omega | (unfold appOk; (try simp only [List.length_map, List.length_append, List.length_cons, List.length_nil]); omega))) only [go_sem, simprocAttr, TNode.op, TNode.tx, TNode.v, TNode.ks, h1]
mutual
def TNode.ct : TNode → Int
  | .mk _ _ _ ks => 1 + 1 + 1 + nodesCt ks
def nodesCt : List TNode → Int
  | [] => 0
  | x :: xs => x.ct + nodesCt xs
end
mutual
def TNode.mk_ : TNode → Int → TNode
  | .mk _ _ _ ks, k => .mk k (mtxt (k + 1)) (k + 1 + 1) (nodesMk ks (k + 1 + 1 + 1))
def nodesMk : List TNode → Int → List TNode
  | [], _ => []
  | x :: xs, k => x.mk_ k :: nodesMk xs (k + x.ct)
end
theorem TNode.ct_eq (op : Int) (tx : ByteArray) (v : Int) (ks : List TNode) : (TNode.mk op tx v ks).ct = 3 + nodesCt ks := by rw [TNode.ct]; omega
theorem nodesCt_nil : nodesCt [] = 0 := by rw [nodesCt]
theorem nodesCt_cons (x : TNode) (xs : List TNode) : nodesCt (x :: xs) = x.ct + nodesCt xs := by rw [nodesCt]
theorem nodesMk_nil (k : Int) : nodesMk [] k = [] := by rw [nodesMk]
theorem nodesMk_cons (x : TNode) (xs : List TNode) (k : Int) : nodesMk (x :: xs) k = x.mk_ k :: nodesMk xs (k + x.ct) := by rw [nodesMk]
theorem TNode.mk_eq (op : Int) (tx : ByteArray) (v : Int) (ks : List TNode) (k : Int) : (TNode.mk op tx v ks).mk_ k = .mk k (mtxt (k + 1)) (k + 1 + 1) (nodesMk ks (k + 1 + 1 + 1)) := by rw [TNode.mk_]
theorem nodesCt_nn' {xs : List TNode} (h : ∀ y ∈ xs, 3 ≤ y.ct) : (xs.length : Int) ≤ nodesCt xs := by
  induction xs with
  | nil => rw [nodesCt]; simp
  | cons x xs ih =>
    have h1 := h x (by simp)
    have h2 := ih (fun y hy => h y (by simp [hy]))
    rw [nodesCt, List.length_cons]; omega
theorem TNode.ct_nn (x : TNode) : 3 ≤ x.ct := by
  refine TNode.ind (P := fun x => 3 ≤ x.ct) (fun op tx v ks ih => ?_) x
  have := nodesCt_nn' ih
  rw [TNode.ct_eq]; omega
theorem nodesCt_nn (xs : List TNode) : (xs.length : Int) ≤ nodesCt xs := nodesCt_nn' (fun y _ => y.ct_nn)
abbrev MarkOk (xs : List TNode) : Prop := ∀ k : Int, nodesCt xs ≤ 1099511627776 → 0 ≤ k ∧ k + nodesCt xs ≤ 4611686018427387904 → evCW tab laws_markNodeS [.ref (0, 0) [], I k] (upd emp (0, 0) (some (.s 4 (xs.map TNode.o)))) 1 = some (I (k + nodesCt xs), upd emp (0, 0) (some (.s 4 ((nodesMk xs k).map TNode.o))))
theorem laws_markNodeS_l0 : ∀ (B A : List TNode) (k : Int), (∀ y ∈ B, MarkOk y.ks) → (A.length : Int) + nodesCt B ≤ 1099511627776 → 0 ≤ k ∧ k + nodesCt B ≤ 4611686018427387904 →
    loopW tab [0, 1, 5] b_laws_markNodeS_0 { env := upd (upd (upd emp 5 (some (I (A.length : Int)))) 1 (some (I k))) 0 (some (.ref (0, 0) [])), heap := upd emp (0, 0) (some (.s 4 (A.map TNode.o ++ B.map TNode.o))), fr := 1, next := 0 } = some (.ext 0, { env := upd emp 1 (some (I (k + nodesCt B))), heap := upd emp (0, 0) (some (.s 4 (A.map TNode.o ++ (nodesMk B k).map TNode.o))), fr := 1, next := 0 })
  | [], A, k, H, h, hk => by
    unfold loopW
    conv => lhs; arg 1; unfold b_laws_markNodeS_0
    simp only [nodesCt_nil] at h hk
    simp (maxSteps := 999999) (implicitDefEqProofs := false) (disch := (first | assumption | omega | (unfold appOk; (try simp only [List.length_map, List.length_append, List.length_cons, List.length_nil]); omega))) only [go_sem, simprocAttr, nodesCt_nil, nodesMk_nil, List.map_nil, List.append_nil, Int.add_zero]
  | x :: B, A, k, H, h, hk => by
    unfold loopW
    conv => lhs; arg 1; unfold b_laws_markNodeS_0
    simp only [nodesCt_cons] at h hk
    have h1 := x.ct_nn
    have h0 := nodesCt_nn B
    have ih := laws_markNodeS_l0 B (A ++ [x.mk_ k]) (k + x.ct) (fun y hy => H y (by simp [hy])) (by simp; omega) (by omega)
    have Hx := H x (by simp)
    rw [show (((A ++ [x.mk_ k]).length : Nat) : Int) = (A.length : Int) + 1 by simp, show k + x.ct + nodesCt B = k + nodesCt (x :: B) by rw [nodesCt_cons]; omega] at ih
    simp only [List.map_append, List.map_cons, List.map_nil, List.append_assoc, List.cons_append, List.nil_append] at ih
    obtain ⟨op, tx, v, ks⟩ := x
    simp only [nodesMk_cons, List.map_cons]
    simp only [TNode.ct_eq] at hk h h1 ih
    have g0 := Hx (k + 1 + 1 + 1) (by simp only [TNode.ks]; omega) (by simp only [TNode.ks]; omega)
    simp only [TNode.ks] at g0
    have e : k + (3 + nodesCt ks) = k + 1 + 1 + 1 + nodesCt ks := by omega
    simp only [TNode.mk_eq, TNode.o_eq, TNode.ct_eq, e] at ih ⊢
    simp (maxSteps := 999999) (implicitDefEqProofs := false) (disch := (first | assumption | omega | (unfold appOk; (try simp only [List.length_map, List.length_append, List.length_cons, List.length_nil]); omega))) only [go_sem, simprocAttr, List.length_cons, len_cat, get_mid, set_mid, g0, laws_markText_ok, ih]
theorem laws_markNodeS_ok' (xs : List TNode) (H : ∀ y ∈ xs, MarkOk y.ks) : MarkOk xs := by
  intro k h hk
  rw [evCW_of t_laws_markNodeS _ _ _ rfl, c_laws_markNodeS]
  have hl := laws_markNodeS_l0 xs [] k H (by simpa using h) hk
  simp only [List.map_nil, List.nil_append, List.length_nil, Int.cast_ofNat_Int] at hl
  simp (maxSteps := 999999) (implicitDefEqProofs := false) (disch := (first | assumption | omega | (unfold appOk; (try simp only [List.length_map, List.length_append, List.length_cons, List.length_nil]); omega))) only [go_sem, simprocAttr, hl]
theorem laws_markNode_all (x : TNode) : MarkOk x.ks := TNode.ind (P := fun x => MarkOk x.ks) (fun op tx v ks ih => laws_markNodeS_ok' ks ih) x
theorem laws_markNodeS_ok (xs : List TNode) : MarkOk xs := laws_markNodeS_ok' xs (fun y _ => laws_markNode_all y)
theorem nodesMk_len : ∀ (xs : List TNode) (k : Int), (nodesMk xs k).length = xs.length
  | [], k => by rw [nodesMk]
  | x :: xs, k => by rw [nodesMk, List.length_cons, List.length_cons, nodesMk_len xs]
abbrev HeldOk (xs : List TNode) : Prop := ∀ k : Int, nodesCt xs ≤ 1099511627776 → 0 ≤ k ∧ k + nodesCt xs ≤ 4611686018427387904 → call tab laws_heldNodeS [.d (.r ((nodesMk xs k).map TNode.r)), I k] = some (I (k + nodesCt xs))
theorem laws_heldNodeS_l0 (full : List (List D)) : ∀ (B A : List TNode) (k : Int), (∀ y ∈ B, HeldOk y.ks) → full = A.map TNode.r ++ (nodesMk B k).map TNode.r → (A.length : Int) + nodesCt B ≤ 1099511627776 → 0 ≤ k ∧ k + nodesCt B ≤ 4611686018427387904 →
    loopW tab [0, 1, 5] b_laws_heldNodeS_0 { env := upd (upd (upd emp 5 (some (I (A.length : Int)))) 1 (some (I k))) 0 (some (.d (.r full))), heap := emp, fr := 0, next := 0 } = some (.ext 0, { env := upd emp 1 (some (I (k + nodesCt B))), heap := emp, fr := 0, next := 0 })
  | [], A, k, H, hf, h, hk => by
    subst hf
    unfold loopW
    conv => lhs; arg 1; unfold b_laws_heldNodeS_0
    simp only [nodesCt_nil] at h hk
    simp (maxSteps := 999999) (implicitDefEqProofs := false) (disch := (first | assumption | omega | (unfold appOk; (try simp only [List.length_map, List.length_append, List.length_cons, List.length_nil]); omega))) only [go_sem, simprocAttr, nodesCt_nil, nodesMk_nil, List.map_nil, List.append_nil, Int.add_zero]
  | x :: B, A, k, H, hf, h, hk => by
    simp only [nodesCt_cons] at h hk
    have h1 := x.ct_nn
    have h0 := nodesCt_nn B
    have ih := laws_heldNodeS_l0 full B (A ++ [x.mk_ k]) (k + x.ct) (fun y hy => H y (by simp [hy])) (by rw [hf, nodesMk_cons]; simp) (by simp; omega) (by omega)
    have Hx := H x (by simp)
    unfold loopW
    conv => lhs; arg 1; unfold b_laws_heldNodeS_0
    have hlen := nodesMk_len (x :: B) k
    have h2 : full[A.length]? = some (TNode.r (x.mk_ k)) := by rw [hf, nodesMk_cons]; simp
    have h3 : full.length = A.length + (B.length + 1) := by rw [hf, List.length_append, List.length_map, List.length_map, hlen, List.length_cons]
    clear hf
    rw [show (((A ++ [x.mk_ k]).length : Nat) : Int) = (A.length : Int) + 1 by simp, show k + x.ct + nodesCt B = k + nodesCt (x :: B) by rw [nodesCt_cons]; omega] at ih
    obtain ⟨op, tx, v, ks⟩ := x
    simp only [TNode.ct_eq] at hk h h1 ih
    have g0 := Hx (k + 1 + 1 + 1) (by simp only [TNode.ks]; omega) (by simp only [TNode.ks]; omega)
    have hkn := nodesCt_nn ks
    simp only [TNode.ks] at g0
    have e : k + (3 + nodesCt ks) = k + 1 + 1 + 1 + nodesCt ks := by omega
    simp only [TNode.mk_eq, TNode.r_eq, TNode.ct_eq, e] at ih h2 ⊢
    simp (maxSteps := 999999) (implicitDefEqProofs := false) (disch := (first | assumption | omega | (unfold appOk; (try simp only [List.length_map, List.length_append, List.length_cons, List.length_nil]); omega))) only [go_sem, simprocAttr, h2, h3, g0, laws_markText_ok, ih]
theorem laws_heldNodeS_ok' (xs : List TNode) (H : ∀ y ∈ xs, HeldOk y.ks) : HeldOk xs := by
  intro k h hk
  rw [call_of t_laws_heldNodeS _ rfl, c_laws_heldNodeS]
  have hl := laws_heldNodeS_l0 _ xs [] k H rfl (by simpa using h) hk
  simp only [List.map_nil, List.nil_append, List.length_nil, Int.cast_ofNat_Int] at hl
  simp (maxSteps := 999999) (implicitDefEqProofs := false) (disch := (first | assumption | omega | (unfold appOk; (try simp only [List.length_map, List.length_append, List.length_cons, List.length_nil]); omega))) only [go_sem, simprocAttr, hl]
theorem laws_heldNode_all (x : TNode) : HeldOk x.ks := TNode.ind (P := fun x => HeldOk x.ks) (fun op tx v ks ih => laws_heldNodeS_ok' ks ih) x
theorem laws_heldNodeS_ok (xs : List TNode) : HeldOk xs := laws_heldNodeS_ok' xs (fun y _ => laws_heldNode_all y)
end Go.Ev.G
