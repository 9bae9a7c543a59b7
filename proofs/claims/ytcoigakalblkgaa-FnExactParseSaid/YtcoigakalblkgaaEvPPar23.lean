import Derived.Test.YtcoigakalblkgaaEvPPar12
/- The parsers: blocks. -/
set_option linter.all false
namespace Go.Ev.G
set_option maxRecDepth 8000
set_option maxHeartbeats 4000000
variable {T : List TToken} {a b : Int}
def BEnds (T : List TToken) : Ls → Option (Ex × St) → Prop
  | .ok L e, r => r = some (.ext 0, lpE T (e + 1) (-1) (.mk 1 noS 0 L))
  | .no p, r => ∃ L e, Pl T e ∧ Sms L ∧ L.length ≤ 1048576 ∧ r = some (.ext 0, lpE T e p (.mk 1 noS 0 L))
def CEnds (T : List TToken) : Ls → Option (Ex × St) → Prop
  | .ok L e, r => r = some (.ext 0, lpS T e (-1) (.mk 1 noS 0 L))
  | .no p, r => ∃ L e, Pl T e ∧ Sms L ∧ L.length ≤ 1048576 ∧ r = some (.ext 0, lpS T e p (.mk 1 noS 0 L))
def BGood (T : List TToken) (a : Int) (k : Int) : Ls → Prop
  | .ok L e => Pl T e ∧ a ≤ e ∧ Sms L ∧ (L.length : Int) ≤ e ∧ nodesCt L ≤ 3 * (e - a) + k ∧ sgB T e (-1) ⟨#[125]⟩ = true
  | .no p => 0 ≤ p
theorem block_l0 (hT : TF T) : ∀ (m : Nat) (a : Int) (A : List TNode), Pl T a → Sms A → (A.length : Int) ≤ a → (T.length : Int) - a ≤ m → (∀ e, Pl T e → a ≤ e → Both T e impl_parser_statement spec_l6Stmt) →
    ∃ R, BGood T a (nodesCt A) R ∧ BEnds T R (loopW tab [0, 2, 3] b_impl_parser_block_0 (lpS T a (-1) (.mk 1 noS 0 A))) ∧ CEnds T R (loopW tab [0, 2, 3] b_spec_l6Block_0 (lpS T a (-1) (.mk 1 noS 0 A)))
  | 0, a, A, hP, hA, hl, hm, H => by have := hP.h; omega
  | m + 1, a, A, hP, hA, hl, hm, H => by
    have hah := hP.h
    have hmm := hP.m
    cases z : sgB T a (-1) ⟨#[125]⟩
    · have i1 := take_sF hT hP (by decide) z
      have s1 := sign_T hP z
      have Hi : ∀ (y : TNode) (e q : Int), evCW tab impl_parser_statement [kp] (ph T a (-1)) 1 = some (y.xo, ph T e q) → loopW tab [0, 2, 3] b_impl_parser_block_0 (lpS T a (-1) (.mk 1 noS 0 A)) = loopW tab [0, 2, 3] b_impl_parser_block_0 (lpS T e q (.mk 1 noS 0 (A ++ [y]))) := by
        intro y e q hy
        conv => lhs; unfold loopW
        conv => lhs; arg 1; unfold b_impl_parser_block_0
        simp only [lpS, lpH, nD, ph, pc, TNode.op_mk, TNode.tx_mk, TNode.v_mk, TNode.ks_mk, List.map_append, List.map_cons, List.map_nil, TNode.o_def] at i1 hy ⊢
        simp (maxSteps := 999999) (implicitDefEqProofs := false) (disch := (first | assumption | omega | (unfold appOk; (try simp only [List.length_map, List.length_append, List.length_cons, List.length_nil]); omega))) only [go_sem, simprocAttr, i1, hy]
      have Hs : ∀ (y : TNode) (e q : Int), evCW tab spec_l6Stmt [kp] (ph T a (-1)) 1 = some (y.xo, ph T e q) → loopW tab [0, 2, 3] b_spec_l6Block_0 (lpS T a (-1) (.mk 1 noS 0 A)) = loopW tab [0, 2, 3] b_spec_l6Block_0 (lpS T e q (.mk 1 noS 0 (A ++ [y]))) := by
        intro y e q hy
        conv => lhs; unfold loopW
        conv => lhs; arg 1; unfold b_spec_l6Block_0
        simp only [lpS, lpH, nD, ph, pc, TNode.op_mk, TNode.tx_mk, TNode.v_mk, TNode.ks_mk, List.map_append, List.map_cons, List.map_nil, TNode.o_def] at s1 hy ⊢
        simp (maxSteps := 999999) (implicitDefEqProofs := false) (disch := (first | assumption | omega | (unfold appOk; (try simp only [List.length_map, List.length_append, List.length_cons, List.length_nil]); omega))) only [go_sem, simprocAttr, s1, hy]
      obtain ⟨R, hG, hi, hs⟩ := H a hP (by omega)
      cases R with
      | no p =>
        have hp : 0 ≤ p := hG
        obtain ⟨y1, e1, hE1, hS1, hi'⟩ := hi
        obtain ⟨y2, e2, hE2, hS2, hs'⟩ := hs
        refine ⟨.no p, hp, ⟨A ++ [y1], e1, hE1, sms_snoc hA hS1, by simp; omega, ?_⟩, ⟨A ++ [y2], e2, hE2, sms_snoc hA hS2, by simp; omega, ?_⟩⟩
        · rw [Hi y1 e1 p hi']; exact block_l0_dead hp _
        · rw [Hs y2 e2 p hs']; exact sblock_l0_dead hp _
      | ok y e =>
        obtain ⟨g1, g2, g3, g4⟩ := hG
        have hc := y.ct_nn
        obtain ⟨R2, k1, k2, k3⟩ := block_l0 hT m e (A ++ [y]) g1 (sms_snoc hA g3) (by simp; omega) (by omega) (fun e' he' hlt => H e' he' (by omega))
        rw [Hi y e (-1) hi, Hs y e (-1) hs]
        refine ⟨R2, ?_, k2, k3⟩
        cases R2 with
        | ok L e2 =>
          obtain ⟨j1, j2, j3, j4, j5, j6⟩ := k1
          rw [ct_snoc] at j5
          exact ⟨j1, by omega, j3, j4, by omega, j6⟩
        | no p => exact k1
    · have i1 := take_sT hT hP (by decide) z
      have s1 := sign_T hP z
      refine ⟨.ok A a, ⟨hP, by omega, hA, hl, by omega, z⟩, ?_, ?_⟩
      · simp only [BEnds]
        conv => lhs; unfold loopW
        conv => lhs; arg 1; unfold b_impl_parser_block_0
        simp only [lpS, lpE, lpH, ph, pc] at i1 ⊢
        simp (maxSteps := 999999) (implicitDefEqProofs := false) (disch := (first | assumption | omega | (unfold appOk; (try simp only [List.length_map, List.length_append, List.length_cons, List.length_nil]); omega))) only [go_sem, simprocAttr, i1]
      · simp only [CEnds]
        conv => lhs; unfold loopW
        conv => lhs; arg 1; unfold b_spec_l6Block_0
        simp only [lpS, lpE, lpH, ph, pc] at s1 ⊢
        simp (maxSteps := 999999) (implicitDefEqProofs := false) (disch := (first | assumption | omega | (unfold appOk; (try simp only [List.length_map, List.length_append, List.length_cons, List.length_nil]); omega))) only [go_sem, simprocAttr, s1]
theorem block_both (hT : TF T) (hP : Pl T a) (H : ∀ e, Pl T e → a < e → Both T e impl_parser_statement spec_l6Stmt) : Both T a impl_parser_block spec_l6Block := by
  have hal := hP.l
  cases z : sgB T a (-1) ⟨#[123]⟩
  · have hp := hT.p _ hP
    have i1 := need_sF hT hP (by decide) z
    have i2 := block_l0_dead (T := T) (a := a) hp (.mk 1 noS 0 [])
    have s1 := stake_F hP z
    have s2 := sblock_l0_dead (T := T) (a := a) hp (.mk 1 noS 0 [])
    have s3 := stake_dead hP hp ⟨#[125]⟩
    refine ⟨.no (tk T a).fAt, hp, ⟨.mk 1 noS 0 [], a, hP, leaf_sm, ?_⟩, ⟨.mk 1 noS 0 [], a, hP, leaf_sm, ?_⟩⟩
    · rw [evCW_of t_impl_parser_block _ _ _ rfl, c_impl_parser_block]
      simp only [lpS, lpE, lpH, nD, TNode.xo, TNode.op_mk, TNode.tx_mk, TNode.v_mk, TNode.ks_mk, List.map_nil] at i2 ⊢
      simp (maxSteps := 999999) (implicitDefEqProofs := false) (disch := (first | assumption | omega)) only [go_sem, simprocAttr, i1, i2, TNode.xo, List.map_nil]
    · rw [evCW_of t_spec_l6Block _ _ _ rfl, c_spec_l6Block]
      simp only [lpS, lpE, lpH, nD, TNode.xo, TNode.op_mk, TNode.tx_mk, TNode.v_mk, TNode.ks_mk, List.map_nil] at s2 ⊢
      simp (maxSteps := 999999) (implicitDefEqProofs := false) (disch := (first | assumption | omega)) only [go_sem, simprocAttr, s1, s2, s3, TNode.xo, List.map_nil]
  · obtain ⟨hn, hP1⟩ := sg_nx hT hP z
    have i1 := need_sT hT hP (by decide) z
    have s1 := stake_T hT hP z
    obtain ⟨R, hG, hi, hs⟩ := block_l0 hT T.length (a + 1) [] hP1 sms_nil (by simp; omega) (by omega) (fun e he hlt => H e he (by omega))
    cases R with
    | ok L e =>
      obtain ⟨g1, g2, g3, g4, g5, g6⟩ := hG
      obtain ⟨hn2, hP2⟩ := sg_nx hT g1 g6
      have s3 := stake_T hT g1 g6
      rw [nodesCt_nil] at g5
      have := g1.h
      have := g1.m
      refine ⟨.ok (.mk 1 noS 0 L) (e + 1), ⟨hP2, by omega, row_sm noS_sz g3 (by omega), by rw [TNode.ct_eq]; omega⟩, ?_, ?_⟩
      · simp only [Ends]
        rw [evCW_of t_impl_parser_block _ _ _ rfl, c_impl_parser_block]
        simp only [BEnds, lpS, lpE, lpH, nD, TNode.xo, TNode.op_mk, TNode.tx_mk, TNode.v_mk, TNode.ks_mk, List.map_nil] at hi ⊢
        simp (maxSteps := 999999) (implicitDefEqProofs := false) (disch := (first | assumption | omega)) only [go_sem, simprocAttr, i1, hi, TNode.xo, List.map_nil]
      · simp only [Ends]
        rw [evCW_of t_spec_l6Block _ _ _ rfl, c_spec_l6Block]
        simp only [CEnds, lpS, lpE, lpH, nD, TNode.xo, TNode.op_mk, TNode.tx_mk, TNode.v_mk, TNode.ks_mk, List.map_nil] at hs ⊢
        simp (maxSteps := 999999) (implicitDefEqProofs := false) (disch := (first | assumption | omega)) only [go_sem, simprocAttr, s1, hs, s3, TNode.xo, List.map_nil]
    | no p =>
      have hp : 0 ≤ p := hG
      obtain ⟨L1, e1, i5, i6, i7, hi'⟩ := hi
      obtain ⟨L2, e2, j5, j6, j7, hs'⟩ := hs
      have s3 := stake_dead j5 hp ⟨#[125]⟩
      refine ⟨.no p, hp, ⟨.mk 1 noS 0 L1, e1, i5, row_sm noS_sz i6 i7, ?_⟩, ⟨.mk 1 noS 0 L2, e2, j5, row_sm noS_sz j6 j7, ?_⟩⟩
      · rw [evCW_of t_impl_parser_block _ _ _ rfl, c_impl_parser_block]
        simp only [lpS, lpE, lpH, nD, TNode.xo, TNode.op_mk, TNode.tx_mk, TNode.v_mk, TNode.ks_mk, List.map_nil] at hi' ⊢
        simp (maxSteps := 999999) (implicitDefEqProofs := false) (disch := (first | assumption | omega)) only [go_sem, simprocAttr, i1, hi', TNode.xo, List.map_nil]
      · rw [evCW_of t_spec_l6Block _ _ _ rfl, c_spec_l6Block]
        simp only [lpS, lpE, lpH, nD, TNode.xo, TNode.op_mk, TNode.tx_mk, TNode.v_mk, TNode.ks_mk, List.map_nil] at hs' ⊢
        simp (maxSteps := 999999) (implicitDefEqProofs := false) (disch := (first | assumption | omega)) only [go_sem, simprocAttr, s1, hs', s3, TNode.xo, List.map_nil]
end Go.Ev.G

/- The parsers: ifs and whiles. -/
set_option linter.all false
namespace Go.Ev.G
set_option maxRecDepth 8000
set_option maxHeartbeats 4000000
variable {T : List TToken} {a b : Int}
theorem statement_if (hT : TF T) (hP : Pl T a) (z : isB T a (-1) ⟨#[105, 102]⟩ = true) {n : TNode} {e q : Int} (h : evCW tab impl_parser_branch [kp] (ph T (a + 1) (-1)) 1 = some (n.xo, ph T e q)) : evCW tab impl_parser_statement [kp] (ph T a (-1)) 1 = some (n.xo, ph T e q) := by
  have h1 := take_wT hT hP (by decide) z
  rw [evCW_of t_impl_parser_statement _ _ _ rfl, c_impl_parser_statement]
  simp (maxSteps := 999999) (implicitDefEqProofs := false) (disch := (first | assumption | omega)) only [go_sem, simprocAttr, h1, h, TNode.xo, List.map_nil, List.map_cons, TNode.o_def]
theorem stmt_if (hP : Pl T a) (z : isB T a (-1) ⟨#[105, 102]⟩ = true) {n : TNode} {e q : Int} (h : evCW tab spec_l6If [kp, I 4] (ph T a (-1)) 1 = some (n.xo, ph T e q)) : evCW tab spec_l6Stmt [kp] (ph T a (-1)) 1 = some (n.xo, ph T e q) := by
  have h1 := is_T hP z
  rw [evCW_of t_spec_l6Stmt _ _ _ rfl, c_spec_l6Stmt]
  simp (maxSteps := 999999) (implicitDefEqProofs := false) (disch := (first | assumption | omega)) only [go_sem, simprocAttr, h1, h, TNode.xo, List.map_nil, List.map_cons, TNode.o_def]
theorem stmt_while (hP : Pl T a) (z : isB T a (-1) ⟨#[119, 104, 105, 108, 101]⟩ = true) {n : TNode} {e q : Int} (h : evCW tab spec_l6If [kp, I 5] (ph T a (-1)) 1 = some (n.xo, ph T e q)) : evCW tab spec_l6Stmt [kp] (ph T a (-1)) 1 = some (n.xo, ph T e q) := by
  have h1 := is_T hP z
  have h2 := is_T hP (is_other z (show (⟨#[119, 104, 105, 108, 101]⟩ : ByteArray) ≠ ⟨#[105, 102]⟩ by decide))
  rw [evCW_of t_spec_l6Stmt _ _ _ rfl, c_spec_l6Stmt]
  simp (maxSteps := 999999) (implicitDefEqProofs := false) (disch := (first | assumption | omega)) only [go_sem, simprocAttr, h1, h2, h, TNode.xo, List.map_nil, List.map_cons, TNode.o_def]
theorem statement_select (hT : TF T) (hP : Pl T a) (z : isB T a (-1) ⟨#[115, 101, 108, 101, 99, 116]⟩ = true) {n : TNode} {e q : Int} (h : evCW tab impl_parser_choice [kp] (ph T (a + 1) (-1)) 1 = some (n.xo, ph T e q)) : evCW tab impl_parser_statement [kp] (ph T a (-1)) 1 = some (n.xo, ph T e q) := by
  have h1 := take_wT hT hP (by decide) z
  have h2 := take_wF hT hP (by decide) (is_other z (show (⟨#[115, 101, 108, 101, 99, 116]⟩ : ByteArray) ≠ ⟨#[105, 102]⟩ by decide))
  have h3 := take_wF hT hP (by decide) (is_other z (show (⟨#[115, 101, 108, 101, 99, 116]⟩ : ByteArray) ≠ ⟨#[119, 104, 105, 108, 101]⟩ by decide))
  rw [evCW_of t_impl_parser_statement _ _ _ rfl, c_impl_parser_statement]
  simp (maxSteps := 999999) (implicitDefEqProofs := false) (disch := (first | assumption | omega)) only [go_sem, simprocAttr, h1, h2, h3, h, TNode.xo, List.map_nil, List.map_cons, TNode.o_def]
theorem stmt_select (hP : Pl T a) (z : isB T a (-1) ⟨#[115, 101, 108, 101, 99, 116]⟩ = true) {n : TNode} {e q : Int} (h : evCW tab spec_l6Select [kp] (ph T a (-1)) 1 = some (n.xo, ph T e q)) : evCW tab spec_l6Stmt [kp] (ph T a (-1)) 1 = some (n.xo, ph T e q) := by
  have h1 := is_T hP z
  have h2 := is_T hP (is_other z (show (⟨#[115, 101, 108, 101, 99, 116]⟩ : ByteArray) ≠ ⟨#[105, 102]⟩ by decide))
  have h3 := is_T hP (is_other z (show (⟨#[115, 101, 108, 101, 99, 116]⟩ : ByteArray) ≠ ⟨#[119, 104, 105, 108, 101]⟩ by decide))
  rw [evCW_of t_spec_l6Stmt _ _ _ rfl, c_spec_l6Stmt]
  simp (maxSteps := 999999) (implicitDefEqProofs := false) (disch := (first | assumption | omega)) only [go_sem, simprocAttr, h1, h2, h3, h, TNode.xo, List.map_nil, List.map_cons, TNode.o_def]
theorem statement_plain (hT : TF T) (hP : Pl T a) (z1 : isB T a (-1) ⟨#[105, 102]⟩ = false) (z2 : isB T a (-1) ⟨#[119, 104, 105, 108, 101]⟩ = false) (z3 : isB T a (-1) ⟨#[115, 101, 108, 101, 99, 116]⟩ = false) {n : TNode} {e q : Int} (h : evCW tab impl_parser_plain [kp] (ph T a (-1)) 1 = some (n.xo, ph T e q)) : evCW tab impl_parser_statement [kp] (ph T a (-1)) 1 = some (n.xo, ph T e q) := by
  have h1 := take_wF hT hP (by decide) z1
  have h2 := take_wF hT hP (by decide) z2
  have h3 := take_wF hT hP (by decide) z3
  rw [evCW_of t_impl_parser_statement _ _ _ rfl, c_impl_parser_statement]
  simp (maxSteps := 999999) (implicitDefEqProofs := false) (disch := (first | assumption | omega)) only [go_sem, simprocAttr, h1, h2, h3, h, TNode.xo, List.map_nil, List.map_cons, TNode.o_def]
theorem three_ct (op v : Int) (w : ByteArray) (x y z : TNode) : (TNode.mk op w v [x, y, z]).ct = 3 + x.ct + y.ct + z.ct := by rw [TNode.ct_eq, nodesCt_cons, nodesCt_cons, nodesCt_cons, nodesCt_nil]; omega
theorem three_sm {op : Int} {x y z : TNode} (hx : x.Sm) (hy : y.Sm) (hz : z.Sm) : (TNode.mk op noS 0 [x, y, z]).Sm := row_sm noS_sz (sms_snoc (sms_two hx hy) hz) (by simp)
theorem if_both (hT : TF T) (hP : Pl T a) (z0 : isB T a (-1) ⟨#[105, 102]⟩ = true) (H : ∀ e, Pl T e → a < e → Both T e impl_parser_block spec_l6Block) : Both T a impl_parser_statement spec_l6Stmt := by
  obtain ⟨hn0, hP0⟩ := is_nx hT hP z0
  have s0 := snext_T hP hn0
  obtain ⟨R, hG, hi, hs⟩ := expr_alike hT hP0
  cases R with
  | no p =>
    have hp : 0 ≤ p := hG
    obtain ⟨y1, e1, hE1, hS1, hi'⟩ := hi
    obtain ⟨y2, e2, hE2, hS2, hs'⟩ := hs
    obtain ⟨x1, d1, hD1, hX1, i2⟩ := block_dead hE1 hp
    obtain ⟨x2, d2, hD2, hX2, s2⟩ := sblock_dead hE2 hp
    have i3 := take_dead hD1 hp ⟨#[101, 108, 115, 101]⟩
    have s3 := is_dead hD2 hp ⟨#[101, 108, 115, 101]⟩
    have s4 := spec_l6Node_ok 4 [y2, x2] (by simp)
    refine ⟨.no p, hp, ⟨.mk 4 noS 0 [y1, x1], d1, hD1, two_sm hS1 hX1, ?_⟩, ⟨.mk 4 noS 0 [y2, x2], d2, hD2, two_sm hS2 hX2, ?_⟩⟩
    · refine statement_if hT hP z0 ?_
      rw [evCW_of t_impl_parser_branch _ _ _ rfl, c_impl_parser_branch]
      simp (maxSteps := 999999) (implicitDefEqProofs := false) (disch := (first | assumption | omega)) only [go_sem, simprocAttr, hi', i2, i3, TNode.xo, List.map_nil, List.map_cons, TNode.o_def, List.cons_append, List.nil_append]
    · refine stmt_if hP z0 ?_
      rw [evCW_of t_spec_l6If _ _ _ rfl, c_spec_l6If]
      simp only [TNode.xo, TNode.op_mk, TNode.tx_mk, TNode.v_mk, TNode.ks_mk, List.map_nil, List.map_cons, TNode.o_def] at s4 ⊢
      simp (maxSteps := 999999) (implicitDefEqProofs := false) (disch := (first | assumption | omega)) only [go_sem, simprocAttr, s0, hs', s2, s3, s4, TNode.xo, List.map_nil, List.map_cons, TNode.o_def, List.cons_append, List.nil_append]
  | ok x e =>
    obtain ⟨g1, g2, g3, g4⟩ := hG
    simp only [Ends] at hi hs
    obtain ⟨R2, hG2, hi2, hs2⟩ := H e g1 (by omega)
    cases R2 with
    | no p =>
      have hp : 0 ≤ p := hG2
      obtain ⟨y1, e1, hE1, hS1, hi'⟩ := hi2
      obtain ⟨y2, e2, hE2, hS2, hs'⟩ := hs2
      have i3 := take_dead hE1 hp ⟨#[101, 108, 115, 101]⟩
      have s3 := is_dead hE2 hp ⟨#[101, 108, 115, 101]⟩
      have s4 := spec_l6Node_ok 4 [x, y2] (by simp)
      refine ⟨.no p, hp, ⟨.mk 4 noS 0 [x, y1], e1, hE1, two_sm g3 hS1, ?_⟩, ⟨.mk 4 noS 0 [x, y2], e2, hE2, two_sm g3 hS2, ?_⟩⟩
      · refine statement_if hT hP z0 ?_
        rw [evCW_of t_impl_parser_branch _ _ _ rfl, c_impl_parser_branch]
        simp (maxSteps := 999999) (implicitDefEqProofs := false) (disch := (first | assumption | omega)) only [go_sem, simprocAttr, hi, hi', i3, TNode.xo, List.map_nil, List.map_cons, TNode.o_def, List.cons_append, List.nil_append]
      · refine stmt_if hP z0 ?_
        rw [evCW_of t_spec_l6If _ _ _ rfl, c_spec_l6If]
        simp only [TNode.xo, TNode.op_mk, TNode.tx_mk, TNode.v_mk, TNode.ks_mk, List.map_nil, List.map_cons, TNode.o_def] at s4 ⊢
        simp (maxSteps := 999999) (implicitDefEqProofs := false) (disch := (first | assumption | omega)) only [go_sem, simprocAttr, s0, hs, hs', s3, s4, TNode.xo, List.map_nil, List.map_cons, TNode.o_def, List.cons_append, List.nil_append]
    | ok y e2 =>
      obtain ⟨k1, k2, k3, k4⟩ := hG2
      simp only [Ends] at hi2 hs2
      have s4 := spec_l6Node_ok 4 [x, y] (by simp)
      cases z1 : isB T e2 (-1) ⟨#[101, 108, 115, 101]⟩
      · have i3 := take_wF hT k1 (by decide) z1
        have s3 := is_T k1 z1
        refine ⟨.ok (.mk 4 noS 0 [x, y]) e2, ⟨k1, by omega, two_sm g3 k3, by rw [two_ct]; omega⟩, ?_, ?_⟩
        · simp only [Ends]
          refine statement_if hT hP z0 ?_
          rw [evCW_of t_impl_parser_branch _ _ _ rfl, c_impl_parser_branch]
          simp (maxSteps := 999999) (implicitDefEqProofs := false) (disch := (first | assumption | omega)) only [go_sem, simprocAttr, hi, hi2, i3, TNode.xo, List.map_nil, List.map_cons, TNode.o_def, List.cons_append, List.nil_append]
        · simp only [Ends]
          refine stmt_if hP z0 ?_
          rw [evCW_of t_spec_l6If _ _ _ rfl, c_spec_l6If]
          simp only [TNode.xo, TNode.op_mk, TNode.tx_mk, TNode.v_mk, TNode.ks_mk, List.map_nil, List.map_cons, TNode.o_def] at s4 ⊢
          simp (maxSteps := 999999) (implicitDefEqProofs := false) (disch := (first | assumption | omega)) only [go_sem, simprocAttr, s0, hs, hs2, s3, s4, TNode.xo, List.map_nil, List.map_cons, TNode.o_def, List.cons_append, List.nil_append]
      · obtain ⟨hn1, hP1⟩ := is_nx hT k1 z1
        have i3 := take_wT hT k1 (by decide) z1
        have s3 := is_T k1 z1
        have s5 := snext_T k1 hn1
        obtain ⟨R3, hG3, hi3, hs3⟩ := H (e2 + 1) hP1 (by omega)
        cases R3 with
        | no p =>
          have hp : 0 ≤ p := hG3
          obtain ⟨y1, e1, hE1, hS1, hi'⟩ := hi3
          obtain ⟨y2, e4, hE2, hS2, hs'⟩ := hs3
          refine ⟨.no p, hp, ⟨.mk 4 noS 0 [x, y, y1], e1, hE1, three_sm g3 k3 hS1, ?_⟩, ⟨.mk 4 noS 0 [x, y, y2], e4, hE2, three_sm g3 k3 hS2, ?_⟩⟩
          · refine statement_if hT hP z0 ?_
            rw [evCW_of t_impl_parser_branch _ _ _ rfl, c_impl_parser_branch]
            simp (maxSteps := 999999) (implicitDefEqProofs := false) (disch := (first | assumption | omega | (unfold appOk; (try simp only [List.length_map, List.length_append, List.length_cons, List.length_nil]); omega))) only [go_sem, simprocAttr, hi, hi2, i3, hi', TNode.xo, List.map_nil, List.map_cons, TNode.o_def, List.cons_append, List.nil_append]
          · refine stmt_if hP z0 ?_
            rw [evCW_of t_spec_l6If _ _ _ rfl, c_spec_l6If]
            simp only [TNode.xo, TNode.op_mk, TNode.tx_mk, TNode.v_mk, TNode.ks_mk, List.map_nil, List.map_cons, TNode.o_def] at s4 ⊢
            simp (maxSteps := 999999) (implicitDefEqProofs := false) (disch := (first | assumption | omega | (unfold appOk; (try simp only [List.length_map, List.length_append, List.length_cons, List.length_nil]); omega))) only [go_sem, simprocAttr, s0, hs, hs2, s3, s5, hs', s4, TNode.xo, List.map_nil, List.map_cons, TNode.o_def, List.cons_append, List.nil_append]
        | ok u e3 =>
          obtain ⟨j1, j2, j3, j4⟩ := hG3
          simp only [Ends] at hi3 hs3
          refine ⟨.ok (.mk 4 noS 0 [x, y, u]) e3, ⟨j1, by omega, three_sm g3 k3 j3, by rw [three_ct]; omega⟩, ?_, ?_⟩
          · simp only [Ends]
            refine statement_if hT hP z0 ?_
            rw [evCW_of t_impl_parser_branch _ _ _ rfl, c_impl_parser_branch]
            simp (maxSteps := 999999) (implicitDefEqProofs := false) (disch := (first | assumption | omega | (unfold appOk; (try simp only [List.length_map, List.length_append, List.length_cons, List.length_nil]); omega))) only [go_sem, simprocAttr, hi, hi2, i3, hi3, TNode.xo, List.map_nil, List.map_cons, TNode.o_def, List.cons_append, List.nil_append]
          · simp only [Ends]
            refine stmt_if hP z0 ?_
            rw [evCW_of t_spec_l6If _ _ _ rfl, c_spec_l6If]
            simp only [TNode.xo, TNode.op_mk, TNode.tx_mk, TNode.v_mk, TNode.ks_mk, List.map_nil, List.map_cons, TNode.o_def] at s4 ⊢
            simp (maxSteps := 999999) (implicitDefEqProofs := false) (disch := (first | assumption | omega | (unfold appOk; (try simp only [List.length_map, List.length_append, List.length_cons, List.length_nil]); omega))) only [go_sem, simprocAttr, s0, hs, hs2, s3, s5, hs3, s4, TNode.xo, List.map_nil, List.map_cons, TNode.o_def, List.cons_append, List.nil_append]
theorem while_both (hT : TF T) (hP : Pl T a) (z0 : isB T a (-1) ⟨#[119, 104, 105, 108, 101]⟩ = true) (H : ∀ e, Pl T e → a < e → Both T e impl_parser_block spec_l6Block) : Both T a impl_parser_statement spec_l6Stmt := by
  obtain ⟨hn0, hP0⟩ := is_nx hT hP z0
  have s0 := snext_T hP hn0
  have w1 := take_wT hT hP (by decide) z0
  have w2 := take_wF hT hP (by decide) (is_other z0 (show (⟨#[119, 104, 105, 108, 101]⟩ : ByteArray) ≠ ⟨#[105, 102]⟩ by decide))
  obtain ⟨R, hG, hi, hs⟩ := expr_alike hT hP0
  cases R with
  | no p =>
    have hp : 0 ≤ p := hG
    obtain ⟨y1, e1, hE1, hS1, hi'⟩ := hi
    obtain ⟨y2, e2, hE2, hS2, hs'⟩ := hs
    obtain ⟨x1, d1, hD1, hX1, i2⟩ := block_dead hE1 hp
    obtain ⟨x2, d2, hD2, hX2, s2⟩ := sblock_dead hE2 hp
    have i3 := take_dead hD1 hp ⟨#[101, 108, 115, 101]⟩
    have s3 := is_dead hD2 hp ⟨#[101, 108, 115, 101]⟩
    have s4 := spec_l6Node_ok 5 [y2, x2] (by simp)
    refine ⟨.no p, hp, ⟨.mk 5 noS 0 [y1, x1], d1, hD1, two_sm hS1 hX1, ?_⟩, ⟨.mk 5 noS 0 [y2, x2], d2, hD2, two_sm hS2 hX2, ?_⟩⟩
    · rw [evCW_of t_impl_parser_statement _ _ _ rfl, c_impl_parser_statement]
      simp (maxSteps := 999999) (implicitDefEqProofs := false) (disch := (first | assumption | omega)) only [go_sem, simprocAttr, w1, w2, hi', i2, i3, TNode.xo, List.map_nil, List.map_cons, TNode.o_def, List.cons_append, List.nil_append]
    · refine stmt_while hP z0 ?_
      rw [evCW_of t_spec_l6If _ _ _ rfl, c_spec_l6If]
      simp only [TNode.xo, TNode.op_mk, TNode.tx_mk, TNode.v_mk, TNode.ks_mk, List.map_nil, List.map_cons, TNode.o_def] at s4 ⊢
      simp (maxSteps := 999999) (implicitDefEqProofs := false) (disch := (first | assumption | omega)) only [go_sem, simprocAttr, s0, hs', s2, s3, s4, TNode.xo, List.map_nil, List.map_cons, TNode.o_def, List.cons_append, List.nil_append]
  | ok x e =>
    obtain ⟨g1, g2, g3, g4⟩ := hG
    simp only [Ends] at hi hs
    obtain ⟨R2, hG2, hi2, hs2⟩ := H e g1 (by omega)
    cases R2 with
    | no p =>
      have hp : 0 ≤ p := hG2
      obtain ⟨y1, e1, hE1, hS1, hi'⟩ := hi2
      obtain ⟨y2, e2, hE2, hS2, hs'⟩ := hs2
      have i3 := take_dead hE1 hp ⟨#[101, 108, 115, 101]⟩
      have s3 := is_dead hE2 hp ⟨#[101, 108, 115, 101]⟩
      have s4 := spec_l6Node_ok 5 [x, y2] (by simp)
      refine ⟨.no p, hp, ⟨.mk 5 noS 0 [x, y1], e1, hE1, two_sm g3 hS1, ?_⟩, ⟨.mk 5 noS 0 [x, y2], e2, hE2, two_sm g3 hS2, ?_⟩⟩
      · rw [evCW_of t_impl_parser_statement _ _ _ rfl, c_impl_parser_statement]
        simp (maxSteps := 999999) (implicitDefEqProofs := false) (disch := (first | assumption | omega)) only [go_sem, simprocAttr, w1, w2, hi, hi', i3, TNode.xo, List.map_nil, List.map_cons, TNode.o_def, List.cons_append, List.nil_append]
      · refine stmt_while hP z0 ?_
        rw [evCW_of t_spec_l6If _ _ _ rfl, c_spec_l6If]
        simp only [TNode.xo, TNode.op_mk, TNode.tx_mk, TNode.v_mk, TNode.ks_mk, List.map_nil, List.map_cons, TNode.o_def] at s4 ⊢
        simp (maxSteps := 999999) (implicitDefEqProofs := false) (disch := (first | assumption | omega)) only [go_sem, simprocAttr, s0, hs, hs', s3, s4, TNode.xo, List.map_nil, List.map_cons, TNode.o_def, List.cons_append, List.nil_append]
    | ok y e2 =>
      obtain ⟨k1, k2, k3, k4⟩ := hG2
      simp only [Ends] at hi2 hs2
      have s4 := spec_l6Node_ok 5 [x, y] (by simp)
      refine ⟨.ok (.mk 5 noS 0 [x, y]) e2, ⟨k1, by omega, two_sm g3 k3, by rw [two_ct]; omega⟩, ?_, ?_⟩
      · simp only [Ends]
        rw [evCW_of t_impl_parser_statement _ _ _ rfl, c_impl_parser_statement]
        simp (maxSteps := 999999) (implicitDefEqProofs := false) (disch := (first | assumption | omega)) only [go_sem, simprocAttr, w1, w2, hi, hi2, TNode.xo, List.map_nil, List.map_cons, TNode.o_def, List.cons_append, List.nil_append]
      · simp only [Ends]
        refine stmt_while hP z0 ?_
        rw [evCW_of t_spec_l6If _ _ _ rfl, c_spec_l6If]
        simp only [TNode.xo, TNode.op_mk, TNode.tx_mk, TNode.v_mk, TNode.ks_mk, List.map_nil, List.map_cons, TNode.o_def] at s4 ⊢
        simp (maxSteps := 999999) (implicitDefEqProofs := false) (disch := (first | assumption | omega)) only [go_sem, simprocAttr, s0, hs, hs2, s4, TNode.xo, List.map_nil, List.map_cons, TNode.o_def, List.cons_append, List.nil_append]
end Go.Ev.G

/- The parsers: the cases of a select. -/
set_option linter.all false
namespace Go.Ev.G
set_option maxRecDepth 8000
set_option maxHeartbeats 4000000
variable {T : List TToken} {a b : Int}
abbrev kS (T : List TToken) (a b : Int) (A : List TNode) : St := lpS T a b (.mk 12 noS 0 A)
theorem choice_recv (hT : TF T) (hP : Pl T a) (z : isB T a (-1) ⟨#[99, 97, 115, 101]⟩ = true) (hP1 : Pl T (a + 1)) (z1 : isB T (a + 1) (-1) ⟨#[114, 101, 99, 118]⟩ = true) {w : ByteArray} {x y : TNode} {e q e2 q2 : Int}
    (h1 : evCW tab impl_parser_received [kp, I 32] (ph T (a + 1 + 1) (-1)) 1 = some ((TNode.mk 32 w 0 [x]).xo, ph T e q)) (h2 : evCW tab impl_parser_block [kp] (ph T e q) 1 = some (y.xo, ph T e2 q2)) (A : List TNode) (hA : A.length ≤ 1048575) :
    loopW tab [0, 2, 3] b_impl_parser_choice_0 (kS T a (-1) A) = loopW tab [0, 2, 3] b_impl_parser_choice_0 (kS T e2 q2 (A ++ [.mk 32 w 0 [x, y]])) := by
  have i1 := take_wT hT hP (by decide) z
  have i2 := take_wT hT hP1 (by decide) z1
  conv => lhs; unfold loopW
  conv => lhs; arg 1; unfold b_impl_parser_choice_0
  simp only [kS, lpS, lpH, nD, ph, pc, TNode.xo, TNode.op_mk, TNode.tx_mk, TNode.v_mk, TNode.ks_mk, List.map_nil, List.map_cons, List.map_append, TNode.o_def, List.cons_append, List.nil_append] at i1 i2 h1 h2 ⊢
  simp (maxSteps := 999999) (implicitDefEqProofs := false) (disch := (first | assumption | omega | (unfold appOk; (try simp only [List.length_map, List.length_append, List.length_cons, List.length_nil]); omega))) only [go_sem, simprocAttr, i1, i2, h1, h2, TNode.xo, List.map_nil, List.map_cons, List.map_append, TNode.o_def, List.cons_append, List.nil_append]
theorem choice_send (hT : TF T) (hP : Pl T a) (z : isB T a (-1) ⟨#[99, 97, 115, 101]⟩ = true) (hP1 : Pl T (a + 1)) (z1 : isB T (a + 1) (-1) ⟨#[114, 101, 99, 118]⟩ = false) {L : List TNode} (hL : L.length ≤ 1048575) {y : TNode} {d r e q e2 q2 : Int}
    (h0 : evCW tab impl_parser_need [kp, Str ⟨#[115, 101, 110, 100]⟩] (ph T (a + 1) (-1)) 1 = some (.tup [], ph T d r))
    (h1 : evCW tab impl_parser_two [kp] (ph T d r) 1 = some (.d (.s 4 (L.map TNode.o)), ph T e q)) (h2 : evCW tab impl_parser_block [kp] (ph T e q) 1 = some (y.xo, ph T e2 q2)) (A : List TNode) (hA : A.length ≤ 1048575) :
    loopW tab [0, 2, 3] b_impl_parser_choice_0 (kS T a (-1) A) = loopW tab [0, 2, 3] b_impl_parser_choice_0 (kS T e2 q2 (A ++ [.mk 33 noS 0 (L ++ [y])])) := by
  have i1 := take_wT hT hP (by decide) z
  have i2 := take_wF hT hP1 (by decide) z1
  conv => lhs; unfold loopW
  conv => lhs; arg 1; unfold b_impl_parser_choice_0
  simp only [kS, lpS, lpH, nD, ph, pc, TNode.xo, TNode.op_mk, TNode.tx_mk, TNode.v_mk, TNode.ks_mk, List.map_nil, List.map_cons, List.map_append, TNode.o_def, List.cons_append, List.nil_append] at i1 i2 h0 h1 h2 ⊢
  simp (maxSteps := 999999) (implicitDefEqProofs := false) (disch := (first | assumption | omega | (unfold appOk; (try simp only [List.length_map, List.length_append, List.length_cons, List.length_nil]); omega))) only [go_sem, simprocAttr, i1, i2, h0, h1, h2, TNode.xo, List.map_nil, List.map_cons, List.map_append, TNode.o_def, List.cons_append, List.nil_append]
theorem scase_recv (hT : TF T) (hP : Pl T a) (z : isB T a (-1) ⟨#[99, 97, 115, 101]⟩ = true) (hP1 : Pl T (a + 1)) (z1 : isB T (a + 1) (-1) ⟨#[114, 101, 99, 118]⟩ = true) {w : ByteArray} {x y : TNode} {e q e2 q2 : Int}
    (h1 : evCW tab spec_l6Recv [kp, I 32] (ph T (a + 1 + 1) (-1)) 1 = some ((TNode.mk 32 w 0 [x]).xo, ph T e q)) (h2 : evCW tab spec_l6Block [kp] (ph T e q) 1 = some (y.xo, ph T e2 q2)) :
    evCW tab spec_l6Case [kp] (ph T a (-1)) 1 = some ((TNode.mk 32 w 0 [x, y]).xo, ph T e2 q2) := by
  have s0 := is_T hP (is_other z (show (⟨#[99, 97, 115, 101]⟩ : ByteArray) ≠ ⟨#[100, 101, 102, 97, 117, 108, 116]⟩ by decide))
  have s1 := word_T hT hP z
  have s2 := is_T hP1 z1
  have s3 := snext_T hP1 (is_nx hT hP1 z1).1
  rw [evCW_of t_spec_l6Case _ _ _ rfl, c_spec_l6Case]
  simp only [TNode.xo, TNode.op_mk, TNode.tx_mk, TNode.v_mk, TNode.ks_mk, List.map_nil, List.map_cons, List.map_append, TNode.o_def, List.cons_append, List.nil_append] at h1 h2 ⊢
  simp (maxSteps := 999999) (implicitDefEqProofs := false) (disch := (first | assumption | omega | (unfold appOk; (try simp only [List.length_map, List.length_append, List.length_cons, List.length_nil]); omega))) only [go_sem, simprocAttr, s0, s1, s2, s3, h1, h2, TNode.xo, List.map_nil, List.map_cons, List.map_append, TNode.o_def, List.cons_append, List.nil_append]
theorem scase_send (hT : TF T) (hP : Pl T a) (z : isB T a (-1) ⟨#[99, 97, 115, 101]⟩ = true) (hP1 : Pl T (a + 1)) (z1 : isB T (a + 1) (-1) ⟨#[114, 101, 99, 118]⟩ = false) {L : List TNode} (hL : L.length ≤ 1048575) {y : TNode} {d r e q e2 q2 : Int}
    (h0 : evCW tab spec_l6Word [kp, Str ⟨#[115, 101, 110, 100]⟩] (ph T (a + 1) (-1)) 1 = some (.tup [], ph T d r))
    (h1 : evCW tab spec_l6Two [kp, I 33] (ph T d r) 1 = some ((TNode.mk 33 noS 0 L).xo, ph T e q)) (h2 : evCW tab spec_l6Block [kp] (ph T e q) 1 = some (y.xo, ph T e2 q2)) :
    evCW tab spec_l6Case [kp] (ph T a (-1)) 1 = some ((TNode.mk 33 noS 0 (L ++ [y])).xo, ph T e2 q2) := by
  have s0 := is_T hP (is_other z (show (⟨#[99, 97, 115, 101]⟩ : ByteArray) ≠ ⟨#[100, 101, 102, 97, 117, 108, 116]⟩ by decide))
  have s1 := word_T hT hP z
  have s2 := is_T hP1 z1
  rw [evCW_of t_spec_l6Case _ _ _ rfl, c_spec_l6Case]
  simp only [TNode.xo, TNode.op_mk, TNode.tx_mk, TNode.v_mk, TNode.ks_mk, List.map_nil, List.map_cons, List.map_append, TNode.o_def, List.cons_append, List.nil_append] at h1 h2 ⊢
  simp (maxSteps := 999999) (implicitDefEqProofs := false) (disch := (first | assumption | omega | (unfold appOk; (try simp only [List.length_map, List.length_append, List.length_cons, List.length_nil]); omega))) only [go_sem, simprocAttr, s0, s1, s2, h0, h1, h2, TNode.xo, List.map_nil, List.map_cons, List.map_append, TNode.o_def, List.cons_append, List.nil_append]
theorem scase_else (hT : TF T) (hP : Pl T a) (z : isB T a (-1) ⟨#[100, 101, 102, 97, 117, 108, 116]⟩ = true) {y : TNode} {e q : Int} (h1 : evCW tab spec_l6Block [kp] (ph T (a + 1) (-1)) 1 = some (y.xo, ph T e q)) :
    evCW tab spec_l6Case [kp] (ph T a (-1)) 1 = some ((TNode.mk 34 noS 0 [y]).xo, ph T e q) := by
  have s0 := is_T hP z
  have s1 := snext_T hP (is_nx hT hP z).1
  have s4 := spec_l6Node_ok 34 [y] (by simp)
  rw [evCW_of t_spec_l6Case _ _ _ rfl, c_spec_l6Case]
  simp only [TNode.xo, TNode.op_mk, TNode.tx_mk, TNode.v_mk, TNode.ks_mk, List.map_nil, List.map_cons, List.map_append, TNode.o_def, List.cons_append, List.nil_append] at h1 s4 ⊢
  simp (maxSteps := 999999) (implicitDefEqProofs := false) (disch := (first | assumption | omega)) only [go_sem, simprocAttr, s0, s1, h1, s4, TNode.xo, List.map_nil, List.map_cons, List.map_append, TNode.o_def, List.cons_append, List.nil_append]
theorem scase_none (hT : TF T) (hP : Pl T a) (z : isB T a (-1) ⟨#[100, 101, 102, 97, 117, 108, 116]⟩ = false) (z1 : isB T a (-1) ⟨#[99, 97, 115, 101]⟩ = false) : Dead T (tk T a).fAt (evCW tab spec_l6Case [kp] (ph T a (-1)) 1) := by
  have hp := hT.p _ hP
  have s0 := is_T hP z
  have s1 := word_F hP z1
  have h1 := is_dead hP hp
  have h2 := word_dead hP hp
  obtain ⟨x1, x2, e, hE, hS, hS', h3⟩ := stwo_dead hP hp 33
  obtain ⟨y, e2, hE2, hS2, h4⟩ := sblock_dead hE hp
  refine ⟨.mk 33 noS 0 [x1, x2, y], e2, hE2, three_sm hS hS' hS2, ?_⟩
  rw [evCW_of t_spec_l6Case _ _ _ rfl, c_spec_l6Case]
  simp (maxSteps := 999999) (implicitDefEqProofs := false) (disch := (first | assumption | omega | (unfold appOk; (try simp only [List.length_map, List.length_append, List.length_cons, List.length_nil]); omega))) only [go_sem, simprocAttr, s0, s1, h1, h2, h3, h4, TNode.xo, List.map_nil, List.map_cons, List.map_append, TNode.o_def, List.cons_append, List.nil_append]
theorem case_both (hT : TF T) (hP : Pl T a) (z : isB T a (-1) ⟨#[99, 97, 115, 101]⟩ = true) (H : ∀ e, Pl T e → a < e → Both T e impl_parser_block spec_l6Block) : ∃ R : Rs, Good T a 0 R ∧ (match R with
    | .ok n e => n.op ≠ 34 ∧ (∀ A, A.length ≤ 1048575 → loopW tab [0, 2, 3] b_impl_parser_choice_0 (kS T a (-1) A) = loopW tab [0, 2, 3] b_impl_parser_choice_0 (kS T e (-1) (A ++ [n]))) ∧ evCW tab spec_l6Case [kp] (ph T a (-1)) 1 = some (n.xo, ph T e (-1))
    | .no p => (∃ n e, Pl T e ∧ n.Sm ∧ ∀ A, A.length ≤ 1048575 → loopW tab [0, 2, 3] b_impl_parser_choice_0 (kS T a (-1) A) = loopW tab [0, 2, 3] b_impl_parser_choice_0 (kS T e p (A ++ [n]))) ∧ Dead T p (evCW tab spec_l6Case [kp] (ph T a (-1)) 1)) := by
  obtain ⟨hn, hP1⟩ := is_nx hT hP z
  cases z1 : isB T (a + 1) (-1) ⟨#[114, 101, 99, 118]⟩
  · cases z2 : isB T (a + 1) (-1) ⟨#[115, 101, 110, 100]⟩
    · have hp := hT.p _ hP1
      have i0 := need_wF hT hP1 (by decide) z2
      have s0 := word_F hP1 z2
      obtain ⟨L, e1, hE1, hL1, hL2, i1⟩ := two_dead hP1 hp
      obtain ⟨x1, x2, e2, hE2, hX1, hX2, s1⟩ := stwo_dead hP1 hp 33
      obtain ⟨y1, d1, hD1, hY1, i2⟩ := block_dead hE1 hp
      obtain ⟨y2, d2, hD2, hY2, s2⟩ := sblock_dead hE2 hp
      have hLL : L.length ≤ 1048575 := hL2
      refine ⟨.no (tk T (a + 1)).fAt, hp, ⟨_, d1, hD1, row_sm noS_sz (sms_snoc hL1 hY1) (by simp; omega), choice_send hT hP z hP1 z1 hLL i0 i1 i2⟩, ⟨_, d2, hD2, row_sm noS_sz (sms_snoc (sms_two hX1 hX2) hY2) (by simp), scase_send hT hP z hP1 z1 (by simp) s0 s1 s2⟩⟩
    · obtain ⟨hn2, hP2⟩ := is_nx hT hP1 z2
      have i0 := need_wT hT hP1 (by decide) z2
      have s0 := word_T hT hP1 z2
      obtain ⟨R, hG, hi, hs⟩ := two_both hT hP2 33
      cases R with
      | no p =>
        have hp : 0 ≤ p := hG
        obtain ⟨L, e1, hE1, hL1, hL2, i1⟩ := hi
        obtain ⟨x1, x2, e2, hE2, hX1, hX2, s1⟩ := hs
        obtain ⟨y1, d1, hD1, hY1, i2⟩ := block_dead hE1 hp
        obtain ⟨y2, d2, hD2, hY2, s2⟩ := sblock_dead hE2 hp
        have hLL : L.length ≤ 1048575 := hL2
        refine ⟨.no p, hp, ⟨_, d1, hD1, row_sm noS_sz (sms_snoc hL1 hY1) (by simp; omega), choice_send hT hP z hP1 z1 hLL i0 i1 i2⟩, ⟨_, d2, hD2, row_sm noS_sz (sms_snoc (sms_two hX1 hX2) hY2) (by simp), scase_send hT hP z hP1 z1 (by simp) s0 s1 s2⟩⟩
      | ok L e =>
        obtain ⟨g1, g2, g3, g4, g5⟩ := hG
        simp only [MEnds] at hi hs
        obtain ⟨R2, hG2, hi2, hs2⟩ := H e g1 (by omega)
        cases R2 with
        | no p =>
          have hp : 0 ≤ p := hG2
          obtain ⟨y1, e1, hE1, hS1, hi'⟩ := hi2
          obtain ⟨y2, e2, hE2, hS2, hs'⟩ := hs2
          exact ⟨.no p, hp, ⟨_, e1, hE1, row_sm noS_sz (sms_snoc g3 hS1) (by simp; omega), choice_send hT hP z hP1 z1 (by omega) i0 hi hi'⟩, ⟨_, e2, hE2, row_sm noS_sz (sms_snoc g3 hS2) (by simp; omega), scase_send hT hP z hP1 z1 (by omega) s0 hs hs'⟩⟩
        | ok y e2 =>
          obtain ⟨k1, k2, k3, k4⟩ := hG2
          simp only [Ends] at hi2 hs2
          exact ⟨.ok (.mk 33 noS 0 (L ++ [y])) e2, ⟨k1, by omega, row_sm noS_sz (sms_snoc g3 k3) (by simp; omega), by rw [TNode.ct_eq, ct_snoc]; omega⟩, (by show (33 : Int) ≠ 34; decide), choice_send hT hP z hP1 z1 (by omega) i0 hi hi2, scase_send hT hP z hP1 z1 (by omega) s0 hs hs2⟩
  · obtain ⟨hn2, hP2⟩ := is_nx hT hP1 z1
    obtain ⟨R, hG, hR⟩ := received_both hT hP2 32
    cases R with
    | no p =>
      have hp : 0 ≤ p := hG
      obtain ⟨⟨w1, x1, e1, hw1, hE1, hS1, i1⟩, ⟨w2, x2, e2, hw2, hE2, hS2, s1⟩⟩ := hR
      obtain ⟨y1, d1, hD1, hY1, i2⟩ := block_dead hE1 hp
      obtain ⟨y2, d2, hD2, hY2, s2⟩ := sblock_dead hE2 hp
      exact ⟨.no p, hp, ⟨_, d1, hD1, row_sm hw1 (sms_two hS1 hY1) (by simp), choice_recv hT hP z hP1 z1 i1 i2⟩, ⟨_, d2, hD2, row_sm hw2 (sms_two hS2 hY2) (by simp), scase_recv hT hP z hP1 z1 s1 s2⟩⟩
    | ok n e =>
      obtain ⟨⟨g1, g2, g3, g4⟩, w, x, rfl⟩ := hG
      obtain ⟨hi, hs⟩ := hR
      have hxs := g3.ks.2 x (by simp [TNode.ks])
      have hws := g3.tx
      obtain ⟨R2, hG2, hi2, hs2⟩ := H e g1 (by omega)
      cases R2 with
      | no p =>
        have hp : 0 ≤ p := hG2
        obtain ⟨y1, e1, hE1, hS1, hi'⟩ := hi2
        obtain ⟨y2, e2, hE2, hS2, hs'⟩ := hs2
        exact ⟨.no p, hp, ⟨_, e1, hE1, row_sm hws (sms_two hxs hS1) (by simp), choice_recv hT hP z hP1 z1 hi hi'⟩, ⟨_, e2, hE2, row_sm hws (sms_two hxs hS2) (by simp), scase_recv hT hP z hP1 z1 hs hs'⟩⟩
      | ok y e2 =>
        obtain ⟨k1, k2, k3, k4⟩ := hG2
        simp only [Ends] at hi2 hs2
        rw [one_ct] at g4
        exact ⟨.ok (.mk 32 w 0 [x, y]) e2, ⟨k1, by omega, row_sm hws (sms_two hxs k3) (by simp), by rw [TNode.ct_eq, nodesCt_cons, nodesCt_cons, nodesCt_nil]; omega⟩, (by show (32 : Int) ≠ 34; decide), choice_recv hT hP z hP1 z1 hi hi2, scase_recv hT hP z hP1 z1 hs hs2⟩
end Go.Ev.G

/- The parsers: select. -/
set_option linter.all false
namespace Go.Ev.G
set_option maxRecDepth 8000
set_option maxHeartbeats 4000000
variable {T : List TToken} {a b : Int}
theorem select_dead (hb : 0 ≤ b) (A : List TNode) : loopW tab [0, 2, 3] b_spec_l6Select_0 (kS T a b A) = some (.ext 0, kS T a b A) := by
  unfold loopW
  conv => lhs; arg 1; unfold b_spec_l6Select_0
  simp only [kS, lpS, lpH, pc]
  simp (maxSteps := 999999) (implicitDefEqProofs := false) (disch := (first | assumption | omega)) only [go_sem, simprocAttr]
theorem choice_dead (hb : 0 ≤ b) (A : List TNode) : loopW tab [0, 2, 3] b_impl_parser_choice_0 (kS T a b A) = some (.ext 0, kS T a b A) := by
  unfold loopW
  conv => lhs; arg 1; unfold b_impl_parser_choice_0
  simp only [kS, lpS, lpH, pc]
  simp (maxSteps := 999999) (implicitDefEqProofs := false) (disch := (first | assumption | omega)) only [go_sem, simprocAttr]
theorem select_end (hP : Pl T a) (z : sgB T a (-1) ⟨#[125]⟩ = true) (A : List TNode) : loopW tab [0, 2, 3] b_spec_l6Select_0 (kS T a (-1) A) = some (.ext 0, kS T a (-1) A) := by
  have s1 := sign_T hP z
  unfold loopW
  conv => lhs; arg 1; unfold b_spec_l6Select_0
  simp only [kS, lpS, lpH, ph, pc] at s1 ⊢
  simp (maxSteps := 999999) (implicitDefEqProofs := false) (disch := (first | assumption | omega)) only [go_sem, simprocAttr, s1]
theorem choice_end (hT : TF T) (hP : Pl T a) (z : isB T a (-1) ⟨#[99, 97, 115, 101]⟩ = false) (A : List TNode) : loopW tab [0, 2, 3] b_impl_parser_choice_0 (kS T a (-1) A) = some (.ext 0, kS T a (-1) A) := by
  have s1 := take_wF hT hP (by decide) z
  unfold loopW
  conv => lhs; arg 1; unfold b_impl_parser_choice_0
  simp only [kS, lpS, lpH, ph, pc] at s1 ⊢
  simp (maxSteps := 999999) (implicitDefEqProofs := false) (disch := (first | assumption | omega)) only [go_sem, simprocAttr, s1]
def NE (A : List TNode) : Prop := ∀ y ∈ A, y.op ≠ 34
theorem last_get (A : List TNode) (y : TNode) (x : List D) (h : y.o = x) : (A.map TNode.o ++ [x])[A.length]? = some x := by simp
theorem select_step (hP : Pl T a) (z : sgB T a (-1) ⟨#[125]⟩ = false) (A : List TNode) (hA : A.length ≤ 1048575) (hN : NE A) {y : TNode} {e q : Int} (h : evCW tab spec_l6Case [kp] (ph T a (-1)) 1 = some (y.xo, ph T e q)) :
    loopW tab [0, 2, 3] b_spec_l6Select_0 (kS T a (-1) A) = loopW tab [0, 2, 3] b_spec_l6Select_0 (kS T e q (A ++ [y])) := by
  have s1 := sign_T hP z
  rcases List.eq_nil_or_concat A with rfl | ⟨A', u, hAu⟩
  · conv => lhs; unfold loopW
    conv => lhs; arg 1; unfold b_spec_l6Select_0
    simp only [kS, lpS, lpH, nD, ph, pc, TNode.xo, TNode.op_mk, TNode.tx_mk, TNode.v_mk, TNode.ks_mk, List.map_nil, List.map_cons, List.map_append, TNode.o_def, List.cons_append, List.nil_append] at s1 h ⊢
    simp (maxSteps := 999999) (implicitDefEqProofs := false) (disch := (first | assumption | omega | (unfold appOk; (try simp only [List.length_map, List.length_append, List.length_cons, List.length_nil]); omega))) only [go_sem, simprocAttr, s1, h, TNode.xo, List.map_nil, List.map_cons, List.map_append, TNode.o_def, List.cons_append, List.nil_append]
  · rw [List.concat_eq_append] at hAu
    subst hAu
    have hu : u.op ≠ 34 := hN u (by simp)
    simp only [List.length_append, List.length_cons, List.length_nil] at hA
    have hg := last_get A' u _ u.o_def
    have hix : (((A'.length + 1 : Nat) : Int) - 1).toNat = A'.length := by omega
    conv => lhs; unfold loopW
    conv => lhs; arg 1; unfold b_spec_l6Select_0
    simp only [kS, lpS, lpH, nD, ph, pc, TNode.xo, TNode.op_mk, TNode.tx_mk, TNode.v_mk, TNode.ks_mk, List.map_nil, List.map_cons, List.map_append, TNode.o_def, List.cons_append, List.nil_append, List.append_assoc] at s1 h hg ⊢
    simp (maxSteps := 999999) (implicitDefEqProofs := false) (disch := (first | assumption | omega | (unfold appOk; (try simp only [List.length_map, List.length_append, List.length_cons, List.length_nil]); omega))) only [go_sem, simprocAttr, s1, h, hg, hix, TNode.xo, List.map_nil, List.map_cons, List.map_append, TNode.o_def, List.cons_append, List.nil_append, List.append_assoc, List.length_append, List.length_map, List.length_cons, List.length_nil]
theorem select_else (hT : TF T) (hP : Pl T a) (z : sgB T a (-1) ⟨#[125]⟩ = false) (A' : List TNode) (hA : A'.length ≤ 1048570) {u y : TNode} (hu : u.op = 34) {e : Int} (h : evCW tab spec_l6Case [kp] (ph T a (tk T a).fAt) 1 = some (y.xo, ph T e (tk T a).fAt)) :
    loopW tab [0, 2, 3] b_spec_l6Select_0 (kS T a (-1) (A' ++ [u])) = loopW tab [0, 2, 3] b_spec_l6Select_0 (kS T e (tk T a).fAt (A' ++ [u] ++ [y])) := by
  have s1 := sign_T hP z
  have s2 := bad_T hP
  have hg := last_get A' u _ u.o_def
  have hix : (((A'.length + 1 : Nat) : Int) - 1).toNat = A'.length := by omega
  rw [hu] at hg
  conv => lhs; unfold loopW
  conv => lhs; arg 1; unfold b_spec_l6Select_0
  simp only [kS, lpS, lpH, nD, ph, pc, TNode.xo, TNode.op_mk, TNode.tx_mk, TNode.v_mk, TNode.ks_mk, List.map_nil, List.map_cons, List.map_append, TNode.o_def, List.cons_append, List.nil_append, List.append_assoc] at s1 s2 h hg ⊢
  simp (maxSteps := 999999) (implicitDefEqProofs := false) (disch := (first | assumption | omega | (unfold appOk; (try simp only [List.length_map, List.length_append, List.length_cons, List.length_nil]); omega))) only [go_sem, simprocAttr, s1, s2, h, hg, hu, hix, TNode.xo, List.map_nil, List.map_cons, List.map_append, TNode.o_def, List.cons_append, List.nil_append, List.append_assoc, List.length_append, List.length_map, List.length_cons, List.length_nil]
theorem choice_l0 (hT : TF T) : ∀ (m : Nat) (a : Int) (A : List TNode), Pl T a → Sms A → NE A → (A.length : Int) ≤ a → (T.length : Int) - a ≤ m → (∀ e, Pl T e → a < e → Both T e impl_parser_block spec_l6Block) →
    (∃ L e, Pl T e ∧ a ≤ e ∧ Sms L ∧ NE L ∧ (L.length : Int) ≤ e ∧ nodesCt L ≤ 3 * (e - a) + nodesCt A ∧ isB T e (-1) ⟨#[99, 97, 115, 101]⟩ = false ∧ loopW tab [0, 2, 3] b_impl_parser_choice_0 (kS T a (-1) A) = some (.ext 0, kS T e (-1) L) ∧ loopW tab [0, 2, 3] b_spec_l6Select_0 (kS T a (-1) A) = loopW tab [0, 2, 3] b_spec_l6Select_0 (kS T e (-1) L)) ∨
    (∃ p, 0 ≤ p ∧ (∃ L e, Pl T e ∧ Sms L ∧ L.length ≤ 1048576 ∧ loopW tab [0, 2, 3] b_impl_parser_choice_0 (kS T a (-1) A) = some (.ext 0, kS T e p L)) ∧ ∃ L e, Pl T e ∧ Sms L ∧ L.length ≤ 1048576 ∧ loopW tab [0, 2, 3] b_spec_l6Select_0 (kS T a (-1) A) = some (.ext 0, kS T e p L))
  | 0, a, A, hP, hA, hN, hl, hm, H => by have := hP.h; omega
  | m + 1, a, A, hP, hA, hN, hl, hm, H => by
    have hah := hP.h
    have hmm := hP.m
    cases z : isB T a (-1) ⟨#[99, 97, 115, 101]⟩
    · exact Or.inl ⟨A, a, hP, by omega, hA, hN, hl, by omega, z, choice_end hT hP z A, rfl⟩
    · obtain ⟨R, hG, hR⟩ := case_both hT hP z H
      cases R with
      | no p =>
        have hp : 0 ≤ p := hG
        obtain ⟨⟨n1, e1, hE1, hS1, hi⟩, n2, e2, hE2, hS2, hs⟩ := hR
        refine Or.inr ⟨p, hp, ⟨A ++ [n1], e1, hE1, sms_snoc hA hS1, by simp; omega, ?_⟩, ⟨A ++ [n2], e2, hE2, sms_snoc hA hS2, by simp; omega, ?_⟩⟩
        · rw [hi A (by omega)]; exact choice_dead hp _
        · rw [select_step hP (sg_of_is z _) A (by omega) hN hs]; exact select_dead hp _
      | ok n e =>
        obtain ⟨g1, g2, g3, g4⟩ := hG
        obtain ⟨hn, hi, hs⟩ := hR
        have hc := n.ct_nn
        have hN2 : NE (A ++ [n]) := by
          intro y hy
          rcases List.mem_append.1 hy with k | k
          · exact hN y k
          · rw [List.mem_singleton.1 k]; exact hn
        have ih := choice_l0 hT m e (A ++ [n]) g1 (sms_snoc hA g3) hN2 (by simp; omega) (by omega) (fun e' he' hlt => H e' he' (by omega))
        rw [hi A (by omega), select_step hP (sg_of_is z _) A (by omega) hN hs]
        rcases ih with ⟨L, e2, k1, k2, k3, k4, k5, k6, k7, k8, k9⟩ | ih
        · rw [ct_snoc] at k6
          exact Or.inl ⟨L, e2, k1, by omega, k3, k4, k5, by omega, k7, k8, k9⟩
        · exact Or.inr ih
theorem choice_both (hT : TF T) (hP0 : Pl T a) (z0 : isB T a (-1) ⟨#[115, 101, 108, 101, 99, 116]⟩ = true) (H : ∀ e, Pl T e → a < e → Both T e impl_parser_block spec_l6Block) : Both T a impl_parser_statement spec_l6Stmt := by
  obtain ⟨hn0, hP⟩ := is_nx hT hP0 z0
  have s0 := snext_T hP0 hn0
  have hal := hP0.l
  cases z : sgB T (a + 1) (-1) ⟨#[123]⟩
  · have hp := hT.p _ hP
    have i1 := need_sF hT hP (by decide) z
    have i2 := choice_dead (T := T) (a := a + 1) hp []
    have i3 := take_dead hP hp ⟨#[100, 101, 102, 97, 117, 108, 116]⟩
    have i4 := need_dead hP hp ⟨#[125]⟩
    have s1 := stake_F hP z
    have s2 := select_dead (T := T) (a := a + 1) hp []
    have s3 := stake_dead hP hp ⟨#[125]⟩
    refine ⟨.no (tk T (a + 1)).fAt, hp, ⟨.mk 12 noS 0 [], a + 1, hP, leaf_sm, ?_⟩, ⟨.mk 12 noS 0 [], a + 1, hP, leaf_sm, ?_⟩⟩
    · refine statement_select hT hP0 z0 ?_
      rw [evCW_of t_impl_parser_choice _ _ _ rfl, c_impl_parser_choice]
      simp only [kS, lpS, lpH, nD, TNode.xo, TNode.op_mk, TNode.tx_mk, TNode.v_mk, TNode.ks_mk, List.map_nil, List.map_cons, List.map_append, TNode.o_def, List.cons_append, List.nil_append] at i2 ⊢
      simp (maxSteps := 999999) (implicitDefEqProofs := false) (disch := (first | assumption | omega)) only [go_sem, simprocAttr, i1, i2, i3, i4, TNode.xo, List.map_nil, List.map_cons, List.map_append, TNode.o_def, List.cons_append, List.nil_append]
    · refine stmt_select hP0 z0 ?_
      rw [evCW_of t_spec_l6Select _ _ _ rfl, c_spec_l6Select]
      simp only [kS, lpS, lpH, nD, TNode.xo, TNode.op_mk, TNode.tx_mk, TNode.v_mk, TNode.ks_mk, List.map_nil, List.map_cons, List.map_append, TNode.o_def, List.cons_append, List.nil_append] at s2 ⊢
      simp (maxSteps := 999999) (implicitDefEqProofs := false) (disch := (first | assumption | omega)) only [go_sem, simprocAttr, s0, s1, s2, s3, TNode.xo, List.map_nil, List.map_cons, List.map_append, TNode.o_def, List.cons_append, List.nil_append]
  obtain ⟨hn, hP1⟩ := sg_nx hT hP z
  have i1 := need_sT hT hP (by decide) z
  have s1 := stake_T hT hP z
  have Hi : ∀ (L : List TNode) (e q : Int), loopW tab [0, 2, 3] b_impl_parser_choice_0 (kS T (a + 1 + 1) (-1) []) = some (.ext 0, kS T e q L) → evCW tab impl_parser_take [kp, Str ⟨#[100, 101, 102, 97, 117, 108, 116]⟩] (ph T e q) 1 = some (B false, ph T e q) → ∀ q2 e2 : Int, evCW tab impl_parser_need [kp, Str ⟨#[125]⟩] (ph T e q) 1 = some (.tup [], ph T e2 q2) → evCW tab impl_parser_choice [kp] (ph T (a + 1) (-1)) 1 = some ((TNode.mk 12 noS 0 L).xo, ph T e2 q2) := by
    intro L e q i2 i3 q2 e2 i4
    rw [evCW_of t_impl_parser_choice _ _ _ rfl, c_impl_parser_choice]
    simp only [kS, lpS, lpH, nD, TNode.xo, TNode.op_mk, TNode.tx_mk, TNode.v_mk, TNode.ks_mk, List.map_nil, List.map_cons, List.map_append, TNode.o_def, List.cons_append, List.nil_append] at i2 ⊢
    simp (maxSteps := 999999) (implicitDefEqProofs := false) (disch := (first | assumption | omega)) only [go_sem, simprocAttr, i1, i2, i3, i4, TNode.xo, List.map_nil, List.map_cons, List.map_append, TNode.o_def, List.cons_append, List.nil_append]
  have Hj : ∀ (L : List TNode) (e : Int) (y : TNode) (q d : Int), L.length ≤ 1048575 → loopW tab [0, 2, 3] b_impl_parser_choice_0 (kS T (a + 1 + 1) (-1) []) = some (.ext 0, kS T e (-1) L) → evCW tab impl_parser_take [kp, Str ⟨#[100, 101, 102, 97, 117, 108, 116]⟩] (ph T e (-1)) 1 = some (B true, ph T (e + 1) (-1)) → evCW tab impl_parser_block [kp] (ph T (e + 1) (-1)) 1 = some (y.xo, ph T d q) → ∀ q2 e2 : Int, evCW tab impl_parser_need [kp, Str ⟨#[125]⟩] (ph T d q) 1 = some (.tup [], ph T e2 q2) → evCW tab impl_parser_choice [kp] (ph T (a + 1) (-1)) 1 = some ((TNode.mk 12 noS 0 (L ++ [.mk 34 noS 0 [y]])).xo, ph T e2 q2) := by
    intro L e y q d hl i2 i3 i5 q2 e2 i4
    rw [evCW_of t_impl_parser_choice _ _ _ rfl, c_impl_parser_choice]
    simp only [kS, lpS, lpH, nD, TNode.xo, TNode.op_mk, TNode.tx_mk, TNode.v_mk, TNode.ks_mk, List.map_nil, List.map_cons, List.map_append, TNode.o_def, List.cons_append, List.nil_append] at i2 ⊢
    simp (maxSteps := 999999) (implicitDefEqProofs := false) (disch := (first | assumption | omega | (unfold appOk; (try simp only [List.length_map, List.length_append, List.length_cons, List.length_nil]); omega))) only [go_sem, simprocAttr, i1, i2, i3, i5, i4, TNode.xo, List.map_nil, List.map_cons, List.map_append, TNode.o_def, List.cons_append, List.nil_append]
  have Hs : ∀ (L : List TNode) (e q : Int), loopW tab [0, 2, 3] b_spec_l6Select_0 (kS T (a + 1 + 1) (-1) []) = some (.ext 0, kS T e q L) → ∀ q2 e2 : Int, evCW tab spec_l6Take [kp, Str ⟨#[125]⟩] (ph T e q) 1 = some (.tup [], ph T e2 q2) → evCW tab spec_l6Select [kp] (ph T a (-1)) 1 = some ((TNode.mk 12 noS 0 L).xo, ph T e2 q2) := by
    intro L e q s2 q2 e2 s4
    rw [evCW_of t_spec_l6Select _ _ _ rfl, c_spec_l6Select]
    simp only [kS, lpS, lpH, nD, TNode.xo, TNode.op_mk, TNode.tx_mk, TNode.v_mk, TNode.ks_mk, List.map_nil, List.map_cons, List.map_append, TNode.o_def, List.cons_append, List.nil_append] at s2 ⊢
    simp (maxSteps := 999999) (implicitDefEqProofs := false) (disch := (first | assumption | omega | (unfold appOk; (try simp only [List.length_map, List.length_append, List.length_cons, List.length_nil]); omega))) only [go_sem, simprocAttr, s0, s1, s2, s4, TNode.xo, List.map_nil, List.map_cons, List.map_append, TNode.o_def, List.cons_append, List.nil_append]
  rcases choice_l0 hT T.length (a + 1 + 1) [] hP1 sms_nil (by intro y hy; simp at hy) (by simp; omega) (by omega) (fun e he hlt => H e he (by omega)) with ⟨L, e, k1, k2, k3, k4, k5, k6, k7, k8, k9⟩ | ⟨p, hp, ⟨L1, e1, i5, i6, i7, i8⟩, L2, e2, j5, j6, j7, j8⟩
  · have hkh := k1.h
    have hkm := k1.m
    rw [nodesCt_nil] at k6
    cases z1 : isB T e (-1) ⟨#[100, 101, 102, 97, 117, 108, 116]⟩
    · have i3 := take_wF hT k1 (by decide) z1
      cases z2 : sgB T e (-1) ⟨#[125]⟩
      · have hp := hT.p _ k1
        have i4 := need_sF hT k1 (by decide) z2
        obtain ⟨n, d, hD, hS, hc⟩ := scase_none hT k1 z1 k7
        have hst := select_step k1 z2 L (by omega) k4 hc
        rw [select_dead hp] at hst
        have s4 := stake_dead hD hp ⟨#[125]⟩
        exact ⟨.no (tk T e).fAt, hp, ⟨.mk 12 noS 0 L, e, k1, row_sm noS_sz k3 (by omega), statement_select hT hP0 z0 (Hi L e (-1) k8 i3 _ _ i4)⟩, ⟨.mk 12 noS 0 (L ++ [n]), d, hD, row_sm noS_sz (sms_snoc k3 hS) (by simp; omega), stmt_select hP0 z0 (Hs _ _ _ (k9.trans hst) _ _ s4)⟩⟩
      · obtain ⟨hn2, hP2⟩ := sg_nx hT k1 z2
        have i4 := need_sT hT k1 (by decide) z2
        have s4 := stake_T hT k1 z2
        exact ⟨.ok (.mk 12 noS 0 L) (e + 1), ⟨hP2, by omega, row_sm noS_sz k3 (by omega), by rw [TNode.ct_eq]; omega⟩, statement_select hT hP0 z0 (Hi L e (-1) k8 i3 _ _ i4), stmt_select hP0 z0 (Hs _ _ _ (k9.trans (select_end k1 z2 L)) _ _ s4)⟩
    · obtain ⟨hn3, hP3⟩ := is_nx hT k1 z1
      have i3 := take_wT hT k1 (by decide) z1
      have hh := hP3.h
      obtain ⟨R, hG, hi, hs⟩ := H (e + 1) hP3 (by omega)
      cases R with
      | no p =>
        have hp : 0 ≤ p := hG
        obtain ⟨y1, e1, hE1, hS1, hi'⟩ := hi
        obtain ⟨y2, e2, hE2, hS2, hs'⟩ := hs
        have i4 := need_dead hE1 hp ⟨#[125]⟩
        have s4 := stake_dead hE2 hp ⟨#[125]⟩
        have hst := select_step k1 (sg_of_is z1 _) L (by omega) k4 (scase_else hT k1 z1 hs')
        rw [select_dead hp] at hst
        exact ⟨.no p, hp, ⟨_, e1, hE1, row_sm noS_sz (sms_snoc k3 (one_sm noS_sz hS1)) (by simp; omega), statement_select hT hP0 z0 (Hj L e y1 p e1 (by omega) k8 i3 hi' _ _ i4)⟩, ⟨_, e2, hE2, row_sm noS_sz (sms_snoc k3 (one_sm noS_sz hS2)) (by simp; omega), stmt_select hP0 z0 (Hs _ _ _ (k9.trans hst) _ _ s4)⟩⟩
      | ok y e2 =>
        obtain ⟨g1, g2, g3, g4⟩ := hG
        simp only [Ends] at hi hs
        have hst := select_step k1 (sg_of_is z1 _) L (by omega) k4 (scase_else hT k1 z1 hs)
        cases z2 : sgB T e2 (-1) ⟨#[125]⟩
        · have hp := hT.p _ g1
          have i4 := need_sF hT g1 (by decide) z2
          obtain ⟨n, d, hD, hS, hc⟩ := scase_dead g1 hp
          have hel := select_else hT g1 z2 L (by omega) (u := .mk 34 noS 0 [y]) rfl hc
          rw [select_dead hp] at hel
          have s4 := stake_dead hD hp ⟨#[125]⟩
          exact ⟨.no (tk T e2).fAt, hp, ⟨_, e2, g1, row_sm noS_sz (sms_snoc k3 (one_sm noS_sz g3)) (by simp; omega), statement_select hT hP0 z0 (Hj L e y (-1) e2 (by omega) k8 i3 hi _ _ i4)⟩, ⟨_, d, hD, row_sm noS_sz (sms_snoc (sms_snoc k3 (one_sm noS_sz g3)) hS) (by simp; omega), stmt_select hP0 z0 (Hs _ _ _ (k9.trans (hst.trans hel)) _ _ s4)⟩⟩
        · obtain ⟨hn2, hP2⟩ := sg_nx hT g1 z2
          have i4 := need_sT hT g1 (by decide) z2
          have s4 := stake_T hT g1 z2
          exact ⟨.ok (.mk 12 noS 0 (L ++ [.mk 34 noS 0 [y]])) (e2 + 1), ⟨hP2, by omega, row_sm noS_sz (sms_snoc k3 (one_sm noS_sz g3)) (by simp; omega), by rw [TNode.ct_eq, ct_snoc, one_ct]; omega⟩, statement_select hT hP0 z0 (Hj L e y (-1) e2 (by omega) k8 i3 hi _ _ i4), stmt_select hP0 z0 (Hs _ _ _ (k9.trans (hst.trans (select_end g1 z2 _))) _ _ s4)⟩
  · have i3 := take_dead i5 hp ⟨#[100, 101, 102, 97, 117, 108, 116]⟩
    have i4 := need_dead i5 hp ⟨#[125]⟩
    have s4 := stake_dead j5 hp ⟨#[125]⟩
    exact ⟨.no p, hp, ⟨_, e1, i5, row_sm noS_sz i6 i7, statement_select hT hP0 z0 (Hi L1 e1 p i8 i3 _ _ i4)⟩, ⟨_, e2, j5, row_sm noS_sz j6 j7, stmt_select hP0 z0 (Hs _ _ _ j8 _ _ s4)⟩⟩
end Go.Ev.G

/- The parsers: statements that end with a semicolon. -/
set_option linter.all false
namespace Go.Ev.G
set_option maxRecDepth 8000
set_option maxHeartbeats 4000000
variable {T : List TToken} {a b : Int}
def bwS : List ByteArray := [⟨#[108, 101, 116]⟩, ⟨#[103, 111]⟩, ⟨#[114, 101, 99, 118]⟩, ⟨#[115, 101, 110, 100]⟩, ⟨#[112, 111, 107, 101]⟩, ⟨#[110, 111, 116, 101]⟩, ⟨#[115, 119, 97, 112]⟩, ⟨#[112, 114, 105, 110, 116]⟩, ⟨#[114, 101, 116, 117, 114, 110]⟩, ⟨#[99, 108, 111, 115, 101]⟩, ⟨#[104, 97, 108, 116]⟩, ⟨#[111, 117, 116]⟩]
theorem begins_l0 (ws : List ByteArray) (hl : ws.length ≤ 1048576) (hP : Pl T a) : ∀ (Bl : List ByteArray) (j : Int), ws.drop j.toNat = Bl → 0 ≤ j →
    loopW tab [0, 3, 4] b_spec_l6Begins_0 { env := upd (upd (upd emp 4 (some (I j))) 3 (some (.ref (1, 0) []))) 0 (some kp), heap := upd (upd emp (0, 0) (some (.s 3 [pc T a (-1)]))) (1, 0) (some (.s 1 (strW ws))), fr := 1, next := 1 } = if (Bl.any fun w => isB T a (-1) w) = true then some (.ret, { env := upd emp 2 (some (B true)), heap := upd emp (0, 0) (some (.s 3 [pc T a (-1)])), fr := 1, next := 0 }) else some (.ext 0, { env := emp, heap := upd emp (0, 0) (some (.s 3 [pc T a (-1)])), fr := 1, next := 0 })
  | [], j, hd, hj => by
    unfold loopW
    conv => lhs; arg 1; unfold b_spec_l6Begins_0
    have h1 := dropn hd hj
    simp only [List.any_nil, Bool.false_eq_true, if_false]
    simp (maxSteps := 999999) (implicitDefEqProofs := false) (disch := (first | assumption | omega)) only [go_sem, simprocAttr]
  | x :: Bl, j, hd, hj => by
    unfold loopW
    conv => lhs; arg 1; unfold b_spec_l6Begins_0
    have h1 := dropc hd hj
    have h5 := h1.2.1
    have h2 := getm (fun w => [DS w]) h1.1
    have ih := begins_l0 ws hl hP Bl (j + 1) h1.2.2.1 (by omega)
    rw [List.any_cons]
    obtain ⟨z, hz⟩ : ∃ z, isB T a (-1) x = z := ⟨_, rfl⟩
    have h6 := is_T hP hz
    rw [hz]
    cases z
    · simp only [Bool.false_or]
      rw [← ih]
      simp (maxSteps := 999999) (implicitDefEqProofs := false) (disch := (first | assumption | omega)) only [go_sem, simprocAttr, h2, h6]
    · simp only [Bool.true_or, if_true]
      simp (maxSteps := 999999) (implicitDefEqProofs := false) (disch := (first | assumption | omega)) only [go_sem, simprocAttr, h2, h6]
theorem begins_ok (hP : Pl T a) : evCW tab spec_l6Begins [kp] (ph T a (-1)) 1 = some (B (bwS.any fun w => isB T a (-1) w), ph T a (-1)) := by
  have h0 := begins_l0 bwS (by decide) hP bwS 0 rfl (by omega)
  obtain ⟨z, hz⟩ : ∃ z, (bwS.any fun w => isB T a (-1) w) = z := ⟨_, rfl⟩
  rw [hz] at h0 ⊢
  simp only [bwS, strW, List.map_cons, List.map_nil] at h0
  rw [evCW_of t_spec_l6Begins _ _ _ rfl, c_spec_l6Begins]
  cases z <;> simp only [Bool.false_eq_true, if_false, if_true] at h0 <;> simp (maxSteps := 999999) (implicitDefEqProofs := false) (disch := (first | assumption | omega)) only [go_sem, simprocAttr, h0]
abbrev smS (T : List TToken) (w : ByteArray) (y : TNode) (e q j : Int) : St := { env := upd (upd (upd (upd (upd (upd emp 10 (some (I j))) 9 (some (.ptr (1, 3) [] 0 0))) 8 (some (.ref (1, 2) []))) 7 (some (.ref (1, 1) []))) 3 (some (Str w))) 2 (some (.ptr (1, 0) [] 0 0)), heap := upd (upd (upd (upd (upd emp (0, 0) (some (.s 3 [pc T e q]))) (1, 3) (some (nD y))) (1, 2) (some (.s 1 [[DS ⟨#[112, 114, 105, 110, 116]⟩], [DS ⟨#[114, 101, 116, 117, 114, 110]⟩], [DS ⟨#[99, 108, 111, 115, 101]⟩], [DS ⟨#[104, 97, 108, 116]⟩], [DS ⟨#[111, 117, 116]⟩]]))) (1, 1) (some (.s 1 [[DI 6], [DI 7], [DI 11], [DI 16], [DI 17]]))) (1, 0) (some n0D), fr := 1, next := 4 }
theorem isB_text {W : ByteArray} (h : isB T a (-1) W = true) : (tk T a).fText = W := by
  simp [isB] at h
  exact h.2
theorem simple_no0 (w : ByteArray) (h : ¬ ⟨#[112, 114, 105, 110, 116]⟩ = w) (y : TNode) (e q : Int) : loopW tab [2, 3, 7, 8, 9, 10] b_spec_l6Simple_0 (smS T w y e q 0) = loopW tab [2, 3, 7, 8, 9, 10] b_spec_l6Simple_0 (smS T w y e q 1) := by
  conv => lhs; unfold loopW
  conv => lhs; arg 1; unfold b_spec_l6Simple_0
  simp only [smS, nD]
  simp (maxSteps := 999999) (implicitDefEqProofs := false) (disch := (first | assumption | omega)) only [go_sem, simprocAttr, h]
theorem simple_yes0 (y : TNode) (e q : Int) : loopW tab [2, 3, 7, 8, 9, 10] b_spec_l6Simple_0 (smS T ⟨#[112, 114, 105, 110, 116]⟩ y e q 0) = some (.ret, lpR T e q (.mk 6 noS 0 [y])) := by
  have s4 := spec_l6Node_ok 6 [y] (by simp)
  conv => lhs; unfold loopW
  conv => lhs; arg 1; unfold b_spec_l6Simple_0
  simp only [smS, lpR, nD, TNode.xo, TNode.op_mk, TNode.tx_mk, TNode.v_mk, TNode.ks_mk, List.map_nil, List.map_cons, List.map_append, TNode.o_def, List.cons_append, List.nil_append] at s4 ⊢
  simp (maxSteps := 999999) (implicitDefEqProofs := false) (disch := (first | assumption | omega)) only [go_sem, simprocAttr, s4, TNode.xo, List.map_nil, List.map_cons, List.map_append, TNode.o_def, List.cons_append, List.nil_append]
theorem simple_no1 (w : ByteArray) (h : ¬ ⟨#[114, 101, 116, 117, 114, 110]⟩ = w) (y : TNode) (e q : Int) : loopW tab [2, 3, 7, 8, 9, 10] b_spec_l6Simple_0 (smS T w y e q 1) = loopW tab [2, 3, 7, 8, 9, 10] b_spec_l6Simple_0 (smS T w y e q 2) := by
  conv => lhs; unfold loopW
  conv => lhs; arg 1; unfold b_spec_l6Simple_0
  simp only [smS, nD]
  simp (maxSteps := 999999) (implicitDefEqProofs := false) (disch := (first | assumption | omega)) only [go_sem, simprocAttr, h]
theorem simple_yes1 (y : TNode) (e q : Int) : loopW tab [2, 3, 7, 8, 9, 10] b_spec_l6Simple_0 (smS T ⟨#[114, 101, 116, 117, 114, 110]⟩ y e q 1) = some (.ret, lpR T e q (.mk 7 noS 0 [y])) := by
  have s4 := spec_l6Node_ok 7 [y] (by simp)
  conv => lhs; unfold loopW
  conv => lhs; arg 1; unfold b_spec_l6Simple_0
  simp only [smS, lpR, nD, TNode.xo, TNode.op_mk, TNode.tx_mk, TNode.v_mk, TNode.ks_mk, List.map_nil, List.map_cons, List.map_append, TNode.o_def, List.cons_append, List.nil_append] at s4 ⊢
  simp (maxSteps := 999999) (implicitDefEqProofs := false) (disch := (first | assumption | omega)) only [go_sem, simprocAttr, s4, TNode.xo, List.map_nil, List.map_cons, List.map_append, TNode.o_def, List.cons_append, List.nil_append]
theorem simple_no2 (w : ByteArray) (h : ¬ ⟨#[99, 108, 111, 115, 101]⟩ = w) (y : TNode) (e q : Int) : loopW tab [2, 3, 7, 8, 9, 10] b_spec_l6Simple_0 (smS T w y e q 2) = loopW tab [2, 3, 7, 8, 9, 10] b_spec_l6Simple_0 (smS T w y e q 3) := by
  conv => lhs; unfold loopW
  conv => lhs; arg 1; unfold b_spec_l6Simple_0
  simp only [smS, nD]
  simp (maxSteps := 999999) (implicitDefEqProofs := false) (disch := (first | assumption | omega)) only [go_sem, simprocAttr, h]
theorem simple_yes2 (y : TNode) (e q : Int) : loopW tab [2, 3, 7, 8, 9, 10] b_spec_l6Simple_0 (smS T ⟨#[99, 108, 111, 115, 101]⟩ y e q 2) = some (.ret, lpR T e q (.mk 11 noS 0 [y])) := by
  have s4 := spec_l6Node_ok 11 [y] (by simp)
  conv => lhs; unfold loopW
  conv => lhs; arg 1; unfold b_spec_l6Simple_0
  simp only [smS, lpR, nD, TNode.xo, TNode.op_mk, TNode.tx_mk, TNode.v_mk, TNode.ks_mk, List.map_nil, List.map_cons, List.map_append, TNode.o_def, List.cons_append, List.nil_append] at s4 ⊢
  simp (maxSteps := 999999) (implicitDefEqProofs := false) (disch := (first | assumption | omega)) only [go_sem, simprocAttr, s4, TNode.xo, List.map_nil, List.map_cons, List.map_append, TNode.o_def, List.cons_append, List.nil_append]
theorem simple_no3 (w : ByteArray) (h : ¬ ⟨#[104, 97, 108, 116]⟩ = w) (y : TNode) (e q : Int) : loopW tab [2, 3, 7, 8, 9, 10] b_spec_l6Simple_0 (smS T w y e q 3) = loopW tab [2, 3, 7, 8, 9, 10] b_spec_l6Simple_0 (smS T w y e q 4) := by
  conv => lhs; unfold loopW
  conv => lhs; arg 1; unfold b_spec_l6Simple_0
  simp only [smS, nD]
  simp (maxSteps := 999999) (implicitDefEqProofs := false) (disch := (first | assumption | omega)) only [go_sem, simprocAttr, h]
theorem simple_yes3 (y : TNode) (e q : Int) : loopW tab [2, 3, 7, 8, 9, 10] b_spec_l6Simple_0 (smS T ⟨#[104, 97, 108, 116]⟩ y e q 3) = some (.ret, lpR T e q (.mk 16 noS 0 [y])) := by
  have s4 := spec_l6Node_ok 16 [y] (by simp)
  conv => lhs; unfold loopW
  conv => lhs; arg 1; unfold b_spec_l6Simple_0
  simp only [smS, lpR, nD, TNode.xo, TNode.op_mk, TNode.tx_mk, TNode.v_mk, TNode.ks_mk, List.map_nil, List.map_cons, List.map_append, TNode.o_def, List.cons_append, List.nil_append] at s4 ⊢
  simp (maxSteps := 999999) (implicitDefEqProofs := false) (disch := (first | assumption | omega)) only [go_sem, simprocAttr, s4, TNode.xo, List.map_nil, List.map_cons, List.map_append, TNode.o_def, List.cons_append, List.nil_append]
theorem simple_yes4 (y : TNode) (e q : Int) : loopW tab [2, 3, 7, 8, 9, 10] b_spec_l6Simple_0 (smS T ⟨#[111, 117, 116]⟩ y e q 4) = some (.ret, lpR T e q (.mk 17 noS 0 [y])) := by
  have s4 := spec_l6Node_ok 17 [y] (by simp)
  conv => lhs; unfold loopW
  conv => lhs; arg 1; unfold b_spec_l6Simple_0
  simp only [smS, lpR, nD, TNode.xo, TNode.op_mk, TNode.tx_mk, TNode.v_mk, TNode.ks_mk, List.map_nil, List.map_cons, List.map_append, TNode.o_def, List.cons_append, List.nil_append] at s4 ⊢
  simp (maxSteps := 999999) (implicitDefEqProofs := false) (disch := (first | assumption | omega)) only [go_sem, simprocAttr, s4, TNode.xo, List.map_nil, List.map_cons, List.map_append, TNode.o_def, List.cons_append, List.nil_append]
theorem simple_print (hT : TF T) (hP : Pl T a) (z : isB T a (-1) ⟨#[112, 114, 105, 110, 116]⟩ = true) {y : TNode} {e q : Int} (h : evCW tab spec_l6Expr [kp] (ph T (a + 1) (-1)) 1 = some (y.xo, ph T e q)) : evCW tab spec_l6Simple [kp] (ph T a (-1)) 1 = some ((TNode.mk 6 noS 0 [y]).xo, ph T e q) := by
  have s0 := spec_l6Now_ok (-1) hP
  have s1 := snext_T hP (is_nx hT hP z).1
  simp only [TToken.xo, isB_text z] at s0
  have n0 : ¬ (⟨#[112, 114, 105, 110, 116]⟩ : ByteArray) = ⟨#[108, 101, 116]⟩ := by decide
  have n1 : ¬ (⟨#[112, 114, 105, 110, 116]⟩ : ByteArray) = ⟨#[103, 111]⟩ := by decide
  have n2 : ¬ (⟨#[112, 114, 105, 110, 116]⟩ : ByteArray) = ⟨#[114, 101, 99, 118]⟩ := by decide
  have n3 : ¬ (⟨#[112, 114, 105, 110, 116]⟩ : ByteArray) = ⟨#[115, 101, 110, 100]⟩ := by decide
  have n4 : ¬ (⟨#[112, 114, 105, 110, 116]⟩ : ByteArray) = ⟨#[112, 111, 107, 101]⟩ := by decide
  have n5 : ¬ (⟨#[112, 114, 105, 110, 116]⟩ : ByteArray) = ⟨#[110, 111, 116, 101]⟩ := by decide
  have n6 : ¬ (⟨#[112, 114, 105, 110, 116]⟩ : ByteArray) = ⟨#[115, 119, 97, 112]⟩ := by decide
  have hl := simple_yes0 (T := T) y e q
  simp only [smS, lpR, nD, TNode.xo, TNode.op_mk, TNode.tx_mk, TNode.v_mk, TNode.ks_mk, List.map_nil, List.map_cons, List.map_append, TNode.o_def, List.cons_append, List.nil_append] at hl
  rw [evCW_of t_spec_l6Simple _ _ _ rfl, c_spec_l6Simple]
  simp (maxSteps := 999999) (implicitDefEqProofs := false) (disch := (first | assumption | omega)) only [go_sem, simprocAttr, s0, s1, h, n0, n1, n2, n3, n4, n5, n6, hl, TNode.xo, List.map_nil, List.map_cons, List.map_append, TNode.o_def, List.cons_append, List.nil_append]
theorem simple_return (hT : TF T) (hP : Pl T a) (z : isB T a (-1) ⟨#[114, 101, 116, 117, 114, 110]⟩ = true) {y : TNode} {e q : Int} (h : evCW tab spec_l6Expr [kp] (ph T (a + 1) (-1)) 1 = some (y.xo, ph T e q)) : evCW tab spec_l6Simple [kp] (ph T a (-1)) 1 = some ((TNode.mk 7 noS 0 [y]).xo, ph T e q) := by
  have s0 := spec_l6Now_ok (-1) hP
  have s1 := snext_T hP (is_nx hT hP z).1
  simp only [TToken.xo, isB_text z] at s0
  have n0 : ¬ (⟨#[114, 101, 116, 117, 114, 110]⟩ : ByteArray) = ⟨#[108, 101, 116]⟩ := by decide
  have n1 : ¬ (⟨#[114, 101, 116, 117, 114, 110]⟩ : ByteArray) = ⟨#[103, 111]⟩ := by decide
  have n2 : ¬ (⟨#[114, 101, 116, 117, 114, 110]⟩ : ByteArray) = ⟨#[114, 101, 99, 118]⟩ := by decide
  have n3 : ¬ (⟨#[114, 101, 116, 117, 114, 110]⟩ : ByteArray) = ⟨#[115, 101, 110, 100]⟩ := by decide
  have n4 : ¬ (⟨#[114, 101, 116, 117, 114, 110]⟩ : ByteArray) = ⟨#[112, 111, 107, 101]⟩ := by decide
  have n5 : ¬ (⟨#[114, 101, 116, 117, 114, 110]⟩ : ByteArray) = ⟨#[110, 111, 116, 101]⟩ := by decide
  have n6 : ¬ (⟨#[114, 101, 116, 117, 114, 110]⟩ : ByteArray) = ⟨#[115, 119, 97, 112]⟩ := by decide
  have hl := (simple_no0 (T := T) ⟨#[114, 101, 116, 117, 114, 110]⟩ (by decide) y e q).trans (simple_yes1 (T := T) y e q)
  simp only [smS, lpR, nD, TNode.xo, TNode.op_mk, TNode.tx_mk, TNode.v_mk, TNode.ks_mk, List.map_nil, List.map_cons, List.map_append, TNode.o_def, List.cons_append, List.nil_append] at hl
  rw [evCW_of t_spec_l6Simple _ _ _ rfl, c_spec_l6Simple]
  simp (maxSteps := 999999) (implicitDefEqProofs := false) (disch := (first | assumption | omega)) only [go_sem, simprocAttr, s0, s1, h, n0, n1, n2, n3, n4, n5, n6, hl, TNode.xo, List.map_nil, List.map_cons, List.map_append, TNode.o_def, List.cons_append, List.nil_append]
theorem simple_close (hT : TF T) (hP : Pl T a) (z : isB T a (-1) ⟨#[99, 108, 111, 115, 101]⟩ = true) {y : TNode} {e q : Int} (h : evCW tab spec_l6Expr [kp] (ph T (a + 1) (-1)) 1 = some (y.xo, ph T e q)) : evCW tab spec_l6Simple [kp] (ph T a (-1)) 1 = some ((TNode.mk 11 noS 0 [y]).xo, ph T e q) := by
  have s0 := spec_l6Now_ok (-1) hP
  have s1 := snext_T hP (is_nx hT hP z).1
  simp only [TToken.xo, isB_text z] at s0
  have n0 : ¬ (⟨#[99, 108, 111, 115, 101]⟩ : ByteArray) = ⟨#[108, 101, 116]⟩ := by decide
  have n1 : ¬ (⟨#[99, 108, 111, 115, 101]⟩ : ByteArray) = ⟨#[103, 111]⟩ := by decide
  have n2 : ¬ (⟨#[99, 108, 111, 115, 101]⟩ : ByteArray) = ⟨#[114, 101, 99, 118]⟩ := by decide
  have n3 : ¬ (⟨#[99, 108, 111, 115, 101]⟩ : ByteArray) = ⟨#[115, 101, 110, 100]⟩ := by decide
  have n4 : ¬ (⟨#[99, 108, 111, 115, 101]⟩ : ByteArray) = ⟨#[112, 111, 107, 101]⟩ := by decide
  have n5 : ¬ (⟨#[99, 108, 111, 115, 101]⟩ : ByteArray) = ⟨#[110, 111, 116, 101]⟩ := by decide
  have n6 : ¬ (⟨#[99, 108, 111, 115, 101]⟩ : ByteArray) = ⟨#[115, 119, 97, 112]⟩ := by decide
  have hl := (simple_no0 (T := T) ⟨#[99, 108, 111, 115, 101]⟩ (by decide) y e q).trans ((simple_no1 (T := T) ⟨#[99, 108, 111, 115, 101]⟩ (by decide) y e q).trans (simple_yes2 (T := T) y e q))
  simp only [smS, lpR, nD, TNode.xo, TNode.op_mk, TNode.tx_mk, TNode.v_mk, TNode.ks_mk, List.map_nil, List.map_cons, List.map_append, TNode.o_def, List.cons_append, List.nil_append] at hl
  rw [evCW_of t_spec_l6Simple _ _ _ rfl, c_spec_l6Simple]
  simp (maxSteps := 999999) (implicitDefEqProofs := false) (disch := (first | assumption | omega)) only [go_sem, simprocAttr, s0, s1, h, n0, n1, n2, n3, n4, n5, n6, hl, TNode.xo, List.map_nil, List.map_cons, List.map_append, TNode.o_def, List.cons_append, List.nil_append]
theorem simple_halt (hT : TF T) (hP : Pl T a) (z : isB T a (-1) ⟨#[104, 97, 108, 116]⟩ = true) {y : TNode} {e q : Int} (h : evCW tab spec_l6Expr [kp] (ph T (a + 1) (-1)) 1 = some (y.xo, ph T e q)) : evCW tab spec_l6Simple [kp] (ph T a (-1)) 1 = some ((TNode.mk 16 noS 0 [y]).xo, ph T e q) := by
  have s0 := spec_l6Now_ok (-1) hP
  have s1 := snext_T hP (is_nx hT hP z).1
  simp only [TToken.xo, isB_text z] at s0
  have n0 : ¬ (⟨#[104, 97, 108, 116]⟩ : ByteArray) = ⟨#[108, 101, 116]⟩ := by decide
  have n1 : ¬ (⟨#[104, 97, 108, 116]⟩ : ByteArray) = ⟨#[103, 111]⟩ := by decide
  have n2 : ¬ (⟨#[104, 97, 108, 116]⟩ : ByteArray) = ⟨#[114, 101, 99, 118]⟩ := by decide
  have n3 : ¬ (⟨#[104, 97, 108, 116]⟩ : ByteArray) = ⟨#[115, 101, 110, 100]⟩ := by decide
  have n4 : ¬ (⟨#[104, 97, 108, 116]⟩ : ByteArray) = ⟨#[112, 111, 107, 101]⟩ := by decide
  have n5 : ¬ (⟨#[104, 97, 108, 116]⟩ : ByteArray) = ⟨#[110, 111, 116, 101]⟩ := by decide
  have n6 : ¬ (⟨#[104, 97, 108, 116]⟩ : ByteArray) = ⟨#[115, 119, 97, 112]⟩ := by decide
  have hl := (simple_no0 (T := T) ⟨#[104, 97, 108, 116]⟩ (by decide) y e q).trans ((simple_no1 (T := T) ⟨#[104, 97, 108, 116]⟩ (by decide) y e q).trans ((simple_no2 (T := T) ⟨#[104, 97, 108, 116]⟩ (by decide) y e q).trans (simple_yes3 (T := T) y e q)))
  simp only [smS, lpR, nD, TNode.xo, TNode.op_mk, TNode.tx_mk, TNode.v_mk, TNode.ks_mk, List.map_nil, List.map_cons, List.map_append, TNode.o_def, List.cons_append, List.nil_append] at hl
  rw [evCW_of t_spec_l6Simple _ _ _ rfl, c_spec_l6Simple]
  simp (maxSteps := 999999) (implicitDefEqProofs := false) (disch := (first | assumption | omega)) only [go_sem, simprocAttr, s0, s1, h, n0, n1, n2, n3, n4, n5, n6, hl, TNode.xo, List.map_nil, List.map_cons, List.map_append, TNode.o_def, List.cons_append, List.nil_append]
theorem simple_out (hT : TF T) (hP : Pl T a) (z : isB T a (-1) ⟨#[111, 117, 116]⟩ = true) {y : TNode} {e q : Int} (h : evCW tab spec_l6Expr [kp] (ph T (a + 1) (-1)) 1 = some (y.xo, ph T e q)) : evCW tab spec_l6Simple [kp] (ph T a (-1)) 1 = some ((TNode.mk 17 noS 0 [y]).xo, ph T e q) := by
  have s0 := spec_l6Now_ok (-1) hP
  have s1 := snext_T hP (is_nx hT hP z).1
  simp only [TToken.xo, isB_text z] at s0
  have n0 : ¬ (⟨#[111, 117, 116]⟩ : ByteArray) = ⟨#[108, 101, 116]⟩ := by decide
  have n1 : ¬ (⟨#[111, 117, 116]⟩ : ByteArray) = ⟨#[103, 111]⟩ := by decide
  have n2 : ¬ (⟨#[111, 117, 116]⟩ : ByteArray) = ⟨#[114, 101, 99, 118]⟩ := by decide
  have n3 : ¬ (⟨#[111, 117, 116]⟩ : ByteArray) = ⟨#[115, 101, 110, 100]⟩ := by decide
  have n4 : ¬ (⟨#[111, 117, 116]⟩ : ByteArray) = ⟨#[112, 111, 107, 101]⟩ := by decide
  have n5 : ¬ (⟨#[111, 117, 116]⟩ : ByteArray) = ⟨#[110, 111, 116, 101]⟩ := by decide
  have n6 : ¬ (⟨#[111, 117, 116]⟩ : ByteArray) = ⟨#[115, 119, 97, 112]⟩ := by decide
  have hl := (simple_no0 (T := T) ⟨#[111, 117, 116]⟩ (by decide) y e q).trans ((simple_no1 (T := T) ⟨#[111, 117, 116]⟩ (by decide) y e q).trans ((simple_no2 (T := T) ⟨#[111, 117, 116]⟩ (by decide) y e q).trans ((simple_no3 (T := T) ⟨#[111, 117, 116]⟩ (by decide) y e q).trans (simple_yes4 (T := T) y e q))))
  simp only [smS, lpR, nD, TNode.xo, TNode.op_mk, TNode.tx_mk, TNode.v_mk, TNode.ks_mk, List.map_nil, List.map_cons, List.map_append, TNode.o_def, List.cons_append, List.nil_append] at hl
  rw [evCW_of t_spec_l6Simple _ _ _ rfl, c_spec_l6Simple]
  simp (maxSteps := 999999) (implicitDefEqProofs := false) (disch := (first | assumption | omega)) only [go_sem, simprocAttr, s0, s1, h, n0, n1, n2, n3, n4, n5, n6, hl, TNode.xo, List.map_nil, List.map_cons, List.map_append, TNode.o_def, List.cons_append, List.nil_append]
theorem simple_let (hT : TF T) (hP : Pl T a) (z : isB T a (-1) ⟨#[108, 101, 116]⟩ = true) {w : ByteArray} {x : TNode} {e1 q1 e2 q2 e q : Int} (h1 : evCW tab spec_l6Name [kp] (ph T (a + 1) (-1)) 1 = some (Str w, ph T e1 q1)) (h2 : evCW tab spec_l6Take [kp, Str ⟨#[61]⟩] (ph T e1 q1) 1 = some (.tup [], ph T e2 q2)) (h3 : evCW tab spec_l6Expr [kp] (ph T e2 q2) 1 = some (x.xo, ph T e q)) : evCW tab spec_l6Simple [kp] (ph T a (-1)) 1 = some ((TNode.mk 2 w 0 [x]).xo, ph T e q) := by
  have s0 := spec_l6Now_ok (-1) hP
  have s1 := snext_T hP (is_nx hT hP z).1
  simp only [TToken.xo, isB_text z] at s0

  rw [evCW_of t_spec_l6Simple _ _ _ rfl, c_spec_l6Simple]
  simp (maxSteps := 999999) (implicitDefEqProofs := false) (disch := (first | assumption | omega)) only [go_sem, simprocAttr, s0, s1, h1, h2, h3, TNode.xo, List.map_nil, List.map_cons, List.map_append, TNode.o_def, List.cons_append, List.nil_append]
theorem simple_go (hT : TF T) (hP : Pl T a) (z : isB T a (-1) ⟨#[103, 111]⟩ = true) {w : ByteArray} {L : List TNode} {e1 q1 e q : Int} (h1 : evCW tab spec_l6Name [kp] (ph T (a + 1) (-1)) 1 = some (Str w, ph T e1 q1)) (h2 : evCW tab spec_l6List [kp] (ph T e1 q1) 1 = some (.d (.s 4 (L.map TNode.o)), ph T e q)) : evCW tab spec_l6Simple [kp] (ph T a (-1)) 1 = some ((TNode.mk 8 w 0 L).xo, ph T e q) := by
  have s0 := spec_l6Now_ok (-1) hP
  have s1 := snext_T hP (is_nx hT hP z).1
  simp only [TToken.xo, isB_text z] at s0
  have n0 : ¬ (⟨#[103, 111]⟩ : ByteArray) = ⟨#[108, 101, 116]⟩ := by decide
  rw [evCW_of t_spec_l6Simple _ _ _ rfl, c_spec_l6Simple]
  simp (maxSteps := 999999) (implicitDefEqProofs := false) (disch := (first | assumption | omega)) only [go_sem, simprocAttr, s0, s1, h1, h2, n0, TNode.xo, List.map_nil, List.map_cons, List.map_append, TNode.o_def, List.cons_append, List.nil_append]
theorem simple_recv (hT : TF T) (hP : Pl T a) (z : isB T a (-1) ⟨#[114, 101, 99, 118]⟩ = true) {n : TNode} {e q : Int} (h1 : evCW tab spec_l6Recv [kp, I 10] (ph T (a + 1) (-1)) 1 = some (n.xo, ph T e q)) : evCW tab spec_l6Simple [kp] (ph T a (-1)) 1 = some (n.xo, ph T e q) := by
  have s0 := spec_l6Now_ok (-1) hP
  have s1 := snext_T hP (is_nx hT hP z).1
  simp only [TToken.xo, isB_text z] at s0
  have n0 : ¬ (⟨#[114, 101, 99, 118]⟩ : ByteArray) = ⟨#[108, 101, 116]⟩ := by decide
  have n1 : ¬ (⟨#[114, 101, 99, 118]⟩ : ByteArray) = ⟨#[103, 111]⟩ := by decide
  rw [evCW_of t_spec_l6Simple _ _ _ rfl, c_spec_l6Simple]
  simp (maxSteps := 999999) (implicitDefEqProofs := false) (disch := (first | assumption | omega)) only [go_sem, simprocAttr, s0, s1, h1, n0, n1, TNode.xo, List.map_nil, List.map_cons, List.map_append, TNode.o_def, List.cons_append, List.nil_append]
theorem simple_send (hT : TF T) (hP : Pl T a) (z : isB T a (-1) ⟨#[115, 101, 110, 100]⟩ = true) {n : TNode} {e q : Int} (h1 : evCW tab spec_l6Two [kp, I 9] (ph T (a + 1) (-1)) 1 = some (n.xo, ph T e q)) : evCW tab spec_l6Simple [kp] (ph T a (-1)) 1 = some (n.xo, ph T e q) := by
  have s0 := spec_l6Now_ok (-1) hP
  have s1 := snext_T hP (is_nx hT hP z).1
  simp only [TToken.xo, isB_text z] at s0
  have n0 : ¬ (⟨#[115, 101, 110, 100]⟩ : ByteArray) = ⟨#[108, 101, 116]⟩ := by decide
  have n1 : ¬ (⟨#[115, 101, 110, 100]⟩ : ByteArray) = ⟨#[103, 111]⟩ := by decide
  have n2 : ¬ (⟨#[115, 101, 110, 100]⟩ : ByteArray) = ⟨#[114, 101, 99, 118]⟩ := by decide
  rw [evCW_of t_spec_l6Simple _ _ _ rfl, c_spec_l6Simple]
  simp (maxSteps := 999999) (implicitDefEqProofs := false) (disch := (first | assumption | omega)) only [go_sem, simprocAttr, s0, s1, h1, n0, n1, n2, TNode.xo, List.map_nil, List.map_cons, List.map_append, TNode.o_def, List.cons_append, List.nil_append]
theorem simple_poke (hT : TF T) (hP : Pl T a) (z : isB T a (-1) ⟨#[112, 111, 107, 101]⟩ = true) {n : TNode} {e q : Int} (h1 : evCW tab spec_l6Two [kp, I 13] (ph T (a + 1) (-1)) 1 = some (n.xo, ph T e q)) : evCW tab spec_l6Simple [kp] (ph T a (-1)) 1 = some (n.xo, ph T e q) := by
  have s0 := spec_l6Now_ok (-1) hP
  have s1 := snext_T hP (is_nx hT hP z).1
  simp only [TToken.xo, isB_text z] at s0
  have n0 : ¬ (⟨#[112, 111, 107, 101]⟩ : ByteArray) = ⟨#[108, 101, 116]⟩ := by decide
  have n1 : ¬ (⟨#[112, 111, 107, 101]⟩ : ByteArray) = ⟨#[103, 111]⟩ := by decide
  have n2 : ¬ (⟨#[112, 111, 107, 101]⟩ : ByteArray) = ⟨#[114, 101, 99, 118]⟩ := by decide
  have n3 : ¬ (⟨#[112, 111, 107, 101]⟩ : ByteArray) = ⟨#[115, 101, 110, 100]⟩ := by decide
  rw [evCW_of t_spec_l6Simple _ _ _ rfl, c_spec_l6Simple]
  simp (maxSteps := 999999) (implicitDefEqProofs := false) (disch := (first | assumption | omega)) only [go_sem, simprocAttr, s0, s1, h1, n0, n1, n2, n3, TNode.xo, List.map_nil, List.map_cons, List.map_append, TNode.o_def, List.cons_append, List.nil_append]
theorem simple_note (hT : TF T) (hP : Pl T a) (z : isB T a (-1) ⟨#[110, 111, 116, 101]⟩ = true) {n : TNode} {e q : Int} (h1 : evCW tab spec_l6Two [kp, I 14] (ph T (a + 1) (-1)) 1 = some (n.xo, ph T e q)) : evCW tab spec_l6Simple [kp] (ph T a (-1)) 1 = some (n.xo, ph T e q) := by
  have s0 := spec_l6Now_ok (-1) hP
  have s1 := snext_T hP (is_nx hT hP z).1
  simp only [TToken.xo, isB_text z] at s0
  have n0 : ¬ (⟨#[110, 111, 116, 101]⟩ : ByteArray) = ⟨#[108, 101, 116]⟩ := by decide
  have n1 : ¬ (⟨#[110, 111, 116, 101]⟩ : ByteArray) = ⟨#[103, 111]⟩ := by decide
  have n2 : ¬ (⟨#[110, 111, 116, 101]⟩ : ByteArray) = ⟨#[114, 101, 99, 118]⟩ := by decide
  have n3 : ¬ (⟨#[110, 111, 116, 101]⟩ : ByteArray) = ⟨#[115, 101, 110, 100]⟩ := by decide
  have n4 : ¬ (⟨#[110, 111, 116, 101]⟩ : ByteArray) = ⟨#[112, 111, 107, 101]⟩ := by decide
  rw [evCW_of t_spec_l6Simple _ _ _ rfl, c_spec_l6Simple]
  simp (maxSteps := 999999) (implicitDefEqProofs := false) (disch := (first | assumption | omega)) only [go_sem, simprocAttr, s0, s1, h1, n0, n1, n2, n3, n4, TNode.xo, List.map_nil, List.map_cons, List.map_append, TNode.o_def, List.cons_append, List.nil_append]
theorem simple_swap (hT : TF T) (hP : Pl T a) (z : isB T a (-1) ⟨#[115, 119, 97, 112]⟩ = true) {n : TNode} {e q : Int} (h1 : evCW tab spec_l6Two [kp, I 15] (ph T (a + 1) (-1)) 1 = some (n.xo, ph T e q)) : evCW tab spec_l6Simple [kp] (ph T a (-1)) 1 = some (n.xo, ph T e q) := by
  have s0 := spec_l6Now_ok (-1) hP
  have s1 := snext_T hP (is_nx hT hP z).1
  simp only [TToken.xo, isB_text z] at s0
  have n0 : ¬ (⟨#[115, 119, 97, 112]⟩ : ByteArray) = ⟨#[108, 101, 116]⟩ := by decide
  have n1 : ¬ (⟨#[115, 119, 97, 112]⟩ : ByteArray) = ⟨#[103, 111]⟩ := by decide
  have n2 : ¬ (⟨#[115, 119, 97, 112]⟩ : ByteArray) = ⟨#[114, 101, 99, 118]⟩ := by decide
  have n3 : ¬ (⟨#[115, 119, 97, 112]⟩ : ByteArray) = ⟨#[115, 101, 110, 100]⟩ := by decide
  have n4 : ¬ (⟨#[115, 119, 97, 112]⟩ : ByteArray) = ⟨#[112, 111, 107, 101]⟩ := by decide
  have n5 : ¬ (⟨#[115, 119, 97, 112]⟩ : ByteArray) = ⟨#[110, 111, 116, 101]⟩ := by decide
  rw [evCW_of t_spec_l6Simple _ _ _ rfl, c_spec_l6Simple]
  simp (maxSteps := 999999) (implicitDefEqProofs := false) (disch := (first | assumption | omega)) only [go_sem, simprocAttr, s0, s1, h1, n0, n1, n2, n3, n4, n5, TNode.xo, List.map_nil, List.map_cons, List.map_append, TNode.o_def, List.cons_append, List.nil_append]
def PRe (T : List TToken) (r : Option (X × Heap)) (n : TNode) (e q : Int) : Prop := ∀ e2 q2 : Int, evCW tab impl_parser_need [kp, Str ⟨#[59]⟩] (ph T e q) 1 = some (.tup [], ph T e2 q2) → r = some (n.xo, ph T e2 q2)
def PRs (T : List TToken) (r : Option (X × Heap)) (n : TNode) (e q : Int) : Prop := ∀ e2 q2 : Int, evCW tab spec_l6Take [kp, Str ⟨#[59]⟩] (ph T e q) 1 = some (.tup [], ph T e2 q2) → r = some (n.xo, ph T e2 q2)
theorem plain_let (hT : TF T) (hP : Pl T a) (z : isB T a (-1) ⟨#[108, 101, 116]⟩ = true) {w : ByteArray} {x : TNode} {e1 q1 e2 q2 e q : Int} (h1 : evCW tab impl_parser_name [kp] (ph T (a + 1) (-1)) 1 = some (Str w, ph T e1 q1)) (h2 : evCW tab impl_parser_need [kp, Str ⟨#[61]⟩] (ph T e1 q1) 1 = some (.tup [], ph T e2 q2)) (h3 : evCW tab impl_parser_expr [kp] (ph T e2 q2) 1 = some (x.xo, ph T e q)) : PRe T (evCW tab impl_parser_plain [kp] (ph T a (-1)) 1) (TNode.mk 2 w 0 [x]) e q := by
  intro e3 q3 h9
  have h0 := take_wT hT hP (by decide) z

  rw [evCW_of t_impl_parser_plain _ _ _ rfl, c_impl_parser_plain]
  simp (maxSteps := 999999) (implicitDefEqProofs := false) (disch := (first | assumption | omega)) only [go_sem, simprocAttr, h0, h1, h2, h3, h9, TNode.xo, List.map_nil, List.map_cons, List.map_append, TNode.o_def, List.cons_append, List.nil_append]
theorem plain_go (hT : TF T) (hP : Pl T a) (z : isB T a (-1) ⟨#[103, 111]⟩ = true) {w : ByteArray} {L : List TNode} {k e1 q1 e q : Int} (h1 : evCW tab impl_parser_name [kp] (ph T (a + 1) (-1)) 1 = some (Str w, ph T e1 q1)) (h2 : evCW tab impl_parser_exprs [kp] (ph T e1 q1) 1 = some (.tup [.d (.s 4 (L.map TNode.o)), I k], ph T e q)) : PRe T (evCW tab impl_parser_plain [kp] (ph T a (-1)) 1) (TNode.mk 8 w 0 L) e q := by
  intro e3 q3 h9
  have h0 := take_wT hT hP (by decide) z
  have f0 := take_wF hT hP (by decide) (is_other z (show (⟨#[103, 111]⟩ : ByteArray) ≠ ⟨#[108, 101, 116]⟩ by decide))
  rw [evCW_of t_impl_parser_plain _ _ _ rfl, c_impl_parser_plain]
  simp (maxSteps := 999999) (implicitDefEqProofs := false) (disch := (first | assumption | omega)) only [go_sem, simprocAttr, h0, f0, h1, h2, h9, TNode.xo, List.map_nil, List.map_cons, List.map_append, TNode.o_def, List.cons_append, List.nil_append]
theorem plain_recv (hT : TF T) (hP : Pl T a) (z : isB T a (-1) ⟨#[114, 101, 99, 118]⟩ = true) {n : TNode} {e q : Int} (h1 : evCW tab impl_parser_received [kp, I 10] (ph T (a + 1) (-1)) 1 = some (n.xo, ph T e q)) : PRe T (evCW tab impl_parser_plain [kp] (ph T a (-1)) 1) n e q := by
  intro e3 q3 h9
  have h0 := take_wT hT hP (by decide) z
  have f0 := take_wF hT hP (by decide) (is_other z (show (⟨#[114, 101, 99, 118]⟩ : ByteArray) ≠ ⟨#[108, 101, 116]⟩ by decide))
  have f1 := take_wF hT hP (by decide) (is_other z (show (⟨#[114, 101, 99, 118]⟩ : ByteArray) ≠ ⟨#[103, 111]⟩ by decide))
  rw [evCW_of t_impl_parser_plain _ _ _ rfl, c_impl_parser_plain]
  simp (maxSteps := 999999) (implicitDefEqProofs := false) (disch := (first | assumption | omega)) only [go_sem, simprocAttr, h0, f0, f1, h1, h9, TNode.xo, List.map_nil, List.map_cons, List.map_append, TNode.o_def, List.cons_append, List.nil_append]
theorem plain_send (hT : TF T) (hP : Pl T a) (z : isB T a (-1) ⟨#[115, 101, 110, 100]⟩ = true) {L : List TNode} {e q : Int} (h1 : evCW tab impl_parser_two [kp] (ph T (a + 1) (-1)) 1 = some (.d (.s 4 (L.map TNode.o)), ph T e q)) : PRe T (evCW tab impl_parser_plain [kp] (ph T a (-1)) 1) (TNode.mk 9 noS 0 L) e q := by
  intro e3 q3 h9
  have h0 := take_wT hT hP (by decide) z
  have f0 := take_wF hT hP (by decide) (is_other z (show (⟨#[115, 101, 110, 100]⟩ : ByteArray) ≠ ⟨#[108, 101, 116]⟩ by decide))
  have f1 := take_wF hT hP (by decide) (is_other z (show (⟨#[115, 101, 110, 100]⟩ : ByteArray) ≠ ⟨#[103, 111]⟩ by decide))
  have f2 := take_wF hT hP (by decide) (is_other z (show (⟨#[115, 101, 110, 100]⟩ : ByteArray) ≠ ⟨#[114, 101, 99, 118]⟩ by decide))
  rw [evCW_of t_impl_parser_plain _ _ _ rfl, c_impl_parser_plain]
  simp (maxSteps := 999999) (implicitDefEqProofs := false) (disch := (first | assumption | omega)) only [go_sem, simprocAttr, h0, f0, f1, f2, h1, h9, TNode.xo, List.map_nil, List.map_cons, List.map_append, TNode.o_def, List.cons_append, List.nil_append]
theorem plain_poke (hT : TF T) (hP : Pl T a) (z : isB T a (-1) ⟨#[112, 111, 107, 101]⟩ = true) {L : List TNode} {e q : Int} (h1 : evCW tab impl_parser_two [kp] (ph T (a + 1) (-1)) 1 = some (.d (.s 4 (L.map TNode.o)), ph T e q)) : PRe T (evCW tab impl_parser_plain [kp] (ph T a (-1)) 1) (TNode.mk 13 noS 0 L) e q := by
  intro e3 q3 h9
  have h0 := take_wT hT hP (by decide) z
  have f0 := take_wF hT hP (by decide) (is_other z (show (⟨#[112, 111, 107, 101]⟩ : ByteArray) ≠ ⟨#[108, 101, 116]⟩ by decide))
  have f1 := take_wF hT hP (by decide) (is_other z (show (⟨#[112, 111, 107, 101]⟩ : ByteArray) ≠ ⟨#[103, 111]⟩ by decide))
  have f2 := take_wF hT hP (by decide) (is_other z (show (⟨#[112, 111, 107, 101]⟩ : ByteArray) ≠ ⟨#[114, 101, 99, 118]⟩ by decide))
  have f3 := take_wF hT hP (by decide) (is_other z (show (⟨#[112, 111, 107, 101]⟩ : ByteArray) ≠ ⟨#[115, 101, 110, 100]⟩ by decide))
  rw [evCW_of t_impl_parser_plain _ _ _ rfl, c_impl_parser_plain]
  simp (maxSteps := 999999) (implicitDefEqProofs := false) (disch := (first | assumption | omega)) only [go_sem, simprocAttr, h0, f0, f1, f2, f3, h1, h9, TNode.xo, List.map_nil, List.map_cons, List.map_append, TNode.o_def, List.cons_append, List.nil_append]
theorem plain_note (hT : TF T) (hP : Pl T a) (z : isB T a (-1) ⟨#[110, 111, 116, 101]⟩ = true) {L : List TNode} {e q : Int} (h1 : evCW tab impl_parser_two [kp] (ph T (a + 1) (-1)) 1 = some (.d (.s 4 (L.map TNode.o)), ph T e q)) : PRe T (evCW tab impl_parser_plain [kp] (ph T a (-1)) 1) (TNode.mk 14 noS 0 L) e q := by
  intro e3 q3 h9
  have h0 := take_wT hT hP (by decide) z
  have f0 := take_wF hT hP (by decide) (is_other z (show (⟨#[110, 111, 116, 101]⟩ : ByteArray) ≠ ⟨#[108, 101, 116]⟩ by decide))
  have f1 := take_wF hT hP (by decide) (is_other z (show (⟨#[110, 111, 116, 101]⟩ : ByteArray) ≠ ⟨#[103, 111]⟩ by decide))
  have f2 := take_wF hT hP (by decide) (is_other z (show (⟨#[110, 111, 116, 101]⟩ : ByteArray) ≠ ⟨#[114, 101, 99, 118]⟩ by decide))
  have f3 := take_wF hT hP (by decide) (is_other z (show (⟨#[110, 111, 116, 101]⟩ : ByteArray) ≠ ⟨#[115, 101, 110, 100]⟩ by decide))
  have f4 := take_wF hT hP (by decide) (is_other z (show (⟨#[110, 111, 116, 101]⟩ : ByteArray) ≠ ⟨#[112, 111, 107, 101]⟩ by decide))
  rw [evCW_of t_impl_parser_plain _ _ _ rfl, c_impl_parser_plain]
  simp (maxSteps := 999999) (implicitDefEqProofs := false) (disch := (first | assumption | omega)) only [go_sem, simprocAttr, h0, f0, f1, f2, f3, f4, h1, h9, TNode.xo, List.map_nil, List.map_cons, List.map_append, TNode.o_def, List.cons_append, List.nil_append]
theorem plain_swap (hT : TF T) (hP : Pl T a) (z : isB T a (-1) ⟨#[115, 119, 97, 112]⟩ = true) {L : List TNode} {e q : Int} (h1 : evCW tab impl_parser_two [kp] (ph T (a + 1) (-1)) 1 = some (.d (.s 4 (L.map TNode.o)), ph T e q)) : PRe T (evCW tab impl_parser_plain [kp] (ph T a (-1)) 1) (TNode.mk 15 noS 0 L) e q := by
  intro e3 q3 h9
  have h0 := take_wT hT hP (by decide) z
  have f0 := take_wF hT hP (by decide) (is_other z (show (⟨#[115, 119, 97, 112]⟩ : ByteArray) ≠ ⟨#[108, 101, 116]⟩ by decide))
  have f1 := take_wF hT hP (by decide) (is_other z (show (⟨#[115, 119, 97, 112]⟩ : ByteArray) ≠ ⟨#[103, 111]⟩ by decide))
  have f2 := take_wF hT hP (by decide) (is_other z (show (⟨#[115, 119, 97, 112]⟩ : ByteArray) ≠ ⟨#[114, 101, 99, 118]⟩ by decide))
  have f3 := take_wF hT hP (by decide) (is_other z (show (⟨#[115, 119, 97, 112]⟩ : ByteArray) ≠ ⟨#[115, 101, 110, 100]⟩ by decide))
  have f4 := take_wF hT hP (by decide) (is_other z (show (⟨#[115, 119, 97, 112]⟩ : ByteArray) ≠ ⟨#[112, 111, 107, 101]⟩ by decide))
  have f5 := take_wF hT hP (by decide) (is_other z (show (⟨#[115, 119, 97, 112]⟩ : ByteArray) ≠ ⟨#[110, 111, 116, 101]⟩ by decide))
  rw [evCW_of t_impl_parser_plain _ _ _ rfl, c_impl_parser_plain]
  simp (maxSteps := 999999) (implicitDefEqProofs := false) (disch := (first | assumption | omega)) only [go_sem, simprocAttr, h0, f0, f1, f2, f3, f4, f5, h1, h9, TNode.xo, List.map_nil, List.map_cons, List.map_append, TNode.o_def, List.cons_append, List.nil_append]
theorem plain_one (hT : TF T) (hP : Pl T a) (z : ∀ w ∈ ([⟨#[108, 101, 116]⟩, ⟨#[103, 111]⟩, ⟨#[114, 101, 99, 118]⟩, ⟨#[115, 101, 110, 100]⟩, ⟨#[112, 111, 107, 101]⟩, ⟨#[110, 111, 116, 101]⟩, ⟨#[115, 119, 97, 112]⟩] : List ByteArray), isB T a (-1) w = false) {n : TNode} {e q : Int} (h1 : evCW tab impl_parser_oneExpr [kp] (ph T a (-1)) 1 = some (n.xo, ph T e q)) : PRe T (evCW tab impl_parser_plain [kp] (ph T a (-1)) 1) n e q := by
  intro e3 q3 h9
  have f0 := take_wF hT hP (by decide) (z ⟨#[108, 101, 116]⟩ (by simp))
  have f1 := take_wF hT hP (by decide) (z ⟨#[103, 111]⟩ (by simp))
  have f2 := take_wF hT hP (by decide) (z ⟨#[114, 101, 99, 118]⟩ (by simp))
  have f3 := take_wF hT hP (by decide) (z ⟨#[115, 101, 110, 100]⟩ (by simp))
  have f4 := take_wF hT hP (by decide) (z ⟨#[112, 111, 107, 101]⟩ (by simp))
  have f5 := take_wF hT hP (by decide) (z ⟨#[110, 111, 116, 101]⟩ (by simp))
  have f6 := take_wF hT hP (by decide) (z ⟨#[115, 119, 97, 112]⟩ (by simp))
  rw [evCW_of t_impl_parser_plain _ _ _ rfl, c_impl_parser_plain]
  simp (maxSteps := 999999) (implicitDefEqProofs := false) (disch := (first | assumption | omega)) only [go_sem, simprocAttr, f0, f1, f2, f3, f4, f5, f6, h1, h9, TNode.xo, List.map_nil, List.map_cons, List.map_append, TNode.o_def, List.cons_append, List.nil_append]
theorem one_print (hT : TF T) (hP : Pl T a) (z : isB T a (-1) ⟨#[112, 114, 105, 110, 116]⟩ = true) {y : TNode} {e q : Int} (h : evCW tab impl_parser_expr [kp] (ph T (a + 1) (-1)) 1 = some (y.xo, ph T e q)) : evCW tab impl_parser_oneExpr [kp] (ph T a (-1)) 1 = some ((TNode.mk 6 noS 0 [y]).xo, ph T e q) := by
  have h0 := take_wT hT hP (by decide) z

  rw [evCW_of t_impl_parser_oneExpr _ _ _ rfl, c_impl_parser_oneExpr]
  simp (maxSteps := 999999) (implicitDefEqProofs := false) (disch := (first | assumption | omega)) only [go_sem, simprocAttr, h0, h, TNode.xo, List.map_nil, List.map_cons, List.map_append, TNode.o_def, List.cons_append, List.nil_append]
theorem one_return (hT : TF T) (hP : Pl T a) (z : isB T a (-1) ⟨#[114, 101, 116, 117, 114, 110]⟩ = true) {y : TNode} {e q : Int} (h : evCW tab impl_parser_expr [kp] (ph T (a + 1) (-1)) 1 = some (y.xo, ph T e q)) : evCW tab impl_parser_oneExpr [kp] (ph T a (-1)) 1 = some ((TNode.mk 7 noS 0 [y]).xo, ph T e q) := by
  have h0 := take_wT hT hP (by decide) z
  have f0 := take_wF hT hP (by decide) (is_other z (show (⟨#[114, 101, 116, 117, 114, 110]⟩ : ByteArray) ≠ ⟨#[112, 114, 105, 110, 116]⟩ by decide))
  rw [evCW_of t_impl_parser_oneExpr _ _ _ rfl, c_impl_parser_oneExpr]
  simp (maxSteps := 999999) (implicitDefEqProofs := false) (disch := (first | assumption | omega)) only [go_sem, simprocAttr, h0, f0, h, TNode.xo, List.map_nil, List.map_cons, List.map_append, TNode.o_def, List.cons_append, List.nil_append]
theorem one_close (hT : TF T) (hP : Pl T a) (z : isB T a (-1) ⟨#[99, 108, 111, 115, 101]⟩ = true) {y : TNode} {e q : Int} (h : evCW tab impl_parser_expr [kp] (ph T (a + 1) (-1)) 1 = some (y.xo, ph T e q)) : evCW tab impl_parser_oneExpr [kp] (ph T a (-1)) 1 = some ((TNode.mk 11 noS 0 [y]).xo, ph T e q) := by
  have h0 := take_wT hT hP (by decide) z
  have f0 := take_wF hT hP (by decide) (is_other z (show (⟨#[99, 108, 111, 115, 101]⟩ : ByteArray) ≠ ⟨#[112, 114, 105, 110, 116]⟩ by decide))
  have f1 := take_wF hT hP (by decide) (is_other z (show (⟨#[99, 108, 111, 115, 101]⟩ : ByteArray) ≠ ⟨#[114, 101, 116, 117, 114, 110]⟩ by decide))
  rw [evCW_of t_impl_parser_oneExpr _ _ _ rfl, c_impl_parser_oneExpr]
  simp (maxSteps := 999999) (implicitDefEqProofs := false) (disch := (first | assumption | omega)) only [go_sem, simprocAttr, h0, f0, f1, h, TNode.xo, List.map_nil, List.map_cons, List.map_append, TNode.o_def, List.cons_append, List.nil_append]
theorem one_halt (hT : TF T) (hP : Pl T a) (z : isB T a (-1) ⟨#[104, 97, 108, 116]⟩ = true) {y : TNode} {e q : Int} (h : evCW tab impl_parser_expr [kp] (ph T (a + 1) (-1)) 1 = some (y.xo, ph T e q)) : evCW tab impl_parser_oneExpr [kp] (ph T a (-1)) 1 = some ((TNode.mk 16 noS 0 [y]).xo, ph T e q) := by
  have h0 := take_wT hT hP (by decide) z
  have f0 := take_wF hT hP (by decide) (is_other z (show (⟨#[104, 97, 108, 116]⟩ : ByteArray) ≠ ⟨#[112, 114, 105, 110, 116]⟩ by decide))
  have f1 := take_wF hT hP (by decide) (is_other z (show (⟨#[104, 97, 108, 116]⟩ : ByteArray) ≠ ⟨#[114, 101, 116, 117, 114, 110]⟩ by decide))
  have f2 := take_wF hT hP (by decide) (is_other z (show (⟨#[104, 97, 108, 116]⟩ : ByteArray) ≠ ⟨#[99, 108, 111, 115, 101]⟩ by decide))
  rw [evCW_of t_impl_parser_oneExpr _ _ _ rfl, c_impl_parser_oneExpr]
  simp (maxSteps := 999999) (implicitDefEqProofs := false) (disch := (first | assumption | omega)) only [go_sem, simprocAttr, h0, f0, f1, f2, h, TNode.xo, List.map_nil, List.map_cons, List.map_append, TNode.o_def, List.cons_append, List.nil_append]
theorem one_out (hT : TF T) (hP : Pl T a) (z : isB T a (-1) ⟨#[111, 117, 116]⟩ = true) {y : TNode} {e q : Int} (h : evCW tab impl_parser_expr [kp] (ph T (a + 1) (-1)) 1 = some (y.xo, ph T e q)) : evCW tab impl_parser_oneExpr [kp] (ph T a (-1)) 1 = some ((TNode.mk 17 noS 0 [y]).xo, ph T e q) := by
  have h0 := take_wT hT hP (by decide) z
  have f0 := take_wF hT hP (by decide) (is_other z (show (⟨#[111, 117, 116]⟩ : ByteArray) ≠ ⟨#[112, 114, 105, 110, 116]⟩ by decide))
  have f1 := take_wF hT hP (by decide) (is_other z (show (⟨#[111, 117, 116]⟩ : ByteArray) ≠ ⟨#[114, 101, 116, 117, 114, 110]⟩ by decide))
  have f2 := take_wF hT hP (by decide) (is_other z (show (⟨#[111, 117, 116]⟩ : ByteArray) ≠ ⟨#[99, 108, 111, 115, 101]⟩ by decide))
  have f3 := take_wF hT hP (by decide) (is_other z (show (⟨#[111, 117, 116]⟩ : ByteArray) ≠ ⟨#[104, 97, 108, 116]⟩ by decide))
  rw [evCW_of t_impl_parser_oneExpr _ _ _ rfl, c_impl_parser_oneExpr]
  simp (maxSteps := 999999) (implicitDefEqProofs := false) (disch := (first | assumption | omega)) only [go_sem, simprocAttr, h0, f0, f1, f2, f3, h, TNode.xo, List.map_nil, List.map_cons, List.map_append, TNode.o_def, List.cons_append, List.nil_append]
theorem one_do (hT : TF T) (hP : Pl T a) (z : ∀ w ∈ ([⟨#[112, 114, 105, 110, 116]⟩, ⟨#[114, 101, 116, 117, 114, 110]⟩, ⟨#[99, 108, 111, 115, 101]⟩, ⟨#[104, 97, 108, 116]⟩, ⟨#[111, 117, 116]⟩] : List ByteArray), isB T a (-1) w = false) {x : TNode} {e q : Int} (h : evCW tab impl_parser_expr [kp] (ph T a (-1)) 1 = some (x.xo, ph T e q)) (hx : x.op = 20 → evCW tab impl_parser_take [kp, Str ⟨#[61]⟩] (ph T e q) 1 = some (B false, ph T e q)) : evCW tab impl_parser_oneExpr [kp] (ph T a (-1)) 1 = some ((TNode.mk 18 noS 0 [x]).xo, ph T e q) := by
  have f0 := take_wF hT hP (by decide) (z ⟨#[112, 114, 105, 110, 116]⟩ (by simp))
  have f1 := take_wF hT hP (by decide) (z ⟨#[114, 101, 116, 117, 114, 110]⟩ (by simp))
  have f2 := take_wF hT hP (by decide) (z ⟨#[99, 108, 111, 115, 101]⟩ (by simp))
  have f3 := take_wF hT hP (by decide) (z ⟨#[104, 97, 108, 116]⟩ (by simp))
  have f4 := take_wF hT hP (by decide) (z ⟨#[111, 117, 116]⟩ (by simp))
  rw [evCW_of t_impl_parser_oneExpr _ _ _ rfl, c_impl_parser_oneExpr]
  by_cases c : x.op = 20
  · have hx' := hx c
    simp only [TNode.xo, c] at h
    simp (maxSteps := 999999) (implicitDefEqProofs := false) (disch := (first | assumption | omega)) only [go_sem, simprocAttr, f0, f1, f2, f3, f4, h, hx', c, TNode.xo, List.map_nil, List.map_cons, List.map_append, TNode.o_def, List.cons_append, List.nil_append]
  · simp (maxSteps := 999999) (implicitDefEqProofs := false) (disch := (first | assumption | omega)) only [go_sem, simprocAttr, f0, f1, f2, f3, f4, h, c, TNode.xo, List.map_nil, List.map_cons, List.map_append, TNode.o_def, List.cons_append, List.nil_append]
theorem one_set (hT : TF T) (hP : Pl T a) (z : ∀ w ∈ ([⟨#[112, 114, 105, 110, 116]⟩, ⟨#[114, 101, 116, 117, 114, 110]⟩, ⟨#[99, 108, 111, 115, 101]⟩, ⟨#[104, 97, 108, 116]⟩, ⟨#[111, 117, 116]⟩] : List ByteArray), isB T a (-1) w = false) {x y : TNode} {e e1 e2 q2 : Int} (h : evCW tab impl_parser_expr [kp] (ph T a (-1)) 1 = some (x.xo, ph T e (-1))) (c : x.op = 20) (hx : evCW tab impl_parser_take [kp, Str ⟨#[61]⟩] (ph T e (-1)) 1 = some (B true, ph T e1 (-1))) (h2 : evCW tab impl_parser_expr [kp] (ph T e1 (-1)) 1 = some (y.xo, ph T e2 q2)) : evCW tab impl_parser_oneExpr [kp] (ph T a (-1)) 1 = some ((TNode.mk 3 x.tx 0 [y]).xo, ph T e2 q2) := by
  have f0 := take_wF hT hP (by decide) (z ⟨#[112, 114, 105, 110, 116]⟩ (by simp))
  have f1 := take_wF hT hP (by decide) (z ⟨#[114, 101, 116, 117, 114, 110]⟩ (by simp))
  have f2 := take_wF hT hP (by decide) (z ⟨#[99, 108, 111, 115, 101]⟩ (by simp))
  have f3 := take_wF hT hP (by decide) (z ⟨#[104, 97, 108, 116]⟩ (by simp))
  have f4 := take_wF hT hP (by decide) (z ⟨#[111, 117, 116]⟩ (by simp))
  rw [evCW_of t_impl_parser_oneExpr _ _ _ rfl, c_impl_parser_oneExpr]
  simp only [TNode.xo, c] at h
  simp (maxSteps := 999999) (implicitDefEqProofs := false) (disch := (first | assumption | omega)) only [go_sem, simprocAttr, f0, f1, f2, f3, f4, h, hx, h2, c, TNode.xo, List.map_nil, List.map_cons, List.map_append, TNode.o_def, List.cons_append, List.nil_append]
theorem stmt_simple (hP : Pl T a) (z1 : isB T a (-1) ⟨#[105, 102]⟩ = false) (z2 : isB T a (-1) ⟨#[119, 104, 105, 108, 101]⟩ = false) (z3 : isB T a (-1) ⟨#[115, 101, 108, 101, 99, 116]⟩ = false) (z : (bwS.any fun w => isB T a (-1) w) = true) {n : TNode} {e q : Int} (h : evCW tab spec_l6Simple [kp] (ph T a (-1)) 1 = some (n.xo, ph T e q)) : PRs T (evCW tab spec_l6Stmt [kp] (ph T a (-1)) 1) n e q := by
  intro e3 q3 h9
  have s1 := is_T hP z1
  have s2 := is_T hP z2
  have s3 := is_T hP z3
  have s4 := begins_ok hP
  rw [z] at s4
  rw [evCW_of t_spec_l6Stmt _ _ _ rfl, c_spec_l6Stmt]
  simp (maxSteps := 999999) (implicitDefEqProofs := false) (disch := (first | assumption | omega)) only [go_sem, simprocAttr, s1, s2, s3, s4, h, h9, TNode.xo, List.map_nil, List.map_cons, List.map_append, TNode.o_def, List.cons_append, List.nil_append]
theorem stmt_do (hP : Pl T a) (z1 : isB T a (-1) ⟨#[105, 102]⟩ = false) (z2 : isB T a (-1) ⟨#[119, 104, 105, 108, 101]⟩ = false) (z3 : isB T a (-1) ⟨#[115, 101, 108, 101, 99, 116]⟩ = false) (z : (bwS.any fun w => isB T a (-1) w) = false) {x : TNode} {e q : Int} (h : evCW tab spec_l6Expr [kp] (ph T a (-1)) 1 = some (x.xo, ph T e q)) (hx : x.op = 20 → evCW tab spec_l6Sign [kp, Str ⟨#[61]⟩] (ph T e q) 1 = some (B false, ph T e q)) : PRs T (evCW tab spec_l6Stmt [kp] (ph T a (-1)) 1) (.mk 18 noS 0 [x]) e q := by
  intro e3 q3 h9
  have s1 := is_T hP z1
  have s2 := is_T hP z2
  have s3 := is_T hP z3
  have s4 := begins_ok hP
  have s5 := spec_l6Node_ok 18 [x] (by simp)
  rw [z] at s4
  rw [evCW_of t_spec_l6Stmt _ _ _ rfl, c_spec_l6Stmt]
  by_cases c : x.op = 20
  · have hx' := hx c
    simp only [TNode.xo, TNode.op_mk, TNode.tx_mk, TNode.v_mk, TNode.ks_mk, List.map_nil, List.map_cons, List.map_append, TNode.o_def, List.cons_append, List.nil_append, c] at h s5 ⊢
    simp (maxSteps := 999999) (implicitDefEqProofs := false) (disch := (first | assumption | omega)) only [go_sem, simprocAttr, s1, s2, s3, s4, h, hx', c, h9, s5, TNode.xo, List.map_nil, List.map_cons, List.map_append, TNode.o_def, List.cons_append, List.nil_append]
  · simp only [TNode.xo, TNode.op_mk, TNode.tx_mk, TNode.v_mk, TNode.ks_mk, List.map_nil, List.map_cons, List.map_append, TNode.o_def, List.cons_append, List.nil_append] at h s5 ⊢
    simp (maxSteps := 999999) (implicitDefEqProofs := false) (disch := (first | assumption | omega)) only [go_sem, simprocAttr, s1, s2, s3, s4, h, c, h9, s5, TNode.xo, List.map_nil, List.map_cons, List.map_append, TNode.o_def, List.cons_append, List.nil_append]
theorem stmt_set (hP : Pl T a) (z1 : isB T a (-1) ⟨#[105, 102]⟩ = false) (z2 : isB T a (-1) ⟨#[119, 104, 105, 108, 101]⟩ = false) (z3 : isB T a (-1) ⟨#[115, 101, 108, 101, 99, 116]⟩ = false) (z : (bwS.any fun w => isB T a (-1) w) = false) {x y : TNode} {e e1 e2 q2 : Int} (h : evCW tab spec_l6Expr [kp] (ph T a (-1)) 1 = some (x.xo, ph T e (-1))) (c : x.op = 20) (hx : evCW tab spec_l6Sign [kp, Str ⟨#[61]⟩] (ph T e (-1)) 1 = some (B true, ph T e (-1))) (hn : evCW tab spec_l6Next [kp] (ph T e (-1)) 1 = some (.tup [], ph T e1 (-1))) (h2 : evCW tab spec_l6Expr [kp] (ph T e1 (-1)) 1 = some (y.xo, ph T e2 q2)) : PRs T (evCW tab spec_l6Stmt [kp] (ph T a (-1)) 1) (.mk 3 x.tx 0 [y]) e2 q2 := by
  intro e3 q3 h9
  have s1 := is_T hP z1
  have s2 := is_T hP z2
  have s3 := is_T hP z3
  have s4 := begins_ok hP
  rw [z] at s4
  rw [evCW_of t_spec_l6Stmt _ _ _ rfl, c_spec_l6Stmt]
  simp only [TNode.xo, c] at h
  simp (maxSteps := 999999) (implicitDefEqProofs := false) (disch := (first | assumption | omega)) only [go_sem, simprocAttr, s1, s2, s3, s4, h, hx, hn, h2, c, h9, TNode.xo, List.map_nil, List.map_cons, List.map_append, TNode.o_def, List.cons_append, List.nil_append]
end Go.Ev.G

/- The parsers: statements. -/
set_option linter.all false
namespace Go.Ev.G
set_option maxRecDepth 8000
set_option maxHeartbeats 4000000
variable {T : List TToken} {a b : Int}
def AI (T : List TToken) : Rs → Option (X × Heap) → Prop
  | .ok n e, r => PRe T r n e (-1)
  | .no p, r => ∃ n e, Pl T e ∧ n.Sm ∧ PRe T r n e p
def AS (T : List TToken) : Rs → Option (X × Heap) → Prop
  | .ok n e, r => PRs T r n e (-1)
  | .no p, r => ∃ n e, Pl T e ∧ n.Sm ∧ PRs T r n e p
theorem semi_both (hT : TF T) {r1 r2 : Option (X × Heap)} {R : Rs} (hG : Good T a 3 R) (h1 : AI T R r1) (h2 : AS T R r2) : ∃ R, Good T a 0 R ∧ Ends T R r1 ∧ Ends T R r2 := by
  cases R with
  | ok n e =>
    obtain ⟨g1, g2, g3, g4⟩ := hG
    cases z : sgB T e (-1) ⟨#[59]⟩
    · exact ⟨.no (tk T e).fAt, hT.p _ g1, ⟨n, e, g1, g3, h1 _ _ (need_sF hT g1 (by decide) z)⟩, ⟨n, e, g1, g3, h2 _ _ (stake_F g1 z)⟩⟩
    · obtain ⟨hn, hP1⟩ := sg_nx hT g1 z
      exact ⟨.ok n (e + 1), ⟨hP1, by omega, g3, by omega⟩, h1 _ _ (need_sT hT g1 (by decide) z), h2 _ _ (stake_T hT g1 z)⟩
  | no p =>
    have hp : 0 ≤ p := hG
    obtain ⟨n1, e1, i1, i2, i3⟩ := h1
    obtain ⟨n2, e2, j1, j2, j3⟩ := h2
    exact ⟨.no p, hp, ⟨n1, e1, i1, i2, i3 _ _ (need_dead i1 hp _)⟩, ⟨n2, e2, j1, j2, j3 _ _ (stake_dead j1 hp _)⟩⟩
abbrev Word (T : List TToken) (a : Int) : Prop := ∃ R, Good T a 3 R ∧ AI T R (evCW tab impl_parser_plain [kp] (ph T a (-1)) 1) ∧ Ends T R (evCW tab spec_l6Simple [kp] (ph T a (-1)) 1)
theorem word_send (hT : TF T) (hP : Pl T a) (z : isB T a (-1) ⟨#[115, 101, 110, 100]⟩ = true) : Word T a := by
  obtain ⟨hn, hP1⟩ := is_nx hT hP z
  obtain ⟨R, hG, hi, hs⟩ := two_both hT hP1 9
  cases R with
  | ok L e =>
    obtain ⟨g1, g2, g3, g4, g5⟩ := hG
    exact ⟨.ok (.mk 9 noS 0 L) e, ⟨g1, by omega, row_sm noS_sz g3 (by omega), by rw [TNode.ct_eq]; omega⟩, plain_send hT hP z hi, simple_send hT hP z hs⟩
  | no p =>
    have hp : 0 ≤ p := hG
    obtain ⟨L, e1, hE1, hL1, hL2, i1⟩ := hi
    obtain ⟨x1, x2, e2, hE2, hX1, hX2, s1⟩ := hs
    exact ⟨.no p, hp, ⟨_, e1, hE1, row_sm noS_sz hL1 (by omega), plain_send hT hP z i1⟩, ⟨_, e2, hE2, two_sm hX1 hX2, simple_send hT hP z s1⟩⟩
theorem word_poke (hT : TF T) (hP : Pl T a) (z : isB T a (-1) ⟨#[112, 111, 107, 101]⟩ = true) : Word T a := by
  obtain ⟨hn, hP1⟩ := is_nx hT hP z
  obtain ⟨R, hG, hi, hs⟩ := two_both hT hP1 13
  cases R with
  | ok L e =>
    obtain ⟨g1, g2, g3, g4, g5⟩ := hG
    exact ⟨.ok (.mk 13 noS 0 L) e, ⟨g1, by omega, row_sm noS_sz g3 (by omega), by rw [TNode.ct_eq]; omega⟩, plain_poke hT hP z hi, simple_poke hT hP z hs⟩
  | no p =>
    have hp : 0 ≤ p := hG
    obtain ⟨L, e1, hE1, hL1, hL2, i1⟩ := hi
    obtain ⟨x1, x2, e2, hE2, hX1, hX2, s1⟩ := hs
    exact ⟨.no p, hp, ⟨_, e1, hE1, row_sm noS_sz hL1 (by omega), plain_poke hT hP z i1⟩, ⟨_, e2, hE2, two_sm hX1 hX2, simple_poke hT hP z s1⟩⟩
theorem word_note (hT : TF T) (hP : Pl T a) (z : isB T a (-1) ⟨#[110, 111, 116, 101]⟩ = true) : Word T a := by
  obtain ⟨hn, hP1⟩ := is_nx hT hP z
  obtain ⟨R, hG, hi, hs⟩ := two_both hT hP1 14
  cases R with
  | ok L e =>
    obtain ⟨g1, g2, g3, g4, g5⟩ := hG
    exact ⟨.ok (.mk 14 noS 0 L) e, ⟨g1, by omega, row_sm noS_sz g3 (by omega), by rw [TNode.ct_eq]; omega⟩, plain_note hT hP z hi, simple_note hT hP z hs⟩
  | no p =>
    have hp : 0 ≤ p := hG
    obtain ⟨L, e1, hE1, hL1, hL2, i1⟩ := hi
    obtain ⟨x1, x2, e2, hE2, hX1, hX2, s1⟩ := hs
    exact ⟨.no p, hp, ⟨_, e1, hE1, row_sm noS_sz hL1 (by omega), plain_note hT hP z i1⟩, ⟨_, e2, hE2, two_sm hX1 hX2, simple_note hT hP z s1⟩⟩
theorem word_swap (hT : TF T) (hP : Pl T a) (z : isB T a (-1) ⟨#[115, 119, 97, 112]⟩ = true) : Word T a := by
  obtain ⟨hn, hP1⟩ := is_nx hT hP z
  obtain ⟨R, hG, hi, hs⟩ := two_both hT hP1 15
  cases R with
  | ok L e =>
    obtain ⟨g1, g2, g3, g4, g5⟩ := hG
    exact ⟨.ok (.mk 15 noS 0 L) e, ⟨g1, by omega, row_sm noS_sz g3 (by omega), by rw [TNode.ct_eq]; omega⟩, plain_swap hT hP z hi, simple_swap hT hP z hs⟩
  | no p =>
    have hp : 0 ≤ p := hG
    obtain ⟨L, e1, hE1, hL1, hL2, i1⟩ := hi
    obtain ⟨x1, x2, e2, hE2, hX1, hX2, s1⟩ := hs
    exact ⟨.no p, hp, ⟨_, e1, hE1, row_sm noS_sz hL1 (by omega), plain_swap hT hP z i1⟩, ⟨_, e2, hE2, two_sm hX1 hX2, simple_swap hT hP z s1⟩⟩
theorem word_recv (hT : TF T) (hP : Pl T a) (z : isB T a (-1) ⟨#[114, 101, 99, 118]⟩ = true) : Word T a := by
  obtain ⟨hn, hP1⟩ := is_nx hT hP z
  obtain ⟨R, hG, hR⟩ := received_both hT hP1 10
  cases R with
  | ok n e =>
    obtain ⟨⟨g1, g2, g3, g4⟩, w, x, rfl⟩ := hG
    obtain ⟨hi, hs⟩ := hR
    exact ⟨.ok _ e, ⟨g1, by omega, g3, by omega⟩, plain_recv hT hP z hi, simple_recv hT hP z hs⟩
  | no p =>
    have hp : 0 ≤ p := hG
    obtain ⟨⟨w1, x1, e1, hw1, hE1, hS1, i1⟩, ⟨w2, x2, e2, hw2, hE2, hS2, s1⟩⟩ := hR
    exact ⟨.no p, hp, ⟨_, e1, hE1, one_sm hw1 hS1, plain_recv hT hP z i1⟩, ⟨_, e2, hE2, one_sm hw2 hS2, simple_recv hT hP z s1⟩⟩
theorem word_let (hT : TF T) (hP : Pl T a) (z : isB T a (-1) ⟨#[108, 101, 116]⟩ = true) : Word T a := by
  obtain ⟨hn, hP1⟩ := is_nx hT hP z
  cases z0 : nmB T (a + 1) (-1)
  · have hp := hT.p _ hP1
    obtain ⟨y3, e3, hE3, hS3, s3⟩ := sexpr_dead hP1 hp
    exact ⟨.no (tk T (a + 1)).fAt, hp, ⟨_, a + 1, hP1, one_sm noS_sz leaf_sm, plain_let hT hP z (name_F hP1 z0) (need_dead hP1 hp _) (expr_dead hp)⟩, ⟨_, e3, hE3, one_sm noS_sz hS3, simple_let hT hP z (sname_F hP1 z0) (stake_dead hP1 hp _) s3⟩⟩
  · obtain ⟨hn1, hP2⟩ := nm_nx hT hP1 z0
    have hw := hT.s _ hP1
    cases z1 : sgB T (a + 1 + 1) (-1) ⟨#[61]⟩
    · have hp := hT.p _ hP2
      obtain ⟨y3, e3, hE3, hS3, s3⟩ := sexpr_dead hP2 hp
      exact ⟨.no (tk T (a + 1 + 1)).fAt, hp, ⟨_, a + 1 + 1, hP2, one_sm hw leaf_sm, plain_let hT hP z (name_T hT hP1 z0) (need_sF hT hP2 (by decide) z1) (expr_dead hp)⟩, ⟨_, e3, hE3, one_sm hw hS3, simple_let hT hP z (sname_T hT hP1 z0) (stake_F hP2 z1) s3⟩⟩
    · obtain ⟨hn2, hP3⟩ := sg_nx hT hP2 z1
      obtain ⟨R2, hG2, hi2, hs2⟩ := expr_alike hT hP3
      cases R2 with
      | no p =>
        have hp : 0 ≤ p := hG2
        obtain ⟨y1, e1, hE1, hS1, hi'⟩ := hi2
        obtain ⟨y2, e2, hE2, hS2, hs'⟩ := hs2
        exact ⟨.no p, hp, ⟨_, e1, hE1, one_sm hw hS1, plain_let hT hP z (name_T hT hP1 z0) (need_sT hT hP2 (by decide) z1) hi'⟩, ⟨_, e2, hE2, one_sm hw hS2, simple_let hT hP z (sname_T hT hP1 z0) (stake_T hT hP2 z1) hs'⟩⟩
      | ok y e =>
        obtain ⟨k1, k2, k3, k4⟩ := hG2
        exact ⟨.ok _ e, ⟨k1, by omega, one_sm hw k3, by rw [one_ct]; omega⟩, plain_let hT hP z (name_T hT hP1 z0) (need_sT hT hP2 (by decide) z1) hi2, simple_let hT hP z (sname_T hT hP1 z0) (stake_T hT hP2 z1) hs2⟩
theorem word_go (hT : TF T) (hP : Pl T a) (z : isB T a (-1) ⟨#[103, 111]⟩ = true) : Word T a := by
  obtain ⟨hn, hP1⟩ := is_nx hT hP z
  cases z0 : nmB T (a + 1) (-1)
  · have hp := hT.p _ hP1
    exact ⟨.no (tk T (a + 1)).fAt, hp, ⟨_, a + 1, hP1, row_sm noS_sz sms_nil (by simp), plain_go hT hP z (L := []) (name_F hP1 z0) (exprs_dead hP1 hp)⟩, ⟨_, a + 1, hP1, row_sm noS_sz sms_nil (by simp), simple_go hT hP z (L := []) (sname_F hP1 z0) (slist_dead hP1 hp)⟩⟩
  · obtain ⟨hn1, hP2⟩ := nm_nx hT hP1 z0
    have hw := hT.s _ hP1
    obtain ⟨R, hG, hi, hs⟩ := exprs_alike hT hP2
    cases R with
    | no p =>
      have hp : 0 ≤ p := hG
      obtain ⟨L1, e1, i1, i2, i3, i4⟩ := hi
      obtain ⟨L2, e2, j1, j2, j3, j4⟩ := hs
      exact ⟨.no p, hp, ⟨_, e1, i1, row_sm hw i2 i3, plain_go hT hP z (name_T hT hP1 z0) i4⟩, ⟨_, e2, j1, row_sm hw j2 (by omega), simple_go hT hP z (sname_T hT hP1 z0) j4⟩⟩
    | ok L e =>
      obtain ⟨g1, g2, g3, g4, g5⟩ := hG
      exact ⟨.ok _ e, ⟨g1, by omega, row_sm hw g3 g4, by rw [TNode.ct_eq]; omega⟩, plain_go hT hP z (name_T hT hP1 z0) hi, simple_go hT hP z (sname_T hT hP1 z0) hs⟩
theorem word_print (hT : TF T) (hP : Pl T a) (z : isB T a (-1) ⟨#[112, 114, 105, 110, 116]⟩ = true) : Word T a := by
  obtain ⟨hn, hP1⟩ := is_nx hT hP z
  have z7 : ∀ w ∈ ([⟨#[108, 101, 116]⟩, ⟨#[103, 111]⟩, ⟨#[114, 101, 99, 118]⟩, ⟨#[115, 101, 110, 100]⟩, ⟨#[112, 111, 107, 101]⟩, ⟨#[110, 111, 116, 101]⟩, ⟨#[115, 119, 97, 112]⟩] : List ByteArray), isB T a (-1) w = false := fun v hv => is_other z (by
    rintro rfl
    simp only [List.mem_cons, List.not_mem_nil, or_false] at hv
    rcases hv with h | h | h | h | h | h | h <;> exact absurd h (by decide))
  obtain ⟨R2, hG2, hi2, hs2⟩ := expr_alike hT hP1
  cases R2 with
  | no p =>
    have hp : 0 ≤ p := hG2
    obtain ⟨y1, e1, hE1, hS1, hi'⟩ := hi2
    obtain ⟨y2, e2, hE2, hS2, hs'⟩ := hs2
    exact ⟨.no p, hp, ⟨_, e1, hE1, one_sm noS_sz hS1, plain_one hT hP z7 (one_print hT hP z hi')⟩, ⟨_, e2, hE2, one_sm noS_sz hS2, simple_print hT hP z hs'⟩⟩
  | ok y e =>
    obtain ⟨k1, k2, k3, k4⟩ := hG2
    exact ⟨.ok _ e, ⟨k1, by omega, one_sm noS_sz k3, by rw [one_ct]; omega⟩, plain_one hT hP z7 (one_print hT hP z hi2), simple_print hT hP z hs2⟩
theorem word_return (hT : TF T) (hP : Pl T a) (z : isB T a (-1) ⟨#[114, 101, 116, 117, 114, 110]⟩ = true) : Word T a := by
  obtain ⟨hn, hP1⟩ := is_nx hT hP z
  have z7 : ∀ w ∈ ([⟨#[108, 101, 116]⟩, ⟨#[103, 111]⟩, ⟨#[114, 101, 99, 118]⟩, ⟨#[115, 101, 110, 100]⟩, ⟨#[112, 111, 107, 101]⟩, ⟨#[110, 111, 116, 101]⟩, ⟨#[115, 119, 97, 112]⟩] : List ByteArray), isB T a (-1) w = false := fun v hv => is_other z (by
    rintro rfl
    simp only [List.mem_cons, List.not_mem_nil, or_false] at hv
    rcases hv with h | h | h | h | h | h | h <;> exact absurd h (by decide))
  obtain ⟨R2, hG2, hi2, hs2⟩ := expr_alike hT hP1
  cases R2 with
  | no p =>
    have hp : 0 ≤ p := hG2
    obtain ⟨y1, e1, hE1, hS1, hi'⟩ := hi2
    obtain ⟨y2, e2, hE2, hS2, hs'⟩ := hs2
    exact ⟨.no p, hp, ⟨_, e1, hE1, one_sm noS_sz hS1, plain_one hT hP z7 (one_return hT hP z hi')⟩, ⟨_, e2, hE2, one_sm noS_sz hS2, simple_return hT hP z hs'⟩⟩
  | ok y e =>
    obtain ⟨k1, k2, k3, k4⟩ := hG2
    exact ⟨.ok _ e, ⟨k1, by omega, one_sm noS_sz k3, by rw [one_ct]; omega⟩, plain_one hT hP z7 (one_return hT hP z hi2), simple_return hT hP z hs2⟩
theorem word_close (hT : TF T) (hP : Pl T a) (z : isB T a (-1) ⟨#[99, 108, 111, 115, 101]⟩ = true) : Word T a := by
  obtain ⟨hn, hP1⟩ := is_nx hT hP z
  have z7 : ∀ w ∈ ([⟨#[108, 101, 116]⟩, ⟨#[103, 111]⟩, ⟨#[114, 101, 99, 118]⟩, ⟨#[115, 101, 110, 100]⟩, ⟨#[112, 111, 107, 101]⟩, ⟨#[110, 111, 116, 101]⟩, ⟨#[115, 119, 97, 112]⟩] : List ByteArray), isB T a (-1) w = false := fun v hv => is_other z (by
    rintro rfl
    simp only [List.mem_cons, List.not_mem_nil, or_false] at hv
    rcases hv with h | h | h | h | h | h | h <;> exact absurd h (by decide))
  obtain ⟨R2, hG2, hi2, hs2⟩ := expr_alike hT hP1
  cases R2 with
  | no p =>
    have hp : 0 ≤ p := hG2
    obtain ⟨y1, e1, hE1, hS1, hi'⟩ := hi2
    obtain ⟨y2, e2, hE2, hS2, hs'⟩ := hs2
    exact ⟨.no p, hp, ⟨_, e1, hE1, one_sm noS_sz hS1, plain_one hT hP z7 (one_close hT hP z hi')⟩, ⟨_, e2, hE2, one_sm noS_sz hS2, simple_close hT hP z hs'⟩⟩
  | ok y e =>
    obtain ⟨k1, k2, k3, k4⟩ := hG2
    exact ⟨.ok _ e, ⟨k1, by omega, one_sm noS_sz k3, by rw [one_ct]; omega⟩, plain_one hT hP z7 (one_close hT hP z hi2), simple_close hT hP z hs2⟩
theorem word_halt (hT : TF T) (hP : Pl T a) (z : isB T a (-1) ⟨#[104, 97, 108, 116]⟩ = true) : Word T a := by
  obtain ⟨hn, hP1⟩ := is_nx hT hP z
  have z7 : ∀ w ∈ ([⟨#[108, 101, 116]⟩, ⟨#[103, 111]⟩, ⟨#[114, 101, 99, 118]⟩, ⟨#[115, 101, 110, 100]⟩, ⟨#[112, 111, 107, 101]⟩, ⟨#[110, 111, 116, 101]⟩, ⟨#[115, 119, 97, 112]⟩] : List ByteArray), isB T a (-1) w = false := fun v hv => is_other z (by
    rintro rfl
    simp only [List.mem_cons, List.not_mem_nil, or_false] at hv
    rcases hv with h | h | h | h | h | h | h <;> exact absurd h (by decide))
  obtain ⟨R2, hG2, hi2, hs2⟩ := expr_alike hT hP1
  cases R2 with
  | no p =>
    have hp : 0 ≤ p := hG2
    obtain ⟨y1, e1, hE1, hS1, hi'⟩ := hi2
    obtain ⟨y2, e2, hE2, hS2, hs'⟩ := hs2
    exact ⟨.no p, hp, ⟨_, e1, hE1, one_sm noS_sz hS1, plain_one hT hP z7 (one_halt hT hP z hi')⟩, ⟨_, e2, hE2, one_sm noS_sz hS2, simple_halt hT hP z hs'⟩⟩
  | ok y e =>
    obtain ⟨k1, k2, k3, k4⟩ := hG2
    exact ⟨.ok _ e, ⟨k1, by omega, one_sm noS_sz k3, by rw [one_ct]; omega⟩, plain_one hT hP z7 (one_halt hT hP z hi2), simple_halt hT hP z hs2⟩
theorem word_out (hT : TF T) (hP : Pl T a) (z : isB T a (-1) ⟨#[111, 117, 116]⟩ = true) : Word T a := by
  obtain ⟨hn, hP1⟩ := is_nx hT hP z
  have z7 : ∀ w ∈ ([⟨#[108, 101, 116]⟩, ⟨#[103, 111]⟩, ⟨#[114, 101, 99, 118]⟩, ⟨#[115, 101, 110, 100]⟩, ⟨#[112, 111, 107, 101]⟩, ⟨#[110, 111, 116, 101]⟩, ⟨#[115, 119, 97, 112]⟩] : List ByteArray), isB T a (-1) w = false := fun v hv => is_other z (by
    rintro rfl
    simp only [List.mem_cons, List.not_mem_nil, or_false] at hv
    rcases hv with h | h | h | h | h | h | h <;> exact absurd h (by decide))
  obtain ⟨R2, hG2, hi2, hs2⟩ := expr_alike hT hP1
  cases R2 with
  | no p =>
    have hp : 0 ≤ p := hG2
    obtain ⟨y1, e1, hE1, hS1, hi'⟩ := hi2
    obtain ⟨y2, e2, hE2, hS2, hs'⟩ := hs2
    exact ⟨.no p, hp, ⟨_, e1, hE1, one_sm noS_sz hS1, plain_one hT hP z7 (one_out hT hP z hi')⟩, ⟨_, e2, hE2, one_sm noS_sz hS2, simple_out hT hP z hs'⟩⟩
  | ok y e =>
    obtain ⟨k1, k2, k3, k4⟩ := hG2
    exact ⟨.ok _ e, ⟨k1, by omega, one_sm noS_sz k3, by rw [one_ct]; omega⟩, plain_one hT hP z7 (one_out hT hP z hi2), simple_out hT hP z hs2⟩
theorem do_both (hT : TF T) (hP : Pl T a) (z1 : isB T a (-1) ⟨#[105, 102]⟩ = false) (z2 : isB T a (-1) ⟨#[119, 104, 105, 108, 101]⟩ = false) (z3 : isB T a (-1) ⟨#[115, 101, 108, 101, 99, 116]⟩ = false) (z : (bwS.any fun w => isB T a (-1) w) = false) :
    ∃ R, Good T a 3 R ∧ AI T R (evCW tab impl_parser_plain [kp] (ph T a (-1)) 1) ∧ AS T R (evCW tab spec_l6Stmt [kp] (ph T a (-1)) 1) := by
  have za : ∀ w ∈ bwS, isB T a (-1) w = false := fun w hw => by
    have h := List.any_eq_false.1 z w hw
    simpa using h
  have z7 : ∀ w ∈ ([⟨#[108, 101, 116]⟩, ⟨#[103, 111]⟩, ⟨#[114, 101, 99, 118]⟩, ⟨#[115, 101, 110, 100]⟩, ⟨#[112, 111, 107, 101]⟩, ⟨#[110, 111, 116, 101]⟩, ⟨#[115, 119, 97, 112]⟩] : List ByteArray), isB T a (-1) w = false := fun w hw => za w (by
    simp only [List.mem_cons, List.not_mem_nil, or_false] at hw
    rcases hw with rfl | rfl | rfl | rfl | rfl | rfl | rfl <;> simp [bwS])
  have z5 : ∀ w ∈ ([⟨#[112, 114, 105, 110, 116]⟩, ⟨#[114, 101, 116, 117, 114, 110]⟩, ⟨#[99, 108, 111, 115, 101]⟩, ⟨#[104, 97, 108, 116]⟩, ⟨#[111, 117, 116]⟩] : List ByteArray), isB T a (-1) w = false := fun w hw => za w (by
    simp only [List.mem_cons, List.not_mem_nil, or_false] at hw
    rcases hw with rfl | rfl | rfl | rfl | rfl <;> simp [bwS])
  obtain ⟨R, hG, hi, hs⟩ := expr_alike hT hP
  cases R with
  | no p =>
    have hp : 0 ≤ p := hG
    obtain ⟨y1, e1, hE1, hS1, hi'⟩ := hi
    obtain ⟨y2, e2, hE2, hS2, hs'⟩ := hs
    exact ⟨.no p, hp, ⟨_, e1, hE1, one_sm noS_sz hS1, plain_one hT hP z7 (one_do hT hP z5 hi' (fun _ => take_dead hE1 hp _))⟩, ⟨_, e2, hE2, one_sm noS_sz hS2, stmt_do hP z1 z2 z3 z hs' (fun _ => sign_dead hE2 hp _)⟩⟩
  | ok x e =>
    obtain ⟨g1, g2, g3, g4⟩ := hG
    simp only [Ends] at hi hs
    by_cases c : x.op = 20
    · cases z4 : sgB T e (-1) ⟨#[61]⟩
      · exact ⟨.ok _ e, ⟨g1, g2, one_sm noS_sz g3, by rw [one_ct]; omega⟩, plain_one hT hP z7 (one_do hT hP z5 hi (fun _ => take_sF hT g1 (by decide) z4)), stmt_do hP z1 z2 z3 z hs (fun _ => sign_T g1 z4)⟩
      · obtain ⟨hn, hP1⟩ := sg_nx hT g1 z4
        obtain ⟨R2, hG2, hi2, hs2⟩ := expr_alike hT hP1
        have hc := x.ct_nn
        cases R2 with
        | no p =>
          have hp : 0 ≤ p := hG2
          obtain ⟨y1, e1, hE1, hS1, hi'⟩ := hi2
          obtain ⟨y2, e2, hE2, hS2, hs'⟩ := hs2
          exact ⟨.no p, hp, ⟨_, e1, hE1, one_sm g3.tx hS1, plain_one hT hP z7 (one_set hT hP z5 hi c (take_sT hT g1 (by decide) z4) hi')⟩, ⟨_, e2, hE2, one_sm g3.tx hS2, stmt_set hP z1 z2 z3 z hs c (sign_T g1 z4) (snext_T g1 hn) hs'⟩⟩
        | ok y e2 =>
          obtain ⟨k1, k2, k3, k4⟩ := hG2
          exact ⟨.ok _ e2, ⟨k1, by omega, one_sm g3.tx k3, by rw [one_ct]; omega⟩, plain_one hT hP z7 (one_set hT hP z5 hi c (take_sT hT g1 (by decide) z4) hi2), stmt_set hP z1 z2 z3 z hs c (sign_T g1 z4) (snext_T g1 hn) hs2⟩
    · exact ⟨.ok _ e, ⟨g1, g2, one_sm noS_sz g3, by rw [one_ct]; omega⟩, plain_one hT hP z7 (one_do hT hP z5 hi (fun h => absurd h c)), stmt_do hP z1 z2 z3 z hs (fun h => absurd h c)⟩
theorem word_any (hT : TF T) (hP : Pl T a) (z : (bwS.any fun w => isB T a (-1) w) = true) : Word T a := by
  obtain ⟨w, hw, hz⟩ := List.any_eq_true.1 z
  simp only [bwS, List.mem_cons, List.not_mem_nil, or_false] at hw
  rcases hw with rfl | rfl | rfl | rfl | rfl | rfl | rfl | rfl | rfl | rfl | rfl | rfl
  · exact word_let hT hP hz
  · exact word_go hT hP hz
  · exact word_recv hT hP hz
  · exact word_send hT hP hz
  · exact word_poke hT hP hz
  · exact word_note hT hP hz
  · exact word_swap hT hP hz
  · exact word_print hT hP hz
  · exact word_return hT hP hz
  · exact word_close hT hP hz
  · exact word_halt hT hP hz
  · exact word_out hT hP hz
theorem word_stmt (hP : Pl T a) (z1 : isB T a (-1) ⟨#[105, 102]⟩ = false) (z2 : isB T a (-1) ⟨#[119, 104, 105, 108, 101]⟩ = false) (z3 : isB T a (-1) ⟨#[115, 101, 108, 101, 99, 116]⟩ = false) (z : (bwS.any fun w => isB T a (-1) w) = true) : ∀ {R : Rs}, Ends T R (evCW tab spec_l6Simple [kp] (ph T a (-1)) 1) → AS T R (evCW tab spec_l6Stmt [kp] (ph T a (-1)) 1)
  | .ok n e, h => stmt_simple hP z1 z2 z3 z h
  | .no p, ⟨n, e, h1, h2, h3⟩ => ⟨n, e, h1, h2, stmt_simple hP z1 z2 z3 z h3⟩
theorem plain_statement (hT : TF T) (hP : Pl T a) (z1 : isB T a (-1) ⟨#[105, 102]⟩ = false) (z2 : isB T a (-1) ⟨#[119, 104, 105, 108, 101]⟩ = false) (z3 : isB T a (-1) ⟨#[115, 101, 108, 101, 99, 116]⟩ = false) : ∀ {R : Rs}, Ends T R (evCW tab impl_parser_plain [kp] (ph T a (-1)) 1) → Ends T R (evCW tab impl_parser_statement [kp] (ph T a (-1)) 1)
  | .ok n e, h => statement_plain hT hP z1 z2 z3 h
  | .no p, ⟨n, e, h1, h2, h3⟩ => ⟨n, e, h1, h2, statement_plain hT hP z1 z2 z3 h3⟩
theorem statement_both (hT : TF T) (hP : Pl T a) (H : ∀ e, Pl T e → a < e → Both T e impl_parser_block spec_l6Block) : Both T a impl_parser_statement spec_l6Stmt := by
  cases z1 : isB T a (-1) ⟨#[105, 102]⟩
  · cases z2 : isB T a (-1) ⟨#[119, 104, 105, 108, 101]⟩
    · cases z3 : isB T a (-1) ⟨#[115, 101, 108, 101, 99, 116]⟩
      · cases z : (bwS.any fun w => isB T a (-1) w)
        · obtain ⟨R, hG, hi, hs⟩ := do_both hT hP z1 z2 z3 z
          obtain ⟨R2, k1, k2, k3⟩ := semi_both hT hG hi hs
          exact ⟨R2, k1, plain_statement hT hP z1 z2 z3 k2, k3⟩
        · obtain ⟨R, hG, hi, hs⟩ := word_any hT hP z
          obtain ⟨R2, k1, k2, k3⟩ := semi_both hT hG hi (word_stmt hP z1 z2 z3 z hs)
          exact ⟨R2, k1, plain_statement hT hP z1 z2 z3 k2, k3⟩
      · exact choice_both hT hP z3 H
    · exact while_both hT hP z2 H
  · exact if_both hT hP z1 H
theorem block_all (hT : TF T) : ∀ (m : Nat) (a : Int), Pl T a → (T.length : Int) - a ≤ m → Both T a impl_parser_statement spec_l6Stmt ∧ Both T a impl_parser_block spec_l6Block
  | 0, a, hP, hm => by have := hP.h; omega
  | m + 1, a, hP, hm => by
    have ih := fun (e : Int) (he : Pl T e) (hlt : a < e) => block_all hT m e he (by omega)
    exact ⟨statement_both hT hP (fun e he hlt => (ih e he hlt).2), block_both hT hP (fun e he hlt => (ih e he hlt).1)⟩
theorem block_alike (hT : TF T) (hP : Pl T a) : Both T a impl_parser_block spec_l6Block := (block_all hT T.length a hP (by have := hP.l; omega)).2
end Go.Ev.G

/- The parsers: functions. -/
set_option linter.all false
namespace Go.Ev.G
set_option maxRecDepth 8000
set_option maxHeartbeats 4000000
variable {T : List TToken} {a b : Int}
abbrev f0D : D := .s 6 [[DS noS, .s 2 [], DI 0, DS noS, DI 0, .s 4 []]]
abbrev fS (T : List TToken) (a b : Int) (w : ByteArray) (P : List TParam) : St := { env := upd (upd (upd emp 3 (some (.ptr (1, 1) [] 0 0))) 2 (some (.ptr (1, 0) [] 0 0))) 0 (some kp), heap := upd (upd (upd emp (0, 0) (some (.s 3 [pc T a b]))) (1, 1) (some (.s 6 [[DS w, .s 2 (P.map TParam.o), DI 0, DS noS, DI 0, .s 4 []]]))) (1, 0) (some f0D), fr := 1, next := 2 }
def ParI (T : List TToken) (a : Int) (x : TParam) (e q : Int) : Prop := ∃ e1 q1, evCW tab impl_parser_name [kp] (ph T a (-1)) 1 = some (Str x.fName, ph T e1 q1) ∧ evCW tab impl_parser_take [kp, Str ⟨#[99, 104, 97, 110]⟩] (ph T e1 q1) 1 = some (B x.fChan, ph T e q)
def ParS (T : List TToken) (a b : Int) (x : TParam) (e q : Int) : Prop := ∃ e1 q1, evCW tab spec_l6Name [kp] (ph T a b) 1 = some (Str x.fName, ph T e1 q1) ∧ evCW tab spec_l6Is [kp, Str ⟨#[99, 104, 97, 110]⟩] (ph T e1 q1) 1 = some (B x.fChan, ph T e1 q1) ∧ (x.fChan = true → evCW tab spec_l6Next [kp] (ph T e1 q1) 1 = some (.tup [], ph T e q)) ∧ (x.fChan = false → e1 = e ∧ q1 = q)
theorem par_both (hT : TF T) (hP : Pl T a) : ∃ x e q, x.sm ∧ Pl T e ∧ ParI T a x e q ∧ ParS T a (-1) x e q ∧ ((q = -1 ∧ a < e) ∨ 0 ≤ q) := by
  cases z : nmB T a (-1)
  · have hp := hT.p _ hP
    exact ⟨⟨noS, false⟩, a, (tk T a).fAt, noS_sz, hP, ⟨_, _, name_F hP z, take_dead hP hp _⟩, ⟨_, _, sname_F hP z, is_dead hP hp _, fun h => by simp at h, fun _ => ⟨rfl, rfl⟩⟩, Or.inr hp⟩
  · obtain ⟨hn, hP1⟩ := nm_nx hT hP z
    have hw := hT.s _ hP
    cases z1 : isB T (a + 1) (-1) ⟨#[99, 104, 97, 110]⟩
    · exact ⟨⟨(tk T a).fText, false⟩, a + 1, -1, hw, hP1, ⟨_, _, name_T hT hP z, take_wF hT hP1 (by decide) z1⟩, ⟨_, _, sname_T hT hP z, is_T hP1 z1, fun h => by simp at h, fun _ => ⟨rfl, rfl⟩⟩, Or.inl ⟨rfl, by omega⟩⟩
    · obtain ⟨hn2, hP2⟩ := is_nx hT hP1 z1
      exact ⟨⟨(tk T a).fText, true⟩, a + 1 + 1, -1, hw, hP2, ⟨_, _, name_T hT hP z, take_wT hT hP1 (by decide) z1⟩, ⟨_, _, sname_T hT hP z, is_T hP1 z1, fun _ => snext_T hP1 hn2, fun h => by simp at h⟩, Or.inl ⟨rfl, by omega⟩⟩
theorem par_dead (hP : Pl T a) (hb : 0 ≤ b) : ParS T a b ⟨noS, false⟩ a b := ⟨_, _, sname_dead hP hb, is_dead hP hb _, fun h => by simp at h, fun _ => ⟨rfl, rfl⟩⟩
theorem fun_go {x : TParam} {e q e' q' : Int} (h : ParI T a x e q) (hk : evCW tab impl_parser_take [kp, Str ⟨#[44]⟩] (ph T e q) 1 = some (B true, ph T e' q')) (w : ByteArray) (P : List TParam) (hl : P.length ≤ 1048575) :
    loopW tab [0, 2, 3] b_impl_parser_function_0 (fS T a (-1) w P) = loopW tab [0, 2, 3] b_impl_parser_function_0 (fS T e' q' w (P ++ [x])) := by
  obtain ⟨e1, q1, h1, h2⟩ := h
  conv => lhs; unfold loopW
  conv => lhs; arg 1; unfold b_impl_parser_function_0
  simp only [fS, ph, pc, TParam.xo, TParam.o, TFunc.xo, TNode.xo, TNode.op_mk, TNode.tx_mk, TNode.v_mk, TNode.ks_mk, List.map_nil, List.map_cons, List.map_append, TNode.o_def, List.cons_append, List.nil_append] at h1 h2 hk ⊢
  simp (maxSteps := 999999) (implicitDefEqProofs := false) (disch := (first | assumption | omega | (unfold appOk; (try simp only [List.length_map, List.length_append, List.length_cons, List.length_nil]); omega))) only [go_sem, simprocAttr, h1, h2, hk, TParam.xo, TParam.o, TFunc.xo, TNode.xo, List.map_nil, List.map_cons, List.map_append, TNode.o_def, List.cons_append, List.nil_append]
theorem fun_stop {x : TParam} {e q : Int} (h : ParI T a x e q) (hk : evCW tab impl_parser_take [kp, Str ⟨#[44]⟩] (ph T e q) 1 = some (B false, ph T e q)) (w : ByteArray) (P : List TParam) (hl : P.length ≤ 1048575) :
    loopW tab [0, 2, 3] b_impl_parser_function_0 (fS T a (-1) w P) = some (.ext 0, fS T e q w (P ++ [x])) := by
  obtain ⟨e1, q1, h1, h2⟩ := h
  conv => lhs; unfold loopW
  conv => lhs; arg 1; unfold b_impl_parser_function_0
  simp only [fS, ph, pc, TParam.xo, TParam.o, TFunc.xo, TNode.xo, TNode.op_mk, TNode.tx_mk, TNode.v_mk, TNode.ks_mk, List.map_nil, List.map_cons, List.map_append, TNode.o_def, List.cons_append, List.nil_append] at h1 h2 hk ⊢
  simp (maxSteps := 999999) (implicitDefEqProofs := false) (disch := (first | assumption | omega | (unfold appOk; (try simp only [List.length_map, List.length_append, List.length_cons, List.length_nil]); omega))) only [go_sem, simprocAttr, h1, h2, hk, TParam.xo, TParam.o, TFunc.xo, TNode.xo, List.map_nil, List.map_cons, List.map_append, TNode.o_def, List.cons_append, List.nil_append, Ex.ext.injEq]
theorem fun_dead (hb : 0 ≤ b) (w : ByteArray) (P : List TParam) : loopW tab [0, 2, 3] b_impl_parser_function_0 (fS T a b w P) = some (.ext 0, fS T a b w P) := by
  conv => lhs; unfold loopW
  conv => lhs; arg 1; unfold b_impl_parser_function_0
  simp only [fS, pc]
  simp (maxSteps := 999999) (implicitDefEqProofs := false) (disch := (first | assumption | omega)) only [go_sem, simprocAttr]
theorem sfun_dead (hb : 0 ≤ b) (w : ByteArray) (P : List TParam) : loopW tab [0, 2, 3] b_spec_l6Func_0 (fS T a b w P) = some (.ext 0, fS T a b w P) := by
  conv => lhs; unfold loopW
  conv => lhs; arg 1; unfold b_spec_l6Func_0
  simp only [fS, pc]
  simp (maxSteps := 999999) (implicitDefEqProofs := false) (disch := (first | assumption | omega)) only [go_sem, simprocAttr]
theorem sfun_end (hP : Pl T a) (z : sgB T a (-1) ⟨#[41]⟩ = true) (w : ByteArray) (P : List TParam) : loopW tab [0, 2, 3] b_spec_l6Func_0 (fS T a (-1) w P) = some (.ext 0, fS T a (-1) w P) := by
  have s1 := sign_T hP z
  conv => lhs; unfold loopW
  conv => lhs; arg 1; unfold b_spec_l6Func_0
  simp only [fS, ph, pc] at s1 ⊢
  simp (maxSteps := 999999) (implicitDefEqProofs := false) (disch := (first | assumption | omega)) only [go_sem, simprocAttr, s1]
theorem sfun_first (hP : Pl T a) (z : sgB T a (-1) ⟨#[41]⟩ = false) {x : TParam} {e q : Int} (h : ParS T a (-1) x e q) (w : ByteArray) :
    loopW tab [0, 2, 3] b_spec_l6Func_0 (fS T a (-1) w []) = loopW tab [0, 2, 3] b_spec_l6Func_0 (fS T e q w [x]) := by
  have s1 := sign_T hP z
  obtain ⟨e1, q1, h1, h2, h3, h4⟩ := h
  obtain ⟨nm, ch⟩ := x
  conv => lhs; unfold loopW
  conv => lhs; arg 1; unfold b_spec_l6Func_0
  cases ch
  · obtain ⟨rfl, rfl⟩ := h4 rfl
    simp only [fS, ph, pc, TParam.xo, TParam.o, TFunc.xo, TNode.xo, TNode.op_mk, TNode.tx_mk, TNode.v_mk, TNode.ks_mk, List.map_nil, List.map_cons, List.map_append, TNode.o_def, List.cons_append, List.nil_append] at s1 h1 h2 ⊢
    simp (maxSteps := 999999) (implicitDefEqProofs := false) (disch := (first | assumption | omega | (unfold appOk; (try simp only [List.length_map, List.length_append, List.length_cons, List.length_nil]); omega))) only [go_sem, simprocAttr, s1, h1, h2, TParam.xo, TParam.o, TFunc.xo, TNode.xo, List.map_nil, List.map_cons, List.map_append, TNode.o_def, List.cons_append, List.nil_append]
  · have h5 := h3 rfl
    simp only [fS, ph, pc, TParam.xo, TParam.o, TFunc.xo, TNode.xo, TNode.op_mk, TNode.tx_mk, TNode.v_mk, TNode.ks_mk, List.map_nil, List.map_cons, List.map_append, TNode.o_def, List.cons_append, List.nil_append] at s1 h1 h2 h5 ⊢
    simp (maxSteps := 999999) (implicitDefEqProofs := false) (disch := (first | assumption | omega | (unfold appOk; (try simp only [List.length_map, List.length_append, List.length_cons, List.length_nil]); omega))) only [go_sem, simprocAttr, s1, h1, h2, h5, TParam.xo, TParam.o, TFunc.xo, TNode.xo, List.map_nil, List.map_cons, List.map_append, TNode.o_def, List.cons_append, List.nil_append]
theorem sfun_more (hP : Pl T a) (z : sgB T a (-1) ⟨#[41]⟩ = false) {x : TParam} {d r e q : Int} (hk : evCW tab spec_l6Take [kp, Str ⟨#[44]⟩] (ph T a (-1)) 1 = some (.tup [], ph T d r)) (h : ParS T d r x e q) (w : ByteArray) (P : List TParam) (hN : P ≠ []) (hl : P.length ≤ 1048575) :
    loopW tab [0, 2, 3] b_spec_l6Func_0 (fS T a (-1) w P) = loopW tab [0, 2, 3] b_spec_l6Func_0 (fS T e q w (P ++ [x])) := by
  have s1 := sign_T hP z
  obtain ⟨e1, q1, h1, h2, h3, h4⟩ := h
  obtain ⟨nm, ch⟩ := x
  have hlen : (0 : Int) < P.length := by
    cases P with
    | nil => exact absurd rfl hN
    | cons y ys => simp only [List.length_cons]; omega
  conv => lhs; unfold loopW
  conv => lhs; arg 1; unfold b_spec_l6Func_0
  cases ch
  · obtain ⟨rfl, rfl⟩ := h4 rfl
    simp only [fS, ph, pc, TParam.xo, TParam.o, TFunc.xo, TNode.xo, TNode.op_mk, TNode.tx_mk, TNode.v_mk, TNode.ks_mk, List.map_nil, List.map_cons, List.map_append, TNode.o_def, List.cons_append, List.nil_append] at s1 h1 h2 hk ⊢
    simp (maxSteps := 999999) (implicitDefEqProofs := false) (disch := (first | assumption | omega | (unfold appOk; (try simp only [List.length_map, List.length_append, List.length_cons, List.length_nil]); omega))) only [go_sem, simprocAttr, s1, hk, h1, h2, TParam.xo, TParam.o, TFunc.xo, TNode.xo, List.map_nil, List.map_cons, List.map_append, TNode.o_def, List.cons_append, List.nil_append]
  · have h5 := h3 rfl
    simp only [fS, ph, pc, TParam.xo, TParam.o, TFunc.xo, TNode.xo, TNode.op_mk, TNode.tx_mk, TNode.v_mk, TNode.ks_mk, List.map_nil, List.map_cons, List.map_append, TNode.o_def, List.cons_append, List.nil_append] at s1 h1 h2 h5 hk ⊢
    simp (maxSteps := 999999) (implicitDefEqProofs := false) (disch := (first | assumption | omega | (unfold appOk; (try simp only [List.length_map, List.length_append, List.length_cons, List.length_nil]); omega))) only [go_sem, simprocAttr, s1, hk, h1, h2, h5, TParam.xo, TParam.o, TFunc.xo, TNode.xo, List.map_nil, List.map_cons, List.map_append, TNode.o_def, List.cons_append, List.nil_append]
theorem fun_all {w : ByteArray} {y : TNode} {P : List TParam} {e1 q1 e2 q2 e3 q3 e4 q4 e q : Int} (h1 : evCW tab impl_parser_name [kp] (ph T a (-1)) 1 = some (Str w, ph T e1 q1)) (h2 : evCW tab impl_parser_need [kp, Str ⟨#[40]⟩] (ph T e1 q1) 1 = some (.tup [], ph T e2 q2)) (h3 : evCW tab impl_parser_take [kp, Str ⟨#[41]⟩] (ph T e2 q2) 1 = some (B false, ph T e2 q2)) (h4 : loopW tab [0, 2, 3] b_impl_parser_function_0 (fS T e2 q2 w []) = some (.ext 0, fS T e3 q3 w P)) (h5 : evCW tab impl_parser_need [kp, Str ⟨#[41]⟩] (ph T e3 q3) 1 = some (.tup [], ph T e4 q4)) (h6 : evCW tab impl_parser_block [kp] (ph T e4 q4) 1 = some (y.xo, ph T e q)) :
    evCW tab impl_parser_function [kp] (ph T a (-1)) 1 = some ((TFunc.mk w P y).xo, ph T e q) := by
  rw [evCW_of t_impl_parser_function _ _ _ rfl, c_impl_parser_function]
  simp only [fS, TParam.xo, TParam.o, TFunc.xo, TNode.xo, TNode.op_mk, TNode.tx_mk, TNode.v_mk, TNode.ks_mk, List.map_nil, List.map_cons, List.map_append, TNode.o_def, List.cons_append, List.nil_append] at h4
  simp (maxSteps := 999999) (implicitDefEqProofs := false) (disch := (first | assumption | omega)) only [go_sem, simprocAttr, h1, h2, h3, h4, h5, h6, TParam.xo, TParam.o, TFunc.xo, TNode.xo, List.map_nil, List.map_cons, List.map_append, TNode.o_def, List.cons_append, List.nil_append]
theorem fun_none {w : ByteArray} {y : TNode} {e1 q1 e2 q2 e4 q4 e q : Int} (h1 : evCW tab impl_parser_name [kp] (ph T a (-1)) 1 = some (Str w, ph T e1 q1)) (h2 : evCW tab impl_parser_need [kp, Str ⟨#[40]⟩] (ph T e1 q1) 1 = some (.tup [], ph T e2 q2)) (h3 : evCW tab impl_parser_take [kp, Str ⟨#[41]⟩] (ph T e2 q2) 1 = some (B true, ph T e4 q4)) (h6 : evCW tab impl_parser_block [kp] (ph T e4 q4) 1 = some (y.xo, ph T e q)) :
    evCW tab impl_parser_function [kp] (ph T a (-1)) 1 = some ((TFunc.mk w [] y).xo, ph T e q) := by
  rw [evCW_of t_impl_parser_function _ _ _ rfl, c_impl_parser_function]
  simp (maxSteps := 999999) (implicitDefEqProofs := false) (disch := (first | assumption | omega)) only [go_sem, simprocAttr, h1, h2, h3, h6, TParam.xo, TParam.o, TFunc.xo, TNode.xo, List.map_nil, List.map_cons, List.map_append, TNode.o_def, List.cons_append, List.nil_append]
theorem sfun_all {w : ByteArray} {y : TNode} {P : List TParam} {d r e1 q1 e2 q2 e3 q3 e4 q4 e q : Int} (h0 : evCW tab spec_l6Word [kp, Str ⟨#[102, 117, 110, 99]⟩] (ph T a (-1)) 1 = some (.tup [], ph T d r)) (h1 : evCW tab spec_l6Name [kp] (ph T d r) 1 = some (Str w, ph T e1 q1)) (h2 : evCW tab spec_l6Take [kp, Str ⟨#[40]⟩] (ph T e1 q1) 1 = some (.tup [], ph T e2 q2)) (h4 : loopW tab [0, 2, 3] b_spec_l6Func_0 (fS T e2 q2 w []) = some (.ext 0, fS T e3 q3 w P)) (h5 : evCW tab spec_l6Take [kp, Str ⟨#[41]⟩] (ph T e3 q3) 1 = some (.tup [], ph T e4 q4)) (h6 : evCW tab spec_l6Block [kp] (ph T e4 q4) 1 = some (y.xo, ph T e q)) :
    evCW tab spec_l6Func [kp] (ph T a (-1)) 1 = some ((TFunc.mk w P y).xo, ph T e q) := by
  rw [evCW_of t_spec_l6Func _ _ _ rfl, c_spec_l6Func]
  simp only [fS, TParam.xo, TParam.o, TFunc.xo, TNode.xo, TNode.op_mk, TNode.tx_mk, TNode.v_mk, TNode.ks_mk, List.map_nil, List.map_cons, List.map_append, TNode.o_def, List.cons_append, List.nil_append] at h4
  simp (maxSteps := 999999) (implicitDefEqProofs := false) (disch := (first | assumption | omega)) only [go_sem, simprocAttr, h0, h1, h2, h4, h5, h6, TParam.xo, TParam.o, TFunc.xo, TNode.xo, List.map_nil, List.map_cons, List.map_append, TNode.o_def, List.cons_append, List.nil_append]
end Go.Ev.G

/- The parsers: functions on both sides. -/
set_option linter.all false
namespace Go.Ev.G
set_option maxRecDepth 8000
set_option maxHeartbeats 4000000
variable {T : List TToken} {a b : Int}
def Pms (P : List TParam) : Prop := ∀ y ∈ P, y.sm
theorem pms_snoc {P : List TParam} {x : TParam} (h : Pms P) (hx : x.sm) : Pms (P ++ [x]) := by
  intro y hy
  rcases List.mem_append.1 hy with k | k
  · exact h y k
  · rw [List.mem_singleton.1 k]; exact hx
theorem pms_nil : Pms [] := by intro y hy; simp at hy
theorem cts_snoc (P : List TParam) (x : TParam) : TParam.cts (P ++ [x]) = TParam.cts P + 2 := by
  induction P with
  | nil => simp only [List.nil_append, TParam.cts, TParam.ct]; omega
  | cons y P ih => simp only [List.cons_append, TParam.cts, ih]; omega
theorem params_l0 (hT : TF T) (w : ByteArray) : ∀ (m : Nat) (a a0 : Int) (P : List TParam), Pl T a → Pl T a0 → Pms P → (P.length : Int) ≤ a → (T.length : Int) - a ≤ m →
    ((P = [] ∧ a0 = a ∧ sgB T a (-1) ⟨#[41]⟩ = false) ∨ (P ≠ [] ∧ a0 + 1 = a ∧ sgB T a0 (-1) ⟨#[44]⟩ = true)) →
    (∃ L e, Pl T e ∧ a ≤ e ∧ Pms L ∧ (L.length : Int) ≤ e ∧ TParam.cts L ≤ 2 * (e - a) + TParam.cts P ∧ sgB T e (-1) ⟨#[41]⟩ = true ∧ loopW tab [0, 2, 3] b_impl_parser_function_0 (fS T a (-1) w P) = some (.ext 0, fS T e (-1) w L) ∧ loopW tab [0, 2, 3] b_spec_l6Func_0 (fS T a0 (-1) w P) = some (.ext 0, fS T e (-1) w L)) ∨
    (∃ p, 0 ≤ p ∧ (∃ L e b, Pl T e ∧ Pms L ∧ L.length ≤ 1048575 ∧ loopW tab [0, 2, 3] b_impl_parser_function_0 (fS T a (-1) w P) = some (.ext 0, fS T e b w L) ∧ (b = p ∨ (b = -1 ∧ (tk T e).fAt = p ∧ sgB T e (-1) ⟨#[41]⟩ = false))) ∧ ∃ L e, Pl T e ∧ Pms L ∧ L.length ≤ 1048575 ∧ loopW tab [0, 2, 3] b_spec_l6Func_0 (fS T a0 (-1) w P) = some (.ext 0, fS T e p w L))
  | 0, a, a0, P, hP, hP0, hA, hl, hm, hd => by have := hP.h; omega
  | m + 1, a, a0, P, hP, hP0, hA, hl, hm, hd => by
    have hah := hP.h
    have hmm := hP.m
    obtain ⟨x, e, q, hx, hE, hi, hs, hq⟩ := par_both hT hP
    have hst : loopW tab [0, 2, 3] b_spec_l6Func_0 (fS T a0 (-1) w P) = loopW tab [0, 2, 3] b_spec_l6Func_0 (fS T e q w (P ++ [x])) := by
      rcases hd with ⟨hA0, ha0, hz⟩ | ⟨hA0, ha0, hz⟩
      · subst hA0; subst ha0
        exact sfun_first hP hz hs w
      · have h2 := stake_T hT hP0 hz
        rw [ha0] at h2
        exact sfun_more hP0 (sg_other hz (show (⟨#[44]⟩ : ByteArray) ≠ ⟨#[41]⟩ by decide)) h2 hs w P hA0 (by omega)
    rw [hst]
    rcases hq with ⟨rfl, hlt⟩ | hp
    · cases z : sgB T e (-1) ⟨#[44]⟩
      · have hf := fun_stop hi (take_sF hT hE (by decide) z) w P (by omega)
        have hel := hE.h
        cases z2 : sgB T e (-1) ⟨#[41]⟩
        · have hp := hT.p _ hE
          have hm2 := sfun_more hE z2 (stake_F hE z) (par_dead hE hp) w (P ++ [x]) (by simp) (by simp; omega)
          rw [sfun_dead hp] at hm2
          exact Or.inr ⟨(tk T e).fAt, hp, ⟨P ++ [x], e, -1, hE, pms_snoc hA hx, by simp; omega, hf, Or.inr ⟨rfl, rfl, z2⟩⟩, ⟨_, e, hE, pms_snoc (x := ⟨noS, false⟩) (pms_snoc hA hx) noS_sz, by simp; omega, hm2⟩⟩
        · exact Or.inl ⟨P ++ [x], e, hE, by omega, pms_snoc hA hx, by simp; omega, by rw [cts_snoc]; omega, z2, hf, sfun_end hE z2 w _⟩
      · obtain ⟨hn, hP1⟩ := sg_nx hT hE z
        have hf := fun_go hi (take_sT hT hE (by decide) z) w P (by omega)
        have ih := params_l0 hT w m (e + 1) e (P ++ [x]) hP1 hE (pms_snoc hA hx) (by simp; omega) (by omega) (Or.inr ⟨by simp, rfl, z⟩)
        rw [hf]
        rcases ih with ⟨L, e2, k1, k2, k3, k4, k5, k6, k7, k8⟩ | ih
        · rw [cts_snoc] at k5
          exact Or.inl ⟨L, e2, k1, by omega, k3, k4, by omega, k6, k7, k8⟩
        · exact Or.inr ih
    · have hf := fun_stop hi (take_dead hE hp _) w P (by omega)
      exact Or.inr ⟨q, hp, ⟨P ++ [x], e, q, hE, pms_snoc hA hx, by simp; omega, hf, Or.inl rfl⟩, ⟨P ++ [x], e, hE, pms_snoc hA hx, by simp; omega, sfun_dead hp w _⟩⟩
def FBoth (T : List TToken) (a : Int) (r1 r2 : Option (X × Heap)) : Prop :=
  (∃ f e, Pl T e ∧ a < e ∧ TFunc.Sm f ∧ f.ct ≤ 3 * (e - a) ∧ r1 = some (f.xo, ph T e (-1)) ∧ r2 = some (f.xo, ph T e (-1))) ∨
  (∃ p, 0 ≤ p ∧ (∃ f e, Pl T e ∧ TFunc.Sm f ∧ r1 = some (f.xo, ph T e p)) ∧ ∃ f e, Pl T e ∧ TFunc.Sm f ∧ r2 = some (f.xo, ph T e p))
theorem fsm {w : ByteArray} {P : List TParam} {y : TNode} (hw : w.size ≤ 1048576) (hP : Pms P) (hl : P.length ≤ 1048576) (hy : y.Sm) : TFunc.Sm ⟨w, P, y⟩ := ⟨hw, ⟨hl, hP⟩, hy⟩
theorem fct (w : ByteArray) (P : List TParam) (y : TNode) : (TFunc.mk w P y).ct = 1 + TParam.cts P + y.ct := by
  obtain ⟨op, tx, v, ks⟩ := y
  rw [TNode.ct_eq]
  simp only [TFunc.ct, TNode.ks_mk]
  omega
theorem function_both (hT : TF T) (hP0 : Pl T a) (z0 : isB T a (-1) ⟨#[102, 117, 110, 99]⟩ = true) : FBoth T a (evCW tab impl_parser_function [kp] (ph T (a + 1) (-1)) 1) (evCW tab spec_l6Func [kp] (ph T a (-1)) 1) := by
  obtain ⟨hn0, hP⟩ := is_nx hT hP0 z0
  have s0 := word_T hT hP0 z0
  have hal := hP0.l
  -- behind a failure
  have dead : ∀ (w : ByteArray) (L1 L2 : List TParam) (e1 e2 p : Int), 0 ≤ p → Pl T e1 → Pl T e2 → w.size ≤ 1048576 → Pms L1 → Pms L2 → L1.length ≤ 1048575 → L2.length ≤ 1048575 →
      (∀ (y : TNode) (e q : Int), evCW tab impl_parser_block [kp] (ph T e1 p) 1 = some (y.xo, ph T e q) → evCW tab impl_parser_function [kp] (ph T (a + 1) (-1)) 1 = some ((TFunc.mk w L1 y).xo, ph T e q)) →
      (∀ (y : TNode) (e q : Int), evCW tab spec_l6Block [kp] (ph T e2 p) 1 = some (y.xo, ph T e q) → evCW tab spec_l6Func [kp] (ph T a (-1)) 1 = some ((TFunc.mk w L2 y).xo, ph T e q)) →
      FBoth T a (evCW tab impl_parser_function [kp] (ph T (a + 1) (-1)) 1) (evCW tab spec_l6Func [kp] (ph T a (-1)) 1) := by
    intro w L1 L2 e1 e2 p hp g1 g2 hw k1 k2 k3 k4 h1 h2
    obtain ⟨y1, d1, hD1, hY1, i1⟩ := block_dead g1 hp
    obtain ⟨y2, d2, hD2, hY2, i2⟩ := sblock_dead g2 hp
    exact Or.inr ⟨p, hp, ⟨_, d1, hD1, fsm hw k1 (by omega) hY1, h1 _ _ _ i1⟩, ⟨_, d2, hD2, fsm hw k2 (by omega) hY2, h2 _ _ _ i2⟩⟩
  cases z1 : nmB T (a + 1) (-1)
  · have hp := hT.p _ hP
    refine dead noS [] [] (a + 1) (a + 1) (tk T (a + 1)).fAt hp hP hP noS_sz pms_nil pms_nil (by simp) (by simp) (fun y e q hy => ?_) (fun y e q hy => ?_)
    · exact fun_all (name_F hP z1) (need_dead hP hp _) (take_dead hP hp _) (fun_dead hp _ _) (need_dead hP hp _) hy
    · exact sfun_all s0 (sname_F hP z1) (stake_dead hP hp _) (sfun_dead hp _ _) (stake_dead hP hp _) hy
  obtain ⟨hn1, hP1⟩ := nm_nx hT hP z1
  have hw := hT.s _ hP
  cases z2 : sgB T (a + 1 + 1) (-1) ⟨#[40]⟩
  · have hp := hT.p _ hP1
    refine dead (tk T (a + 1)).fText [] [] (a + 1 + 1) (a + 1 + 1) (tk T (a + 1 + 1)).fAt hp hP1 hP1 hw pms_nil pms_nil (by simp) (by simp) (fun y e q hy => ?_) (fun y e q hy => ?_)
    · exact fun_all (name_T hT hP z1) (need_sF hT hP1 (by decide) z2) (take_dead hP1 hp _) (fun_dead hp _ _) (need_dead hP1 hp _) hy
    · exact sfun_all s0 (sname_T hT hP z1) (stake_F hP1 z2) (sfun_dead hp _ _) (stake_dead hP1 hp _) hy
  obtain ⟨hn2, hP2⟩ := sg_nx hT hP1 z2
  -- behind the brackets
  have live : ∀ (L : List TParam) (d : Int), Pl T d → a + 4 ≤ d → Pms L → L.length ≤ 1048575 → TParam.cts L ≤ 2 * (d - a - 4) →
      (∀ (y : TNode) (e q : Int), evCW tab impl_parser_block [kp] (ph T d (-1)) 1 = some (y.xo, ph T e q) → evCW tab impl_parser_function [kp] (ph T (a + 1) (-1)) 1 = some ((TFunc.mk (tk T (a + 1)).fText L y).xo, ph T e q)) →
      (∀ (y : TNode) (e q : Int), evCW tab spec_l6Block [kp] (ph T d (-1)) 1 = some (y.xo, ph T e q) → evCW tab spec_l6Func [kp] (ph T a (-1)) 1 = some ((TFunc.mk (tk T (a + 1)).fText L y).xo, ph T e q)) →
      FBoth T a (evCW tab impl_parser_function [kp] (ph T (a + 1) (-1)) 1) (evCW tab spec_l6Func [kp] (ph T a (-1)) 1) := by
    intro L d g1 hd k1 k2 k3 h1 h2
    obtain ⟨R, hG, hi, hs⟩ := block_alike hT g1
    cases R with
    | ok y e =>
      obtain ⟨j1, j2, j3, j4⟩ := hG
      exact Or.inl ⟨_, e, j1, by omega, fsm hw k1 (by omega) j3, by rw [fct]; omega, h1 _ _ _ hi, h2 _ _ _ hs⟩
    | no p =>
      have hp : 0 ≤ p := hG
      obtain ⟨y1, d1, hD1, hY1, i1⟩ := hi
      obtain ⟨y2, d2, hD2, hY2, i2⟩ := hs
      exact Or.inr ⟨p, hp, ⟨_, d1, hD1, fsm hw k1 (by omega) hY1, h1 _ _ _ i1⟩, ⟨_, d2, hD2, fsm hw k1 (by omega) hY2, h2 _ _ _ i2⟩⟩
  cases z3 : sgB T (a + 1 + 1 + 1) (-1) ⟨#[41]⟩
  · have i3 := take_sF hT hP2 (by decide) z3
    rcases params_l0 hT (tk T (a + 1)).fText T.length (a + 1 + 1 + 1) (a + 1 + 1 + 1) [] hP2 hP2 pms_nil (by simp; omega) (by omega) (Or.inl ⟨rfl, rfl, z3⟩) with ⟨L, e, k1, k2, k3, k4, k5, k6, k7, k8⟩ | ⟨p, hp, ⟨L1, e1, b1, i5, i6, i7, i8, i9⟩, L2, e2, j5, j6, j7, j8⟩
    · obtain ⟨hn3, hP3⟩ := sg_nx hT k1 k6
      have hc : TParam.cts [] = 0 := rfl
      rw [hc] at k5
      have := k1.h
      have := k1.m
      refine live L (e + 1) hP3 (by omega) k3 (by omega) (by omega) (fun y e' q hy => ?_) (fun y e' q hy => ?_)
      · exact fun_all (name_T hT hP z1) (need_sT hT hP1 (by decide) z2) i3 k7 (need_sT hT k1 (by decide) k6) hy
      · exact sfun_all s0 (sname_T hT hP z1) (stake_T hT hP1 z2) k8 (stake_T hT k1 k6) hy
    · have hk : evCW tab impl_parser_need [kp, Str ⟨#[41]⟩] (ph T e1 b1) 1 = some (.tup [], ph T e1 p) := by
        rcases i9 with rfl | ⟨rfl, rfl, i10⟩
        · exact need_dead i5 hp _
        · exact need_sF hT i5 (by decide) i10
      refine dead (tk T (a + 1)).fText L1 L2 e1 e2 p hp i5 j5 hw i6 j6 i7 j7 (fun y e q hy => ?_) (fun y e q hy => ?_)
      · exact fun_all (name_T hT hP z1) (need_sT hT hP1 (by decide) z2) i3 i8 hk hy
      · exact sfun_all s0 (sname_T hT hP z1) (stake_T hT hP1 z2) j8 (stake_dead j5 hp _) hy
  · obtain ⟨hn3, hP3⟩ := sg_nx hT hP2 z3
    refine live [] (a + 1 + 1 + 1 + 1) hP3 (by omega) pms_nil (by simp) (by simp only [TParam.cts]; omega) (fun y e q hy => ?_) (fun y e q hy => ?_)
    · exact fun_none (name_T hT hP z1) (need_sT hT hP1 (by decide) z2) (take_sT hT hP2 (by decide) z3) hy
    · exact sfun_all s0 (sname_T hT hP z1) (stake_T hT hP1 z2) (sfun_end hP2 z3 _ _) (stake_T hT hP2 z3) hy
end Go.Ev.G

/- What is known of the tokens of a text. -/
set_option linter.all false
namespace Go.Ev.G
set_option maxRecDepth 8000
set_option maxHeartbeats 4000000
structure TokOk (x : TToken) : Prop where
  kk : x.fKind = 0 ∨ x.fKind = 1 ∨ x.fKind = 2 ∨ x.fKind = 3
  k1 : x.fKind = 1 → isWd x.fText = true
  k3 : x.fKind = 3 → isWd x.fText = false
  k2 : x.fKind = 0 ∨ x.fKind = 2 → x.fText = noS
  n : -9999999999 ≤ x.fN ∧ x.fN ≤ 9999999999
  p : 0 ≤ x.fAt
  s : x.fText.size ≤ 1048576
theorem isWd_ext {s : ByteArray} {a : Int} {b : UInt8} {r : List UInt8} (hd : s.data.toList.drop a.toNat = b :: r) {k : Nat} (hk : a.toNat < k) : isWd (s.extract a.toNat k) = letterB b.toNat := by
  unfold isWd
  rw [ext_list, hd]
  obtain ⟨m, hm⟩ : ∃ m, k - a.toNat = m + 1 := ⟨k - a.toNat - 1, by omega⟩
  rw [hm, List.take_succ_cons]
theorem num_range {s : ByteArray} {n : Int} (h : numB s = some n) : -2147483648 ≤ n ∧ n ≤ 2147483647 := by
  unfold numB at h
  split at h
  · rename_i c
    have h1 := c.2.1
    simp only [Option.some.injEq] at h
    rw [h] at h1
    simpa [word, inB] using h1
  · simp at h
theorem specOne_tok (s : ByteArray) (hs : s.size ≤ 6000) (a : Int) (b : UInt8) (r : List UInt8) (ha : 0 ≤ a) (hd : s.data.toList.drop a.toNat = b :: r) (h : (specOne s a b r).2.2 = true) : TokOk (specOne s a b r).1 := by
  have hsz : ∀ i j : Nat, (s.extract i j).size ≤ 1048576 := fun i j => by rw [ByteArray.size_extract]; omega
  unfold specOne at h ⊢
  split at h
  · rename_i c
    simp only [if_pos c]
    have hk : a.toNat < (a + runL letterB (b :: r)).toNat := by
      rw [runL, if_pos c]; omega
    exact ⟨by simp, fun _ => by rw [isWd_ext hd hk]; exact c, fun h => by simp at h, fun h => by simp at h, by simp, ha, hsz _ _⟩
  · rename_i c
    simp only [if_neg c]
    split at h
    · rename_i c2
      simp only [if_pos c2]
      simp only at h
      obtain ⟨n, hn⟩ := Option.isSome_iff_exists.1 h
      have h2 := num_range hn
      exact ⟨by simp, fun h => by simp at h, fun h => by simp at h, fun _ => rfl, by simp only [hn, Option.getD_some]; omega, ha, noS_sz⟩
    · rename_i c2
      simp only [if_neg c2]
      refine ⟨by simp, fun h => by simp at h, fun _ => ?_, fun h => by simp at h, by simp, ha, sgn_size s (by omega) a b r⟩
      simp only
      unfold sgn
      split
      · decide
      · split
        · rw [isWd_ext hd (by omega)]
          simpa using c
        · decide
theorem toksR_tok (s : ByteArray) (hs : s.size ≤ 6000) : ∀ (n : Nat) (a : Int), 0 ≤ a → ∀ x ∈ (toksR s n a).1, TokOk x
  | 0, a, ha => by simp [toksR]
  | n + 1, a, ha => by
    rw [toksR]
    cases hd : s.data.toList.drop a.toNat with
    | nil => simp
    | cons b r =>
      simp only
      split
      · exact toksR_tok s hs n (a + 1) (by omega)
      · split
        · rename_i h
          have h6 := specOne_to s (by omega) a b r ha hd h
          intro x hx
          rcases List.mem_cons.1 hx with rfl | hx
          · exact specOne_tok s hs a b r ha hd h
          · exact toksR_tok s hs n (specOne s a b r).2.1 (by omega) x hx
        · simp
theorem tf_of {A : List TToken} {z : TToken} (hA : ∀ x ∈ A, TokOk x) (hz : TokOk z) (hk : z.fKind = 0) (hl : A.length ≤ 9000) : TF (A ++ [z]) := by
  have hall : ∀ a, Pl (A ++ [z]) a → TokOk (tk (A ++ [z]) a) := by
    intro a hP
    have h1 := hP.l; have h2 := hP.h
    have h3 : a.toNat < (A ++ [z]).length := by omega
    rw [tk, List.getElem?_eq_getElem h3]
    have h4 := List.getElem_mem h3
    simp only [Option.getD_some]
    rcases List.mem_append.1 h4 with k | k
    · exact hA _ k
    · rw [List.mem_singleton.1 k]; exact hz
  refine ⟨by simp; omega, ?_, fun a h => (hall a h).kk, fun a h => (hall a h).k1, fun a h => (hall a h).k3, fun a h => (hall a h).k2, fun a h => (hall a h).n, fun a h => (hall a h).p, fun a h => (hall a h).s⟩
  intro a hP hne
  have h1 := hP.l; have h2 := hP.h
  refine Classical.byContradiction fun hc => hne ?_
  have h3 : a.toNat = A.length := by simp at h2 hc; omega
  rw [tk, h3]
  simp [hk]
theorem tf_toks {s : ByteArray} (h : (toksT s).2 = -1) : TF (toksT s).1 ∧ Pl (toksT s).1 0 := by
  unfold toksT at h ⊢
  split at h
  · rename_i c
    rw [if_pos c]
    split at h
    · rename_i c2
      rw [if_pos c2]
      have h1 := (toksR_len s (by omega) s.size 0 (by omega) (by omega)).1
      have h2 := toksR_tok s (by omega) s.size 0 (by omega)
      refine ⟨tf_of h2 ⟨by simp, fun h => by simp at h, fun h => by simp at h, fun _ => rfl, by simp, by simp, noS_sz⟩ rfl (by omega), by omega, by simp, by simp; omega⟩
    · rename_i c2
      exact absurd h c2
  · simp at h
end Go.Ev.G

/- Depth of trees; the tops of the parsers. -/
set_option linter.all false
namespace Go.Ev.G
set_option maxRecDepth 8000
set_option maxHeartbeats 4000000
mutual
def TNode.dp : TNode → Int
  | .mk _ _ _ ks => IntKind.i64.wrap (nodesDp 0 ks + 1)
def nodesDp : Int → List TNode → Int
  | m, [] => m
  | m, x :: xs => nodesDp (if m > x.dp then m else x.dp) xs
end
theorem l1Max_ok (a b : Int) : call tab spec_l1Max [I a, I b] = some (I (if a > b then a else b)) := by
  rw [call_of t_spec_l1Max _ rfl, c_spec_l1Max]
  by_cases c : a > b
  · simp only [if_pos c]; simp (maxSteps := 999999) (implicitDefEqProofs := false) (disch := (first | assumption | omega)) only [go_sem, simprocAttr]
  · simp only [if_neg c]; simp (maxSteps := 999999) (implicitDefEqProofs := false) (disch := (first | assumption | omega)) only [go_sem, simprocAttr]
theorem spec_Deep_l0 (x : TNode) (hx : x.ks.length ≤ 1048576) (H : ∀ y ∈ x.ks, call tab spec_Deep [y.x] = some (I y.dp)) : ∀ (Bl : List TNode) (j : Int) (m : Int), x.ks.drop j.toNat = Bl → 0 ≤ j →
    loopW tab [1, 3, 4] b_spec_Deep_0 { env := upd (upd (upd emp 4 (some (I j))) 3 (some (I m))) 1 (some (.vp [I x.op, Str x.tx, I x.v, .d (.r (x.ks.map TNode.r))])), heap := emp, fr := 0, next := 0 } = some (.ext 0, { env := upd emp 3 (some (I (nodesDp m Bl))), heap := emp, fr := 0, next := 0 })
  | [], j, m, hd, hj => by
    unfold loopW
    conv => lhs; arg 1; unfold b_spec_Deep_0
    have h1 := dropn hd hj
    simp (maxSteps := 999999) (implicitDefEqProofs := false) (disch := (first | assumption | omega)) only [go_sem, simprocAttr, nodesDp]
  | y :: Bl, j, m, hd, hj => by
    unfold loopW
    conv => lhs; arg 1; unfold b_spec_Deep_0
    have h1 := dropc hd hj
    have h5 := h1.2.1
    have h2 := getm TNode.r h1.1
    rw [TNode.r_def] at h2
    have g0 := H y h1.2.2.2.1
    have g1 := l1Max_ok m y.dp
    have ih := spec_Deep_l0 x hx H Bl (j + 1) (if m > y.dp then m else y.dp) h1.2.2.1 (by omega)
    rw [nodesDp]
    generalize (if m > y.dp then m else y.dp) = u at *
    simp (maxSteps := 999999) (implicitDefEqProofs := false) (disch := (first | assumption | omega)) only [go_sem, simprocAttr, h2, g0, g1, ih]
theorem impl_Deep_l0 (ks : List TNode) (hx : ks.length ≤ 1048576) (H : ∀ y ∈ ks, call tab impl_Deep [y.x] = some (I y.dp)) : ∀ (Bl : List TNode) (j : Int) (m : Int), ks.drop j.toNat = Bl → 0 ≤ j →
    loopW tab [3, 7, 8, 9] b_impl_Deep_0 { env := upd (upd (upd (upd emp 9 (some (I j))) 8 (some (I (ks.length : Int)))) 7 (some (.d (.r (ks.map TNode.r))))) 3 (some (I m)), heap := emp, fr := 0, next := 0 } = some (.ext 0, { env := upd emp 3 (some (I (nodesDp m Bl))), heap := emp, fr := 0, next := 0 })
  | [], j, m, hd, hj => by
    unfold loopW
    conv => lhs; arg 1; unfold b_impl_Deep_0
    have h1 := dropn hd hj
    simp (maxSteps := 999999) (implicitDefEqProofs := false) (disch := (first | assumption | omega)) only [go_sem, simprocAttr, nodesDp]
  | y :: Bl, j, m, hd, hj => by
    unfold loopW
    conv => lhs; arg 1; unfold b_impl_Deep_0
    have h1 := dropc hd hj
    have h5 := h1.2.1
    have h2 := getm TNode.r h1.1
    rw [TNode.r_def] at h2
    have g0 := H y h1.2.2.2.1
    have ih := impl_Deep_l0 ks hx H Bl (j + 1) (if m > y.dp then m else y.dp) h1.2.2.1 (by omega)
    rw [nodesDp]
    rcases Int.lt_trichotomy m y.dp with c | c | c
    · rw [if_neg (by omega)] at ih ⊢
      simp (maxSteps := 999999) (implicitDefEqProofs := false) (disch := (first | assumption | omega)) only [go_sem, simprocAttr, h2, g0, ih]
    · rw [if_neg (by omega)] at ih ⊢
      rw [c]
      simp (maxSteps := 999999) (implicitDefEqProofs := false) (disch := (first | assumption | omega)) only [go_sem, simprocAttr, h2, g0, ih]
    · rw [if_pos c] at ih ⊢
      simp (maxSteps := 999999) (implicitDefEqProofs := false) (disch := (first | assumption | omega)) only [go_sem, simprocAttr, h2, g0, ih]
theorem Deep_ok (x : TNode) (hx : x.Sm) : call tab spec_Deep [x.x] = some (I x.dp) ∧ call tab impl_Deep [x.x] = some (I x.dp) := by
  refine TNode.ind (P := fun x => x.Sm → call tab spec_Deep [x.x] = some (I x.dp) ∧ call tab impl_Deep [x.x] = some (I x.dp)) (fun op tx v ks ih hx => ?_) x hx
  have hk := hx.ks
  have h0 := spec_Deep_l0 (.mk op tx v ks) hk.1 (fun y hy => (ih y hy (hk.2 y hy)).1) ks 0 0 rfl (by omega)
  have h1 := impl_Deep_l0 ks hk.1 (fun y hy => (ih y hy (hk.2 y hy)).2) ks 0 0 rfl (by omega)
  simp only [TNode.op_mk, TNode.tx_mk, TNode.v_mk, TNode.ks_mk] at h0
  rw [TNode.dp]
  refine ⟨?_, ?_⟩
  · rw [call_of t_spec_Deep _ rfl, c_spec_Deep]
    simp (maxSteps := 999999) (implicitDefEqProofs := false) (disch := (first | assumption | omega)) only [go_sem, simprocAttr, h0]
  · rw [call_of t_impl_Deep _ rfl, c_impl_Deep]
    simp (maxSteps := 999999) (implicitDefEqProofs := false) (disch := (first | assumption | omega)) only [go_sem, simprocAttr, h1]

theorem TNode.fzlr (x : TNode) : Ev.fzl x.r = x.r := by
  refine TNode.ind (P := fun x => Ev.fzl x.r = x.r) (fun op tx v ks ih => ?_) x
  rw [TNode.r_eq]
  have h : Ev.fzs (ks.map TNode.r) = ks.map TNode.r := by
    induction ks with
    | nil => simp only [List.map_nil, Ev.fzs]
    | cons k ks ih2 => simp only [List.map_cons, Ev.fzs, ih k (by simp), ih2 (fun y hy => ih y (by simp [hy]))]
  simp only [Ev.fzl, D.fz, h]
theorem TNode.fzr (xs : List TNode) : Ev.fzs (xs.map TNode.r) = xs.map TNode.r := fzs_map _ _ TNode.fzlr xs
theorem TFunc.fzlr (x : TFunc) : Ev.fzl x.r = x.r := by simp only [TFunc.r, Ev.fzl, D.fz, TParam.fzr, TNode.fzr]
theorem TFunc.fzr (xs : List TFunc) : Ev.fzs (xs.map TFunc.r) = xs.map TFunc.r := fzs_map _ _ TFunc.fzlr xs
variable {T : List TToken} {a b : Int}
abbrev ipS (T : List TToken) (a b : Int) (F : List TFunc) : St := { env := upd (upd emp 7 (some (.ref (0, 1) []))) 6 (some kp), heap := upd (upd emp (0, 1) (some (.s 6 (F.map TFunc.o)))) (0, 0) (some (.s 3 [pc T a b])), fr := 0, next := 2 }
abbrev spS (T : List TToken) (a b : Int) (F : List TFunc) (d : Int) : St := { env := upd (upd (upd (upd emp 9 (some (I d))) 8 (some (.ref (0, 2) []))) 7 (some (.ptr (0, 1) [] 0 0))) 4 (some (.ref (0, 0) [])), heap := upd (upd (upd emp (0, 2) (some (.s 6 (F.map TFunc.r)))) (0, 1) (some (.s 3 [pc T a b]))) (0, 0) (some (.s 6 [])), fr := 0, next := 3 }
theorem top_go (hT : TF T) (hP : Pl T a) (z : isB T a (-1) ⟨#[102, 117, 110, 99]⟩ = true) {f : TFunc} {e q : Int} (h : evCW tab impl_parser_function [kp] (ph T (a + 1) (-1)) 1 = some (f.xo, ph T e q)) (F : List TFunc) (hl : F.length ≤ 1048575) :
    loopW tab [6, 7] b_impl_Parse_0 (ipS T a (-1) F) = loopW tab [6, 7] b_impl_Parse_0 (ipS T e q (F ++ [f])) := by
  have h1 := take_wT hT hP (by decide) z
  conv => lhs; unfold loopW
  conv => lhs; arg 1; unfold b_impl_Parse_0
  simp only [ipS, ph, pc, TFunc.xo, TFunc.o, List.map_append, List.map_cons, List.map_nil] at h h1 ⊢
  simp (maxSteps := 999999) (implicitDefEqProofs := false) (disch := (first | assumption | omega | (unfold appOk; (try simp only [List.length_map, List.length_append, List.length_cons, List.length_nil]); omega))) only [go_sem, simprocAttr, h1, h, TFunc.o]
theorem top_dead (hP : Pl T a) (hb : 0 ≤ b) (F : List TFunc) : loopW tab [6, 7] b_impl_Parse_0 (ipS T a b F) = some (.ext 0, ipS T a b F) := by
  have h1 := take_dead hP hb ⟨#[102, 117, 110, 99]⟩
  conv => lhs; unfold loopW
  conv => lhs; arg 1; unfold b_impl_Parse_0
  simp only [ipS, ph, pc] at h1 ⊢
  simp (maxSteps := 999999) (implicitDefEqProofs := false) (disch := (first | assumption | omega)) only [go_sem, simprocAttr, h1]
theorem top_end (hT : TF T) (hP : Pl T a) (z : isB T a (-1) ⟨#[102, 117, 110, 99]⟩ = false) (F : List TFunc) : loopW tab [6, 7] b_impl_Parse_0 (ipS T a (-1) F) = some (.ext 0, ipS T a (-1) F) := by
  have h1 := take_wF hT hP (by decide) z
  conv => lhs; unfold loopW
  conv => lhs; arg 1; unfold b_impl_Parse_0
  simp only [ipS, ph, pc] at h1 ⊢
  simp (maxSteps := 999999) (implicitDefEqProofs := false) (disch := (first | assumption | omega)) only [go_sem, simprocAttr, h1]
abbrev mx (d : Int) (f : TFunc) : Int := if d > f.fBody.dp then d else f.fBody.dp
theorem stop_go (hP : Pl T a) (hk : ¬ (tk T a).fKind = 0) {f : TFunc} (hf : f.fBody.Sm) {e q : Int} (h : evCW tab spec_l6Func [kp] (ph T a (-1)) 1 = some (f.xo, ph T e q)) (F : List TFunc) (hl : F.length ≤ 1048575) (d : Int) :
    loopW tab [4, 7, 8, 9] b_spec_Parse_0 (spS T a (-1) F d) = loopW tab [4, 7, 8, 9] b_spec_Parse_0 (spS T e q (F ++ [f]) (mx d f)) := by
  have h1 := spec_l6Now_ok (-1) hP
  have h2 := (Deep_ok f.fBody hf).1
  have h3 := l1Max_ok d f.fBody.dp
  conv => lhs; unfold loopW
  conv => lhs; arg 1; unfold b_spec_Parse_0
  have h4 : mx d f = if d > f.fBody.dp then d else f.fBody.dp := rfl
  rw [← h4] at h3
  simp only [spS, ph, pc, TFunc.xo, TFunc.r, List.map_append, List.map_cons, List.map_nil] at h h1 ⊢
  generalize mx d f = u at *
  simp (maxSteps := 999999) (implicitDefEqProofs := false) (disch := (first | assumption | omega | (unfold appOk; (try simp only [List.length_map, List.length_append, List.length_cons, List.length_nil]); omega))) only [go_sem, simprocAttr, h1, h, h2, h3, hk, TFunc.o, TNode.fzs, TParam.fzs, List.map_cons, List.map_nil]
theorem stop_dead (hb : 0 ≤ b) (F : List TFunc) (d : Int) : loopW tab [4, 7, 8, 9] b_spec_Parse_0 (spS T a b F d) = some (.ext 0, spS T a b F d) := by
  conv => lhs; unfold loopW
  conv => lhs; arg 1; unfold b_spec_Parse_0
  simp only [spS, pc]
  simp (maxSteps := 999999) (implicitDefEqProofs := false) (disch := (first | assumption | omega)) only [go_sem, simprocAttr]
theorem stop_end (hP : Pl T a) (hk : (tk T a).fKind = 0) (F : List TFunc) (d : Int) : loopW tab [4, 7, 8, 9] b_spec_Parse_0 (spS T a (-1) F d) = some (.ext 0, spS T a (-1) F d) := by
  have h1 := spec_l6Now_ok (-1) hP
  conv => lhs; unfold loopW
  conv => lhs; arg 1; unfold b_spec_Parse_0
  simp only [spS, ph, pc, TToken.xo, hk] at h1 ⊢
  simp (maxSteps := 999999) (implicitDefEqProofs := false) (disch := (first | assumption | omega)) only [go_sem, simprocAttr, h1]
end Go.Ev.G

/- The parsers: all of a text; the law. -/
set_option linter.all false
namespace Go.Ev.G
set_option maxRecDepth 8000
set_option maxHeartbeats 4000000
variable {T : List TToken} {a b : Int}
abbrev mxl (F : List TFunc) : Int := F.foldl mx 0
theorem mxl_snoc (F : List TFunc) (f : TFunc) : mxl (F ++ [f]) = mx (mxl F) f := by simp [mxl]
theorem fcts_snoc (F : List TFunc) (f : TFunc) : TFunc.cts (F ++ [f]) = TFunc.cts F + f.ct := by
  induction F with
  | nil => simp only [List.nil_append, TFunc.cts]; omega
  | cons y F ih => simp only [List.cons_append, TFunc.cts, ih]; omega
def Fms (F : List TFunc) : Prop := ∀ y ∈ F, TFunc.Sm y
theorem fms_snoc {F : List TFunc} {f : TFunc} (h : Fms F) (hf : TFunc.Sm f) : Fms (F ++ [f]) := by
  intro y hy
  rcases List.mem_append.1 hy with k | k
  · exact h y k
  · rw [List.mem_singleton.1 k]; exact hf
theorem tops (hT : TF T) : ∀ (m : Nat) (a : Int) (F : List TFunc), Pl T a → Fms F → (F.length : Int) ≤ a → (T.length : Int) - a ≤ m →
    (∃ G e, Pl T e ∧ a ≤ e ∧ Fms G ∧ (G.length : Int) ≤ e ∧ TFunc.cts G ≤ 3 * (e - a) + TFunc.cts F ∧ (tk T e).fKind = 0 ∧ loopW tab [6, 7] b_impl_Parse_0 (ipS T a (-1) F) = some (.ext 0, ipS T e (-1) G) ∧ loopW tab [4, 7, 8, 9] b_spec_Parse_0 (spS T a (-1) F (mxl F)) = some (.ext 0, spS T e (-1) G (mxl G))) ∨
    (∃ p, 0 ≤ p ∧ (∃ G e b, Pl T e ∧ loopW tab [6, 7] b_impl_Parse_0 (ipS T a (-1) F) = some (.ext 0, ipS T e b G) ∧ (b = p ∨ (b = -1 ∧ ¬ (tk T e).fKind = 0 ∧ (tk T e).fAt = p))) ∧ ∃ G e d, loopW tab [4, 7, 8, 9] b_spec_Parse_0 (spS T a (-1) F (mxl F)) = some (.ext 0, spS T e p G d))
  | 0, a, F, hP, hF, hl, hm => by have := hP.h; omega
  | m + 1, a, F, hP, hF, hl, hm => by
    have hah := hP.h
    have hmm := hP.m
    cases z : isB T a (-1) ⟨#[102, 117, 110, 99]⟩
    · by_cases hk : (tk T a).fKind = 0
      · exact Or.inl ⟨F, a, hP, by omega, hF, hl, by omega, hk, top_end hT hP z F, stop_end hP hk F _⟩
      · have hp := hT.p _ hP
        obtain ⟨y, e, hE, hS, hb⟩ := sblock_dead hP hp
        have hf := sfun_all (word_F hP z) (sname_dead hP hp) (stake_dead hP hp _) (sfun_dead hp _ _) (stake_dead hP hp _) hb
        have hg := stop_go hP hk (f := ⟨noS, [], y⟩) hS hf F (by omega) (mxl F)
        rw [stop_dead hp] at hg
        exact Or.inr ⟨(tk T a).fAt, hp, ⟨F, a, -1, hP, top_end hT hP z F, Or.inr ⟨rfl, hk, rfl⟩⟩, _, _, _, hg⟩
    · have hk : ¬ (tk T a).fKind = 0 := by
        simp [isB] at z
        omega
      rcases function_both hT hP z with ⟨f, e, h1, h2, h3, h4, h5, h6⟩ | ⟨p, hp, ⟨f, e, h1, h2, h3⟩, f2, e2, h4, h5, h6⟩
      · have ih := tops hT m e (F ++ [f]) h1 (fms_snoc hF h3) (by simp; omega) (by omega)
        rw [top_go hT hP z h5 F (by omega), stop_go hP hk h3.bd h6 F (by omega) (mxl F), ← mxl_snoc]
        rcases ih with ⟨G, e3, k1, k2, k3, k4, k5, k6, k7, k8⟩ | ih
        · rw [fcts_snoc] at k5
          exact Or.inl ⟨G, e3, k1, by omega, k3, k4, by omega, k6, k7, k8⟩
        · exact Or.inr ih
      · have hg := top_go hT hP z h3 F (by omega)
        rw [top_dead h1 hp] at hg
        have hg2 := stop_go hP hk h5.bd h6 F (by omega) (mxl F)
        rw [stop_dead hp] at hg2
        exact Or.inr ⟨p, hp, ⟨_, e, p, h1, hg, Or.inl rfl⟩, _, _, _, hg2⟩
theorem mx_deep : ∀ (F : List TFunc) (d : Int), decide (F.foldl mx d > 20) = (decide (d > 20) || F.any fun f => decide (f.fBody.dp > 20))
  | [], d => by simp
  | f :: F, d => by
    rw [List.foldl_cons, mx_deep F, List.any_cons, ← Bool.or_assoc]
    congr 1
    rw [← Bool.decide_or]
    refine decide_eq_decide.2 ?_
    simp only [mx]
    split <;> omega
theorem deep_l0 (F : List TFunc) (hl : F.length ≤ 1048576) (hF : Fms F) : ∀ (Bl : List TFunc) (j : Int), F.drop j.toNat = Bl → 0 ≤ j →
    loopW tab [7, 52, 53, 54] b_impl_Parse_1 { env := upd (upd (upd (upd emp 54 (some (I j))) 53 (some (I (F.length : Int)))) 52 (some (.ref (0, 0) []))) 7 (some (.ref (0, 0) [])), heap := upd emp (0, 0) (some (.s 6 (F.map TFunc.o))), fr := 0, next := 1 } = if (Bl.any fun f => decide (f.fBody.dp > 20)) = true then some (.ret, { env := upd (upd emp 3 (some (I 0))) 2 (some (.d (.s 6 []))), heap := emp, fr := 0, next := 0 }) else some (.ext 2, { env := upd emp 7 (some (.ref (0, 0) [])), heap := upd emp (0, 0) (some (.s 6 (F.map TFunc.o))), fr := 0, next := 1 })
  | [], j, hd, hj => by
    unfold loopW
    conv => lhs; arg 1; unfold b_impl_Parse_1
    have h1 := dropn hd hj
    simp only [List.any_nil, Bool.false_eq_true, if_false]
    simp (maxSteps := 999999) (implicitDefEqProofs := false) (disch := (first | assumption | omega)) only [go_sem, simprocAttr]
  | f :: Bl, j, hd, hj => by
    unfold loopW
    conv => lhs; arg 1; unfold b_impl_Parse_1
    have h1 := dropc hd hj
    have h5 := h1.2.1
    have h2 := getm TFunc.o h1.1
    have h3 := (Deep_ok f.fBody (hF f h1.2.2.2.1).bd).2
    have ih := deep_l0 F hl hF Bl (j + 1) h1.2.2.1 (by omega)
    rw [List.any_cons]
    by_cases c : f.fBody.dp > 20
    · simp only [c, decide_true, Bool.true_or, if_true]
      simp only [TFunc.o] at h2
      simp (maxSteps := 999999) (implicitDefEqProofs := false) (disch := (first | assumption | omega)) only [go_sem, simprocAttr, h2, h3, c, TNode.fzs, TParam.fzs]
    · simp only [c, decide_false, Bool.false_or]
      rw [← ih]
      simp only [TFunc.o] at h2
      simp (maxSteps := 999999) (implicitDefEqProofs := false) (disch := (first | assumption | omega)) only [go_sem, simprocAttr, h2, h3, c, TNode.fzs, TParam.fzs]
theorem parse_alike (s : ByteArray) (hs : s.size ≤ 1048576) : ∃ F r, F.length ≤ 1048576 ∧ Fms F ∧ TFunc.cts F ≤ 1000000 ∧ call tab impl_Parse [Str s] = some (.tup [.d (.s 6 (F.map TFunc.o)), I r]) ∧ call tab spec_Parse [Str s] = some (.tup [.d (.s 6 (F.map TFunc.r)), I r]) := by
  have i0 := impl_Tokens_ok s (by omega)
  have s0 := spec_Tokens_ok s (by omega)
  by_cases hb : (toksT s).2 = -1
  · obtain ⟨hT, hP⟩ := tf_toks hb
    rw [hb] at i0 s0
    generalize (toksT s).1 = T at *
    rcases tops hT T.length 0 [] hP (by intro y hy; simp at hy) (by simp) (by omega) with ⟨G, e, k1, k2, k3, k4, k5, k6, k7, k8⟩ | ⟨p, hp, ⟨G, e, b, k1, k2, k3⟩, G2, e2, d2, k4⟩
    · have hkh := k1.h
      have hkm := k1.m
      have hc0 : TFunc.cts [] = 0 := rfl
      have hm0 : mxl [] = 0 := rfl
      rw [hc0] at k5
      rw [hm0] at k8
      have i1 := impl_here_ok (-1) k1
      have hmd := mx_deep G 0
      have hd := deep_l0 G (by omega) k3 G 0 rfl (by omega)
      obtain ⟨v, hv⟩ : ∃ v, mxl G = v := ⟨_, rfl⟩
      simp only [hv] at k8 hmd
      simp only [show decide ((0 : Int) > 20) = false from rfl, Bool.false_or] at hmd
      rw [← hmd] at hd
      simp only [ipS, spS, ph, pc, TToken.xo, k6, List.map_nil] at k7 k8 i1
      by_cases c1 : (G.length : Int) > 40
      · refine ⟨[], 0, by simp, by intro y hy; simp at hy, by decide, ?_, ?_⟩
        · rw [call_of t_impl_Parse _ rfl, c_impl_Parse]
          simp (maxSteps := 999999) (implicitDefEqProofs := false) (disch := (first | assumption | omega)) only [go_sem, simprocAttr, i0, k7, i1, c1, List.map_nil]
        · rw [call_of t_spec_Parse _ rfl, c_spec_Parse]
          simp (maxSteps := 999999) (implicitDefEqProofs := false) (disch := (first | assumption | omega)) only [go_sem, simprocAttr, s0, k8, c1, List.map_nil]
      · by_cases c2 : v > 20
        · simp only [c2, decide_true, if_true] at hd
          refine ⟨[], 0, by simp, by intro y hy; simp at hy, by decide, ?_, ?_⟩
          · rw [call_of t_impl_Parse _ rfl, c_impl_Parse]
            simp (maxSteps := 999999) (implicitDefEqProofs := false) (disch := (first | assumption | omega)) only [go_sem, simprocAttr, i0, k7, i1, c1, hd, List.map_nil]
          · rw [call_of t_spec_Parse _ rfl, c_spec_Parse]
            simp (maxSteps := 999999) (implicitDefEqProofs := false) (disch := (first | assumption | omega)) only [go_sem, simprocAttr, s0, k8, c1, c2, List.map_nil]
        · simp only [c2, decide_false, Bool.false_eq_true, if_false] at hd
          refine ⟨G, -1, by omega, k3, by omega, ?_, ?_⟩
          · rw [call_of t_impl_Parse _ rfl, c_impl_Parse]
            simp (maxSteps := 999999) (implicitDefEqProofs := false) (disch := (first | assumption | omega)) only [go_sem, simprocAttr, i0, k7, i1, c1, hd]
          · rw [call_of t_spec_Parse _ rfl, c_spec_Parse]
            simp (maxSteps := 999999) (implicitDefEqProofs := false) (disch := (first | assumption | omega)) only [go_sem, simprocAttr, s0, k8, c1, c2]
    · have hm0 : mxl [] = 0 := rfl
      rw [hm0] at k4
      refine ⟨[], p, by simp, by intro y hy; simp at hy, by decide, ?_, ?_⟩
      · have i1 := impl_here_ok b k1
        rcases k3 with rfl | ⟨rfl, k5, rfl⟩
        · have i2 := fail_dead (T := T) (a := e) hp (tk T e).fAt
          rw [call_of t_impl_Parse _ rfl, c_impl_Parse]
          simp only [ipS, ph, pc, List.map_nil] at k2 i1 i2 ⊢
          by_cases c : (tk T e).fKind = 0
          · simp (maxSteps := 999999) (implicitDefEqProofs := false) (disch := (first | assumption | omega)) only [go_sem, simprocAttr, i0, k2, i1, i2, c]
          · simp (maxSteps := 999999) (implicitDefEqProofs := false) (disch := (first | assumption | omega)) only [go_sem, simprocAttr, i0, k2, i1, i2, c]
        · have i2 := failAt_T (T := T) (a := e) (tk T e).fAt
          rw [call_of t_impl_Parse _ rfl, c_impl_Parse]
          simp only [ipS, ph, pc, List.map_nil] at k2 i1 i2 ⊢
          simp (maxSteps := 999999) (implicitDefEqProofs := false) (disch := (first | assumption | omega)) only [go_sem, simprocAttr, i0, k2, i1, i2, k5]
      · rw [call_of t_spec_Parse _ rfl, c_spec_Parse]
        simp only [spS, pc, List.map_nil] at k4 ⊢
        simp (maxSteps := 999999) (implicitDefEqProofs := false) (disch := (first | assumption | omega)) only [go_sem, simprocAttr, s0, k4]
  · have hge : 0 ≤ (toksT s).2 := by
      unfold toksT at hb ⊢
      split
      · rename_i c
        split
        · rename_i c2
          rw [if_pos c, if_pos c2] at hb
          exact absurd rfl hb
        · rename_i c2
          have := (toksR_len s (by omega) s.size 0 (by omega) (by omega)).2.1
          simp only
          omega
      · simp
    generalize (toksT s).2 = v at *
    refine ⟨[], v, by simp, by intro y hy; simp at hy, by decide, ?_, ?_⟩
    · rw [call_of t_impl_Parse _ rfl, c_impl_Parse]
      simp (maxSteps := 999999) (implicitDefEqProofs := false) (disch := (first | assumption | omega)) only [go_sem, simprocAttr, i0, List.map_nil]
    · rw [call_of t_spec_Parse _ rfl, c_spec_Parse]
      simp (maxSteps := 999999) (implicitDefEqProofs := false) (disch := (first | assumption | omega)) only [go_sem, simprocAttr, s0, List.map_nil]
theorem law_FnExactParse (s : ByteArray) : call tab laws_FnExactParse [Str s] = some (B true) := by
  rw [call_of t_laws_FnExactParse _ rfl, c_laws_FnExactParse]
  by_cases hs : (s.size : Int) > 1048576
  · simp (maxSteps := 999999) (implicitDefEqProofs := false) (disch := (first | assumption | omega)) only [go_sem, simprocAttr]
  · obtain ⟨F, r, h1, h2, h3, h4, h5⟩ := parse_alike s (by omega)
    have g1 := laws_eqFuncS_ok F h1 h2
    have g2 := laws_markFuncS_ok F 1 (by omega) (by have := TFunc.cts_nn F; omega)
    have g3 := laws_heldFuncS_ok F 1 (by omega) (by have := TFunc.cts_nn F; omega)
    have g4 := TFunc.cts_nn F
    simp (maxSteps := 999999) (implicitDefEqProofs := false) (disch := (first | assumption | omega)) only [go_sem, simprocAttr, h4, h5, g1, g2, g3, TFunc.fzr, TFunc.fzs, TFunc.noR]
theorem pure_FnExactParse (xs : List X) (h : fitXs [(false, [.s])] xs) : call tab laws_FnExactParse xs = some (.d (.v (.bool true))) := by
  simp only [fitXs, fitX] at h
  obtain ⟨x0, r0, rfl, ⟨d0, rfl, hf0⟩, rfl⟩ := h
  rw [fit] at hf0
  obtain ⟨y0, rfl, hy0⟩ := hf0
  exact law_FnExactParse y0
end Go.Ev.G
