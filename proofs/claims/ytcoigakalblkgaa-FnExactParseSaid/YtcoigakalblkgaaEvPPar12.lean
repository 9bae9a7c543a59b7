import Derived.Test.YtcoigakalblkgaaEvPTok4
/- The parsers: their small steps. -/
set_option linter.all false
namespace Go.Ev.G
set_option maxRecDepth 8000
set_option maxHeartbeats 4000000
abbrev kp : X := .ptr (0, 0) [] 0 0
def pc (T : List TToken) (a b : Int) : List D := [.s 4 (T.map TToken.o), DI a, DI b]
abbrev ph (T : List TToken) (a b : Int) : Heap := upd emp (0, 0) (some (.s 3 [pc T a b]))
def tk (T : List TToken) (a : Int) : TToken := (T[a.toNat]?).getD tZ
structure Pl (T : List TToken) (a : Int) : Prop where
  l : 0 ≤ a
  h : a < T.length
  m : (T.length : Int) ≤ 10000
theorem Pl.get {T : List TToken} {a : Int} (h : Pl T a) : (T.map TToken.o)[a.toNat]? = some (tk T a).o := by
  have h1 := h.l; have h2 := h.h
  have h3 : a.toNat < T.length := by omega
  rw [List.getElem?_map, tk, List.getElem?_eq_getElem h3]; rfl
def nx (T : List TToken) (a : Int) : Int := if a < (T.length : Int) - 1 then a + 1 else a
theorem Pl.nx {T : List TToken} {a : Int} (h : Pl T a) : Pl T (nx T a) := by
  have h1 := h.l; have h2 := h.h; have h3 := h.m
  unfold G.nx
  split
  · exact ⟨by omega, by omega, h3⟩
  · exact h
variable {T : List TToken} {a : Int} (b : Int)
theorem impl_here_ok (hP : Pl T a) : evCW tab impl_parser_here [kp] (ph T a b) 1 = some ((tk T a).xo, ph T a b) := by
  have h1 := hP.l; have h2 := hP.h; have h3 := hP.m; have h4 := hP.get
  rw [evCW_of t_impl_parser_here _ _ _ rfl, c_impl_parser_here]
  simp only [ph, pc, TToken.o] at h4 ⊢
  simp (maxSteps := 999999) (implicitDefEqProofs := false) (disch := (first | assumption | omega)) only [go_sem, simprocAttr, h4]
theorem spec_l6Now_ok (hP : Pl T a) : evCW tab spec_l6Now [kp] (ph T a b) 1 = some ((tk T a).xo, ph T a b) := by
  have h1 := hP.l; have h2 := hP.h; have h3 := hP.m; have h4 := hP.get
  rw [evCW_of t_spec_l6Now _ _ _ rfl, c_spec_l6Now]
  simp only [ph, pc, TToken.o] at h4 ⊢
  simp (maxSteps := 999999) (implicitDefEqProofs := false) (disch := (first | assumption | omega)) only [go_sem, simprocAttr, h4]
theorem impl_next_ok (hP : Pl T a) : evCW tab impl_parser_next [kp] (ph T a b) 1 = some (.tup [], ph T (nx T a) b) := by
  have h1 := hP.l; have h2 := hP.h; have h3 := hP.m
  rw [evCW_of t_impl_parser_next _ _ _ rfl, c_impl_parser_next]
  simp only [ph, pc, nx]
  by_cases c : a < (T.length : Int) - 1
  · simp only [if_pos c]; simp (maxSteps := 999999) (implicitDefEqProofs := false) (disch := (first | assumption | omega)) only [go_sem, simprocAttr]
  · simp only [if_neg c]; simp (maxSteps := 999999) (implicitDefEqProofs := false) (disch := (first | assumption | omega)) only [go_sem, simprocAttr]
theorem spec_l6Next_ok (hP : Pl T a) : evCW tab spec_l6Next [kp] (ph T a b) 1 = some (.tup [], ph T (nx T a) b) := by
  have h1 := hP.l; have h2 := hP.h; have h3 := hP.m
  rw [evCW_of t_spec_l6Next _ _ _ rfl, c_spec_l6Next]
  simp only [ph, pc, nx]
  by_cases c : a < (T.length : Int) - 1
  · simp only [if_pos c]; simp (maxSteps := 999999) (implicitDefEqProofs := false) (disch := (first | assumption | omega)) only [go_sem, simprocAttr]
  · simp only [if_neg c]; simp (maxSteps := 999999) (implicitDefEqProofs := false) (disch := (first | assumption | omega)) only [go_sem, simprocAttr]
def fl (b p : Int) : Int := if b < 0 then p else b
theorem impl_failAt_ok (p : Int) : evCW tab impl_parser_failAt [kp, I p] (ph T a b) 1 = some (.tup [], ph T a (fl b p)) := by
  rw [evCW_of t_impl_parser_failAt _ _ _ rfl, c_impl_parser_failAt]
  simp only [ph, pc, fl]
  by_cases c : b < 0
  · simp only [if_pos c]; simp (maxSteps := 999999) (implicitDefEqProofs := false) (disch := (first | assumption | omega)) only [go_sem, simprocAttr]
  · simp only [if_neg c]; simp (maxSteps := 999999) (implicitDefEqProofs := false) (disch := (first | assumption | omega)) only [go_sem, simprocAttr]
theorem spec_l6Bad_ok (hP : Pl T a) : evCW tab spec_l6Bad [kp] (ph T a b) 1 = some (.tup [], ph T a (fl b (tk T a).fAt)) := by
  have h0 := spec_l6Now_ok b hP
  rw [evCW_of t_spec_l6Bad _ _ _ rfl, c_spec_l6Bad]
  simp only [ph, pc, fl] at h0 ⊢
  by_cases c : b < 0
  · simp only [if_pos c]; simp (maxSteps := 999999) (implicitDefEqProofs := false) (disch := (first | assumption | omega)) only [go_sem, simprocAttr, h0]
  · simp only [if_neg c]; simp (maxSteps := 999999) (implicitDefEqProofs := false) (disch := (first | assumption | omega)) only [go_sem, simprocAttr, h0]
def tkB (T : List TToken) (a b : Int) (w : ByteArray) : Bool := decide (b < 0) && (decide ((tk T a).fText = w) && (decide ((tk T a).fKind = 3) || decide ((tk T a).fKind = 1)))
def sgB (T : List TToken) (a b : Int) (w : ByteArray) : Bool := decide (b < 0) && (decide ((tk T a).fKind = 3) && decide ((tk T a).fText = w))
def isB (T : List TToken) (a b : Int) (w : ByteArray) : Bool := decide (b < 0) && (decide ((tk T a).fKind = 1) && decide ((tk T a).fText = w))
theorem impl_take_ok (hP : Pl T a) (w : ByteArray) : evCW tab impl_parser_take [kp, Str w] (ph T a b) 1 = some (B (tkB T a b w), ph T (if tkB T a b w = true then nx T a else a) b) := by
  have h0 := impl_here_ok b hP
  have h1 := impl_next_ok b hP
  rw [evCW_of t_impl_parser_take _ _ _ rfl, c_impl_parser_take]
  simp only [tkB]
  by_cases c1 : b < 0
  · by_cases c2 : (tk T a).fText = w
    · by_cases c3 : (tk T a).fKind = 3
      · simp only [c1, c2, c3, decide_true, Bool.true_and, Bool.true_or, if_true]
        simp only [ph, pc] at h0 h1 ⊢
        simp (maxSteps := 999999) (implicitDefEqProofs := false) (disch := (first | assumption | omega)) only [go_sem, simprocAttr, h0, h1]
      · by_cases c4 : (tk T a).fKind = 1
        · simp only [c1, c2, c3, c4, decide_true, decide_false, Bool.true_and, Bool.or_true, if_true]
          simp only [ph, pc] at h0 h1 ⊢
          simp (maxSteps := 999999) (implicitDefEqProofs := false) (disch := (first | assumption | omega)) only [go_sem, simprocAttr, h0, h1]
        · simp only [c1, c2, c3, c4, decide_true, decide_false, Bool.true_and, Bool.or_false, Bool.false_eq_true, if_false]
          simp only [ph, pc] at h0 h1 ⊢
          simp (maxSteps := 999999) (implicitDefEqProofs := false) (disch := (first | assumption | omega)) only [go_sem, simprocAttr, h0, h1]
    · simp only [c1, c2, decide_true, decide_false, Bool.true_and, Bool.false_and, Bool.false_eq_true, if_false]
      simp only [ph, pc] at h0 h1 ⊢
      simp (maxSteps := 999999) (implicitDefEqProofs := false) (disch := (first | assumption | omega)) only [go_sem, simprocAttr, h0, h1]
  · simp only [c1, decide_false, Bool.false_and, Bool.false_eq_true, if_false]
    simp only [ph, pc] at h0 h1 ⊢
    simp (maxSteps := 999999) (implicitDefEqProofs := false) (disch := (first | assumption | omega)) only [go_sem, simprocAttr, h0, h1]
theorem spec_l6Sign_ok (hP : Pl T a) (w : ByteArray) : evCW tab spec_l6Sign [kp, Str w] (ph T a b) 1 = some (B (sgB T a b w), ph T a b) := by
  have h0 := spec_l6Now_ok b hP
  rw [evCW_of t_spec_l6Sign _ _ _ rfl, c_spec_l6Sign]
  simp only [sgB]
  by_cases c1 : b < 0
  · by_cases c3 : (tk T a).fKind = 3
    · by_cases c2 : (tk T a).fText = w
      · simp only [c1, c2, c3, decide_true, Bool.true_and]
        simp only [ph, pc] at h0 ⊢
        simp (maxSteps := 999999) (implicitDefEqProofs := false) (disch := (first | assumption | omega)) only [go_sem, simprocAttr, h0]
      · simp only [c1, c2, c3, decide_true, decide_false, Bool.true_and]
        simp only [ph, pc] at h0 ⊢
        simp (maxSteps := 999999) (implicitDefEqProofs := false) (disch := (first | assumption | omega)) only [go_sem, simprocAttr, h0]
    · simp only [c1, c3, decide_true, decide_false, Bool.true_and, Bool.false_and]
      simp only [ph, pc] at h0 ⊢
      simp (maxSteps := 999999) (implicitDefEqProofs := false) (disch := (first | assumption | omega)) only [go_sem, simprocAttr, h0]
  · simp only [c1, decide_false, Bool.false_and]
    simp only [ph, pc] at h0 ⊢
    simp (maxSteps := 999999) (implicitDefEqProofs := false) (disch := (first | assumption | omega)) only [go_sem, simprocAttr, h0]
theorem spec_l6Is_ok (hP : Pl T a) (w : ByteArray) : evCW tab spec_l6Is [kp, Str w] (ph T a b) 1 = some (B (isB T a b w), ph T a b) := by
  have h0 := spec_l6Now_ok b hP
  rw [evCW_of t_spec_l6Is _ _ _ rfl, c_spec_l6Is]
  simp only [isB]
  by_cases c1 : b < 0
  · by_cases c3 : (tk T a).fKind = 1
    · by_cases c2 : (tk T a).fText = w
      · simp only [c1, c2, c3, decide_true, Bool.true_and]
        simp only [ph, pc] at h0 ⊢
        simp (maxSteps := 999999) (implicitDefEqProofs := false) (disch := (first | assumption | omega)) only [go_sem, simprocAttr, h0]
      · simp only [c1, c2, c3, decide_true, decide_false, Bool.true_and]
        simp only [ph, pc] at h0 ⊢
        simp (maxSteps := 999999) (implicitDefEqProofs := false) (disch := (first | assumption | omega)) only [go_sem, simprocAttr, h0]
    · simp only [c1, c3, decide_true, decide_false, Bool.true_and, Bool.false_and]
      simp only [ph, pc] at h0 ⊢
      simp (maxSteps := 999999) (implicitDefEqProofs := false) (disch := (first | assumption | omega)) only [go_sem, simprocAttr, h0]
  · simp only [c1, decide_false, Bool.false_and]
    simp only [ph, pc] at h0 ⊢
    simp (maxSteps := 999999) (implicitDefEqProofs := false) (disch := (first | assumption | omega)) only [go_sem, simprocAttr, h0]
theorem impl_need_ok (hP : Pl T a) (w : ByteArray) : evCW tab impl_parser_need [kp, Str w] (ph T a b) 1 = some (.tup [], if tkB T a b w = true then ph T (nx T a) b else ph T a (fl b (tk T a).fAt)) := by
  have h0 := impl_take_ok b hP w
  have h1 := impl_here_ok b hP
  have h2 := impl_failAt_ok (T := T) (a := a) b (tk T a).fAt
  rw [evCW_of t_impl_parser_need _ _ _ rfl, c_impl_parser_need]
  obtain ⟨z, hz⟩ : ∃ z, tkB T a b w = z := ⟨_, rfl⟩
  simp only [hz] at h0 ⊢
  cases z <;> simp only [Bool.false_eq_true, if_false, if_true] at h0 ⊢ <;> simp (maxSteps := 999999) (implicitDefEqProofs := false) (disch := (first | assumption | omega)) only [go_sem, simprocAttr, h0, h1, h2]
theorem spec_l6Take_ok (hP : Pl T a) (w : ByteArray) : evCW tab spec_l6Take [kp, Str w] (ph T a b) 1 = some (.tup [], if sgB T a b w = true then ph T (nx T a) b else ph T a (fl b (tk T a).fAt)) := by
  have h0 := spec_l6Sign_ok b hP w
  have h1 := spec_l6Bad_ok b hP
  have h2 := spec_l6Next_ok b hP
  rw [evCW_of t_spec_l6Take _ _ _ rfl, c_spec_l6Take]
  obtain ⟨z, hz⟩ : ∃ z, sgB T a b w = z := ⟨_, rfl⟩
  simp only [hz] at h0 ⊢
  cases z <;> simp only [Bool.false_eq_true, if_false, if_true] <;> simp (maxSteps := 999999) (implicitDefEqProofs := false) (disch := (first | assumption | omega)) only [go_sem, simprocAttr, h0, h1, h2]
theorem spec_l6Word_ok (hP : Pl T a) (w : ByteArray) : evCW tab spec_l6Word [kp, Str w] (ph T a b) 1 = some (.tup [], if isB T a b w = true then ph T (nx T a) b else ph T a (fl b (tk T a).fAt)) := by
  have h0 := spec_l6Is_ok b hP w
  have h1 := spec_l6Bad_ok b hP
  have h2 := spec_l6Next_ok b hP
  rw [evCW_of t_spec_l6Word _ _ _ rfl, c_spec_l6Word]
  obtain ⟨z, hz⟩ : ∃ z, isB T a b w = z := ⟨_, rfl⟩
  simp only [hz] at h0 ⊢
  cases z <;> simp only [Bool.false_eq_true, if_false, if_true] <;> simp (maxSteps := 999999) (implicitDefEqProofs := false) (disch := (first | assumption | omega)) only [go_sem, simprocAttr, h0, h1, h2]
end Go.Ev.G

/- The parsers: keywords, names, numbers, nodes. -/
set_option linter.all false
namespace Go.Ev.G
set_option maxRecDepth 8000
set_option maxHeartbeats 4000000
def kwS : List ByteArray := [⟨#[102, 117, 110, 99]⟩, ⟨#[108, 101, 116]⟩, ⟨#[105, 102]⟩, ⟨#[101, 108, 115, 101]⟩, ⟨#[119, 104, 105, 108, 101]⟩, ⟨#[112, 114, 105, 110, 116]⟩, ⟨#[114, 101, 116, 117, 114, 110]⟩, ⟨#[103, 111]⟩, ⟨#[115, 101, 110, 100]⟩, ⟨#[114, 101, 99, 118]⟩, ⟨#[99, 108, 111, 115, 101]⟩, ⟨#[115, 101, 108, 101, 99, 116]⟩, ⟨#[99, 97, 115, 101]⟩, ⟨#[100, 101, 102, 97, 117, 108, 116]⟩, ⟨#[109, 97, 107, 101]⟩, ⟨#[99, 104, 97, 110]⟩, ⟨#[112, 111, 107, 101]⟩, ⟨#[110, 111, 116, 101]⟩, ⟨#[115, 119, 97, 112]⟩, ⟨#[104, 97, 108, 116]⟩, ⟨#[111, 117, 116]⟩, ⟨#[112, 101, 101, 107]⟩, ⟨#[99, 97, 115]⟩, ⟨#[99, 111, 114, 101]⟩, ⟨#[97, 100, 100, 114]⟩]
abbrev strW (ws : List ByteArray) : List (List D) := ws.map fun w => [DS w]
theorem slices_Index_str_l0 (ws : List ByteArray) (hl : ws.length ≤ 1048576) (v : ByteArray) : ∀ (Bl : List ByteArray) (j : Int), ws.drop j.toNat = Bl → 0 ≤ j →
    loopW tab [0, 1, 7, 8] b_slices_Index_string_string_0 { env := upd (upd (upd (upd emp 8 (some (I j))) 7 (some (I (ws.length : Int)))) 1 (some (Str v))) 0 (some (.d (.r (strW ws)))), heap := emp, fr := 0, next := 0 } = if firstIx (fun w => decide (v = w)) j Bl = -1 then some (.ext 0, { env := emp, heap := emp, fr := 0, next := 0 }) else some (.ret, { env := upd emp 4 (some (I (firstIx (fun w => decide (v = w)) j Bl))), heap := emp, fr := 0, next := 0 })
  | [], j, hd, hj => by
    unfold loopW
    conv => lhs; arg 1; unfold b_slices_Index_string_string_0
    have h1 := dropn hd hj
    simp only [firstIx, if_true]
    simp (maxSteps := 999999) (implicitDefEqProofs := false) (disch := (first | assumption | omega)) only [go_sem, simprocAttr]
  | x :: Bl, j, hd, hj => by
    unfold loopW
    conv => lhs; arg 1; unfold b_slices_Index_string_string_0
    have h1 := dropc hd hj
    have h5 := h1.2.1
    have h2 := getm (fun w => [DS w]) h1.1
    have ih := slices_Index_str_l0 ws hl v Bl (j + 1) h1.2.2.1 (by omega)
    rw [firstIx]
    by_cases hp : v = x
    · have k : decide (v = x) = true := decide_eq_true hp
      simp only [k, if_true]
      rw [if_neg (by omega)]
      simp (maxSteps := 999999) (implicitDefEqProofs := false) (disch := (first | assumption | omega)) only [go_sem, simprocAttr, h2]
    · have k : decide (v = x) = false := decide_eq_false hp
      simp only [k, Bool.false_eq_true, if_false]
      rw [← ih]
      simp (maxSteps := 999999) (implicitDefEqProofs := false) (disch := (first | assumption | omega)) only [go_sem, simprocAttr, h2]
theorem slices_Contains_str_ok (ws : List ByteArray) (hl : ws.length ≤ 1048576) (v : ByteArray) : call tab slices_Contains_string_string [.d (.r (strW ws)), Str v] = some (B (ws.any fun w => decide (v = w))) := by
  have h0 := slices_Index_str_l0 ws hl v ws 0 rfl (by omega)
  have h1 : call tab slices_Index_string_string [.d (.r (strW ws)), Str v] = some (I (firstIx (fun w => decide (v = w)) 0 ws)) := by
    rw [call_of t_slices_Index_string_string _ rfl, c_slices_Index_string_string]
    by_cases hp : firstIx (fun w => decide (v = w)) 0 ws = -1
    · rw [if_pos hp] at h0
      simp (maxSteps := 999999) (implicitDefEqProofs := false) (disch := (first | assumption | omega)) only [go_sem, simprocAttr, h0, hp]
    · rw [if_neg hp] at h0
      simp (maxSteps := 999999) (implicitDefEqProofs := false) (disch := (first | assumption | omega)) only [go_sem, simprocAttr, h0]
  rw [firstIx_any _ 0 (by omega)]
  rw [call_of t_slices_Contains_string_string _ rfl, c_slices_Contains_string_string]
  simp (maxSteps := 999999) (implicitDefEqProofs := false) (disch := (first | assumption | omega)) only [go_sem, simprocAttr, h1]
def kwB (v : ByteArray) : Bool := kwS.any fun w => decide (v = w)
theorem impl_Keyword_ok (v : ByteArray) : call tab impl_Keyword [Str v] = some (B (kwB v)) := by
  have h0 := slices_Contains_str_ok kwS (by decide) v
  rw [← kwB] at h0
  generalize kwB v = z at *
  simp only [kwS, strW, List.map_cons, List.map_nil] at h0
  rw [call_of t_impl_Keyword _ rfl, c_impl_Keyword]
  simp (maxSteps := 999999) (implicitDefEqProofs := false) (disch := (first | assumption | omega)) only [go_sem, simprocAttr, Ev.fzs, Ev.fzl, D.fz, h0]
theorem spec_Keyword_l0 (ws : List ByteArray) (hl : ws.length ≤ 1048576) (v : ByteArray) : ∀ (Bl : List ByteArray) (j : Int), ws.drop j.toNat = Bl → 0 ≤ j →
    loopW tab [0, 3, 4] b_spec_Keyword_0 { env := upd (upd (upd emp 4 (some (I j))) 3 (some (.ref (0, 0) []))) 0 (some (Str v)), heap := upd emp (0, 0) (some (.s 1 (strW ws))), fr := 0, next := 1 } = if (Bl.any fun w => decide (v = w)) = true then some (.ret, { env := upd emp 2 (some (B true)), heap := emp, fr := 0, next := 0 }) else some (.ext 0, { env := emp, heap := emp, fr := 0, next := 0 })
  | [], j, hd, hj => by
    unfold loopW
    conv => lhs; arg 1; unfold b_spec_Keyword_0
    have h1 := dropn hd hj
    simp only [List.any_nil, Bool.false_eq_true, if_false]
    simp (maxSteps := 999999) (implicitDefEqProofs := false) (disch := (first | assumption | omega)) only [go_sem, simprocAttr]
  | x :: Bl, j, hd, hj => by
    unfold loopW
    conv => lhs; arg 1; unfold b_spec_Keyword_0
    have h1 := dropc hd hj
    have h5 := h1.2.1
    have h2 := getm (fun w => [DS w]) h1.1
    have ih := spec_Keyword_l0 ws hl v Bl (j + 1) h1.2.2.1 (by omega)
    rw [List.any_cons]
    by_cases hp : v = x
    · have k : decide (v = x) = true := decide_eq_true hp
      have hp' := hp.symm
      simp only [k, Bool.true_or, if_true]
      simp (maxSteps := 999999) (implicitDefEqProofs := false) (disch := (first | assumption | omega)) only [go_sem, simprocAttr, h2]
    · have k : decide (v = x) = false := decide_eq_false hp
      have hp' : ¬ x = v := fun h => hp h.symm
      simp only [k, Bool.false_or]
      rw [← ih]
      simp (maxSteps := 999999) (implicitDefEqProofs := false) (disch := (first | assumption | omega)) only [go_sem, simprocAttr, h2]
theorem spec_Keyword_ok (v : ByteArray) : call tab spec_Keyword [Str v] = some (B (kwB v)) := by
  have h0 := spec_Keyword_l0 kwS (by decide) v kwS 0 rfl (by omega)
  rw [← kwB] at h0
  obtain ⟨z, hz⟩ : ∃ z, kwB v = z := ⟨_, rfl⟩
  rw [hz] at h0 ⊢
  simp only [kwS, strW, List.map_cons, List.map_nil] at h0
  rw [call_of t_spec_Keyword _ rfl, c_spec_Keyword]
  cases z <;> simp only [Bool.false_eq_true, if_false, if_true] at h0 <;> simp (maxSteps := 999999) (implicitDefEqProofs := false) (disch := (first | assumption | omega)) only [go_sem, simprocAttr, h0]
variable {T : List TToken} {a : Int} (b : Int)
theorem updN' {α : Type} {k : Id} : (upd emp k none : Id → Option α) = emp := by funext j; simp [upd, emp]
theorem impl_isName_ok (hP : Pl T a) : evCW tab impl_parser_isName [kp] (ph T a b) 1 = some (B (decide ((tk T a).fKind = 1) && !kwB (tk T a).fText), ph T a b) := by
  have h0 := impl_here_ok b hP
  have h1 := impl_Keyword_ok (tk T a).fText
  rw [evCW_of t_impl_parser_isName _ _ _ rfl, c_impl_parser_isName]
  by_cases c : (tk T a).fKind = 1
  · simp only [c, decide_true, Bool.true_and]
    simp (maxSteps := 999999) (implicitDefEqProofs := false) (disch := (first | assumption | omega)) only [go_sem, simprocAttr, h0, h1]
  · simp only [c, decide_false, Bool.false_and]
    simp (maxSteps := 999999) (implicitDefEqProofs := false) (disch := (first | assumption | omega)) only [go_sem, simprocAttr, h0]
def nmB (T : List TToken) (a b : Int) : Bool := decide (b < 0) && (decide ((tk T a).fKind = 1) && !kwB (tk T a).fText)
def nuB (T : List TToken) (a b : Int) : Bool := decide (b < 0) && decide ((tk T a).fKind = 2)
theorem impl_name_ok (hP : Pl T a) : evCW tab impl_parser_name [kp] (ph T a b) 1 = some (Str (if nmB T a b = true then (tk T a).fText else noS), if nmB T a b = true then ph T (nx T a) b else ph T a (fl b (tk T a).fAt)) := by
  have h0 := impl_here_ok b hP
  have h1 := impl_isName_ok b hP
  have h2 := impl_next_ok b hP
  have h3 := impl_failAt_ok (T := T) (a := a) b (tk T a).fAt
  rw [evCW_of t_impl_parser_name _ _ _ rfl, c_impl_parser_name]
  simp only [nmB]
  obtain ⟨z, hz⟩ : ∃ z, (decide ((tk T a).fKind = 1) && !kwB (tk T a).fText) = z := ⟨_, rfl⟩
  simp only [hz] at h1 ⊢
  by_cases c1 : b < 0
  · cases z
    · simp only [c1, decide_true, Bool.true_and, Bool.false_eq_true, if_false]
      simp only [ph, pc] at h0 h1 h2 h3 ⊢
      simp (maxSteps := 999999) (implicitDefEqProofs := false) (disch := (first | assumption | omega)) only [go_sem, simprocAttr, h0, h1, h2, h3]
    · simp only [c1, decide_true, Bool.true_and, if_true]
      simp only [ph, pc] at h0 h1 h2 h3 ⊢
      simp (maxSteps := 999999) (implicitDefEqProofs := false) (disch := (first | assumption | omega)) only [go_sem, simprocAttr, h0, h1, h2, h3]
  · simp only [c1, decide_false, Bool.false_and, Bool.false_eq_true, if_false]
    simp only [ph, pc] at h0 h1 h2 h3 ⊢
    simp (maxSteps := 999999) (implicitDefEqProofs := false) (disch := (first | assumption | omega)) only [go_sem, simprocAttr, h0, h1, h2, h3]
theorem spec_l6Name_ok (hP : Pl T a) : evCW tab spec_l6Name [kp] (ph T a b) 1 = some (Str (if nmB T a b = true then (tk T a).fText else noS), if nmB T a b = true then ph T (nx T a) b else ph T a (fl b (tk T a).fAt)) := by
  have h0 := spec_l6Now_ok b hP
  have h1 := spec_Keyword_ok (tk T a).fText
  have h2 := spec_l6Next_ok b hP
  have h3 := spec_l6Bad_ok b hP
  rw [evCW_of t_spec_l6Name _ _ _ rfl, c_spec_l6Name]
  simp only [nmB]
  obtain ⟨z, hz⟩ : ∃ z, kwB (tk T a).fText = z := ⟨_, rfl⟩
  simp only [hz] at h1 ⊢
  by_cases c1 : b < 0
  · by_cases c2 : (tk T a).fKind = 1
    · cases z
      · simp only [c1, c2, decide_true, Bool.true_and, Bool.not_false, if_true]
        simp only [ph, pc] at h0 h2 h3 ⊢
        simp (maxSteps := 999999) (implicitDefEqProofs := false) (disch := (first | assumption | omega)) only [go_sem, simprocAttr, h0, h1, h2, h3]
      · simp only [c1, c2, decide_true, Bool.true_and, Bool.not_true, Bool.false_eq_true, if_false]
        simp only [ph, pc] at h0 h2 h3 ⊢
        simp (maxSteps := 999999) (implicitDefEqProofs := false) (disch := (first | assumption | omega)) only [go_sem, simprocAttr, h0, h1, h2, h3]
    · simp only [c1, c2, decide_true, decide_false, Bool.true_and, Bool.false_and, Bool.false_eq_true, if_false]
      simp only [ph, pc] at h0 h2 h3 ⊢
      simp (maxSteps := 999999) (implicitDefEqProofs := false) (disch := (first | assumption | omega)) only [go_sem, simprocAttr, h0, h2, h3]
  · simp only [c1, decide_false, Bool.false_and, Bool.false_eq_true, if_false]
    simp only [ph, pc] at h0 h2 h3 ⊢
    simp (maxSteps := 999999) (implicitDefEqProofs := false) (disch := (first | assumption | omega)) only [go_sem, simprocAttr, h0, h2, h3]
theorem impl_number_ok (hP : Pl T a) : evCW tab impl_parser_number [kp] (ph T a b) 1 = some (I (if nuB T a b = true then (tk T a).fN else 0), if nuB T a b = true then ph T (nx T a) b else ph T a (fl b (tk T a).fAt)) := by
  have h0 := impl_here_ok b hP
  have h2 := impl_next_ok b hP
  have h3 := impl_failAt_ok (T := T) (a := a) b (tk T a).fAt
  rw [evCW_of t_impl_parser_number _ _ _ rfl, c_impl_parser_number]
  simp only [nuB]
  by_cases c1 : b < 0
  · by_cases c2 : (tk T a).fKind = 2
    · simp only [c1, c2, decide_true, Bool.true_and, if_true]
      simp only [ph, pc] at h0 h2 h3 ⊢
      simp (maxSteps := 999999) (implicitDefEqProofs := false) (disch := (first | assumption | omega)) only [go_sem, simprocAttr, h0, h2, h3]
    · simp only [c1, c2, decide_true, decide_false, Bool.true_and, Bool.false_eq_true, if_false]
      simp only [ph, pc] at h0 h2 h3 ⊢
      simp (maxSteps := 999999) (implicitDefEqProofs := false) (disch := (first | assumption | omega)) only [go_sem, simprocAttr, h0, h2, h3]
  · simp only [c1, decide_false, Bool.false_and, Bool.false_eq_true, if_false]
    simp only [ph, pc] at h0 h2 h3 ⊢
    simp (maxSteps := 999999) (implicitDefEqProofs := false) (disch := (first | assumption | omega)) only [go_sem, simprocAttr, h0, h2, h3]
theorem node_all (ks : List TNode) : ((ks.map TNode.o).all fun el => el.length == 4) = true := by
  rw [List.all_map]
  exact List.all_eq_true.2 (fun x _ => by simp [TNode.o_def])
theorem spec_l6Node_ok (op : Int) (ks : List TNode) (hl : ks.length ≤ 1048576) : evCW tab spec_l6Node [I op, .ref (0, 0) []] (upd emp (0, 0) (some (.s 4 (ks.map TNode.o)))) 1 = some ((TNode.mk op noS 0 ks).xo, emp) := by
  rw [evCW_of t_spec_l6Node _ _ _ rfl, c_spec_l6Node]
  simp (maxSteps := 999999) (implicitDefEqProofs := false) (disch := (first | assumption | omega | (unfold appOk; (try simp only [List.length_map, List.length_append, List.length_cons, List.length_nil]); omega))) only [go_sem, simprocAttr, node_all, updN']
  rfl
end Go.Ev.G

/- The parsers: behind a failure. -/
set_option linter.all false
namespace Go.Ev.G
set_option maxRecDepth 8000
set_option maxHeartbeats 4000000
variable {T : List TToken} {a b : Int}
theorem fl_dead (hb : 0 ≤ b) (p : Int) : fl b p = b := by unfold fl; rw [if_neg (by omega)]
theorem take_dead (hP : Pl T a) (hb : 0 ≤ b) (w : ByteArray) : evCW tab impl_parser_take [kp, Str w] (ph T a b) 1 = some (B false, ph T a b) := by
  have h := impl_take_ok b hP w
  rw [show tkB T a b w = false by simp [tkB]; omega] at h
  exact h
theorem need_dead (hP : Pl T a) (hb : 0 ≤ b) (w : ByteArray) : evCW tab impl_parser_need [kp, Str w] (ph T a b) 1 = some (.tup [], ph T a b) := by
  have h := impl_need_ok b hP w
  rw [show tkB T a b w = false by simp [tkB]; omega, fl_dead hb] at h
  exact h
theorem sign_dead (hP : Pl T a) (hb : 0 ≤ b) (w : ByteArray) : evCW tab spec_l6Sign [kp, Str w] (ph T a b) 1 = some (B false, ph T a b) := by
  have h := spec_l6Sign_ok b hP w
  rw [show sgB T a b w = false by simp [sgB]; omega] at h
  exact h
theorem is_dead (hP : Pl T a) (hb : 0 ≤ b) (w : ByteArray) : evCW tab spec_l6Is [kp, Str w] (ph T a b) 1 = some (B false, ph T a b) := by
  have h := spec_l6Is_ok b hP w
  rw [show isB T a b w = false by simp [isB]; omega] at h
  exact h
theorem stake_dead (hP : Pl T a) (hb : 0 ≤ b) (w : ByteArray) : evCW tab spec_l6Take [kp, Str w] (ph T a b) 1 = some (.tup [], ph T a b) := by
  have h := spec_l6Take_ok b hP w
  rw [show sgB T a b w = false by simp [sgB]; omega, fl_dead hb] at h
  exact h
theorem word_dead (hP : Pl T a) (hb : 0 ≤ b) (w : ByteArray) : evCW tab spec_l6Word [kp, Str w] (ph T a b) 1 = some (.tup [], ph T a b) := by
  have h := spec_l6Word_ok b hP w
  rw [show isB T a b w = false by simp [isB]; omega, fl_dead hb] at h
  exact h
theorem sname_dead (hP : Pl T a) (hb : 0 ≤ b) : evCW tab spec_l6Name [kp] (ph T a b) 1 = some (Str noS, ph T a b) := by
  have h := spec_l6Name_ok b hP
  rw [show nmB T a b = false by simp [nmB]; omega, fl_dead hb] at h
  exact h
theorem fail_dead (hb : 0 ≤ b) (p : Int) : evCW tab impl_parser_failAt [kp, I p] (ph T a b) 1 = some (.tup [], ph T a b) := by
  have h := impl_failAt_ok (T := T) (a := a) b p
  rw [fl_dead hb] at h
  exact h
theorem leaf_sm {op v : Int} : (TNode.mk op noS v []).Sm := .mk (by decide) (by simp) (by simp)
def Dead (T : List TToken) (b : Int) (r : Option (X × Heap)) : Prop := ∃ n e, Pl T e ∧ n.Sm ∧ r = some (TNode.xo n, ph T e b)
theorem satom_dead (hP : Pl T a) (hb : 0 ≤ b) : Dead T b (evCW tab spec_l6Atom [kp] (ph T a b) 1) := by
  have h0 := spec_l6Now_ok b hP
  have h1 := sign_dead hP hb
  have h2 := is_dead hP hb
  have h3 := sname_dead hP hb
  rw [evCW_of t_spec_l6Atom _ _ _ rfl, c_spec_l6Atom]
  refine ⟨.mk 20 noS 0 [], a, hP, leaf_sm, ?_⟩
  simp only [ph, pc] at h0 h1 h2 h3 ⊢
  simp (maxSteps := 999999) (implicitDefEqProofs := false) (disch := (first | assumption | omega)) only [go_sem, simprocAttr, h0, h1, h2, h3]
  all_goals rfl
end Go.Ev.G

/- The parsers: products, sums and exprs behind a failure. -/
set_option linter.all false
namespace Go.Ev.G
set_option maxRecDepth 8000
set_option maxHeartbeats 4000000
variable {T : List TToken} {a b : Int}
abbrev n0D : D := .s 4 [[DI 0, DS noS, DI 0, .s 4 []]]
abbrev nD (x : TNode) : D := .s 4 [[DI x.op, DS x.tx, DI x.v, .s 4 (x.ks.map TNode.o)]]
abbrev lpH (T : List TToken) (a b : Int) (x : TNode) : Heap := upd (upd (upd emp (0, 0) (some (.s 3 [pc T a b]))) (1, 1) (some (nD x))) (1, 0) (some n0D)
theorem product_l0_dead (hP : Pl T a) (hb : 0 ≤ b) (x : TNode) : loopW tab [0, 2, 3] b_impl_parser_product_0 { env := upd (upd (upd emp 3 (some (.ptr (1, 1) [] 0 0))) 2 (some (.ptr (1, 0) [] 0 0))) 0 (some kp), heap := lpH T a b x, fr := 1, next := 2 } = some (.ext 0, { env := upd (upd emp 3 (some (.ptr (1, 1) [] 0 0))) 2 (some (.ptr (1, 0) [] 0 0)), heap := lpH T a b x, fr := 1, next := 2 }) := by
  have h1 := take_dead hP hb
  unfold loopW
  conv => lhs; arg 1; unfold b_impl_parser_product_0
  simp (maxSteps := 999999) (implicitDefEqProofs := false) (disch := (first | assumption | omega)) only [go_sem, simprocAttr, h1]
theorem sproduct_l0_dead (hP : Pl T a) (hb : 0 ≤ b) (x : TNode) : loopW tab [0, 2, 3] b_spec_l6Product_0 { env := upd (upd (upd emp 3 (some (.ptr (1, 1) [] 0 0))) 2 (some (.ptr (1, 0) [] 0 0))) 0 (some kp), heap := lpH T a b x, fr := 1, next := 2 } = some (.ext 0, { env := upd (upd emp 3 (some (.ptr (1, 1) [] 0 0))) 2 (some (.ptr (1, 0) [] 0 0)), heap := lpH T a b x, fr := 1, next := 2 }) := by
  have h1 := sign_dead hP hb
  unfold loopW
  conv => lhs; arg 1; unfold b_spec_l6Product_0
  simp (maxSteps := 999999) (implicitDefEqProofs := false) (disch := (first | assumption | omega)) only [go_sem, simprocAttr, h1]
theorem sproduct_dead (hP : Pl T a) (hb : 0 ≤ b) : Dead T b (evCW tab spec_l6Product [kp] (ph T a b) 1) := by
  obtain ⟨n, e, hE, hS, h0⟩ := satom_dead hP hb
  have h1 := sproduct_l0_dead hE hb n
  rw [evCW_of t_spec_l6Product _ _ _ rfl, c_spec_l6Product]
  refine ⟨n, e, hE, hS, ?_⟩
  simp (maxSteps := 999999) (implicitDefEqProofs := false) (disch := (first | assumption | omega)) only [go_sem, simprocAttr, h0, h1]
theorem expr_dead (hb : 0 ≤ b) : evCW tab impl_parser_expr [kp] (ph T a b) 1 = some ((TNode.mk 0 noS 0 []).xo, ph T a b) := by
  rw [evCW_of t_impl_parser_expr _ _ _ rfl, c_impl_parser_expr]
  simp only [ph, pc]
  simp (maxSteps := 999999) (implicitDefEqProofs := false) (disch := (first | assumption | omega)) only [go_sem, simprocAttr]
  rfl
theorem sum_l0_dead (hP : Pl T a) (hb : 0 ≤ b) (x : TNode) : loopW tab [0, 2, 3] b_impl_parser_sum_0 { env := upd (upd (upd emp 3 (some (.ptr (1, 1) [] 0 0))) 2 (some (.ptr (1, 0) [] 0 0))) 0 (some kp), heap := lpH T a b x, fr := 1, next := 2 } = some (.ret, { env := upd emp 2 (some (.ptr (1, 0) [] 0 0)), heap := upd (upd emp (0, 0) (some (.s 3 [pc T a b]))) (1, 0) (some (nD x)), fr := 1, next := 1 }) := by
  have h1 := take_dead hP hb
  unfold loopW
  conv => lhs; arg 1; unfold b_impl_parser_sum_0
  simp (maxSteps := 999999) (implicitDefEqProofs := false) (disch := (first | assumption | omega)) only [go_sem, simprocAttr, h1]
theorem ssum_l0_dead (hP : Pl T a) (hb : 0 ≤ b) (x : TNode) : loopW tab [0, 2, 3] b_spec_l6Sum_0 { env := upd (upd (upd emp 3 (some (.ptr (1, 1) [] 0 0))) 2 (some (.ptr (1, 0) [] 0 0))) 0 (some kp), heap := lpH T a b x, fr := 1, next := 2 } = some (.ext 0, { env := upd (upd emp 3 (some (.ptr (1, 1) [] 0 0))) 2 (some (.ptr (1, 0) [] 0 0)), heap := lpH T a b x, fr := 1, next := 2 }) := by
  have h1 := sign_dead hP hb
  unfold loopW
  conv => lhs; arg 1; unfold b_spec_l6Sum_0
  simp (maxSteps := 999999) (implicitDefEqProofs := false) (disch := (first | assumption | omega)) only [go_sem, simprocAttr, h1]
theorem ssum_dead (hP : Pl T a) (hb : 0 ≤ b) : Dead T b (evCW tab spec_l6Sum [kp] (ph T a b) 1) := by
  obtain ⟨n, e, hE, hS, h0⟩ := sproduct_dead hP hb
  have h1 := ssum_l0_dead hE hb n
  rw [evCW_of t_spec_l6Sum _ _ _ rfl, c_spec_l6Sum]
  refine ⟨n, e, hE, hS, ?_⟩
  simp (maxSteps := 999999) (implicitDefEqProofs := false) (disch := (first | assumption | omega)) only [go_sem, simprocAttr, h0, h1]
theorem sexpr_dead (hP : Pl T a) (hb : 0 ≤ b) : Dead T b (evCW tab spec_l6Expr [kp] (ph T a b) 1) := by
  obtain ⟨n, e, hE, hS, h0⟩ := ssum_dead hP hb
  have h1 := sign_dead hE hb
  rw [evCW_of t_spec_l6Expr _ _ _ rfl, c_spec_l6Expr]
  refine ⟨n, e, hE, hS, ?_⟩
  simp only [ph] at h0 h1 ⊢
  simp (maxSteps := 999999) (implicitDefEqProofs := false) (disch := (first | assumption | omega)) only [go_sem, simprocAttr, h0, h1]
end Go.Ev.G

/- The parsers: both end alike. Products. -/
set_option linter.all false
namespace Go.Ev.G
set_option maxRecDepth 8000
set_option maxHeartbeats 4000000
def isWd (t : ByteArray) : Bool := match t.data.toList with
  | c :: _ => letterB c.toNat
  | [] => false
structure TF (T : List TToken) : Prop where
  m : (T.length : Int) ≤ 10000
  k0 : ∀ a, Pl T a → ¬ (tk T a).fKind = 0 → a < (T.length : Int) - 1
  kk : ∀ a, Pl T a → (tk T a).fKind = 0 ∨ (tk T a).fKind = 1 ∨ (tk T a).fKind = 2 ∨ (tk T a).fKind = 3
  k1 : ∀ a, Pl T a → (tk T a).fKind = 1 → isWd (tk T a).fText = true
  k3 : ∀ a, Pl T a → (tk T a).fKind = 3 → isWd (tk T a).fText = false
  k2 : ∀ a, Pl T a → (tk T a).fKind = 0 ∨ (tk T a).fKind = 2 → (tk T a).fText = noS
  n : ∀ a, Pl T a → -9999999999 ≤ (tk T a).fN ∧ (tk T a).fN ≤ 9999999999
  p : ∀ a, Pl T a → 0 ≤ (tk T a).fAt
  s : ∀ a, Pl T a → (tk T a).fText.size ≤ 1048576
variable {T : List TToken} {a b : Int}
theorem tk_sg (hT : TF T) (hP : Pl T a) {w : ByteArray} (hw : isWd w = false) : tkB T a b w = sgB T a b w := by
  unfold tkB sgB
  have h1 := hT.k1 a hP
  by_cases c1 : (tk T a).fText = w
  · by_cases c2 : (tk T a).fKind = 3
    · simp [c1, c2]
    · have c3 : ¬ (tk T a).fKind = 1 := fun h => by have := h1 h; rw [c1, hw] at this; simp at this
      simp [c2, c3]
  · simp [c1]
theorem tk_is (hT : TF T) (hP : Pl T a) {w : ByteArray} (hw : isWd w = true) : tkB T a b w = isB T a b w := by
  unfold tkB isB
  have h1 := hT.k3 a hP
  by_cases c1 : (tk T a).fText = w
  · by_cases c2 : (tk T a).fKind = 1
    · simp [c1, c2]
    · have c3 : ¬ (tk T a).fKind = 3 := fun h => by have := h1 h; rw [c1, hw] at this; simp at this
      simp [c2, c3]
  · simp [c1]
theorem sg_nx (hT : TF T) (hP : Pl T a) {w : ByteArray} (h : sgB T a b w = true) : nx T a = a + 1 ∧ Pl T (a + 1) := by
  have h1 : (tk T a).fKind = 3 := by simp [sgB] at h; exact h.2.1
  have h2 := hT.k0 a hP (by omega)
  exact ⟨by rw [nx, if_pos h2], ⟨by have := hP.l; omega, by omega, hP.m⟩⟩
theorem is_nx (hT : TF T) (hP : Pl T a) {w : ByteArray} (h : isB T a b w = true) : nx T a = a + 1 ∧ Pl T (a + 1) := by
  have h1 : (tk T a).fKind = 1 := by simp [isB] at h; exact h.2.1
  have h2 := hT.k0 a hP (by omega)
  exact ⟨by rw [nx, if_pos h2], ⟨by have := hP.l; omega, by omega, hP.m⟩⟩
inductive Rs where
  | ok (n : TNode) (e : Int)
  | no (p : Int)
def Ends (T : List TToken) : Rs → Option (X × Heap) → Prop
  | .ok n e, r => r = some (n.xo, ph T e (-1))
  | .no p, r => Dead T p r
def Good (T : List TToken) (a : Int) (k : Int) : Rs → Prop
  | .ok n e => Pl T e ∧ a ≤ e ∧ n.Sm ∧ n.ct ≤ 3 * (e - a) + k
  | .no p => 0 ≤ p
def Both (T : List TToken) (a : Int) (f g : Nat) : Prop := ∃ R, Good T a 0 R ∧ Ends T R (evCW tab f [kp] (ph T a (-1)) 1) ∧ Ends T R (evCW tab g [kp] (ph T a (-1)) 1)
abbrev lpS (T : List TToken) (a b : Int) (x : TNode) : St := { env := upd (upd (upd emp 3 (some (.ptr (1, 1) [] 0 0))) 2 (some (.ptr (1, 0) [] 0 0))) 0 (some kp), heap := lpH T a b x, fr := 1, next := 2 }
abbrev lpE (T : List TToken) (a b : Int) (x : TNode) : St := { env := upd (upd emp 3 (some (.ptr (1, 1) [] 0 0))) 2 (some (.ptr (1, 0) [] 0 0)), heap := lpH T a b x, fr := 1, next := 2 }
def LEnds (T : List TToken) : Rs → Option (Ex × St) → Prop
  | .ok n e, r => r = some (.ext 0, lpE T e (-1) n)
  | .no p, r => ∃ n e, Pl T e ∧ n.Sm ∧ r = some (.ext 0, lpE T e p n)
theorem two_sm {op : Int} {x y : TNode} (hx : x.Sm) (hy : y.Sm) : (TNode.mk op noS 0 [x, y]).Sm := .mk (by decide) (by simp) (fun z hz => by
  simp only [List.mem_cons, List.not_mem_nil, or_false] at hz
  rcases hz with rfl | rfl
  · exact hx
  · exact hy)
theorem two_ct (op : Int) (x y : TNode) : (TNode.mk op noS 0 [x, y]).ct = 3 + x.ct + y.ct := by rw [TNode.ct_eq, nodesCt_cons, nodesCt_cons, nodesCt_nil]; omega
theorem product_l0 (hT : TF T) : ∀ (m : Nat) (a : Int) (x : TNode), Pl T a → x.Sm → (T.length : Int) - a ≤ m → (∀ e, Pl T e → a < e → Both T e impl_parser_atom spec_l6Atom) →
    ∃ R, Good T a x.ct R ∧ LEnds T R (loopW tab [0, 2, 3] b_impl_parser_product_0 (lpS T a (-1) x)) ∧ LEnds T R (loopW tab [0, 2, 3] b_spec_l6Product_0 (lpS T a (-1) x))
  | 0, a, x, hP, hx, hm, H => by have := hP.h; omega
  | m + 1, a, x, hP, hx, hm, H => by
    have h1 := impl_take_ok (-1) hP ⟨#[42]⟩
    have h2 := spec_l6Sign_ok (-1) hP ⟨#[42]⟩
    have h3 := spec_l6Next_ok (-1) hP
    rw [tk_sg hT hP (by decide)] at h1
    cases hz : sgB T a (-1) ⟨#[42]⟩ <;> rw [hz] at h1 h2
    · refine ⟨.ok x a, ⟨hP, by omega, hx, by omega⟩, ?_, ?_⟩
      · simp only [LEnds]
        unfold loopW
        conv => lhs; arg 1; unfold b_impl_parser_product_0
        simp only [Bool.false_eq_true, if_false] at h1
        simp (maxSteps := 999999) (implicitDefEqProofs := false) (disch := (first | assumption | omega)) only [go_sem, simprocAttr, h1]
      · simp only [LEnds]
        unfold loopW
        conv => lhs; arg 1; unfold b_spec_l6Product_0
        simp (maxSteps := 999999) (implicitDefEqProofs := false) (disch := (first | assumption | omega)) only [go_sem, simprocAttr, h2]
    · obtain ⟨hn, hP1⟩ := sg_nx hT hP hz
      rw [hn] at h1 h3
      simp only [if_true] at h1
      obtain ⟨R, hG, hi, hs⟩ := H (a + 1) hP1 (by omega)
      cases R with
      | ok y e =>
        obtain ⟨g1, g2, g3, g4⟩ := hG
        simp only [Ends] at hi hs
        obtain ⟨R2, hG2, hi2, hs2⟩ := product_l0 hT m e (.mk 23 noS 0 [x, y]) g1 (two_sm hx g3) (by omega) (fun e' he' hlt => H e' he' (by omega))
        have hnode := spec_l6Node_ok 23 [x, y] (by simp)
        refine ⟨R2, ?_, ?_, ?_⟩
        · cases R2 with
          | ok z e2 => obtain ⟨k1, k2, k3, k4⟩ := hG2; rw [two_ct] at k4; exact ⟨k1, by omega, k3, by omega⟩
          | no p => exact hG2
        · suffices h : loopW tab [0, 2, 3] b_impl_parser_product_0 (lpS T a (-1) x) = loopW tab [0, 2, 3] b_impl_parser_product_0 (lpS T e (-1) (.mk 23 noS 0 [x, y])) by rw [h]; exact hi2
          conv => lhs; unfold loopW
          conv => lhs; arg 1; unfold b_impl_parser_product_0
          simp only [lpS, lpH, nD, TNode.op_mk, TNode.tx_mk, TNode.v_mk, TNode.ks_mk, List.map_cons, List.map_nil, TNode.o_def]
          simp (maxSteps := 999999) (implicitDefEqProofs := false) (disch := (first | assumption | omega)) only [go_sem, simprocAttr, h1, hi]
        · suffices h : loopW tab [0, 2, 3] b_spec_l6Product_0 (lpS T a (-1) x) = loopW tab [0, 2, 3] b_spec_l6Product_0 (lpS T e (-1) (.mk 23 noS 0 [x, y])) by rw [h]; exact hs2
          conv => lhs; unfold loopW
          conv => lhs; arg 1; unfold b_spec_l6Product_0
          simp only [lpS, lpH, nD, TNode.op_mk, TNode.tx_mk, TNode.v_mk, TNode.ks_mk, List.map_cons, List.map_nil, TNode.o_def] at hnode ⊢
          simp (maxSteps := 999999) (implicitDefEqProofs := false) (disch := (first | assumption | omega)) only [go_sem, simprocAttr, h2, h3, hs, hnode, List.map_cons, List.map_nil, TNode.o_def]
      | no p =>
        have hp : 0 ≤ p := hG
        obtain ⟨y1, e1, hE1, hS1, hi'⟩ := hi
        obtain ⟨y2, e2, hE2, hS2, hs'⟩ := hs
        have hd1 := product_l0_dead hE1 hp (.mk 23 noS 0 [x, y1])
        have hd2 := sproduct_l0_dead hE2 hp (.mk 23 noS 0 [x, y2])
        have hnode := spec_l6Node_ok 23 [x, y2] (by simp)
        refine ⟨.no p, hp, ⟨.mk 23 noS 0 [x, y1], e1, hE1, two_sm hx hS1, ?_⟩, ⟨.mk 23 noS 0 [x, y2], e2, hE2, two_sm hx hS2, ?_⟩⟩
        · unfold loopW
          conv => lhs; arg 1; unfold b_impl_parser_product_0
          simp only [lpS, lpE, lpH, nD, TNode.op_mk, TNode.tx_mk, TNode.v_mk, TNode.ks_mk, List.map_cons, List.map_nil, TNode.o_def] at hd1 ⊢
          simp (maxSteps := 999999) (implicitDefEqProofs := false) (disch := (first | assumption | omega)) only [go_sem, simprocAttr, h1, hi', hd1]
        · unfold loopW
          conv => lhs; arg 1; unfold b_spec_l6Product_0
          simp only [lpS, lpE, lpH, nD, TNode.op_mk, TNode.tx_mk, TNode.v_mk, TNode.ks_mk, List.map_cons, List.map_nil, TNode.o_def] at hd2 hnode ⊢
          simp (maxSteps := 999999) (implicitDefEqProofs := false) (disch := (first | assumption | omega)) only [go_sem, simprocAttr, h2, h3, hs', hnode, List.map_cons, List.map_nil, TNode.o_def, hd2]
theorem product_both (hT : TF T) (hP : Pl T a) (H : ∀ e, Pl T e → a ≤ e → Both T e impl_parser_atom spec_l6Atom) : Both T a impl_parser_product spec_l6Product := by
  obtain ⟨R, hG, hi, hs⟩ := H a hP (by omega)
  cases R with
  | ok y e =>
    obtain ⟨g1, g2, g3, g4⟩ := hG
    simp only [Ends] at hi hs
    obtain ⟨R2, hG2, hi2, hs2⟩ := product_l0 hT T.length e y g1 g3 (by have := g1.l; omega) (fun e' he' hlt => H e' he' (by omega))
    refine ⟨R2, ?_, ?_, ?_⟩
    · cases R2 with
      | ok z e2 => obtain ⟨k1, k2, k3, k4⟩ := hG2; exact ⟨k1, by omega, k3, by omega⟩
      | no p => exact hG2
    · rw [evCW_of t_impl_parser_product _ _ _ rfl, c_impl_parser_product]
      cases R2 with
      | ok z e2 =>
        simp only [LEnds, lpS, lpE, lpH, nD] at hi2
        simp only [Ends]
        simp (maxSteps := 999999) (implicitDefEqProofs := false) (disch := (first | assumption | omega)) only [go_sem, simprocAttr, hi, hi2]
      | no p =>
        obtain ⟨z, e2, hE2, hS3, hi2⟩ := hi2
        refine ⟨z, e2, hE2, hS3, ?_⟩
        simp only [lpS, lpE, lpH, nD] at hi2
        simp (maxSteps := 999999) (implicitDefEqProofs := false) (disch := (first | assumption | omega)) only [go_sem, simprocAttr, hi, hi2]
    · rw [evCW_of t_spec_l6Product _ _ _ rfl, c_spec_l6Product]
      cases R2 with
      | ok z e2 =>
        simp only [LEnds, lpS, lpE, lpH, nD] at hs2
        simp only [Ends]
        simp (maxSteps := 999999) (implicitDefEqProofs := false) (disch := (first | assumption | omega)) only [go_sem, simprocAttr, hs, hs2]
      | no p =>
        obtain ⟨z, e2, hE2, hS3, hs2⟩ := hs2
        refine ⟨z, e2, hE2, hS3, ?_⟩
        simp only [lpS, lpE, lpH, nD] at hs2
        simp (maxSteps := 999999) (implicitDefEqProofs := false) (disch := (first | assumption | omega)) only [go_sem, simprocAttr, hs, hs2]
  | no p =>
    have hp : 0 ≤ p := hG
    obtain ⟨y1, e1, hE1, hS1, hi'⟩ := hi
    obtain ⟨y2, e2, hE2, hS2, hs'⟩ := hs
    have hd1 := product_l0_dead hE1 hp y1
    have hd2 := sproduct_l0_dead hE2 hp y2
    refine ⟨.no p, hp, ⟨y1, e1, hE1, hS1, ?_⟩, ⟨y2, e2, hE2, hS2, ?_⟩⟩
    · rw [evCW_of t_impl_parser_product _ _ _ rfl, c_impl_parser_product]
      simp (maxSteps := 999999) (implicitDefEqProofs := false) (disch := (first | assumption | omega)) only [go_sem, simprocAttr, hi', hd1]
    · rw [evCW_of t_spec_l6Product _ _ _ rfl, c_spec_l6Product]
      simp (maxSteps := 999999) (implicitDefEqProofs := false) (disch := (first | assumption | omega)) only [go_sem, simprocAttr, hs', hd2]
end Go.Ev.G

/- The parsers: sums. -/
set_option linter.all false
namespace Go.Ev.G
set_option maxRecDepth 8000
set_option maxHeartbeats 4000000
variable {T : List TToken} {a b : Int}
theorem sg_other {w v : ByteArray} (h : sgB T a b w = true) (hne : w ≠ v) : sgB T a b v = false := by
  simp [sgB] at h
  simp [sgB, h.2.2, hne]
abbrev lpR (T : List TToken) (a b : Int) (x : TNode) : St := { env := upd emp 2 (some (.ptr (1, 0) [] 0 0)), heap := upd (upd emp (0, 0) (some (.s 3 [pc T a b]))) (1, 0) (some (nD x)), fr := 1, next := 1 }
def REnds (T : List TToken) : Rs → Option (Ex × St) → Prop
  | .ok n e, r => r = some (.ret, lpR T e (-1) n)
  | .no p, r => ∃ n e, Pl T e ∧ n.Sm ∧ r = some (.ret, lpR T e p n)
theorem sum_step (hT : TF T) (op : Int) (m : Nat) (a : Int) (x : TNode) (hP : Pl T a) (hx : x.Sm) (hP1 : Pl T (a + 1)) (hm : (T.length : Int) - a ≤ (m + 1 : Nat))
    (H : ∀ e, Pl T e → a < e → Both T e impl_parser_product spec_l6Product)
    (ih : ∀ (e : Int) (x : TNode), Pl T e → x.Sm → a < e → ∃ R, Good T e x.ct R ∧ REnds T R (loopW tab [0, 2, 3] b_impl_parser_sum_0 (lpS T e (-1) x)) ∧ LEnds T R (loopW tab [0, 2, 3] b_spec_l6Sum_0 (lpS T e (-1) x)))
    (Hi : ∀ (y : TNode) (e q : Int), evCW tab impl_parser_product [kp] (ph T (a + 1) (-1)) 1 = some (y.xo, ph T e q) → loopW tab [0, 2, 3] b_impl_parser_sum_0 (lpS T a (-1) x) = loopW tab [0, 2, 3] b_impl_parser_sum_0 (lpS T e q (.mk op noS 0 [x, y])))
    (Hs : ∀ (y : TNode) (e q : Int), evCW tab spec_l6Product [kp] (ph T (a + 1) (-1)) 1 = some (y.xo, ph T e q) → loopW tab [0, 2, 3] b_spec_l6Sum_0 (lpS T a (-1) x) = loopW tab [0, 2, 3] b_spec_l6Sum_0 (lpS T e q (.mk op noS 0 [x, y]))) :
    ∃ R, Good T a x.ct R ∧ REnds T R (loopW tab [0, 2, 3] b_impl_parser_sum_0 (lpS T a (-1) x)) ∧ LEnds T R (loopW tab [0, 2, 3] b_spec_l6Sum_0 (lpS T a (-1) x)) := by
  obtain ⟨R, hG, hi, hs⟩ := H (a + 1) hP1 (by omega)
  cases R with
  | ok y e =>
    obtain ⟨g1, g2, g3, g4⟩ := hG
    obtain ⟨R2, hG2, hi2, hs2⟩ := ih e (.mk op noS 0 [x, y]) g1 (two_sm hx g3) (by omega)
    rw [Hi y e (-1) hi, Hs y e (-1) hs]
    refine ⟨R2, ?_, hi2, hs2⟩
    cases R2 with
    | ok z e2 => obtain ⟨k1, k2, k3, k4⟩ := hG2; rw [two_ct] at k4; exact ⟨k1, by omega, k3, by omega⟩
    | no p => exact hG2
  | no p =>
    have hp : 0 ≤ p := hG
    obtain ⟨y1, e1, hE1, hS1, hi'⟩ := hi
    obtain ⟨y2, e2, hE2, hS2, hs'⟩ := hs
    refine ⟨.no p, hp, ⟨.mk op noS 0 [x, y1], e1, hE1, two_sm hx hS1, ?_⟩, ⟨.mk op noS 0 [x, y2], e2, hE2, two_sm hx hS2, ?_⟩⟩
    · rw [Hi y1 e1 p hi']; exact sum_l0_dead hE1 hp _
    · rw [Hs y2 e2 p hs']; exact ssum_l0_dead hE2 hp _
theorem sum_l0 (hT : TF T) : ∀ (m : Nat) (a : Int) (x : TNode), Pl T a → x.Sm → (T.length : Int) - a ≤ m → (∀ e, Pl T e → a < e → Both T e impl_parser_product spec_l6Product) →
    ∃ R, Good T a x.ct R ∧ REnds T R (loopW tab [0, 2, 3] b_impl_parser_sum_0 (lpS T a (-1) x)) ∧ LEnds T R (loopW tab [0, 2, 3] b_spec_l6Sum_0 (lpS T a (-1) x))
  | 0, a, x, hP, hx, hm, H => by have := hP.h; omega
  | m + 1, a, x, hP, hx, hm, H => by
    have h1 := impl_take_ok (-1) hP ⟨#[43]⟩
    have h2 := spec_l6Sign_ok (-1) hP ⟨#[43]⟩
    have h3 := impl_take_ok (-1) hP ⟨#[45]⟩
    have h4 := spec_l6Sign_ok (-1) hP ⟨#[45]⟩
    have h5 := spec_l6Next_ok (-1) hP
    rw [tk_sg hT hP (by decide)] at h1 h3
    have ih := fun (e : Int) (x : TNode) (g1 : Pl T e) (g2 : x.Sm) (g3 : a < e) => sum_l0 hT m e x g1 g2 (by omega) (fun e' he' hlt => H e' he' (by omega))
    have nodeF := fun (op : Int) (y : TNode) => spec_l6Node_ok op [x, y] (by simp)
    cases hz : sgB T a (-1) ⟨#[43]⟩ <;> rw [hz] at h1 h2
    · simp only [Bool.false_eq_true, if_false] at h1
      cases hz2 : sgB T a (-1) ⟨#[45]⟩ <;> rw [hz2] at h3 h4
      · simp only [Bool.false_eq_true, if_false] at h3
        refine ⟨.ok x a, ⟨hP, by omega, hx, by omega⟩, ?_, ?_⟩
        · simp only [REnds]
          unfold loopW
          conv => lhs; arg 1; unfold b_impl_parser_sum_0
          simp (maxSteps := 999999) (implicitDefEqProofs := false) (disch := (first | assumption | omega)) only [go_sem, simprocAttr, h1, h3]
        · simp only [LEnds]
          unfold loopW
          conv => lhs; arg 1; unfold b_spec_l6Sum_0
          simp (maxSteps := 999999) (implicitDefEqProofs := false) (disch := (first | assumption | omega)) only [go_sem, simprocAttr, h2, h4]
      · obtain ⟨hn, hP1⟩ := sg_nx hT hP hz2
        rw [hn] at h3 h5
        simp only [if_true] at h3
        refine sum_step hT 22 m a x hP hx hP1 hm H ih (fun y e q hy => ?_) (fun y e q hy => ?_)
        · conv => lhs; unfold loopW
          conv => lhs; arg 1; unfold b_impl_parser_sum_0
          simp only [lpS, lpH, nD, TNode.op_mk, TNode.tx_mk, TNode.v_mk, TNode.ks_mk, List.map_cons, List.map_nil, TNode.o_def]
          simp (maxSteps := 999999) (implicitDefEqProofs := false) (disch := (first | assumption | omega)) only [go_sem, simprocAttr, h1, h3, hy]
        · have hnode := nodeF 22 y
          conv => lhs; unfold loopW
          conv => lhs; arg 1; unfold b_spec_l6Sum_0
          simp only [lpS, lpH, nD, TNode.op_mk, TNode.tx_mk, TNode.v_mk, TNode.ks_mk, List.map_cons, List.map_nil, TNode.o_def] at hnode ⊢
          simp (maxSteps := 999999) (implicitDefEqProofs := false) (disch := (first | assumption | omega)) only [go_sem, simprocAttr, h2, h4, h5, hy, hnode, List.map_cons, List.map_nil, TNode.o_def]
    · obtain ⟨hn, hP1⟩ := sg_nx hT hP hz
      rw [sg_other hz (by decide)] at h4
      rw [hn] at h1 h5
      simp only [if_true] at h1
      refine sum_step hT 21 m a x hP hx hP1 hm H ih (fun y e q hy => ?_) (fun y e q hy => ?_)
      · conv => lhs; unfold loopW
        conv => lhs; arg 1; unfold b_impl_parser_sum_0
        simp only [lpS, lpH, nD, TNode.op_mk, TNode.tx_mk, TNode.v_mk, TNode.ks_mk, List.map_cons, List.map_nil, TNode.o_def]
        simp (maxSteps := 999999) (implicitDefEqProofs := false) (disch := (first | assumption | omega)) only [go_sem, simprocAttr, h1, hy]
      · have hnode := nodeF 21 y
        conv => lhs; unfold loopW
        conv => lhs; arg 1; unfold b_spec_l6Sum_0
        simp only [lpS, lpH, nD, TNode.op_mk, TNode.tx_mk, TNode.v_mk, TNode.ks_mk, List.map_cons, List.map_nil, TNode.o_def] at hnode ⊢
        simp (maxSteps := 999999) (implicitDefEqProofs := false) (disch := (first | assumption | omega)) only [go_sem, simprocAttr, h2, h4, h5, hy, hnode, List.map_cons, List.map_nil, TNode.o_def]
theorem sum_both (hT : TF T) (hP : Pl T a) (H : ∀ e, Pl T e → a ≤ e → Both T e impl_parser_product spec_l6Product) : Both T a impl_parser_sum spec_l6Sum := by
  obtain ⟨R, hG, hi, hs⟩ := H a hP (by omega)
  cases R with
  | ok y e =>
    obtain ⟨g1, g2, g3, g4⟩ := hG
    simp only [Ends] at hi hs
    obtain ⟨R2, hG2, hi2, hs2⟩ := sum_l0 hT T.length e y g1 g3 (by have := g1.l; omega) (fun e' he' hlt => H e' he' (by omega))
    refine ⟨R2, ?_, ?_, ?_⟩
    · cases R2 with
      | ok z e2 => obtain ⟨k1, k2, k3, k4⟩ := hG2; exact ⟨k1, by omega, k3, by omega⟩
      | no p => exact hG2
    · rw [evCW_of t_impl_parser_sum _ _ _ rfl, c_impl_parser_sum]
      cases R2 with
      | ok z e2 =>
        simp only [REnds, lpS, lpR, lpH, nD] at hi2
        simp only [Ends]
        simp (maxSteps := 999999) (implicitDefEqProofs := false) (disch := (first | assumption | omega)) only [go_sem, simprocAttr, hi, hi2]
      | no p =>
        obtain ⟨z, e2, hE2, hS3, hi2⟩ := hi2
        refine ⟨z, e2, hE2, hS3, ?_⟩
        simp only [lpS, lpR, lpH, nD] at hi2
        simp (maxSteps := 999999) (implicitDefEqProofs := false) (disch := (first | assumption | omega)) only [go_sem, simprocAttr, hi, hi2]
    · rw [evCW_of t_spec_l6Sum _ _ _ rfl, c_spec_l6Sum]
      cases R2 with
      | ok z e2 =>
        simp only [LEnds, lpS, lpE, lpH, nD] at hs2
        simp only [Ends]
        simp (maxSteps := 999999) (implicitDefEqProofs := false) (disch := (first | assumption | omega)) only [go_sem, simprocAttr, hs, hs2]
      | no p =>
        obtain ⟨z, e2, hE2, hS3, hs2⟩ := hs2
        refine ⟨z, e2, hE2, hS3, ?_⟩
        simp only [lpS, lpE, lpH, nD] at hs2
        simp (maxSteps := 999999) (implicitDefEqProofs := false) (disch := (first | assumption | omega)) only [go_sem, simprocAttr, hs, hs2]
  | no p =>
    have hp : 0 ≤ p := hG
    obtain ⟨y1, e1, hE1, hS1, hi'⟩ := hi
    obtain ⟨y2, e2, hE2, hS2, hs'⟩ := hs
    have hd1 := sum_l0_dead hE1 hp y1
    have hd2 := ssum_l0_dead hE2 hp y2
    refine ⟨.no p, hp, ⟨y1, e1, hE1, hS1, ?_⟩, ⟨y2, e2, hE2, hS2, ?_⟩⟩
    · rw [evCW_of t_impl_parser_sum _ _ _ rfl, c_impl_parser_sum]
      simp (maxSteps := 999999) (implicitDefEqProofs := false) (disch := (first | assumption | omega)) only [go_sem, simprocAttr, hi', hd1]
    · rw [evCW_of t_spec_l6Sum _ _ _ rfl, c_spec_l6Sum]
      simp (maxSteps := 999999) (implicitDefEqProofs := false) (disch := (first | assumption | omega)) only [go_sem, simprocAttr, hs', hd2]
end Go.Ev.G

/- The parsers: exprs. -/
set_option linter.all false
namespace Go.Ev.G
set_option maxRecDepth 8000
set_option maxHeartbeats 4000000
variable {T : List TToken} {a b : Int}
theorem expr_both (hT : TF T) (hP : Pl T a) (H : ∀ e, Pl T e → a ≤ e → Both T e impl_parser_sum spec_l6Sum) : Both T a impl_parser_expr spec_l6Expr := by
  obtain ⟨R, hG, hi, hs⟩ := H a hP (by omega)
  cases R with
  | no p =>
    have hp : 0 ≤ p := hG
    obtain ⟨y1, e1, hE1, hS1, hi'⟩ := hi
    obtain ⟨y2, e2, hE2, hS2, hs'⟩ := hs
    have h1 := take_dead hE1 hp
    have h2 := sign_dead hE2 hp
    refine ⟨.no p, hp, ⟨y1, e1, hE1, hS1, ?_⟩, ⟨y2, e2, hE2, hS2, ?_⟩⟩
    · rw [evCW_of t_impl_parser_expr _ _ _ rfl, c_impl_parser_expr]
      simp only [ph, pc] at hi' h1 ⊢
      simp (maxSteps := 999999) (implicitDefEqProofs := false) (disch := (first | assumption | omega)) only [go_sem, simprocAttr, hi', h1]
    · rw [evCW_of t_spec_l6Expr _ _ _ rfl, c_spec_l6Expr]
      simp only [ph, pc] at hs' h2 ⊢
      simp (maxSteps := 999999) (implicitDefEqProofs := false) (disch := (first | assumption | omega)) only [go_sem, simprocAttr, hs', h2]
  | ok x e =>
    obtain ⟨g1, g2, g3, g4⟩ := hG
    simp only [Ends] at hi hs
    have h1 := impl_take_ok (-1) g1 ⟨#[60]⟩
    have h2 := spec_l6Sign_ok (-1) g1 ⟨#[60]⟩
    have h3 := impl_take_ok (-1) g1 ⟨#[61, 61]⟩
    have h4 := spec_l6Sign_ok (-1) g1 ⟨#[61, 61]⟩
    have h5 := spec_l6Next_ok (-1) g1
    rw [tk_sg hT g1 (by decide)] at h1 h3
    cases hz : sgB T e (-1) ⟨#[60]⟩ <;> rw [hz] at h1 h2
    · simp only [Bool.false_eq_true, if_false] at h1
      cases hz2 : sgB T e (-1) ⟨#[61, 61]⟩ <;> rw [hz2] at h3 h4
      · simp only [Bool.false_eq_true, if_false] at h3
        refine ⟨.ok x e, ⟨g1, g2, g3, g4⟩, ?_, ?_⟩
        · simp only [Ends]
          rw [evCW_of t_impl_parser_expr _ _ _ rfl, c_impl_parser_expr]
          simp only [ph, pc] at hi h1 h3 ⊢
          simp (maxSteps := 999999) (implicitDefEqProofs := false) (disch := (first | assumption | omega)) only [go_sem, simprocAttr, hi, h1, h3]
        · simp only [Ends]
          rw [evCW_of t_spec_l6Expr _ _ _ rfl, c_spec_l6Expr]
          simp only [ph, pc] at hs h2 h4 ⊢
          simp (maxSteps := 999999) (implicitDefEqProofs := false) (disch := (first | assumption | omega)) only [go_sem, simprocAttr, hs, h2, h4]
      · obtain ⟨hn, hP1⟩ := sg_nx hT g1 hz2
        rw [hn] at h3 h5
        simp only [if_true] at h3
        obtain ⟨R2, hG2, hi2, hs2⟩ := H (e + 1) hP1 (by omega)
        cases R2 with
        | ok y e2 =>
          obtain ⟨k1, k2, k3, k4⟩ := hG2
          simp only [Ends] at hi2 hs2
          have hnode := spec_l6Node_ok 25 [x, y] (by simp)
          refine ⟨.ok (.mk 25 noS 0 [x, y]) e2, ⟨k1, by omega, two_sm g3 k3, by rw [two_ct]; omega⟩, ?_, ?_⟩
          · simp only [Ends]
            rw [evCW_of t_impl_parser_expr _ _ _ rfl, c_impl_parser_expr]
            simp only [ph, pc, TNode.xo, TNode.op_mk, TNode.tx_mk, TNode.v_mk, TNode.ks_mk, List.map_cons, List.map_nil, TNode.o_def] at hi h1 h3 hi2 ⊢
            simp (maxSteps := 999999) (implicitDefEqProofs := false) (disch := (first | assumption | omega)) only [go_sem, simprocAttr, hi, h1, h3, hi2]
          · simp only [Ends]
            rw [evCW_of t_spec_l6Expr _ _ _ rfl, c_spec_l6Expr]
            simp only [ph, pc, TNode.xo, TNode.op_mk, TNode.tx_mk, TNode.v_mk, TNode.ks_mk, List.map_cons, List.map_nil, TNode.o_def] at hs h2 h4 h5 hs2 hnode ⊢
            simp (maxSteps := 999999) (implicitDefEqProofs := false) (disch := (first | assumption | omega)) only [go_sem, simprocAttr, hs, h2, h4, h5, hs2, hnode, List.map_cons, List.map_nil, TNode.o_def]
        | no p =>
          have hp : 0 ≤ p := hG2
          obtain ⟨y1, e1, hE1, hS1, hi'⟩ := hi2
          obtain ⟨y2, e2, hE2, hS2, hs'⟩ := hs2
          have hnode := spec_l6Node_ok 25 [x, y2] (by simp)
          refine ⟨.no p, hp, ⟨.mk 25 noS 0 [x, y1], e1, hE1, two_sm g3 hS1, ?_⟩, ⟨.mk 25 noS 0 [x, y2], e2, hE2, two_sm g3 hS2, ?_⟩⟩
          · rw [evCW_of t_impl_parser_expr _ _ _ rfl, c_impl_parser_expr]
            simp only [ph, pc, TNode.xo, TNode.op_mk, TNode.tx_mk, TNode.v_mk, TNode.ks_mk, List.map_cons, List.map_nil, TNode.o_def] at hi h1 h3 hi' ⊢
            simp (maxSteps := 999999) (implicitDefEqProofs := false) (disch := (first | assumption | omega)) only [go_sem, simprocAttr, hi, h1, h3, hi']
          · rw [evCW_of t_spec_l6Expr _ _ _ rfl, c_spec_l6Expr]
            simp only [ph, pc, TNode.xo, TNode.op_mk, TNode.tx_mk, TNode.v_mk, TNode.ks_mk, List.map_cons, List.map_nil, TNode.o_def] at hs h2 h4 h5 hs' hnode ⊢
            simp (maxSteps := 999999) (implicitDefEqProofs := false) (disch := (first | assumption | omega)) only [go_sem, simprocAttr, hs, h2, h4, h5, hs', hnode, List.map_cons, List.map_nil, TNode.o_def]
    · obtain ⟨hn, hP1⟩ := sg_nx hT g1 hz
      rw [hn] at h1 h5
      simp only [if_true] at h1
      obtain ⟨R2, hG2, hi2, hs2⟩ := H (e + 1) hP1 (by omega)
      cases R2 with
      | ok y e2 =>
        obtain ⟨k1, k2, k3, k4⟩ := hG2
        simp only [Ends] at hi2 hs2
        have hnode := spec_l6Node_ok 24 [x, y] (by simp)
        refine ⟨.ok (.mk 24 noS 0 [x, y]) e2, ⟨k1, by omega, two_sm g3 k3, by rw [two_ct]; omega⟩, ?_, ?_⟩
        · simp only [Ends]
          rw [evCW_of t_impl_parser_expr _ _ _ rfl, c_impl_parser_expr]
          simp only [ph, pc, TNode.xo, TNode.op_mk, TNode.tx_mk, TNode.v_mk, TNode.ks_mk, List.map_cons, List.map_nil, TNode.o_def] at hi h1 hi2 ⊢
          simp (maxSteps := 999999) (implicitDefEqProofs := false) (disch := (first | assumption | omega)) only [go_sem, simprocAttr, hi, h1, hi2]
        · simp only [Ends]
          rw [evCW_of t_spec_l6Expr _ _ _ rfl, c_spec_l6Expr]
          simp only [ph, pc, TNode.xo, TNode.op_mk, TNode.tx_mk, TNode.v_mk, TNode.ks_mk, List.map_cons, List.map_nil, TNode.o_def] at hs h2 h5 hs2 hnode ⊢
          simp (maxSteps := 999999) (implicitDefEqProofs := false) (disch := (first | assumption | omega)) only [go_sem, simprocAttr, hs, h2, h5, hs2, hnode, List.map_cons, List.map_nil, TNode.o_def]
      | no p =>
        have hp : 0 ≤ p := hG2
        obtain ⟨y1, e1, hE1, hS1, hi'⟩ := hi2
        obtain ⟨y2, e2, hE2, hS2, hs'⟩ := hs2
        have hnode := spec_l6Node_ok 24 [x, y2] (by simp)
        refine ⟨.no p, hp, ⟨.mk 24 noS 0 [x, y1], e1, hE1, two_sm g3 hS1, ?_⟩, ⟨.mk 24 noS 0 [x, y2], e2, hE2, two_sm g3 hS2, ?_⟩⟩
        · rw [evCW_of t_impl_parser_expr _ _ _ rfl, c_impl_parser_expr]
          simp only [ph, pc, TNode.xo, TNode.op_mk, TNode.tx_mk, TNode.v_mk, TNode.ks_mk, List.map_cons, List.map_nil, TNode.o_def] at hi h1 hi' ⊢
          simp (maxSteps := 999999) (implicitDefEqProofs := false) (disch := (first | assumption | omega)) only [go_sem, simprocAttr, hi, h1, hi']
        · rw [evCW_of t_spec_l6Expr _ _ _ rfl, c_spec_l6Expr]
          simp only [ph, pc, TNode.xo, TNode.op_mk, TNode.tx_mk, TNode.v_mk, TNode.ks_mk, List.map_cons, List.map_nil, TNode.o_def] at hs h2 h5 hs' hnode ⊢
          simp (maxSteps := 999999) (implicitDefEqProofs := false) (disch := (first | assumption | omega)) only [go_sem, simprocAttr, hs, h2, h5, hs', hnode, List.map_cons, List.map_nil, TNode.o_def]
end Go.Ev.G

/- The parsers: lists behind a failure. -/
set_option linter.all false
namespace Go.Ev.G
set_option maxRecDepth 8000
set_option maxHeartbeats 4000000
variable {T : List TToken} {a b : Int}
abbrev llH (T : List TToken) (a b : Int) (A : List TNode) : Heap := upd (upd emp (0, 0) (some (.s 3 [pc T a b]))) (1, 0) (some (.s 4 (A.map TNode.o)))
theorem exprs_l0_dead (hb : 0 ≤ b) (p : Int) (A : List TNode) : loopW tab [0, 4, 5] b_impl_parser_exprs_0 { env := upd (upd (upd emp 5 (some (.ref (1, 0) []))) 4 (some (I p))) 0 (some kp), heap := llH T a b A, fr := 1, next := 1 } = some (.ext 0, { env := upd (upd (upd emp 5 (some (.ref (1, 0) []))) 4 (some (I p))) 0 (some kp), heap := llH T a b A, fr := 1, next := 1 }) := by
  unfold loopW
  conv => lhs; arg 1; unfold b_impl_parser_exprs_0
  simp only [llH, pc]
  simp (maxSteps := 999999) (implicitDefEqProofs := false) (disch := (first | assumption | omega)) only [go_sem, simprocAttr]
theorem exprs_dead (hP : Pl T a) (hb : 0 ≤ b) : evCW tab impl_parser_exprs [kp] (ph T a b) 1 = some (.tup [.d (.s 4 []), I (tk T a).fAt], ph T a b) := by
  have h0 := impl_here_ok b hP
  have h1 := need_dead hP hb
  have h2 := take_dead hP hb
  have h3 := exprs_l0_dead (T := T) (a := a) hb (tk T a).fAt []
  rw [evCW_of t_impl_parser_exprs _ _ _ rfl, c_impl_parser_exprs]
  simp only [llH, List.map_nil] at h3
  simp (maxSteps := 999999) (implicitDefEqProofs := false) (disch := (first | assumption | omega)) only [go_sem, simprocAttr, h0, h1, h2, h3]
theorem slist_l0_dead (hb : 0 ≤ b) (A : List TNode) : loopW tab [0, 3] b_spec_l6List_0 { env := upd (upd emp 3 (some (.ref (1, 0) []))) 0 (some kp), heap := llH T a b A, fr := 1, next := 1 } = some (.ext 0, { env := upd (upd emp 3 (some (.ref (1, 0) []))) 0 (some kp), heap := llH T a b A, fr := 1, next := 1 }) := by
  unfold loopW
  conv => lhs; arg 1; unfold b_spec_l6List_0
  simp only [llH, pc]
  simp (maxSteps := 999999) (implicitDefEqProofs := false) (disch := (first | assumption | omega)) only [go_sem, simprocAttr]
theorem slist_dead (hP : Pl T a) (hb : 0 ≤ b) : evCW tab spec_l6List [kp] (ph T a b) 1 = some (.d (.s 4 []), ph T a b) := by
  have h1 := stake_dead hP hb
  have h3 := slist_l0_dead (T := T) (a := a) hb []
  rw [evCW_of t_spec_l6List _ _ _ rfl, c_spec_l6List]
  simp only [llH, List.map_nil] at h3
  simp (maxSteps := 999999) (implicitDefEqProofs := false) (disch := (first | assumption | omega)) only [go_sem, simprocAttr, h1, h3]
end Go.Ev.G

/- The parsers: their small steps, case by case. -/
set_option linter.all false
namespace Go.Ev.G
set_option maxRecDepth 8000
set_option maxHeartbeats 4000000
variable {T : List TToken} {a : Int}
theorem take_sT (hT : TF T) (hP : Pl T a) {w : ByteArray} (hw : isWd w = false) (h : sgB T a (-1) w = true) : evCW tab impl_parser_take [kp, Str w] (ph T a (-1)) 1 = some (B true, ph T (a + 1) (-1)) := by
  have h1 := impl_take_ok (-1) hP w
  rw [tk_sg hT hP hw, h, (sg_nx hT hP h).1] at h1
  simpa only [if_true] using h1
theorem take_sF (hT : TF T) (hP : Pl T a) {w : ByteArray} (hw : isWd w = false) (h : sgB T a (-1) w = false) : evCW tab impl_parser_take [kp, Str w] (ph T a (-1)) 1 = some (B false, ph T a (-1)) := by
  have h1 := impl_take_ok (-1) hP w
  rw [tk_sg hT hP hw, h] at h1
  simpa only [Bool.false_eq_true, if_false] using h1
theorem take_wT (hT : TF T) (hP : Pl T a) {w : ByteArray} (hw : isWd w = true) (h : isB T a (-1) w = true) : evCW tab impl_parser_take [kp, Str w] (ph T a (-1)) 1 = some (B true, ph T (a + 1) (-1)) := by
  have h1 := impl_take_ok (-1) hP w
  rw [tk_is hT hP hw, h, (is_nx hT hP h).1] at h1
  simpa only [if_true] using h1
theorem take_wF (hT : TF T) (hP : Pl T a) {w : ByteArray} (hw : isWd w = true) (h : isB T a (-1) w = false) : evCW tab impl_parser_take [kp, Str w] (ph T a (-1)) 1 = some (B false, ph T a (-1)) := by
  have h1 := impl_take_ok (-1) hP w
  rw [tk_is hT hP hw, h] at h1
  simpa only [Bool.false_eq_true, if_false] using h1
theorem sign_T (hP : Pl T a) {w : ByteArray} {z : Bool} (h : sgB T a (-1) w = z) : evCW tab spec_l6Sign [kp, Str w] (ph T a (-1)) 1 = some (B z, ph T a (-1)) := by
  have h1 := spec_l6Sign_ok (-1) hP w
  rwa [h] at h1
theorem is_T (hP : Pl T a) {w : ByteArray} {z : Bool} (h : isB T a (-1) w = z) : evCW tab spec_l6Is [kp, Str w] (ph T a (-1)) 1 = some (B z, ph T a (-1)) := by
  have h1 := spec_l6Is_ok (-1) hP w
  rwa [h] at h1
theorem snext_T (hP : Pl T a) (h : nx T a = a + 1) : evCW tab spec_l6Next [kp] (ph T a (-1)) 1 = some (.tup [], ph T (a + 1) (-1)) := by
  have h1 := spec_l6Next_ok (-1) hP
  rwa [h] at h1
theorem fl_neg (p : Int) : fl (-1) p = p := by unfold fl; rw [if_pos (by decide)]
theorem need_sT (hT : TF T) (hP : Pl T a) {w : ByteArray} (hw : isWd w = false) (h : sgB T a (-1) w = true) : evCW tab impl_parser_need [kp, Str w] (ph T a (-1)) 1 = some (.tup [], ph T (a + 1) (-1)) := by
  have h1 := impl_need_ok (-1) hP w
  rw [tk_sg hT hP hw, h, (sg_nx hT hP h).1] at h1
  simpa only [if_true] using h1
theorem need_sF (hT : TF T) (hP : Pl T a) {w : ByteArray} (hw : isWd w = false) (h : sgB T a (-1) w = false) : evCW tab impl_parser_need [kp, Str w] (ph T a (-1)) 1 = some (.tup [], ph T a (tk T a).fAt) := by
  have h1 := impl_need_ok (-1) hP w
  rw [tk_sg hT hP hw, h, fl_neg] at h1
  simpa only [Bool.false_eq_true, if_false] using h1
theorem need_wT (hT : TF T) (hP : Pl T a) {w : ByteArray} (hw : isWd w = true) (h : isB T a (-1) w = true) : evCW tab impl_parser_need [kp, Str w] (ph T a (-1)) 1 = some (.tup [], ph T (a + 1) (-1)) := by
  have h1 := impl_need_ok (-1) hP w
  rw [tk_is hT hP hw, h, (is_nx hT hP h).1] at h1
  simpa only [if_true] using h1
theorem need_wF (hT : TF T) (hP : Pl T a) {w : ByteArray} (hw : isWd w = true) (h : isB T a (-1) w = false) : evCW tab impl_parser_need [kp, Str w] (ph T a (-1)) 1 = some (.tup [], ph T a (tk T a).fAt) := by
  have h1 := impl_need_ok (-1) hP w
  rw [tk_is hT hP hw, h, fl_neg] at h1
  simpa only [Bool.false_eq_true, if_false] using h1
theorem stake_T (hT : TF T) (hP : Pl T a) {w : ByteArray} (h : sgB T a (-1) w = true) : evCW tab spec_l6Take [kp, Str w] (ph T a (-1)) 1 = some (.tup [], ph T (a + 1) (-1)) := by
  have h1 := spec_l6Take_ok (-1) hP w
  rw [h, (sg_nx hT hP h).1] at h1
  simpa only [if_true] using h1
theorem stake_F (hP : Pl T a) {w : ByteArray} (h : sgB T a (-1) w = false) : evCW tab spec_l6Take [kp, Str w] (ph T a (-1)) 1 = some (.tup [], ph T a (tk T a).fAt) := by
  have h1 := spec_l6Take_ok (-1) hP w
  rw [h, fl_neg] at h1
  simpa only [Bool.false_eq_true, if_false] using h1
theorem word_T (hT : TF T) (hP : Pl T a) {w : ByteArray} (h : isB T a (-1) w = true) : evCW tab spec_l6Word [kp, Str w] (ph T a (-1)) 1 = some (.tup [], ph T (a + 1) (-1)) := by
  have h1 := spec_l6Word_ok (-1) hP w
  rw [h, (is_nx hT hP h).1] at h1
  simpa only [if_true] using h1
theorem word_F (hP : Pl T a) {w : ByteArray} (h : isB T a (-1) w = false) : evCW tab spec_l6Word [kp, Str w] (ph T a (-1)) 1 = some (.tup [], ph T a (tk T a).fAt) := by
  have h1 := spec_l6Word_ok (-1) hP w
  rw [h, fl_neg] at h1
  simpa only [Bool.false_eq_true, if_false] using h1
theorem bad_T (hP : Pl T a) : evCW tab spec_l6Bad [kp] (ph T a (-1)) 1 = some (.tup [], ph T a (tk T a).fAt) := by
  have h1 := spec_l6Bad_ok (-1) hP
  rwa [fl_neg] at h1
theorem failAt_T (p : Int) : evCW tab impl_parser_failAt [kp, I p] (ph T a (-1)) 1 = some (.tup [], ph T a p) := by
  have h1 := impl_failAt_ok (T := T) (a := a) (-1) p
  rwa [fl_neg] at h1
theorem nm_nx (hT : TF T) (hP : Pl T a) (h : nmB T a (-1) = true) : nx T a = a + 1 ∧ Pl T (a + 1) := by
  have h1 : (tk T a).fKind = 1 := by simp [nmB] at h; exact h.1
  have h2 := hT.k0 a hP (by omega)
  exact ⟨by rw [nx, if_pos h2], ⟨by have := hP.l; omega, by omega, hP.m⟩⟩
theorem nu_nx (hT : TF T) (hP : Pl T a) (h : (tk T a).fKind = 2) : nx T a = a + 1 ∧ Pl T (a + 1) := by
  have h2 := hT.k0 a hP (by omega)
  exact ⟨by rw [nx, if_pos h2], ⟨by have := hP.l; omega, by omega, hP.m⟩⟩
theorem name_T (hT : TF T) (hP : Pl T a) (h : nmB T a (-1) = true) : evCW tab impl_parser_name [kp] (ph T a (-1)) 1 = some (Str (tk T a).fText, ph T (a + 1) (-1)) := by
  have h1 := impl_name_ok (-1) hP
  rw [h, (nm_nx hT hP h).1] at h1
  simpa only [if_true] using h1
theorem name_F (hP : Pl T a) (h : nmB T a (-1) = false) : evCW tab impl_parser_name [kp] (ph T a (-1)) 1 = some (Str noS, ph T a (tk T a).fAt) := by
  have h1 := impl_name_ok (-1) hP
  rw [h, fl_neg] at h1
  simpa only [Bool.false_eq_true, if_false] using h1
theorem sname_T (hT : TF T) (hP : Pl T a) (h : nmB T a (-1) = true) : evCW tab spec_l6Name [kp] (ph T a (-1)) 1 = some (Str (tk T a).fText, ph T (a + 1) (-1)) := by
  have h1 := spec_l6Name_ok (-1) hP
  rw [h, (nm_nx hT hP h).1] at h1
  simpa only [if_true] using h1
theorem sname_F (hP : Pl T a) (h : nmB T a (-1) = false) : evCW tab spec_l6Name [kp] (ph T a (-1)) 1 = some (Str noS, ph T a (tk T a).fAt) := by
  have h1 := spec_l6Name_ok (-1) hP
  rw [h, fl_neg] at h1
  simpa only [Bool.false_eq_true, if_false] using h1
theorem number_T (hT : TF T) (hP : Pl T a) (h : (tk T a).fKind = 2) : evCW tab impl_parser_number [kp] (ph T a (-1)) 1 = some (I (tk T a).fN, ph T (a + 1) (-1)) := by
  have h1 := impl_number_ok (-1) hP
  rw [show nuB T a (-1) = true by simp [nuB, h], (nu_nx hT hP h).1] at h1
  simpa only [if_true] using h1
theorem number_F (hP : Pl T a) (h : ¬ (tk T a).fKind = 2) : evCW tab impl_parser_number [kp] (ph T a (-1)) 1 = some (I 0, ph T a (tk T a).fAt) := by
  have h1 := impl_number_ok (-1) hP
  rw [show nuB T a (-1) = false by simp [nuB, h], fl_neg] at h1
  simpa only [Bool.false_eq_true, if_false] using h1
def Sms (A : List TNode) : Prop := ∀ y ∈ A, y.Sm
theorem sms_nil : Sms [] := by intro y hy; simp at hy
theorem sms_snoc {A : List TNode} {x : TNode} (h : Sms A) (hx : x.Sm) : Sms (A ++ [x]) := by
  intro y hy
  rcases List.mem_append.1 hy with k | k
  · exact h y k
  · rw [List.mem_singleton.1 k]; exact hx
theorem row_sm {op v : Int} {w : ByteArray} {A : List TNode} (hw : w.size ≤ 1048576) (h : Sms A) (hl : A.length ≤ 1048576) : (TNode.mk op w v A).Sm := .mk hw hl h
theorem one_sm {op v : Int} {w : ByteArray} {x : TNode} (hw : w.size ≤ 1048576) (h : x.Sm) : (TNode.mk op w v [x]).Sm := .mk hw (by simp) (by simpa using h)
theorem ct_snoc (A : List TNode) (x : TNode) : nodesCt (A ++ [x]) = nodesCt A + x.ct := by
  induction A with
  | nil => rw [List.nil_append, nodesCt_cons, nodesCt_nil]; omega
  | cons y A ih => rw [List.cons_append, nodesCt_cons, ih, nodesCt_cons]; omega
theorem noS_sz : noS.size ≤ 1048576 := by decide
end Go.Ev.G

/- The parsers: lists of exprs. -/
set_option linter.all false
namespace Go.Ev.G
set_option maxRecDepth 8000
set_option maxHeartbeats 4000000
variable {T : List TToken} {a : Int}
abbrev xsS (T : List TToken) (a b p : Int) (A : List TNode) : St := { env := upd (upd (upd emp 5 (some (.ref (1, 0) []))) 4 (some (I p))) 0 (some kp), heap := llH T a b A, fr := 1, next := 1 }
abbrev slS (T : List TToken) (a b : Int) (A : List TNode) : St := { env := upd (upd emp 3 (some (.ref (1, 0) []))) 0 (some kp), heap := llH T a b A, fr := 1, next := 1 }
inductive Ls where
  | ok (L : List TNode) (e : Int)
  | no (p : Int)
def XEnds (T : List TToken) (q : Int) : Ls → Option (Ex × St) → Prop
  | .ok L e, r => r = some (.ext 0, xsS T e (-1) q L)
  | .no p, r => ∃ L e b, Pl T e ∧ Sms L ∧ L.length ≤ 1048576 ∧ r = some (.ext 0, xsS T e b q L) ∧ (b = p ∨ (b = -1 ∧ (tk T e).fAt = p ∧ sgB T e (-1) ⟨#[41]⟩ = false))
def SEnds (T : List TToken) : Ls → Option (Ex × St) → Prop
  | .ok L e, r => r = some (.ext 0, slS T e (-1) L)
  | .no p, r => ∃ L e, Pl T e ∧ Sms L ∧ L.length ≤ 1048575 ∧ r = some (.ext 0, slS T e p L)
def LGood (T : List TToken) (a : Int) (k : Int) : Ls → Prop
  | .ok L e => Pl T e ∧ a ≤ e ∧ Sms L ∧ (L.length : Int) ≤ e ∧ nodesCt L ≤ 3 * (e - a) + k ∧ sgB T e (-1) ⟨#[41]⟩ = true
  | .no p => 0 ≤ p
theorem list_l0 (hT : TF T) (q : Int) : ∀ (m : Nat) (a a0 : Int) (A : List TNode), Pl T a → Pl T a0 → Sms A → (A.length : Int) ≤ a → (T.length : Int) - a ≤ m → (∀ e, Pl T e → a ≤ e → Both T e impl_parser_expr spec_l6Expr) →
    ((A = [] ∧ a0 = a ∧ sgB T a (-1) ⟨#[41]⟩ = false) ∨ (A ≠ [] ∧ a0 + 1 = a ∧ sgB T a0 (-1) ⟨#[44]⟩ = true)) →
    ∃ R, LGood T a (nodesCt A) R ∧ XEnds T q R (loopW tab [0, 4, 5] b_impl_parser_exprs_0 (xsS T a (-1) q A)) ∧ SEnds T R (loopW tab [0, 3] b_spec_l6List_0 (slS T a0 (-1) A))
  | 0, a, a0, A, hP, hP0, hA, hl, hm, H, hd => by have := hP.h; omega
  | m + 1, a, a0, A, hP, hP0, hA, hl, hm, H, hd => by
    have hal := hP.h
    have hmm := hP.m
    have hsn : ∀ (x : TNode) (b e : Int), evCW tab spec_l6Expr [kp] (ph T a (-1)) 1 = some (x.xo, ph T e b) → loopW tab [0, 3] b_spec_l6List_0 (slS T a0 (-1) A) = loopW tab [0, 3] b_spec_l6List_0 (slS T e b (A ++ [x])) := by
      intro x b e hx
      rcases hd with ⟨hA0, ha0, hz⟩ | ⟨hA0, ha0, hz⟩
      · subst hA0; subst ha0
        have h1 := sign_T hP hz
        conv => lhs; unfold loopW
        conv => lhs; arg 1; unfold b_spec_l6List_0
        simp only [slS, llH, ph, pc, List.map_append, List.map_cons, List.map_nil, List.nil_append, TNode.o_def] at h1 hx ⊢
        simp (maxSteps := 999999) (implicitDefEqProofs := false) (disch := (first | assumption | omega | (unfold appOk; (try simp only [List.length_map, List.length_append, List.length_cons, List.length_nil]); omega))) only [go_sem, simprocAttr, h1, hx]
      · have h1 := sign_T hP0 (sg_other hz (show (⟨#[44]⟩ : ByteArray) ≠ ⟨#[41]⟩ by decide))
        have h2 := stake_T hT hP0 hz
        rw [ha0] at h2
        have hlen : (0 : Int) < A.length := by
          cases A with
          | nil => exact absurd rfl hA0
          | cons y ys => simp only [List.length_cons]; omega
        conv => lhs; unfold loopW
        conv => lhs; arg 1; unfold b_spec_l6List_0
        simp only [slS, llH, ph, pc, List.map_append, List.map_cons, List.map_nil, TNode.o_def] at h1 h2 hx ⊢
        simp (maxSteps := 999999) (implicitDefEqProofs := false) (disch := (first | assumption | omega | (unfold appOk; (try simp only [List.length_map, List.length_append, List.length_cons, List.length_nil]); omega))) only [go_sem, simprocAttr, h1, h2, hx]
    obtain ⟨R, hG, hi, hs⟩ := H a hP (by omega)
    cases R with
    | no p =>
      have hp : 0 ≤ p := hG
      obtain ⟨y1, e1, hE1, hS1, hi'⟩ := hi
      obtain ⟨y2, e2, hE2, hS2, hs'⟩ := hs
      refine ⟨.no p, hp, ⟨A ++ [y1], e1, p, hE1, sms_snoc hA hS1, by simp; omega, ?_, Or.inl rfl⟩, ⟨A ++ [y2], e2, hE2, sms_snoc hA hS2, by simp; omega, ?_⟩⟩
      · have h1 := take_dead hE1 hp ⟨#[44]⟩
        conv => lhs; unfold loopW
        conv => lhs; arg 1; unfold b_impl_parser_exprs_0
        simp only [xsS, llH, ph, pc, List.map_append, List.map_cons, List.map_nil, TNode.o_def] at hi' h1 ⊢
        simp (maxSteps := 999999) (implicitDefEqProofs := false) (disch := (first | assumption | omega | (unfold appOk; (try simp only [List.length_map, List.length_append, List.length_cons, List.length_nil]); omega))) only [go_sem, simprocAttr, hi', h1, Ex.ext.injEq]
      · rw [hsn y2 p e2 hs']
        exact slist_l0_dead hp _
    | ok x e =>
      obtain ⟨g1, g2, g3, g4⟩ := hG
      simp only [Ends] at hi hs
      rw [hsn x (-1) e hs]
      have hc := x.ct_nn
      cases hz : sgB T e (-1) ⟨#[44]⟩
      · have h1 := take_sF hT g1 (by decide) hz
        have hstop : loopW tab [0, 4, 5] b_impl_parser_exprs_0 (xsS T a (-1) q A) = some (.ext 0, xsS T e (-1) q (A ++ [x])) := by
          conv => lhs; unfold loopW
          conv => lhs; arg 1; unfold b_impl_parser_exprs_0
          simp only [xsS, llH, ph, pc, List.map_append, List.map_cons, List.map_nil, TNode.o_def] at hi h1 ⊢
          simp (maxSteps := 999999) (implicitDefEqProofs := false) (disch := (first | assumption | omega | (unfold appOk; (try simp only [List.length_map, List.length_append, List.length_cons, List.length_nil]); omega))) only [go_sem, simprocAttr, hi, h1, Ex.ext.injEq]
        rw [hstop]
        cases hz2 : sgB T e (-1) ⟨#[41]⟩
        · have hp := hT.p e g1
          obtain ⟨n', e', hE', hS', hd'⟩ := sexpr_dead g1 hp
          refine ⟨.no (tk T e).fAt, hp, ⟨A ++ [x], e, -1, g1, sms_snoc hA g3, by simp; omega, rfl, Or.inr ⟨rfl, rfl, hz2⟩⟩, ⟨A ++ [x] ++ [n'], e', hE', sms_snoc (sms_snoc hA g3) hS', by simp; omega, ?_⟩⟩
          have h1 := sign_T g1 hz2
          have h2 := stake_F g1 hz
          have h3 := slist_l0_dead (T := T) (a := e') hp (A ++ [x] ++ [n'])
          have hlen : (0 : Int) < (A ++ [x]).length := by simp
          conv => lhs; unfold loopW
          conv => lhs; arg 1; unfold b_spec_l6List_0
          simp only [slS, llH, ph, pc, List.map_append, List.map_cons, List.map_nil, TNode.o_def] at h1 h2 h3 hd' ⊢
          simp (maxSteps := 999999) (implicitDefEqProofs := false) (disch := (first | assumption | omega | (unfold appOk; (try simp only [List.length_map, List.length_append, List.length_cons, List.length_nil]); omega))) only [go_sem, simprocAttr, h1, h2, h3, hd', List.length_append, List.length_map]
        · refine ⟨.ok (A ++ [x]) e, ⟨g1, g2, sms_snoc hA g3, by simp; omega, by rw [ct_snoc]; omega, hz2⟩, rfl, ?_⟩
          have h2 := sign_T g1 hz2
          simp only [SEnds]
          conv => lhs; unfold loopW
          conv => lhs; arg 1; unfold b_spec_l6List_0
          simp only [slS, llH, ph, pc] at h2 ⊢
          simp (maxSteps := 999999) (implicitDefEqProofs := false) (disch := (first | assumption | omega | (unfold appOk; (try simp only [List.length_map, List.length_append, List.length_cons, List.length_nil]); omega))) only [go_sem, simprocAttr, h2]
      · have h1 := take_sT hT g1 (by decide) hz
        obtain ⟨hn, hP1⟩ := sg_nx hT g1 hz
        obtain ⟨R2, k1, k2, k3⟩ := list_l0 hT q m (e + 1) e (A ++ [x]) hP1 g1 (sms_snoc hA g3) (by simp; omega) (by omega) (fun e' he' hlt => H e' he' (by omega)) (Or.inr ⟨by simp, rfl, hz⟩)
        refine ⟨R2, ?_, ?_, k3⟩
        · cases R2 with
          | ok L e2 =>
            obtain ⟨j1, j2, j3, j4, j5, j6⟩ := k1
            rw [ct_snoc] at j5
            exact ⟨j1, by omega, j3, j4, by omega, j6⟩
          | no p => exact k1
        · suffices h : loopW tab [0, 4, 5] b_impl_parser_exprs_0 (xsS T a (-1) q A) = loopW tab [0, 4, 5] b_impl_parser_exprs_0 (xsS T (e + 1) (-1) q (A ++ [x])) by rw [h]; exact k2
          conv => lhs; unfold loopW
          conv => lhs; arg 1; unfold b_impl_parser_exprs_0
          simp only [xsS, llH, ph, pc, List.map_append, List.map_cons, List.map_nil, TNode.o_def] at hi h1 ⊢
          simp (maxSteps := 999999) (implicitDefEqProofs := false) (disch := (first | assumption | omega | (unfold appOk; (try simp only [List.length_map, List.length_append, List.length_cons, List.length_nil]); omega))) only [go_sem, simprocAttr, hi, h1, Ex.ext.injEq]
def EEnds (T : List TToken) (q : Int) : Ls → Option (X × Heap) → Prop
  | .ok L e, r => r = some (.tup [.d (.s 4 (L.map TNode.o)), I q], ph T e (-1))
  | .no p, r => ∃ L e, Pl T e ∧ Sms L ∧ L.length ≤ 1048576 ∧ r = some (.tup [.d (.s 4 (L.map TNode.o)), I q], ph T e p)
def MEnds (T : List TToken) : Ls → Option (X × Heap) → Prop
  | .ok L e, r => r = some (.d (.s 4 (L.map TNode.o)), ph T e (-1))
  | .no p, r => ∃ L e, Pl T e ∧ Sms L ∧ L.length ≤ 1048575 ∧ r = some (.d (.s 4 (L.map TNode.o)), ph T e p)
def RGood (T : List TToken) (a : Int) : Ls → Prop
  | .ok L e => Pl T e ∧ a + 2 ≤ e ∧ Sms L ∧ L.length ≤ 1048576 ∧ nodesCt L ≤ 3 * (e - a) - 6
  | .no p => 0 ≤ p
theorem exprs_both (hT : TF T) (hP : Pl T a) (H : ∀ e, Pl T e → a < e → Both T e impl_parser_expr spec_l6Expr) :
    ∃ R, RGood T a R ∧ EEnds T (tk T a).fAt R (evCW tab impl_parser_exprs [kp] (ph T a (-1)) 1) ∧ MEnds T R (evCW tab spec_l6List [kp] (ph T a (-1)) 1) := by
  have h0 := impl_here_ok (-1) hP
  cases hz : sgB T a (-1) ⟨#[40]⟩
  · have hp := hT.p a hP
    have h1 := need_sF hT hP (by decide) hz
    have h2 := take_dead hP hp ⟨#[41]⟩
    have h3 := exprs_l0_dead (T := T) (a := a) hp (tk T a).fAt []
    have h4 := need_dead hP hp ⟨#[41]⟩
    have h5 := stake_F hP hz
    have h6 := slist_l0_dead (T := T) (a := a) hp []
    have h7 := stake_dead hP hp ⟨#[41]⟩
    refine ⟨.no (tk T a).fAt, hp, ⟨[], a, hP, sms_nil, by decide, ?_⟩, ⟨[], a, hP, sms_nil, by decide, ?_⟩⟩
    · rw [evCW_of t_impl_parser_exprs _ _ _ rfl, c_impl_parser_exprs]
      simp only [llH, List.map_nil] at h3 ⊢
      simp (maxSteps := 999999) (implicitDefEqProofs := false) (disch := (first | assumption | omega)) only [go_sem, simprocAttr, h0, h1, h2, h3, h4]
    · rw [evCW_of t_spec_l6List _ _ _ rfl, c_spec_l6List]
      simp only [llH, List.map_nil] at h6 ⊢
      simp (maxSteps := 999999) (implicitDefEqProofs := false) (disch := (first | assumption | omega)) only [go_sem, simprocAttr, h5, h6, h7]
  · obtain ⟨hn, hP1⟩ := sg_nx hT hP hz
    have h1 := need_sT hT hP (by decide) hz
    have h5 := stake_T hT hP hz
    have hal := hP.l
    cases hz2 : sgB T (a + 1) (-1) ⟨#[41]⟩
    · have h2 := take_sF hT hP1 (by decide) hz2
      obtain ⟨R, hG, hi, hs⟩ := list_l0 hT (tk T a).fAt T.length (a + 1) (a + 1) [] hP1 hP1 sms_nil (by simp; omega) (by omega) (fun e he hlt => H e he (by omega)) (Or.inl ⟨rfl, rfl, hz2⟩)
      rw [nodesCt_nil] at hG
      cases R with
      | ok L e =>
        obtain ⟨g1, g2, g3, g4, g5, g6⟩ := hG
        obtain ⟨hn2, hP2⟩ := sg_nx hT g1 g6
        have h3 := need_sT hT g1 (by decide) g6
        have h4 := stake_T hT g1 g6
        simp only [XEnds, SEnds] at hi hs
        refine ⟨.ok L (e + 1), ⟨hP2, by omega, g3, by have := g1.h; have := g1.m; omega, by omega⟩, ?_, ?_⟩
        · simp only [EEnds]
          rw [evCW_of t_impl_parser_exprs _ _ _ rfl, c_impl_parser_exprs]
          simp only [xsS, llH, List.map_nil] at hi ⊢
          simp (maxSteps := 999999) (implicitDefEqProofs := false) (disch := (first | assumption | omega)) only [go_sem, simprocAttr, h0, h1, h2, hi, h3]
        · simp only [MEnds]
          rw [evCW_of t_spec_l6List _ _ _ rfl, c_spec_l6List]
          simp only [slS, llH, List.map_nil] at hs ⊢
          simp (maxSteps := 999999) (implicitDefEqProofs := false) (disch := (first | assumption | omega)) only [go_sem, simprocAttr, h5, hs, h4]
      | no p =>
        have hp : 0 ≤ p := hG
        obtain ⟨L1, e1, b1, i1, i2, i3, i4, i5⟩ := hi
        obtain ⟨L2, e2, j1, j2, j3, j4⟩ := hs
        have h3 : evCW tab impl_parser_need [kp, Str ⟨#[41]⟩] (ph T e1 b1) 1 = some (.tup [], ph T e1 p) := by
          rcases i5 with rfl | ⟨rfl, rfl, i7⟩
          · exact need_dead i1 hp _
          · exact need_sF hT i1 (by decide) i7
        have h4 := stake_dead j1 hp ⟨#[41]⟩
        refine ⟨.no p, hp, ⟨L1, e1, i1, i2, i3, ?_⟩, ⟨L2, e2, j1, j2, j3, ?_⟩⟩
        · rw [evCW_of t_impl_parser_exprs _ _ _ rfl, c_impl_parser_exprs]
          simp only [xsS, llH, List.map_nil] at i4 ⊢
          simp (maxSteps := 999999) (implicitDefEqProofs := false) (disch := (first | assumption | omega)) only [go_sem, simprocAttr, h0, h1, h2, i4, h3]
        · rw [evCW_of t_spec_l6List _ _ _ rfl, c_spec_l6List]
          simp only [slS, llH, List.map_nil] at j4 ⊢
          simp (maxSteps := 999999) (implicitDefEqProofs := false) (disch := (first | assumption | omega)) only [go_sem, simprocAttr, h5, j4, h4]
    · obtain ⟨hn2, hP2⟩ := sg_nx hT hP1 hz2
      have h2 := take_sT hT hP1 (by decide) hz2
      have h3 := sign_T hP1 hz2
      have h4 := stake_T hT hP1 hz2
      have h6 : loopW tab [0, 3] b_spec_l6List_0 (slS T (a + 1) (-1) []) = some (.ext 0, slS T (a + 1) (-1) []) := by
        conv => lhs; unfold loopW
        conv => lhs; arg 1; unfold b_spec_l6List_0
        simp only [slS, llH, ph, pc, List.map_nil] at h3 ⊢
        simp (maxSteps := 999999) (implicitDefEqProofs := false) (disch := (first | assumption | omega)) only [go_sem, simprocAttr, h3]
      refine ⟨.ok [] (a + 1 + 1), ⟨hP2, by omega, sms_nil, by decide, by rw [nodesCt_nil]; omega⟩, ?_, ?_⟩
      · simp only [EEnds]
        rw [evCW_of t_impl_parser_exprs _ _ _ rfl, c_impl_parser_exprs]
        simp (maxSteps := 999999) (implicitDefEqProofs := false) (disch := (first | assumption | omega)) only [go_sem, simprocAttr, h0, h1, h2, List.map_nil]
      · simp only [MEnds]
        rw [evCW_of t_spec_l6List _ _ _ rfl, c_spec_l6List]
        simp only [slS, llH, List.map_nil] at h6 ⊢
        simp (maxSteps := 999999) (implicitDefEqProofs := false) (disch := (first | assumption | omega)) only [go_sem, simprocAttr, h5, h6, h4]
theorem special_both (hT : TF T) (hP : Pl T a) (hn : nx T a = a + 1) (hP1 : Pl T (a + 1)) (op many : Int) (H : ∀ e, Pl T e → a < e → Both T e impl_parser_expr spec_l6Expr) :
    ∃ R, Good T (a + 1) 0 R ∧ Ends T R (evCW tab impl_parser_special [kp, I op, I many] (ph T (a + 1) (-1)) 1) ∧ Ends T R (evCW tab spec_l6Built [kp, I op, I many] (ph T a (-1)) 1) := by
  have h1 := snext_T hP hn
  obtain ⟨R, hG, hi, hs⟩ := exprs_both hT hP1 (fun e he hlt => H e he (by omega))
  cases R with
  | ok L e =>
    obtain ⟨g1, g2, g3, g4, g5⟩ := hG
    simp only [EEnds, MEnds] at hi hs
    by_cases hl : (L.length : Int) = many
    · refine ⟨.ok (.mk op noS 0 L) e, ⟨g1, by omega, row_sm noS_sz g3 g4, by rw [TNode.ct_eq]; omega⟩, ?_, ?_⟩
      · simp only [Ends]
        rw [evCW_of t_impl_parser_special _ _ _ rfl, c_impl_parser_special]
        simp (maxSteps := 999999) (implicitDefEqProofs := false) (disch := (first | assumption | omega)) only [go_sem, simprocAttr, hi, hl, TNode.xo]
      · simp only [Ends]
        rw [evCW_of t_spec_l6Built _ _ _ rfl, c_spec_l6Built]
        simp only [ph, pc] at h1 hs ⊢
        simp (maxSteps := 999999) (implicitDefEqProofs := false) (disch := (first | assumption | omega)) only [go_sem, simprocAttr, h1, hs, hl, TNode.xo]
    · have hp := hT.p _ hP1
      have h2 := failAt_T (T := T) (a := e) (tk T (a + 1)).fAt
      have h3 := bad_T hP1
      refine ⟨.no (tk T (a + 1)).fAt, hp, ⟨.mk op noS 0 L, e, g1, row_sm noS_sz g3 g4, ?_⟩, ⟨.mk op noS 0 L, a + 1, hP1, row_sm noS_sz g3 g4, ?_⟩⟩
      · rw [evCW_of t_impl_parser_special _ _ _ rfl, c_impl_parser_special]
        simp (maxSteps := 999999) (implicitDefEqProofs := false) (disch := (first | assumption | omega)) only [go_sem, simprocAttr, hi, hl, h2, TNode.xo]
      · rw [evCW_of t_spec_l6Built _ _ _ rfl, c_spec_l6Built]
        simp only [ph, pc] at h1 hs h3 ⊢
        simp (maxSteps := 999999) (implicitDefEqProofs := false) (disch := (first | assumption | omega)) only [go_sem, simprocAttr, h1, hs, hl, h3, TNode.xo]
  | no p =>
    have hp : 0 ≤ p := hG
    obtain ⟨L1, e1, i1, i2, i3, i4⟩ := hi
    obtain ⟨L2, e2, j1, j2, j3, j4⟩ := hs
    have h2 := fail_dead (T := T) (a := e1) hp (tk T (a + 1)).fAt
    refine ⟨.no p, hp, ⟨.mk op noS 0 L1, e1, i1, row_sm noS_sz i2 i3, ?_⟩, ⟨.mk op noS 0 L2, e2, j1, row_sm noS_sz j2 (by omega), ?_⟩⟩
    · rw [evCW_of t_impl_parser_special _ _ _ rfl, c_impl_parser_special]
      by_cases hl : (L1.length : Int) = many
      · simp (maxSteps := 999999) (implicitDefEqProofs := false) (disch := (first | assumption | omega)) only [go_sem, simprocAttr, i4, hl, TNode.xo]
      · simp (maxSteps := 999999) (implicitDefEqProofs := false) (disch := (first | assumption | omega)) only [go_sem, simprocAttr, i4, hl, h2, TNode.xo]
    · rw [evCW_of t_spec_l6Built _ _ _ rfl, c_spec_l6Built]
      simp only [ph, pc] at h1 j4 ⊢
      simp (maxSteps := 999999) (implicitDefEqProofs := false) (disch := (first | assumption | omega)) only [go_sem, simprocAttr, h1, j4, TNode.xo]
end Go.Ev.G

/- The parsers: atoms. -/
set_option linter.all false
namespace Go.Ev.G
set_option maxRecDepth 8000
set_option maxHeartbeats 4000000
variable {T : List TToken} {a b : Int}
theorem is_other {w v : ByteArray} (h : isB T a b w = true) (hne : w ≠ v) : isB T a b v = false := by
  simp [isB] at h
  simp [isB, h.2.2, hne]
theorem sg_of_is {w : ByteArray} (h : isB T a b w = true) (v : ByteArray) : sgB T a b v = false := by
  simp [isB] at h
  simp [sgB, h.2.1]
theorem txt_sg (hT : TF T) (hP : Pl T a) {w : ByteArray} (hw : isWd w = false) (hn : w ≠ noS) : decide ((tk T a).fText = w) = sgB T a (-1) w := by
  by_cases c : (tk T a).fText = w
  · have h1 := hT.k1 a hP
    have h2 := hT.k2 a hP
    have h3 := hT.kk a hP
    have c3 : (tk T a).fKind = 3 := by
      rcases h3 with h | h | h | h
      · exact absurd (c.symm.trans (h2 (Or.inl h))) hn
      · have := h1 h; rw [c, hw] at this; simp at this
      · exact absurd (c.symm.trans (h2 (Or.inr h))) hn
      · exact h
    simp [sgB, c, c3]
  · simp [sgB, c]
theorem leaf_ct (op v : Int) (w : ByteArray) : (TNode.mk op w v []).ct = 3 := by rw [TNode.ct_eq, nodesCt_nil]; rfl
theorem leaf_sm' {op v : Int} {w : ByteArray} (h : w.size ≤ 1048576) : (TNode.mk op w v []).Sm := .mk h (by simp) (by simp)
theorem good_up {T : List TToken} {a a' k : Int} (h : a ≤ a') : ∀ {R : Rs}, Good T a' k R → Good T a k R
  | .ok n e, ⟨h1, h2, h3, h4⟩ => ⟨h1, by omega, h3, by omega⟩
  | .no p, h1 => h1

theorem atom_both (hT : TF T) (hP : Pl T a) (H : ∀ e, Pl T e → a < e → Both T e impl_parser_expr spec_l6Expr) : Both T a impl_parser_atom spec_l6Atom := by
  have i0 := impl_here_ok (-1) hP
  have s0 := spec_l6Now_ok (-1) hP
  have hal := hP.l
  by_cases k2 : (tk T a).fKind = 2
  · obtain ⟨hn, hP1⟩ := nu_nx hT hP k2
    have i1 := number_T hT hP k2
    have s1 := snext_T hP hn
    refine ⟨.ok (.mk 19 noS (tk T a).fN []) (a + 1), ⟨hP1, by omega, leaf_sm, by rw [leaf_ct]; omega⟩, ?_, ?_⟩
    · simp only [Ends]
      rw [evCW_of t_impl_parser_atom _ _ _ rfl, c_impl_parser_atom]
      simp only [ph, pc] at i0 i1 ⊢
      simp (maxSteps := 999999) (implicitDefEqProofs := false) (disch := (first | assumption | omega)) only [go_sem, simprocAttr, i0, i1, k2, TNode.xo, List.map_nil, List.map_cons]
    · simp only [Ends]
      rw [evCW_of t_spec_l6Atom _ _ _ rfl, c_spec_l6Atom]
      simp only [ph, pc] at s0 s1 ⊢
      simp (maxSteps := 999999) (implicitDefEqProofs := false) (disch := (first | assumption | omega)) only [go_sem, simprocAttr, s0, s1, k2, TNode.xo, List.map_nil, List.map_cons]
  cases z1 : sgB T a (-1) ⟨#[45]⟩
  rotate_left
  · obtain ⟨hn, hP1⟩ := sg_nx hT hP z1
    have i1 := take_sT hT hP (by decide) z1
    have s1 := sign_T hP z1
    have s2 := snext_T hP hn
    have s3 := spec_l6Now_ok (-1) hP1
    by_cases k3 : (tk T (a + 1)).fKind = 2
    · obtain ⟨hn2, hP2⟩ := nu_nx hT hP1 k3
      have i2 := number_T hT hP1 k3
      have s4 := snext_T hP1 hn2
      have hN := hT.n _ hP1
      refine ⟨.ok (.mk 19 noS (0 - (tk T (a + 1)).fN) []) (a + 1 + 1), ⟨hP2, by omega, leaf_sm, by rw [leaf_ct]; omega⟩, ?_, ?_⟩
      · simp only [Ends]
        rw [evCW_of t_impl_parser_atom _ _ _ rfl, c_impl_parser_atom]
        simp only [ph, pc] at i0 i1 i2 ⊢
        simp (maxSteps := 999999) (implicitDefEqProofs := false) (disch := (first | assumption | omega)) only [go_sem, simprocAttr, i0, i1, i2, k2, k3, TNode.xo, List.map_nil, List.map_cons]
      · simp only [Ends]
        rw [evCW_of t_spec_l6Atom _ _ _ rfl, c_spec_l6Atom]
        simp only [ph, pc] at s0 s1 s2 s3 s4 ⊢
        simp (maxSteps := 999999) (implicitDefEqProofs := false) (disch := (first | assumption | omega)) only [go_sem, simprocAttr, s0, s1, s2, s3, s4, k2, k3, TNode.xo, List.map_nil, List.map_cons]
    · have i2 := number_F hP1 k3
      have s4 := bad_T hP1
      refine ⟨.no (tk T (a + 1)).fAt, hT.p _ hP1, ⟨.mk 19 noS 0 [], a + 1, hP1, leaf_sm, ?_⟩, ⟨.mk 0 noS 0 [], a + 1, hP1, leaf_sm, ?_⟩⟩
      · rw [evCW_of t_impl_parser_atom _ _ _ rfl, c_impl_parser_atom]
        simp only [ph, pc] at i0 i1 i2 ⊢
        simp (maxSteps := 999999) (implicitDefEqProofs := false) (disch := (first | assumption | omega)) only [go_sem, simprocAttr, i0, i1, i2, k2, k3, TNode.xo, List.map_nil, List.map_cons]
      · rw [evCW_of t_spec_l6Atom _ _ _ rfl, c_spec_l6Atom]
        simp only [ph, pc] at s0 s1 s2 s3 s4 ⊢
        simp (maxSteps := 999999) (implicitDefEqProofs := false) (disch := (first | assumption | omega)) only [go_sem, simprocAttr, s0, s1, s2, s3, s4, k2, k3, TNode.xo, List.map_nil, List.map_cons]
  have i1 := take_sF hT hP (by decide) z1
  have s1 := sign_T hP z1
  cases z2 : sgB T a (-1) ⟨#[40]⟩
  rotate_left
  · obtain ⟨hn, hP1⟩ := sg_nx hT hP z2
    have i2 := take_sT hT hP (by decide) z2
    have s2 := sign_T hP z2
    have s3 := snext_T hP hn
    obtain ⟨R, hG, hi, hs⟩ := H (a + 1) hP1 (by omega)
    cases R with
    | ok n e =>
      obtain ⟨g1, g2, g3, g4⟩ := hG
      simp only [Ends] at hi hs
      cases z3 : sgB T e (-1) ⟨#[41]⟩
      · have i3 := need_sF hT g1 (by decide) z3
        have s4 := stake_F g1 z3
        refine ⟨.no (tk T e).fAt, hT.p _ g1, ⟨n, e, g1, g3, ?_⟩, ⟨n, e, g1, g3, ?_⟩⟩
        · rw [evCW_of t_impl_parser_atom _ _ _ rfl, c_impl_parser_atom]
          simp only [ph, pc] at i0 i1 i2 hi i3 ⊢
          simp (maxSteps := 999999) (implicitDefEqProofs := false) (disch := (first | assumption | omega)) only [go_sem, simprocAttr, i0, i1, i2, hi, i3, k2, TNode.xo, List.map_nil, List.map_cons]
        · rw [evCW_of t_spec_l6Atom _ _ _ rfl, c_spec_l6Atom]
          simp only [ph, pc] at s0 s1 s2 s3 hs s4 ⊢
          simp (maxSteps := 999999) (implicitDefEqProofs := false) (disch := (first | assumption | omega)) only [go_sem, simprocAttr, s0, s1, s2, s3, hs, s4, k2, TNode.xo, List.map_nil, List.map_cons]
      · obtain ⟨hn3, hP3⟩ := sg_nx hT g1 z3
        have i3 := need_sT hT g1 (by decide) z3
        have s4 := stake_T hT g1 z3
        refine ⟨.ok n (e + 1), ⟨hP3, by omega, g3, by omega⟩, ?_, ?_⟩
        · simp only [Ends]
          rw [evCW_of t_impl_parser_atom _ _ _ rfl, c_impl_parser_atom]
          simp only [ph, pc] at i0 i1 i2 hi i3 ⊢
          simp (maxSteps := 999999) (implicitDefEqProofs := false) (disch := (first | assumption | omega)) only [go_sem, simprocAttr, i0, i1, i2, hi, i3, k2, TNode.xo, List.map_nil, List.map_cons]
        · simp only [Ends]
          rw [evCW_of t_spec_l6Atom _ _ _ rfl, c_spec_l6Atom]
          simp only [ph, pc] at s0 s1 s2 s3 hs s4 ⊢
          simp (maxSteps := 999999) (implicitDefEqProofs := false) (disch := (first | assumption | omega)) only [go_sem, simprocAttr, s0, s1, s2, s3, hs, s4, k2, TNode.xo, List.map_nil, List.map_cons]
    | no p =>
      have hp : 0 ≤ p := hG
      obtain ⟨y1, e1, hE1, hS1, hi'⟩ := hi
      obtain ⟨y2, e2, hE2, hS2, hs'⟩ := hs
      have i3 := need_dead hE1 hp ⟨#[41]⟩
      have s4 := stake_dead hE2 hp ⟨#[41]⟩
      refine ⟨.no p, hp, ⟨y1, e1, hE1, hS1, ?_⟩, ⟨y2, e2, hE2, hS2, ?_⟩⟩
      · rw [evCW_of t_impl_parser_atom _ _ _ rfl, c_impl_parser_atom]
        simp only [ph, pc] at i0 i1 i2 hi' i3 ⊢
        simp (maxSteps := 999999) (implicitDefEqProofs := false) (disch := (first | assumption | omega)) only [go_sem, simprocAttr, i0, i1, i2, hi', i3, k2, TNode.xo, List.map_nil, List.map_cons]
      · rw [evCW_of t_spec_l6Atom _ _ _ rfl, c_spec_l6Atom]
        simp only [ph, pc] at s0 s1 s2 s3 hs' s4 ⊢
        simp (maxSteps := 999999) (implicitDefEqProofs := false) (disch := (first | assumption | omega)) only [go_sem, simprocAttr, s0, s1, s2, s3, hs', s4, k2, TNode.xo, List.map_nil, List.map_cons]
  have i2 := take_sF hT hP (by decide) z2
  have s2 := sign_T hP z2
  cases z3 : isB T a (-1) ⟨#[109, 97, 107, 101]⟩
  rotate_left
  · obtain ⟨hn, hP1⟩ := is_nx hT hP z3
    have i3 := take_wT hT hP (by decide) z3
    have s3 := is_T hP z3
    obtain ⟨R, hG, hi, hs⟩ := special_both hT hP hn hP1 27 1 H
    refine ⟨R, good_up (by omega) hG, ?_, ?_⟩
    · cases R with
      | ok n e =>
        simp only [Ends] at hi ⊢
        rw [evCW_of t_impl_parser_atom _ _ _ rfl, c_impl_parser_atom]
        simp only [ph, pc] at i0 i1 i2 i3 hi ⊢
        simp (maxSteps := 999999) (implicitDefEqProofs := false) (disch := (first | assumption | omega)) only [go_sem, simprocAttr, i0, i1, i2, i3, hi, k2, TNode.xo, List.map_nil, List.map_cons]
      | no p =>
        obtain ⟨y1, e1, hE1, hS1, hi'⟩ := hi
        refine ⟨y1, e1, hE1, hS1, ?_⟩
        rw [evCW_of t_impl_parser_atom _ _ _ rfl, c_impl_parser_atom]
        simp only [ph, pc] at i0 i1 i2 i3 hi' ⊢
        simp (maxSteps := 999999) (implicitDefEqProofs := false) (disch := (first | assumption | omega)) only [go_sem, simprocAttr, i0, i1, i2, i3, hi', k2, TNode.xo, List.map_nil, List.map_cons]
    · cases R with
      | ok n e =>
        simp only [Ends] at hs ⊢
        rw [evCW_of t_spec_l6Atom _ _ _ rfl, c_spec_l6Atom]
        simp only [ph, pc] at s0 s1 s2 s3 hs ⊢
        simp (maxSteps := 999999) (implicitDefEqProofs := false) (disch := (first | assumption | omega)) only [go_sem, simprocAttr, s0, s1, s2, s3, hs, k2, TNode.xo, List.map_nil, List.map_cons]
      | no p =>
        obtain ⟨y1, e1, hE1, hS1, hs'⟩ := hs
        refine ⟨y1, e1, hE1, hS1, ?_⟩
        rw [evCW_of t_spec_l6Atom _ _ _ rfl, c_spec_l6Atom]
        simp only [ph, pc] at s0 s1 s2 s3 hs' ⊢
        simp (maxSteps := 999999) (implicitDefEqProofs := false) (disch := (first | assumption | omega)) only [go_sem, simprocAttr, s0, s1, s2, s3, hs', k2, TNode.xo, List.map_nil, List.map_cons]
  have i3 := take_wF hT hP (by decide) z3
  have s3 := is_T hP z3
  cases z4 : isB T a (-1) ⟨#[112, 101, 101, 107]⟩
  rotate_left
  · obtain ⟨hn, hP1⟩ := is_nx hT hP z4
    have i4 := take_wT hT hP (by decide) z4
    have s4 := is_T hP z4
    obtain ⟨R, hG, hi, hs⟩ := special_both hT hP hn hP1 28 1 H
    refine ⟨R, good_up (by omega) hG, ?_, ?_⟩
    · cases R with
      | ok n e =>
        simp only [Ends] at hi ⊢
        rw [evCW_of t_impl_parser_atom _ _ _ rfl, c_impl_parser_atom]
        simp only [ph, pc] at i0 i1 i2 i3 i4 hi ⊢
        simp (maxSteps := 999999) (implicitDefEqProofs := false) (disch := (first | assumption | omega)) only [go_sem, simprocAttr, i0, i1, i2, i3, i4, hi, k2, TNode.xo, List.map_nil, List.map_cons]
      | no p =>
        obtain ⟨y1, e1, hE1, hS1, hi'⟩ := hi
        refine ⟨y1, e1, hE1, hS1, ?_⟩
        rw [evCW_of t_impl_parser_atom _ _ _ rfl, c_impl_parser_atom]
        simp only [ph, pc] at i0 i1 i2 i3 i4 hi' ⊢
        simp (maxSteps := 999999) (implicitDefEqProofs := false) (disch := (first | assumption | omega)) only [go_sem, simprocAttr, i0, i1, i2, i3, i4, hi', k2, TNode.xo, List.map_nil, List.map_cons]
    · cases R with
      | ok n e =>
        simp only [Ends] at hs ⊢
        rw [evCW_of t_spec_l6Atom _ _ _ rfl, c_spec_l6Atom]
        simp only [ph, pc] at s0 s1 s2 s3 s4 hs ⊢
        simp (maxSteps := 999999) (implicitDefEqProofs := false) (disch := (first | assumption | omega)) only [go_sem, simprocAttr, s0, s1, s2, s3, s4, hs, k2, TNode.xo, List.map_nil, List.map_cons]
      | no p =>
        obtain ⟨y1, e1, hE1, hS1, hs'⟩ := hs
        refine ⟨y1, e1, hE1, hS1, ?_⟩
        rw [evCW_of t_spec_l6Atom _ _ _ rfl, c_spec_l6Atom]
        simp only [ph, pc] at s0 s1 s2 s3 s4 hs' ⊢
        simp (maxSteps := 999999) (implicitDefEqProofs := false) (disch := (first | assumption | omega)) only [go_sem, simprocAttr, s0, s1, s2, s3, s4, hs', k2, TNode.xo, List.map_nil, List.map_cons]
  have i4 := take_wF hT hP (by decide) z4
  have s4 := is_T hP z4
  cases z5 : isB T a (-1) ⟨#[99, 97, 115]⟩
  rotate_left
  · obtain ⟨hn, hP1⟩ := is_nx hT hP z5
    have i5 := take_wT hT hP (by decide) z5
    have s5 := is_T hP z5
    obtain ⟨R, hG, hi, hs⟩ := special_both hT hP hn hP1 29 3 H
    refine ⟨R, good_up (by omega) hG, ?_, ?_⟩
    · cases R with
      | ok n e =>
        simp only [Ends] at hi ⊢
        rw [evCW_of t_impl_parser_atom _ _ _ rfl, c_impl_parser_atom]
        simp only [ph, pc] at i0 i1 i2 i3 i4 i5 hi ⊢
        simp (maxSteps := 999999) (implicitDefEqProofs := false) (disch := (first | assumption | omega)) only [go_sem, simprocAttr, i0, i1, i2, i3, i4, i5, hi, k2, TNode.xo, List.map_nil, List.map_cons]
      | no p =>
        obtain ⟨y1, e1, hE1, hS1, hi'⟩ := hi
        refine ⟨y1, e1, hE1, hS1, ?_⟩
        rw [evCW_of t_impl_parser_atom _ _ _ rfl, c_impl_parser_atom]
        simp only [ph, pc] at i0 i1 i2 i3 i4 i5 hi' ⊢
        simp (maxSteps := 999999) (implicitDefEqProofs := false) (disch := (first | assumption | omega)) only [go_sem, simprocAttr, i0, i1, i2, i3, i4, i5, hi', k2, TNode.xo, List.map_nil, List.map_cons]
    · cases R with
      | ok n e =>
        simp only [Ends] at hs ⊢
        rw [evCW_of t_spec_l6Atom _ _ _ rfl, c_spec_l6Atom]
        simp only [ph, pc] at s0 s1 s2 s3 s4 s5 hs ⊢
        simp (maxSteps := 999999) (implicitDefEqProofs := false) (disch := (first | assumption | omega)) only [go_sem, simprocAttr, s0, s1, s2, s3, s4, s5, hs, k2, TNode.xo, List.map_nil, List.map_cons]
      | no p =>
        obtain ⟨y1, e1, hE1, hS1, hs'⟩ := hs
        refine ⟨y1, e1, hE1, hS1, ?_⟩
        rw [evCW_of t_spec_l6Atom _ _ _ rfl, c_spec_l6Atom]
        simp only [ph, pc] at s0 s1 s2 s3 s4 s5 hs' ⊢
        simp (maxSteps := 999999) (implicitDefEqProofs := false) (disch := (first | assumption | omega)) only [go_sem, simprocAttr, s0, s1, s2, s3, s4, s5, hs', k2, TNode.xo, List.map_nil, List.map_cons]
  have i5 := take_wF hT hP (by decide) z5
  have s5 := is_T hP z5
  cases z6 : isB T a (-1) ⟨#[99, 111, 114, 101]⟩
  rotate_left
  · obtain ⟨hn, hP1⟩ := is_nx hT hP z6
    have i6 := take_wT hT hP (by decide) z6
    have s6 := is_T hP z6
    obtain ⟨R, hG, hi, hs⟩ := special_both hT hP hn hP1 30 0 H
    refine ⟨R, good_up (by omega) hG, ?_, ?_⟩
    · cases R with
      | ok n e =>
        simp only [Ends] at hi ⊢
        rw [evCW_of t_impl_parser_atom _ _ _ rfl, c_impl_parser_atom]
        simp only [ph, pc] at i0 i1 i2 i3 i4 i5 i6 hi ⊢
        simp (maxSteps := 999999) (implicitDefEqProofs := false) (disch := (first | assumption | omega)) only [go_sem, simprocAttr, i0, i1, i2, i3, i4, i5, i6, hi, k2, TNode.xo, List.map_nil, List.map_cons]
      | no p =>
        obtain ⟨y1, e1, hE1, hS1, hi'⟩ := hi
        refine ⟨y1, e1, hE1, hS1, ?_⟩
        rw [evCW_of t_impl_parser_atom _ _ _ rfl, c_impl_parser_atom]
        simp only [ph, pc] at i0 i1 i2 i3 i4 i5 i6 hi' ⊢
        simp (maxSteps := 999999) (implicitDefEqProofs := false) (disch := (first | assumption | omega)) only [go_sem, simprocAttr, i0, i1, i2, i3, i4, i5, i6, hi', k2, TNode.xo, List.map_nil, List.map_cons]
    · cases R with
      | ok n e =>
        simp only [Ends] at hs ⊢
        rw [evCW_of t_spec_l6Atom _ _ _ rfl, c_spec_l6Atom]
        simp only [ph, pc] at s0 s1 s2 s3 s4 s5 s6 hs ⊢
        simp (maxSteps := 999999) (implicitDefEqProofs := false) (disch := (first | assumption | omega)) only [go_sem, simprocAttr, s0, s1, s2, s3, s4, s5, s6, hs, k2, TNode.xo, List.map_nil, List.map_cons]
      | no p =>
        obtain ⟨y1, e1, hE1, hS1, hs'⟩ := hs
        refine ⟨y1, e1, hE1, hS1, ?_⟩
        rw [evCW_of t_spec_l6Atom _ _ _ rfl, c_spec_l6Atom]
        simp only [ph, pc] at s0 s1 s2 s3 s4 s5 s6 hs' ⊢
        simp (maxSteps := 999999) (implicitDefEqProofs := false) (disch := (first | assumption | omega)) only [go_sem, simprocAttr, s0, s1, s2, s3, s4, s5, s6, hs', k2, TNode.xo, List.map_nil, List.map_cons]
  have i6 := take_wF hT hP (by decide) z6
  have s6 := is_T hP z6
  cases z7 : isB T a (-1) ⟨#[97, 100, 100, 114]⟩
  rotate_left
  · obtain ⟨hn, hP1⟩ := is_nx hT hP z7
    have i7 := take_wT hT hP (by decide) z7
    have s7 := is_T hP z7
    have s8 := snext_T hP hn
    cases z8 : nmB T (a + 1) (-1)
    · have i8 := name_F hP1 z8
      have s9 := sname_F hP1 z8
      refine ⟨.no (tk T (a + 1)).fAt, hT.p _ hP1, ⟨.mk 31 noS 0 [], a + 1, hP1, leaf_sm, ?_⟩, ⟨.mk 31 noS 0 [], a + 1, hP1, leaf_sm, ?_⟩⟩
      · rw [evCW_of t_impl_parser_atom _ _ _ rfl, c_impl_parser_atom]
        simp only [ph, pc] at i0 i1 i2 i3 i4 i5 i6 i7 i8 ⊢
        simp (maxSteps := 999999) (implicitDefEqProofs := false) (disch := (first | assumption | omega)) only [go_sem, simprocAttr, i0, i1, i2, i3, i4, i5, i6, i7, i8, k2, TNode.xo, List.map_nil, List.map_cons]
      · rw [evCW_of t_spec_l6Atom _ _ _ rfl, c_spec_l6Atom]
        simp only [ph, pc] at s0 s1 s2 s3 s4 s5 s6 s7 s8 s9 ⊢
        simp (maxSteps := 999999) (implicitDefEqProofs := false) (disch := (first | assumption | omega)) only [go_sem, simprocAttr, s0, s1, s2, s3, s4, s5, s6, s7, s8, s9, k2, TNode.xo, List.map_nil, List.map_cons]
    · obtain ⟨hn8, hP8⟩ := nm_nx hT hP1 z8
      have i8 := name_T hT hP1 z8
      have s9 := sname_T hT hP1 z8
      refine ⟨.ok (.mk 31 (tk T (a + 1)).fText 0 []) (a + 1 + 1), ⟨hP8, by omega, leaf_sm' (hT.s _ hP1), by rw [leaf_ct]; omega⟩, ?_, ?_⟩
      · simp only [Ends]
        rw [evCW_of t_impl_parser_atom _ _ _ rfl, c_impl_parser_atom]
        simp only [ph, pc] at i0 i1 i2 i3 i4 i5 i6 i7 i8 ⊢
        simp (maxSteps := 999999) (implicitDefEqProofs := false) (disch := (first | assumption | omega)) only [go_sem, simprocAttr, i0, i1, i2, i3, i4, i5, i6, i7, i8, k2, TNode.xo, List.map_nil, List.map_cons]
      · simp only [Ends]
        rw [evCW_of t_spec_l6Atom _ _ _ rfl, c_spec_l6Atom]
        simp only [ph, pc] at s0 s1 s2 s3 s4 s5 s6 s7 s8 s9 ⊢
        simp (maxSteps := 999999) (implicitDefEqProofs := false) (disch := (first | assumption | omega)) only [go_sem, simprocAttr, s0, s1, s2, s3, s4, s5, s6, s7, s8, s9, k2, TNode.xo, List.map_nil, List.map_cons]
  have i7 := take_wF hT hP (by decide) z7
  have s7 := is_T hP z7
  cases z8 : nmB T a (-1)
  · have hp := hT.p _ hP
    have i8 := name_F hP z8
    have s8 := sname_F hP z8
    have s9 := sign_dead hP hp ⟨#[40]⟩
    refine ⟨.no (tk T a).fAt, hp, ⟨.mk 20 noS 0 [], a, hP, leaf_sm, ?_⟩, ⟨.mk 20 noS 0 [], a, hP, leaf_sm, ?_⟩⟩
    · rw [evCW_of t_impl_parser_atom _ _ _ rfl, c_impl_parser_atom]
      simp only [ph, pc] at i0 i1 i2 i3 i4 i5 i6 i7 i8 ⊢
      simp (maxSteps := 999999) (implicitDefEqProofs := false) (disch := (first | assumption | omega)) only [go_sem, simprocAttr, i0, i1, i2, i3, i4, i5, i6, i7, i8, k2, TNode.xo, List.map_nil, List.map_cons]
    · rw [evCW_of t_spec_l6Atom _ _ _ rfl, c_spec_l6Atom]
      simp only [ph, pc] at s0 s1 s2 s3 s4 s5 s6 s7 s8 s9 ⊢
      simp (maxSteps := 999999) (implicitDefEqProofs := false) (disch := (first | assumption | omega)) only [go_sem, simprocAttr, s0, s1, s2, s3, s4, s5, s6, s7, s8, s9, k2, TNode.xo, List.map_nil, List.map_cons]
  obtain ⟨hn8, hP8⟩ := nm_nx hT hP z8
  have i8 := name_T hT hP z8
  have s8 := sname_T hT hP z8
  have i9 := impl_here_ok (-1) hP8
  have htx := txt_sg hT hP8 (w := ⟨#[40]⟩) (by decide) (by decide)
  cases z9 : sgB T (a + 1) (-1) ⟨#[40]⟩
  · rw [z9] at htx
    have htx' := of_decide_eq_false htx
    have s9 := sign_T hP8 z9
    refine ⟨.ok (.mk 20 (tk T a).fText 0 []) (a + 1), ⟨hP8, by omega, leaf_sm' (hT.s _ hP), by rw [leaf_ct]; omega⟩, ?_, ?_⟩
    · simp only [Ends]
      rw [evCW_of t_impl_parser_atom _ _ _ rfl, c_impl_parser_atom]
      simp only [ph, pc] at i0 i1 i2 i3 i4 i5 i6 i7 i8 i9 ⊢
      simp (maxSteps := 999999) (implicitDefEqProofs := false) (disch := (first | assumption | omega)) only [go_sem, simprocAttr, i0, i1, i2, i3, i4, i5, i6, i7, i8, i9, k2, htx', TNode.xo, List.map_nil, List.map_cons]
    · simp only [Ends]
      rw [evCW_of t_spec_l6Atom _ _ _ rfl, c_spec_l6Atom]
      simp only [ph, pc] at s0 s1 s2 s3 s4 s5 s6 s7 s8 s9 ⊢
      simp (maxSteps := 999999) (implicitDefEqProofs := false) (disch := (first | assumption | omega)) only [go_sem, simprocAttr, s0, s1, s2, s3, s4, s5, s6, s7, s8, s9, k2, TNode.xo, List.map_nil, List.map_cons]
  · rw [z9] at htx
    have htx' := of_decide_eq_true htx
    have s9 := sign_T hP8 z9
    obtain ⟨R, hG, hi, hs⟩ := exprs_both hT hP8 (fun e he hlt => H e he (by omega))
    cases R with
    | ok L e =>
      obtain ⟨g1, g2, g3, g4, g5⟩ := hG
      simp only [EEnds, MEnds] at hi hs
      refine ⟨.ok (.mk 26 (tk T a).fText 0 L) e, ⟨g1, by omega, row_sm (hT.s _ hP) g3 g4, by rw [TNode.ct_eq]; omega⟩, ?_, ?_⟩
      · simp only [Ends]
        rw [evCW_of t_impl_parser_atom _ _ _ rfl, c_impl_parser_atom]
        simp only [ph, pc] at i0 i1 i2 i3 i4 i5 i6 i7 i8 i9 hi ⊢
        simp (maxSteps := 999999) (implicitDefEqProofs := false) (disch := (first | assumption | omega)) only [go_sem, simprocAttr, i0, i1, i2, i3, i4, i5, i6, i7, i8, i9, hi, k2, htx', TNode.xo, List.map_nil, List.map_cons]
      · simp only [Ends]
        rw [evCW_of t_spec_l6Atom _ _ _ rfl, c_spec_l6Atom]
        simp only [ph, pc] at s0 s1 s2 s3 s4 s5 s6 s7 s8 s9 hs ⊢
        simp (maxSteps := 999999) (implicitDefEqProofs := false) (disch := (first | assumption | omega)) only [go_sem, simprocAttr, s0, s1, s2, s3, s4, s5, s6, s7, s8, s9, hs, k2, TNode.xo, List.map_nil, List.map_cons]
    | no p =>
      have hp : 0 ≤ p := hG
      obtain ⟨L1, e1, j1, j2, j3, hi'⟩ := hi
      obtain ⟨L2, e2, q1, q2, q3, hs'⟩ := hs
      refine ⟨.no p, hp, ⟨.mk 26 (tk T a).fText 0 L1, e1, j1, row_sm (hT.s _ hP) j2 j3, ?_⟩, ⟨.mk 26 (tk T a).fText 0 L2, e2, q1, row_sm (hT.s _ hP) q2 (by omega), ?_⟩⟩
      · rw [evCW_of t_impl_parser_atom _ _ _ rfl, c_impl_parser_atom]
        simp only [ph, pc] at i0 i1 i2 i3 i4 i5 i6 i7 i8 i9 hi' ⊢
        simp (maxSteps := 999999) (implicitDefEqProofs := false) (disch := (first | assumption | omega)) only [go_sem, simprocAttr, i0, i1, i2, i3, i4, i5, i6, i7, i8, i9, hi', k2, htx', TNode.xo, List.map_nil, List.map_cons]
      · rw [evCW_of t_spec_l6Atom _ _ _ rfl, c_spec_l6Atom]
        simp only [ph, pc] at s0 s1 s2 s3 s4 s5 s6 s7 s8 s9 hs' ⊢
        simp (maxSteps := 999999) (implicitDefEqProofs := false) (disch := (first | assumption | omega)) only [go_sem, simprocAttr, s0, s1, s2, s3, s4, s5, s6, s7, s8, s9, hs', k2, TNode.xo, List.map_nil, List.map_cons]
theorem expr_all (hT : TF T) : ∀ (m : Nat) (a : Int), Pl T a → (T.length : Int) - a ≤ m → Both T a impl_parser_atom spec_l6Atom ∧ Both T a impl_parser_expr spec_l6Expr
  | 0, a, hP, hm => by have := hP.h; omega
  | m + 1, a, hP, hm => by
    have ih := fun (e : Int) (he : Pl T e) (hlt : a < e) => expr_all hT m e he (by omega)
    have h1 := atom_both hT hP (fun e he hlt => (ih e he hlt).2)
    have h2 : ∀ e, Pl T e → a ≤ e → Both T e impl_parser_atom spec_l6Atom := fun e he hle => by
      by_cases c : e = a
      · rw [c]; exact h1
      · exact (ih e he (by omega)).1
    have h3 : ∀ e, Pl T e → a ≤ e → Both T e impl_parser_product spec_l6Product := fun e he hle => product_both hT he (fun e' he' hle' => h2 e' he' (by omega))
    have h4 : ∀ e, Pl T e → a ≤ e → Both T e impl_parser_sum spec_l6Sum := fun e he hle => sum_both hT he (fun e' he' hle' => h3 e' he' (by omega))
    exact ⟨h1, expr_both hT hP h4⟩
theorem expr_alike (hT : TF T) (hP : Pl T a) : Both T a impl_parser_expr spec_l6Expr := (expr_all hT T.length a hP (by have := hP.l; omega)).2
theorem exprs_alike (hT : TF T) (hP : Pl T a) : ∃ R, RGood T a R ∧ EEnds T (tk T a).fAt R (evCW tab impl_parser_exprs [kp] (ph T a (-1)) 1) ∧ MEnds T R (evCW tab spec_l6List [kp] (ph T a (-1)) 1) := exprs_both hT hP (fun e he hlt => expr_alike hT he)
end Go.Ev.G

/- The parsers: two exprs, received, blocks. -/
set_option linter.all false
namespace Go.Ev.G
set_option maxRecDepth 8000
set_option maxHeartbeats 4000000
variable {T : List TToken} {a b : Int}
def MDead (T : List TToken) (b : Int) (r : Option (X × Heap)) : Prop := ∃ L e, Pl T e ∧ Sms L ∧ L.length ≤ 1048575 ∧ r = some (.d (.s 4 (L.map TNode.o)), ph T e b)
theorem sms_two {x y : TNode} (hx : x.Sm) (hy : y.Sm) : Sms [x, y] := by
  intro z hz
  simp only [List.mem_cons, List.not_mem_nil, or_false] at hz
  rcases hz with rfl | rfl
  · exact hx
  · exact hy
theorem two_dead (hP : Pl T a) (hb : 0 ≤ b) : MDead T b (evCW tab impl_parser_two [kp] (ph T a b) 1) := by
  have h1 := expr_dead (T := T) (a := a) hb
  have h2 := need_dead hP hb ⟨#[44]⟩
  refine ⟨[.mk 0 noS 0 [], .mk 0 noS 0 []], a, hP, sms_two leaf_sm leaf_sm, by decide, ?_⟩
  rw [evCW_of t_impl_parser_two _ _ _ rfl, c_impl_parser_two]
  simp (maxSteps := 999999) (implicitDefEqProofs := false) (disch := (first | assumption | omega)) only [go_sem, simprocAttr, h1, h2, TNode.xo, List.map_nil, List.map_cons, TNode.o_def]
theorem stwo_dead (hP : Pl T a) (hb : 0 ≤ b) (op : Int) : ∃ x y e, Pl T e ∧ x.Sm ∧ y.Sm ∧ evCW tab spec_l6Two [kp, I op] (ph T a b) 1 = some ((TNode.mk op noS 0 [x, y]).xo, ph T e b) := by
  obtain ⟨x, e, hE, hS, h1⟩ := sexpr_dead hP hb
  obtain ⟨y, e2, hE2, hS2, h3⟩ := sexpr_dead hE hb
  have h2 := stake_dead hE hb ⟨#[44]⟩
  have h4 := spec_l6Node_ok op [x, y] (by simp)
  refine ⟨x, y, e2, hE2, hS, hS2, ?_⟩
  rw [evCW_of t_spec_l6Two _ _ _ rfl, c_spec_l6Two]
  simp only [TNode.xo, TNode.op_mk, TNode.tx_mk, TNode.v_mk, TNode.ks_mk, List.map_cons, List.map_nil, TNode.o_def] at h4 ⊢
  simp (maxSteps := 999999) (implicitDefEqProofs := false) (disch := (first | assumption | omega)) only [go_sem, simprocAttr, h1, h2, h3, h4, TNode.xo, List.map_nil, List.map_cons, TNode.o_def]
theorem block_l0_dead (hb : 0 ≤ b) (x : TNode) : loopW tab [0, 2, 3] b_impl_parser_block_0 (lpS T a b x) = some (.ext 0, lpE T a b x) := by
  unfold loopW
  conv => lhs; arg 1; unfold b_impl_parser_block_0
  simp only [lpS, lpE, lpH, pc]
  simp (maxSteps := 999999) (implicitDefEqProofs := false) (disch := (first | assumption | omega)) only [go_sem, simprocAttr]
theorem sblock_l0_dead (hb : 0 ≤ b) (x : TNode) : loopW tab [0, 2, 3] b_spec_l6Block_0 (lpS T a b x) = some (.ext 0, lpS T a b x) := by
  unfold loopW
  conv => lhs; arg 1; unfold b_spec_l6Block_0
  simp only [lpS, lpE, lpH, pc]
  simp (maxSteps := 999999) (implicitDefEqProofs := false) (disch := (first | assumption | omega)) only [go_sem, simprocAttr]
theorem block_dead (hP : Pl T a) (hb : 0 ≤ b) : Dead T b (evCW tab impl_parser_block [kp] (ph T a b) 1) := by
  have h1 := need_dead hP hb ⟨#[123]⟩
  have h2 := block_l0_dead (T := T) (a := a) hb (.mk 1 noS 0 [])
  refine ⟨.mk 1 noS 0 [], a, hP, leaf_sm, ?_⟩
  rw [evCW_of t_impl_parser_block _ _ _ rfl, c_impl_parser_block]
  simp only [lpS, lpE, lpH, nD, TNode.op_mk, TNode.tx_mk, TNode.v_mk, TNode.ks_mk, List.map_nil] at h2
  simp (maxSteps := 999999) (implicitDefEqProofs := false) (disch := (first | assumption | omega)) only [go_sem, simprocAttr, h1, h2, TNode.xo, List.map_nil]
theorem sblock_dead (hP : Pl T a) (hb : 0 ≤ b) : Dead T b (evCW tab spec_l6Block [kp] (ph T a b) 1) := by
  have h1 := stake_dead hP hb
  have h2 := sblock_l0_dead (T := T) (a := a) hb (.mk 1 noS 0 [])
  refine ⟨.mk 1 noS 0 [], a, hP, leaf_sm, ?_⟩
  rw [evCW_of t_spec_l6Block _ _ _ rfl, c_spec_l6Block]
  simp only [lpS, lpE, lpH, nD, TNode.op_mk, TNode.tx_mk, TNode.v_mk, TNode.ks_mk, List.map_nil] at h2
  simp (maxSteps := 999999) (implicitDefEqProofs := false) (disch := (first | assumption | omega)) only [go_sem, simprocAttr, h1, h2, TNode.xo, List.map_nil]
theorem scase_dead (hP : Pl T a) (hb : 0 ≤ b) : Dead T b (evCW tab spec_l6Case [kp] (ph T a b) 1) := by
  have h1 := is_dead hP hb
  have h2 := word_dead hP hb
  obtain ⟨x1, x2, e, hE, hS, hS', h3⟩ := stwo_dead hP hb 33
  obtain ⟨y, e2, hE2, hS2, h4⟩ := sblock_dead hE hb
  refine ⟨.mk 33 noS 0 [x1, x2, y], e2, hE2, row_sm noS_sz (sms_snoc (sms_two hS hS') hS2) (by simp), ?_⟩
  rw [evCW_of t_spec_l6Case _ _ _ rfl, c_spec_l6Case]
  simp (maxSteps := 999999) (implicitDefEqProofs := false) (disch := (first | assumption | omega | (unfold appOk; (try simp only [List.length_map, List.length_append, List.length_cons, List.length_nil]); omega))) only [go_sem, simprocAttr, h1, h2, h3, h4, TNode.xo, List.map_nil, List.map_append, List.map_cons, TNode.o_def, List.cons_append, List.nil_append]
def TGood (T : List TToken) (a : Int) : Ls → Prop
  | .ok L e => Pl T e ∧ a ≤ e ∧ Sms L ∧ L.length ≤ 2 ∧ nodesCt L ≤ 3 * (e - a)
  | .no p => 0 ≤ p
theorem two_both (hT : TF T) (hP : Pl T a) (op : Int) : ∃ R, TGood T a R ∧ MEnds T R (evCW tab impl_parser_two [kp] (ph T a (-1)) 1) ∧ (match R with
    | .ok L e => evCW tab spec_l6Two [kp, I op] (ph T a (-1)) 1 = some ((TNode.mk op noS 0 L).xo, ph T e (-1))
    | .no p => ∃ x y e, Pl T e ∧ x.Sm ∧ y.Sm ∧ evCW tab spec_l6Two [kp, I op] (ph T a (-1)) 1 = some ((TNode.mk op noS 0 [x, y]).xo, ph T e p)) := by
  obtain ⟨R, hG, hi, hs⟩ := expr_alike hT hP
  cases R with
  | no p =>
    have hp : 0 ≤ p := hG
    obtain ⟨y1, e1, hE1, hS1, hi'⟩ := hi
    obtain ⟨y2, e2, hE2, hS2, hs'⟩ := hs
    have i2 := need_dead hE1 hp ⟨#[44]⟩
    have i3 := expr_dead (T := T) (a := e1) hp
    have s2 := stake_dead hE2 hp ⟨#[44]⟩
    obtain ⟨y3, e3, hE3, hS3, s3⟩ := sexpr_dead hE2 hp
    have s4 := spec_l6Node_ok op [y2, y3] (by simp)
    refine ⟨.no p, hp, ⟨[y1, .mk 0 noS 0 []], e1, hE1, sms_two hS1 leaf_sm, by simp, ?_⟩, ⟨y2, y3, e3, hE3, hS2, hS3, ?_⟩⟩
    · rw [evCW_of t_impl_parser_two _ _ _ rfl, c_impl_parser_two]
      simp (maxSteps := 999999) (implicitDefEqProofs := false) (disch := (first | assumption | omega)) only [go_sem, simprocAttr, hi', i2, i3, TNode.xo, List.map_nil, List.map_cons, TNode.o_def]
    · rw [evCW_of t_spec_l6Two _ _ _ rfl, c_spec_l6Two]
      simp only [TNode.xo, TNode.op_mk, TNode.tx_mk, TNode.v_mk, TNode.ks_mk, List.map_nil, List.map_cons, TNode.o_def] at s4 ⊢
      simp (maxSteps := 999999) (implicitDefEqProofs := false) (disch := (first | assumption | omega)) only [go_sem, simprocAttr, hs', s2, s3, s4, TNode.xo, List.map_nil, List.map_cons, TNode.o_def]
  | ok x e =>
    obtain ⟨g1, g2, g3, g4⟩ := hG
    simp only [Ends] at hi hs
    cases z : sgB T e (-1) ⟨#[44]⟩
    · have hp := hT.p _ g1
      have i2 := need_sF hT g1 (by decide) z
      have i3 := expr_dead (T := T) (a := e) hp
      have s2 := stake_F g1 z
      obtain ⟨y3, e3, hE3, hS3, s3⟩ := sexpr_dead g1 hp
      have s4 := spec_l6Node_ok op [x, y3] (by simp)
      refine ⟨.no (tk T e).fAt, hp, ⟨[x, .mk 0 noS 0 []], e, g1, sms_two g3 leaf_sm, by simp, ?_⟩, ⟨x, y3, e3, hE3, g3, hS3, ?_⟩⟩
      · rw [evCW_of t_impl_parser_two _ _ _ rfl, c_impl_parser_two]
        simp (maxSteps := 999999) (implicitDefEqProofs := false) (disch := (first | assumption | omega)) only [go_sem, simprocAttr, hi, i2, i3, TNode.xo, List.map_nil, List.map_cons, TNode.o_def]
      · rw [evCW_of t_spec_l6Two _ _ _ rfl, c_spec_l6Two]
        simp only [TNode.xo, TNode.op_mk, TNode.tx_mk, TNode.v_mk, TNode.ks_mk, List.map_nil, List.map_cons, TNode.o_def] at s4 ⊢
        simp (maxSteps := 999999) (implicitDefEqProofs := false) (disch := (first | assumption | omega)) only [go_sem, simprocAttr, hs, s2, s3, s4, TNode.xo, List.map_nil, List.map_cons, TNode.o_def]
    · obtain ⟨hn, hP1⟩ := sg_nx hT g1 z
      have i2 := need_sT hT g1 (by decide) z
      have s2 := stake_T hT g1 z
      obtain ⟨R2, hG2, hi2, hs2⟩ := expr_alike hT hP1
      cases R2 with
      | no p =>
        have hp : 0 ≤ p := hG2
        obtain ⟨y1, e1, hE1, hS1, hi'⟩ := hi2
        obtain ⟨y2, e2, hE2, hS2, hs'⟩ := hs2
        have s4 := spec_l6Node_ok op [x, y2] (by simp)
        refine ⟨.no p, hp, ⟨[x, y1], e1, hE1, sms_two g3 hS1, by simp, ?_⟩, ⟨x, y2, e2, hE2, g3, hS2, ?_⟩⟩
        · rw [evCW_of t_impl_parser_two _ _ _ rfl, c_impl_parser_two]
          simp (maxSteps := 999999) (implicitDefEqProofs := false) (disch := (first | assumption | omega)) only [go_sem, simprocAttr, hi, i2, hi', TNode.xo, List.map_nil, List.map_cons, TNode.o_def]
        · rw [evCW_of t_spec_l6Two _ _ _ rfl, c_spec_l6Two]
          simp only [TNode.xo, TNode.op_mk, TNode.tx_mk, TNode.v_mk, TNode.ks_mk, List.map_nil, List.map_cons, TNode.o_def] at s4 ⊢
          simp (maxSteps := 999999) (implicitDefEqProofs := false) (disch := (first | assumption | omega)) only [go_sem, simprocAttr, hs, s2, hs', s4, TNode.xo, List.map_nil, List.map_cons, TNode.o_def]
      | ok y e2 =>
        obtain ⟨k1, k2, k3, k4⟩ := hG2
        simp only [Ends] at hi2 hs2
        have s4 := spec_l6Node_ok op [x, y] (by simp)
        refine ⟨.ok [x, y] e2, ⟨k1, by omega, sms_two g3 k3, by simp, by rw [nodesCt_cons, nodesCt_cons, nodesCt_nil]; omega⟩, ?_, ?_⟩
        · simp only [MEnds]
          rw [evCW_of t_impl_parser_two _ _ _ rfl, c_impl_parser_two]
          simp (maxSteps := 999999) (implicitDefEqProofs := false) (disch := (first | assumption | omega)) only [go_sem, simprocAttr, hi, i2, hi2, TNode.xo, List.map_nil, List.map_cons, TNode.o_def]
        · simp only
          rw [evCW_of t_spec_l6Two _ _ _ rfl, c_spec_l6Two]
          simp only [TNode.xo, TNode.op_mk, TNode.tx_mk, TNode.v_mk, TNode.ks_mk, List.map_nil, List.map_cons, TNode.o_def] at s4 ⊢
          simp (maxSteps := 999999) (implicitDefEqProofs := false) (disch := (first | assumption | omega)) only [go_sem, simprocAttr, hs, s2, hs2, s4, TNode.xo, List.map_nil, List.map_cons, TNode.o_def]
theorem one_ct (op v : Int) (w : ByteArray) (x : TNode) : (TNode.mk op w v [x]).ct = 3 + x.ct := by rw [TNode.ct_eq, nodesCt_cons, nodesCt_nil]; omega
theorem received_both (hT : TF T) (hP : Pl T a) (op : Int) : ∃ R : Rs, (match R with
    | .ok n e => Good T a 0 R ∧ ∃ w x, n = TNode.mk op w 0 [x]
    | .no p => 0 ≤ p) ∧ (match R with
    | .ok n e => evCW tab impl_parser_received [kp, I op] (ph T a (-1)) 1 = some (n.xo, ph T e (-1)) ∧ evCW tab spec_l6Recv [kp, I op] (ph T a (-1)) 1 = some (n.xo, ph T e (-1))
    | .no p => (∃ w x e, w.size ≤ 1048576 ∧ Pl T e ∧ x.Sm ∧ evCW tab impl_parser_received [kp, I op] (ph T a (-1)) 1 = some ((TNode.mk op w 0 [x]).xo, ph T e p)) ∧ ∃ w x e, w.size ≤ 1048576 ∧ Pl T e ∧ x.Sm ∧ evCW tab spec_l6Recv [kp, I op] (ph T a (-1)) 1 = some ((TNode.mk op w 0 [x]).xo, ph T e p)) := by
  cases z0 : nmB T a (-1)
  · have hp := hT.p _ hP
    have i1 := name_F hP z0
    have i2 := need_dead hP hp ⟨#[44]⟩
    have i3 := expr_dead (T := T) (a := a) hp
    have s1 := sname_F hP z0
    have s2 := stake_dead hP hp ⟨#[44]⟩
    obtain ⟨y3, e3, hE3, hS3, s3⟩ := sexpr_dead hP hp
    refine ⟨.no (tk T a).fAt, hp, ⟨noS, .mk 0 noS 0 [], a, noS_sz, hP, leaf_sm, ?_⟩, ⟨noS, y3, e3, noS_sz, hE3, hS3, ?_⟩⟩
    · rw [evCW_of t_impl_parser_received _ _ _ rfl, c_impl_parser_received]
      simp (maxSteps := 999999) (implicitDefEqProofs := false) (disch := (first | assumption | omega)) only [go_sem, simprocAttr, i1, i2, i3, TNode.xo, List.map_nil, List.map_cons, TNode.o_def]
    · rw [evCW_of t_spec_l6Recv _ _ _ rfl, c_spec_l6Recv]
      simp (maxSteps := 999999) (implicitDefEqProofs := false) (disch := (first | assumption | omega)) only [go_sem, simprocAttr, s1, s2, s3, TNode.xo, List.map_nil, List.map_cons, TNode.o_def]
  · obtain ⟨hn, hP1⟩ := nm_nx hT hP z0
    have hw := hT.s _ hP
    have i1 := name_T hT hP z0
    have s1 := sname_T hT hP z0
    cases z : sgB T (a + 1) (-1) ⟨#[44]⟩
    · have hp := hT.p _ hP1
      have i2 := need_sF hT hP1 (by decide) z
      have i3 := expr_dead (T := T) (a := a + 1) hp
      have s2 := stake_F hP1 z
      obtain ⟨y3, e3, hE3, hS3, s3⟩ := sexpr_dead hP1 hp
      refine ⟨.no (tk T (a + 1)).fAt, hp, ⟨(tk T a).fText, .mk 0 noS 0 [], a + 1, hw, hP1, leaf_sm, ?_⟩, ⟨(tk T a).fText, y3, e3, hw, hE3, hS3, ?_⟩⟩
      · rw [evCW_of t_impl_parser_received _ _ _ rfl, c_impl_parser_received]
        simp (maxSteps := 999999) (implicitDefEqProofs := false) (disch := (first | assumption | omega)) only [go_sem, simprocAttr, i1, i2, i3, TNode.xo, List.map_nil, List.map_cons, TNode.o_def]
      · rw [evCW_of t_spec_l6Recv _ _ _ rfl, c_spec_l6Recv]
        simp (maxSteps := 999999) (implicitDefEqProofs := false) (disch := (first | assumption | omega)) only [go_sem, simprocAttr, s1, s2, s3, TNode.xo, List.map_nil, List.map_cons, TNode.o_def]
    · obtain ⟨hn2, hP2⟩ := sg_nx hT hP1 z
      have i2 := need_sT hT hP1 (by decide) z
      have s2 := stake_T hT hP1 z
      obtain ⟨R2, hG2, hi2, hs2⟩ := expr_alike hT hP2
      cases R2 with
      | no p =>
        have hp : 0 ≤ p := hG2
        obtain ⟨y1, e1, hE1, hS1, hi'⟩ := hi2
        obtain ⟨y2, e2, hE2, hS2, hs'⟩ := hs2
        refine ⟨.no p, hp, ⟨(tk T a).fText, y1, e1, hw, hE1, hS1, ?_⟩, ⟨(tk T a).fText, y2, e2, hw, hE2, hS2, ?_⟩⟩
        · rw [evCW_of t_impl_parser_received _ _ _ rfl, c_impl_parser_received]
          simp (maxSteps := 999999) (implicitDefEqProofs := false) (disch := (first | assumption | omega)) only [go_sem, simprocAttr, i1, i2, hi', TNode.xo, List.map_nil, List.map_cons, TNode.o_def]
        · rw [evCW_of t_spec_l6Recv _ _ _ rfl, c_spec_l6Recv]
          simp (maxSteps := 999999) (implicitDefEqProofs := false) (disch := (first | assumption | omega)) only [go_sem, simprocAttr, s1, s2, hs', TNode.xo, List.map_nil, List.map_cons, TNode.o_def]
      | ok y e2 =>
        obtain ⟨k1, k2, k3, k4⟩ := hG2
        simp only [Ends] at hi2 hs2
        refine ⟨.ok (.mk op (tk T a).fText 0 [y]) e2, ⟨⟨k1, by omega, one_sm hw k3, by rw [one_ct]; omega⟩, _, _, rfl⟩, ?_, ?_⟩
        · rw [evCW_of t_impl_parser_received _ _ _ rfl, c_impl_parser_received]
          simp (maxSteps := 999999) (implicitDefEqProofs := false) (disch := (first | assumption | omega)) only [go_sem, simprocAttr, i1, i2, hi2, TNode.xo, List.map_nil, List.map_cons, TNode.o_def]
        · rw [evCW_of t_spec_l6Recv _ _ _ rfl, c_spec_l6Recv]
          simp (maxSteps := 999999) (implicitDefEqProofs := false) (disch := (first | assumption | omega)) only [go_sem, simprocAttr, s1, s2, hs2, TNode.xo, List.map_nil, List.map_cons, TNode.o_def]
end Go.Ev.G
