/- Operations that only reckon: each is sound for the machine. -/
import Derived.Test.YtcoigakalblkgaaEvStep
import Derived.WalkKit
import Derived.Laws.Strings
import Derived.Laws.Runes
import Derived.Laws.StructEq
import Derived.Laws.Small
import Derived.Laws.Slices
import Derived.Laws.Strings3
import Derived.Laws.DeepStrings4
set_option linter.all false
namespace Go.Ev
open Go.RowKit

/-- How an operation comes out: a value; nothing; a call. -/
inductive Runs (c : Ctx) (o : Oper) (a : Act) (w : World) (st' : St) (U' : Nat → Prop) : Prop
  | value (v : Value) (w' : World) (h : (execOp a.eval o).run c.P w = .ok (.value v) w') (k : Ok c st' U' (a.put o.dst v) w')
  | skip (w' : World) (h : (execOp a.eval o).run c.P w = .ok .skip w') (k : Ok c st' U' (a.put o.dst undef) w')
  | enter (f : FuncId) (args : Array Value) (w1 : World) (h : (execOp a.eval o).run c.P w = .ok (.enter f args) w1)
      (k : Calls c.P f args w1 fun e w'' => ∃ v, e = .returned v ∧ Ok c st' U' (a.put o.dst v) w'')

theorem Runs.wp {c : Ctx} {o : Oper} {a : Act} {w : World} {st' : St} {U' : Nat → Prop} (h : Runs c o a w st' U') {K : Act → World → Prop} {Q : Exit → Act → World → Prop} (hK : ∀ a' w', Ok c st' U' a' w' → K a' w') : o.wp c.P a w K Q := by
  unfold Oper.wp
  cases h with
  | value v w' h k => rw [h, Oper.upon_value]; exact hK _ _ k
  | skip w' h k => rw [h, Oper.upon_skip]; exact hK _ _ k
  | enter f args w1 h k =>
    rw [h, Oper.upon_enter]
    refine k.mono fun e w'' ⟨v, he, hok⟩ => ?_
    subst he
    exact hK _ _ hok

/-! ### The check of an operation against the machine's -/
def intK (P : Program) (t : TypeId) : Option IntKind := match P.underlying t with | some (.int k) => some k | _ => none
def isStr (P : Program) (t : TypeId) : Bool := match P.underlying t with | some .string => true | _ => false
def isBool (P : Program) (t : TypeId) : Bool := match P.underlying t with | some .bool => true | _ => false
def sliceE (P : Program) (t : TypeId) : Option TypeId := match P.underlying t with | some (.slice e) => some e | _ => none
/-- A variable's cells: a struct's (or an array's) so many; else one. -/
def aggOf (P : Program) (t : TypeId) : Option (Option Nat) := match P.underlying t with
  | some (.struct _) => (P.info? t).map fun i => some i.size
  | some (.array _ _) => (P.info? t).map fun i => some i.size
  | some _ => some none
  | none => none
def sizeT (P : Program) (t : TypeId) : Option Nat := (P.info? t).map fun i => i.size
def fieldT (P : Program) (t : TypeId) (f : Nat) : Option (Nat × TypeId) := match P.underlying t with
  | some (.struct fs) => (fs[f]?).map fun x => (x.offset, x.type)
  | _ => none
def eqOs : List Operand → List O → Bool
  | [], [] => true
  | x :: xs, o :: os => eqO x o && eqOs xs os
  | _, _ => false
def eqOo : Option Operand → Option O → Bool
  | none, none => true
  | some x, some o => eqO x o
  | _, _ => false

section
variable {c : Ctx} {st st' : St} {U : Nat → Prop} {γ : Gm} {S : Nat → Prop} {a : Act} {w : World} {C : Cl} {id : Nat} {o : Oper} {id : Nat}

theorem run_value {P : Program} {w : World} {x : Sem Value} {v : Value} {w' : World} (h : x.run P w = .ok v w') : (do pure (Next.value (← x)) : Sem Next).run P w = .ok (.value v) w' := by
  simp [h]

theorem ok_put (R : Rep c st U γ S a w) {d : Option Nat} (hd : ∀ k, d = some k → k < c.nt) {x : X} {v : Value} (hx : x.vr γ w S v) (hi : x.allp (fun id _ => IdIn c.A st.fr U id)) : Ok c (st.put d x) U (a.put d v) w := ⟨γ, S, R.put hd hx hi⟩
theorem ok_lit (R : Rep c st U γ S a w) {d : Option Nat} (hd : ∀ k, d = some k → k < c.nt) {v : Value} (h1 : v.oneCell' = true) : Ok c (st.put d (.d (.v v))) U (a.put d v) w :=
  ok_put R hd (by simp [X.vr, h1]) (by simp only [X.allp])

theorem op_mov (R : Rep c st U γ S a w) (hd : ∀ k, o.dst = some k → k < c.nt) {y : Operand} {x : O} (ho : o.op = .move y ∨ o.op = .assign y) (hx : eqO y x = true) (hs : opS C st o.dst id (.mov x) = some st') : Runs c o a w st' U := by
  simp only [opS, map_some_iff] at hs
  obtain ⟨z, h1, rfl⟩ := hs
  obtain ⟨h2, h3⟩ := eqO_ok R hx h1
  refine .value (a.eval y) w ?_ (ok_put R hd h2 h3)
  rcases ho with ho | ho <;> simp [execOp, ho]

theorem op_pick (R : Rep c st U γ S a w) (hd : ∀ k, o.dst = some k → k < c.nt) {y1 y2 y3 : Operand} {x1 x2 x3 : O} (ho : o.op = .pick y1 y2 y3) (h1 : eqO y1 x1 = true) (h2 : eqO y2 x2 = true) (h3 : eqO y3 x3 = true) (hs : opS C st o.dst id (.pick x1 x2 x3) = some st') : Runs c o a w st' U := by
  simp only [opS, bind_some_iff] at hs
  obtain ⟨t, h4, h5⟩ := hs
  have e1 := rdB_ok R h1 h4
  cases t with
  | true =>
    simp only [if_true, map_some_iff] at h5
    obtain ⟨z, h6, rfl⟩ := h5
    obtain ⟨h7, h8⟩ := eqO_ok R h2 h6
    exact .value (a.eval y2) w (by simp [execOp, ho, e1, asBool]) (ok_put R hd h7 h8)
  | false =>
    simp only [Bool.false_eq_true, if_false, map_some_iff] at h5
    obtain ⟨z, h6, rfl⟩ := h5
    obtain ⟨h7, h8⟩ := eqO_ok R h3 h6
    exact .value (a.eval y3) w (by simp [execOp, ho, e1, asBool]) (ok_put R hd h7 h8)

theorem op_ari (R : Rep c st U γ S a w) (hd : ∀ k, o.dst = some k → k < c.nt) {b : BinOp} {t1 t2 : TypeId} {y1 y2 : Operand} {x1 x2 : O} (ho : o.op = .binOp b t1 y1 y2 t2) (h1 : eqO y1 x1 = true) (h2 : eqO y2 x2 = true) (hs : opS C st o.dst id (.ari b x1 x2) = some st') : Runs c o a w st' U := by
  simp only [opS, bind_some_iff] at hs
  obtain ⟨⟨k, m⟩, h4, ⟨k', n⟩, h5, h6⟩ := hs
  have e1 := rdI_ok R h1 h4
  have e2 := rdI_ok R h2 h5
  simp only at e1 e2 h6
  split at h6
  · rename_i hk
    subst hk
    simp only [map_some_iff] at h6
    obtain ⟨z, h7, rfl⟩ := h6
    refine .value (.int k z) w ?_ (ok_lit R hd rfl)
    cases b <;> simp only [ariV, Option.some.injEq, reduceCtorEq, Option.ite_none_left_eq_some] at h7 <;>
      first
        | (subst h7; simp [execOp, ho, e1, e2, eqGuard_at_int, binOp, Op.intArith, Op.intBits, bits]; done)
        | (obtain ⟨h8, rfl⟩ := h7; simp [execOp, ho, e1, e2, eqGuard_at_int, binOp, Op.intDiv, h8])
  · simp at h6

theorem toList_eq_iff {x y : ByteArray} : (x.toList == y.toList) = decide (x = y) := by
  rw [ByteArray.toList_eq, ByteArray.toList_eq]
  rw [Bool.eq_iff_iff, beq_iff_eq, decide_eq_true_iff]
  constructor
  · intro h
    cases x; cases y
    simp only [Array.toList_inj] at h
    exact congrArg _ h
  · rintro rfl; rfl
theorem op_cmp (R : Rep c st U γ S a w) (hd : ∀ k, o.dst = some k → k < c.nt) {b : BinOp} {t1 t2 : TypeId} {y1 y2 : Operand} {x1 x2 : O} (ho : o.op = .binOp b t1 y1 y2 t2) (h1 : eqO y1 x1 = true) (h2 : eqO y2 x2 = true) (hs : opS C st o.dst id (.cmp b x1 x2) = some st') : Runs c o a w st' U := by
  simp only [opS, bind_some_iff, map_some_iff] at hs
  obtain ⟨m, h4, n, h5, z, h6, rfl⟩ := hs
  obtain ⟨h7, _⟩ := eqO_ok R h1 h4
  obtain ⟨h8, _⟩ := eqO_ok R h2 h5
  refine .value (.bool z) w ?_ (ok_lit R hd rfl)
  unfold cmpX at h6
  split at h6
  · rename_i k m k' n
    simp only [X.vr] at h7 h8
    split at h6
    · rename_i hk
      subst hk
      cases b <;> simp only [cmpI, Option.some.injEq, reduceCtorEq] at h6 <;> subst h6 <;> simp [execOp, ho, h7.1, h8.1, eqGuard_at_int, binOp, Op.intCmp] <;> rfl
    · simp at h6
  · rename_i x y
    simp only [X.vr] at h7 h8
    cases b <;> simp only [cmpS, Option.some.injEq, reduceCtorEq] at h6 <;> subst h6 <;> simp [execOp, ho, h7.1, h8.1, eqGuard_at_string, binOp, Op.stringOp, toList_eq_iff]
  · simp at h6

theorem op_cmpb (R : Rep c st U γ S a w) (hd : ∀ k, o.dst = some k → k < c.nt) {b : BinOp} {t1 t2 : TypeId} {y1 y2 : Operand} {x1 x2 : O} (ho : o.op = .binOp b t1 y1 y2 t2) (h1 : eqO y1 x1 = true) (h2 : eqO y2 x2 = true) (hb : isBool c.P t1 = true) (hs : opS C st o.dst id (.cmpb b x1 x2) = some st') : Runs c o a w st' U := by
  simp only [opS, bind_some_iff, map_some_iff] at hs
  obtain ⟨m, h4, n, h5, z, h6, rfl⟩ := hs
  have e7 := rdB_ok R h1 h4
  have e8 := rdB_ok R h2 h5
  refine .value (.bool z) w ?_ (ok_lit R hd rfl)
  unfold isBool at hb
  split at hb
  · rename_i hu
    cases b <;> simp only [cmpB, Option.some.injEq, reduceCtorEq] at h6 <;> subst h6
    · simp [execOp, ho, e7, e8, eqGuard_at_bool, run_eql_bool (P := c.P) w t1 _ _ hu]
    · simp [execOp, ho, e7, e8, eqGuard_at_bool, run_neq_bool (P := c.P) w t1 _ _ hu]
  · simp at hb
theorem op_cat (R : Rep c st U γ S a w) (hd : ∀ k, o.dst = some k → k < c.nt) {t1 t2 : TypeId} {y1 y2 : Operand} {x1 x2 : O} (ho : o.op = .binOp .add t1 y1 y2 t2) (h1 : eqO y1 x1 = true) (h2 : eqO y2 x2 = true) (hs : opS C st o.dst id (.cat x1 x2) = some st') : Runs c o a w st' U := by
  simp only [opS, bind_some_iff] at hs
  obtain ⟨x, h4, y, h5, h6⟩ := hs
  have e1 := rdS_ok R h1 h4
  have e2 := rdS_ok R h2 h5
  split at h6
  · rename_i hl
    unfold catOk at hl
    simp only [Option.some.injEq] at h6
    subst h6
    refine .value (.string (x ++ y)) w ?_ (ok_lit R hd rfl)
    have hl' : ¬ ((x.size + y.size : Nat) : Int) > 9223372036854775807 := by omega
    have hl2 : ¬ (9223372036854775807 : Int) < (x.size : Int) + (y.size : Int) := by omega
    simp [execOp, ho, e1, e2, eqGuard_at_string, binOp, Op.stringOp, hl2]
  · simp at h6

theorem op_neg (R : Rep c st U γ S a w) (hd : ∀ k, o.dst = some k → k < c.nt) {t1 : TypeId} {y1 : Operand} {x1 : O} (ho : o.op = .unOp .neg t1 y1) (h1 : eqO y1 x1 = true) (hs : opS C st o.dst id (.neg x1) = some st') : Runs c o a w st' U := by
  simp only [opS, map_some_iff] at hs
  obtain ⟨⟨k, m⟩, h4, rfl⟩ := hs
  have e1 := rdI_ok R h1 h4
  simp only at e1
  exact .value (.int k (k.wrap (0 - m))) w (by simp [execOp, ho, e1, Op.unary, Op.intArith]) (ok_lit R hd rfl)

theorem op_not (R : Rep c st U γ S a w) (hd : ∀ k, o.dst = some k → k < c.nt) {t1 : TypeId} {y1 : Operand} {x1 : O} (ho : o.op = .unOp .not t1 y1) (h1 : eqO y1 x1 = true) (hs : opS C st o.dst id (.not x1) = some st') : Runs c o a w st' U := by
  simp only [opS, map_some_iff] at hs
  obtain ⟨b, h4, rfl⟩ := hs
  have e1 := rdB_ok R h1 h4
  exact .value (.bool !b) w (by simp [execOp, ho, e1, Op.unary]) (ok_lit R hd rfl)

theorem op_conv (R : Rep c st U γ S a w) (hd : ∀ k, o.dst = some k → k < c.nt) {t1 t2 : TypeId} {y1 : Operand} {x1 : O} {k : IntKind} (ho : o.op = .convert t1 t2 y1) (h1 : eqO y1 x1 = true) (ht1 : (c.P.underlying t1).isSome = true) (ht2 : intK c.P t2 = some k) (hs : opS C st o.dst id (.conv k x1) = some st') : Runs c o a w st' U := by
  simp only [opS, map_some_iff] at hs
  obtain ⟨⟨k', m⟩, h4, rfl⟩ := hs
  have e1 := rdI_ok R h1 h4
  simp only at e1
  unfold intK at ht2
  split at ht2
  · rename_i k2 hu
    simp only [Option.some.injEq] at ht2
    subst ht2
    refine .value (.int k2 (k2.wrap m)) w ?_ (ok_lit R hd rfl)
    obtain ⟨d1, hd1⟩ := Option.isSome_iff_exists.1 ht1
    simp [execOp, ho, e1, convert, run_underlying hd1, run_underlying hu, Conv.intToInt]
  · simp at ht2

theorem op_rune (R : Rep c st U γ S a w) (hd : ∀ k, o.dst = some k → k < c.nt) {t1 t2 : TypeId} {y1 : Operand} {x1 : O} (ho : o.op = .convert t1 t2 y1) (h1 : eqO y1 x1 = true) (ht1 : (c.P.underlying t1).isSome = true) (ht2 : isStr c.P t2 = true) (hs : opS C st o.dst id (.rune x1) = some st') : Runs c o a w st' U := by
  simp only [opS, map_some_iff] at hs
  obtain ⟨⟨k', m⟩, h4, rfl⟩ := hs
  have e1 := rdI_ok R h1 h4
  simp only at e1
  unfold isStr at ht2
  split at ht2
  · rename_i hu
    refine .value (.string (Utf8.encode m)) w ?_ (ok_lit R hd rfl)
    simp [execOp, ho, e1, run_convert_int_string (P := c.P) w t1 t2 k' m ht1 hu]
  · simp at ht2

theorem op_ixs (R : Rep c st U γ S a w) (hd : ∀ k, o.dst = some k → k < c.nt) {t1 : TypeId} {y1 y2 : Operand} {x1 x2 : O} (ho : o.op = .index t1 y1 y2) (h1 : eqO y1 x1 = true) (h2 : eqO y2 x2 = true) (ht : isStr c.P t1 = true) (hs : opS C st o.dst id (.ixs x1 x2) = some st') : Runs c o a w st' U := by
  simp only [opS, bind_some_iff] at hs
  obtain ⟨s, h4, ⟨k, n⟩, h5, h6⟩ := hs
  have e1 := rdS_ok R h1 h4
  have e2 := rdI_ok R h2 h5
  simp only at e2 h6
  split at h6
  · rename_i h0
    simp only [map_some_iff] at h6
    obtain ⟨b, h7, rfl⟩ := h6
    unfold isStr at ht
    split at ht
    · rename_i hu
      refine .value (.int .u8 b.toNat) w ?_ (ok_lit R hd rfl)
      have h8 : n.toNat < s.size := by
        by_cases h9 : n.toNat < s.size
        · exact h9
        · rw [ByteArray.getElem?_ge' s _ h9] at h7; simp at h7
      rw [ByteArray.getElem?_lt' s _ h8] at h7
      simp only [Option.some.injEq] at h7
      have h10 : 0 ≤ n ∧ n < (s.size : Int) := by omega
      simp [execOp, ho, e1, e2, run_index_string (P := c.P) w t1 s k n hu, h10, h7]
    · simp at ht
  · simp at h6

theorem op_ext (R : Rep c st U γ S a w) (hd : ∀ k, o.dst = some k → k < c.nt) {y1 : Operand} {x1 : O} {i : Nat} (ho : o.op = .extract y1 i) (h1 : eqO y1 x1 = true) (hs : opS C st o.dst id (.ext x1 i) = some st') : Runs c o a w st' U := by
  simp only [opS, bind_some_iff] at hs
  obtain ⟨x, h4, h5⟩ := hs
  obtain ⟨h6, h7⟩ := eqO_ok R h1 h4
  split at h5
  · rename_i cs
    simp only [map_some_iff] at h5
    obtain ⟨y, h8, rfl⟩ := h5
    simp only [X.vr] at h6
    obtain ⟨vs, e1, e2⟩ := h6
    obtain ⟨v, e3, e4⟩ := vrs_get e2 h8
    simp only [X.allp] at h7
    refine .value v w ?_ (ok_put R hd e4 (allps_iff.1 h7 y (List.mem_of_getElem? h8)))
    simp [execOp, ho, e1, Instr.extract, e3]
  · simp at h5

theorem op_nck (R : Rep c st U γ S a w) (hd : ∀ k, o.dst = some k → k < c.nt) {y1 : Operand} {x1 : O} (ho : o.op = .nilCheck y1) (h1 : eqO y1 x1 = true) (hs : opS C st o.dst id (.nck x1) = some st') : Runs c o a w st' U := by
  simp only [opS, bind_some_iff, map_some_iff] at hs
  obtain ⟨x, h4, y, h5, rfl⟩ := hs
  obtain ⟨h6, h7⟩ := eqO_ok R h1 h4
  have hxy : y = x := by
    unfold nonnil at h5
    split at h5 <;> simp_all
  subst hxy
  have hp : ∃ ad, a.eval y1 = .pointer (some ad) := by
    unfold nonnil at h5
    split at h5
    · simp only [X.vr] at h6; obtain ⟨ad, e, _⟩ := h6; exact ⟨ad, e⟩
    · simp only [X.vr] at h6; obtain ⟨ad, e, _⟩ := h6; exact ⟨ad, e⟩
    · simp only [X.vr] at h6; obtain ⟨ad, e, _⟩ := h6; exact ⟨ad, e⟩
    · simp at h5
  obtain ⟨ad, e⟩ := hp
  exact .value (a.eval y1) w (by simp [execOp, ho, e]) (ok_put R hd h6 h7)

theorem op_cutS (R : Rep c st U γ S a w) (hd : ∀ k, o.dst = some k → k < c.nt) {t1 : TypeId} {y1 : Operand} {x1 : O} {l h : Option Operand} {xl xh : Option O} (ho : o.op = .slice t1 y1 l h none) (h1 : eqO y1 x1 = true) (h2 : eqOo l xl = true) (h3 : eqOo h xh = true) (ht : isStr c.P t1 = true)
    (hs : opS C st o.dst id (.cutS x1 xl xh) = some st') : Runs c o a w st' U := by
  simp only [opS, bind_some_iff] at hs
  obtain ⟨s, h4, lo, h5, hi, h6, h7⟩ := hs
  have e1 := rdS_ok R h1 h4
  split at h7
  · rename_i hb
    simp only [Option.some.injEq] at h7
    subst h7
    unfold isStr at ht
    split at ht
    · rename_i hu
      refine .value (.string (s.extract lo.toNat hi.toNat)) w ?_ (ok_lit R hd rfl)
      obtain ⟨b1, b2, b3⟩ := hb
      cases l with
      | none =>
        cases xl with
        | some _ => simp [eqOo] at h2
        | none =>
          simp only [bound, Option.some.injEq] at h5
          subst h5
          cases h with
          | none =>
            cases xh with
            | some _ => simp [eqOo] at h3
            | none =>
              simp only [bound, Option.some.injEq] at h6
              subst h6
              simp [execOp, ho, e1, run_sliceAt_string (P := c.P) w t1 _ _ _ _ hu, run_slice_string_all (P := c.P) w t1 s hu]
          | some h =>
            cases xh with
            | none => simp [eqOo] at h3
            | some xh =>
              simp only [bound, map_some_iff] at h6
              obtain ⟨⟨k, n⟩, h8, rfl⟩ := h6
              have e2 := rdI_ok R (x := h) (o := xh) (by simpa [eqOo] using h3) h8
              simp only at e2 b2 b3
              simp [execOp, ho, e1, e2, run_sliceAt_string (P := c.P) w t1 _ _ _ _ hu, run_slice_string_to_if (P := c.P) w t1 s k n hu, b2, b3]
      | some l =>
        cases xl with
        | none => simp [eqOo] at h2
        | some xl =>
          simp only [bound, map_some_iff] at h5
          obtain ⟨⟨k, n⟩, h8, rfl⟩ := h5
          have e2 := rdI_ok R (x := l) (o := xl) (by simpa [eqOo] using h2) h8
          simp only at e2 b1 b2
          cases h with
          | none =>
            cases xh with
            | some _ => simp [eqOo] at h3
            | none =>
              simp only [bound, Option.some.injEq] at h6
              subst h6
              simp [execOp, ho, e1, e2, run_sliceAt_string (P := c.P) w t1 _ _ _ _ hu, run_slice_string_from_if (P := c.P) w t1 s k n hu, b1, b2]
          | some h =>
            cases xh with
            | none => simp [eqOo] at h3
            | some xh =>
              simp only [bound, map_some_iff] at h6
              obtain ⟨⟨k2, n2⟩, h9, rfl⟩ := h6
              have e3 := rdI_ok R (x := h) (o := xh) (by simpa [eqOo] using h3) h9
              simp only at e3 b2 b3
              have b4 : 0 ≤ n2 := by omega
              simp [execOp, ho, e1, e2, e3, run_sliceAt_string (P := c.P) w t1 _ _ _ _ hu, run_slice_string (P := c.P) w t1 s k k2 n n2 hu b1 b2 b3]
    · simp at ht
  · simp at h7

end
end Go.Ev
