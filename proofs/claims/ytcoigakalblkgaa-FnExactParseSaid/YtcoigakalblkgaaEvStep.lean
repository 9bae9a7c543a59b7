/- What holds between the evaluator's state and the machine's, and how it goes on. -/
import Derived.Test.YtcoigakalblkgaaEvStore
import Derived.Laws.IdiomCopy
set_option linter.all false
namespace Go.Ev
open Go.RowKit

def Bl (γ : Gm) (k : Nat) : Prop := ∃ i g, γ i = some g ∧ k ∈ g.bl
structure Ctx where
  w0 : World
  γ0 : Gm
  S0 : Nat → Prop
  nt : Nat
  P : Program
  h0 : Heap
  A : Id → Prop

abbrev IdIn (A : Id → Prop) (fr : Nat) (U : Nat → Prop) (id : Id) : Prop := (id.1 < fr ∧ A id) ∨ (id.1 = fr ∧ U id.2)

structure Rep (c : Ctx) (st : St) (U : Nat → Prop) (γ : Gm) (S : Nat → Prop) (a : Act) (w : World) : Prop where
  mm : Mm st.heap γ S w
  os : w.os = c.w0.os
  tape : w.tape = c.w0.tape
  output : w.output = c.w0.output
  size : c.w0.heap.size ≤ w.heap.size
  keep : ∀ k, k < c.w0.heap.size → ¬ Bl c.γ0 k → w.heap[k]? = c.w0.heap[k]?
  own : ∀ k, Bl γ k → Bl c.γ0 k ∨ c.w0.heap.size ≤ k
  hd : ∀ id : Id, id.1 < st.fr → Same c.γ0 γ id []
  sg : ∀ k, S k → c.S0 k ∨ c.w0.heap.size ≤ k
  s0 : ∀ k, c.S0 k → S k
  s00 : ∀ k, c.S0 k → k < c.w0.heap.size ∧ ¬ Bl c.γ0 k
  env : ∀ t x, st.env t = some x → x.vr γ w S (a.tmps.getD t undef)
  ids : ∀ t x, st.env t = some x → x.allp (fun id _ => IdIn c.A st.fr U id)
  hid : ∀ id d, st.heap id = some d → IdIn c.A st.fr U id
  dom : ∀ id : Id, id.1 < st.fr → c.h0 id = none → st.heap id = none
  df : a.defers = []
  sz : a.tmps.size = c.nt
  iso : st.fr = 0 → ∀ k, ¬ Bl c.γ0 k

def Ok (c : Ctx) (st : St) (U : Nat → Prop) (a : Act) (w : World) : Prop := ∃ γ S, Rep c st U γ S a w

theorem getD_put {a : Act} {d : Option Nat} {v : Value} {t : Nat} : (a.put d v).tmps.getD t undef = (if d = some t ∧ t < a.tmps.size then v else a.tmps.getD t undef) := by
  unfold Act.put
  cases d with
  | none => simp
  | some d =>
    simp only [Array.getD_eq_getD_getElem?, Array.getElem?_setIfInBounds, Option.some.injEq]
    by_cases h : d = t
    · subst h
      by_cases h2 : d < a.tmps.size
      · simp [h2]
      · simp [h2]
    · simp [h]
theorem put_size (a : Act) (d : Option Nat) (v : Value) : (a.put d v).tmps.size = a.tmps.size := by
  unfold Act.put; cases d <;> simp
theorem put_defers (a : Act) (d : Option Nat) (v : Value) : (a.put d v).defers = a.defers := by
  unfold Act.put; cases d <;> simp

theorem st_put_fr (st : St) (d : Option Nat) (x : X) : (st.put d x).fr = st.fr := by unfold St.put; cases d <;> rfl
theorem st_put_heap (st : St) (d : Option Nat) (x : X) : (st.put d x).heap = st.heap := by unfold St.put; cases d <;> rfl
theorem st_put_next (st : St) (d : Option Nat) (x : X) : (st.put d x).next = st.next := by unfold St.put; cases d <;> rfl
theorem st_lose_fr (st : St) (d : Option Nat) : (st.lose d).fr = st.fr := by unfold St.lose; cases d <;> rfl
theorem st_lose_heap (st : St) (d : Option Nat) : (st.lose d).heap = st.heap := by unfold St.lose; cases d <;> rfl
theorem st_lose_next (st : St) (d : Option Nat) : (st.lose d).next = st.next := by unfold St.lose; cases d <;> rfl
theorem st_put_env {st : St} {d : Option Nat} {x : X} {t : Nat} {y : X} (h : (st.put d x).env t = some y) : (d = some t ∧ y = x) ∨ (d ≠ some t ∧ st.env t = some y) := by
  unfold St.put at h
  cases d with
  | none => exact .inr ⟨by simp, h⟩
  | some d =>
    simp only [upd] at h
    split at h
    · rename_i e
      subst e
      simp only [Option.some.injEq] at h
      exact .inl ⟨rfl, h.symm⟩
    · rename_i e
      exact .inr ⟨by simpa using Ne.symm e, h⟩
theorem st_lose_env {st : St} {d : Option Nat} {t : Nat} {y : X} (h : (st.lose d).env t = some y) : d ≠ some t ∧ st.env t = some y := by
  unfold St.lose at h
  cases d with
  | none => exact ⟨by simp, h⟩
  | some d =>
    simp only [upd] at h
    split at h
    · simp at h
    · rename_i e
      exact ⟨by simpa using Ne.symm e, h⟩

section
variable {c : Ctx} {st : St} {U U' : Nat → Prop} {γ γ' : Gm} {S S' : Nat → Prop} {a : Act} {w w' : World}

/-- A value is put into a temporary. -/
theorem Rep.put (R : Rep c st U γ S a w) {d : Option Nat} (hd : ∀ k, d = some k → k < c.nt) {x : X} {v : Value} (hx : x.vr γ w S v) (hi : x.allp (fun id _ => IdIn c.A st.fr U id)) : Rep c (st.put d x) U γ S (a.put d v) w := by
  refine ⟨by rw [st_put_heap]; exact R.mm, R.os, R.tape, R.output, R.size, R.keep, R.own, by rw [st_put_fr]; exact R.hd, R.sg, R.s0, R.s00, fun t y hy => ?_, fun t y hy => ?_, by rw [st_put_heap, st_put_fr]; exact R.hid, by rw [st_put_heap, st_put_fr]; exact R.dom, by rw [put_defers]; exact R.df, by rw [put_size]; exact R.sz, by rw [st_put_fr]; exact R.iso⟩
  · rw [getD_put]
    rcases st_put_env hy with ⟨h1, rfl⟩ | ⟨h1, h2⟩
    · rw [if_pos ⟨h1, by rw [R.sz]; exact hd t h1⟩]
      exact hx
    · rw [if_neg (fun h => h1 h.1)]
      exact R.env t y h2
  · rw [st_put_fr]
    rcases st_put_env hy with ⟨h1, rfl⟩ | ⟨h1, h2⟩
    · exact hi
    · exact R.ids t y h2
theorem Rep.lose (R : Rep c st U γ S a w) {d : Option Nat} (v : Value) : Rep c (st.lose d) U γ S (a.put d v) w := by
  refine ⟨by rw [st_lose_heap]; exact R.mm, R.os, R.tape, R.output, R.size, R.keep, R.own, by rw [st_lose_fr]; exact R.hd, R.sg, R.s0, R.s00, fun t y hy => ?_, fun t y hy => ?_, by rw [st_lose_heap, st_lose_fr]; exact R.hid, by rw [st_lose_heap, st_lose_fr]; exact R.dom, by rw [put_defers]; exact R.df, by rw [put_size]; exact R.sz, by rw [st_lose_fr]; exact R.iso⟩
  · obtain ⟨h1, h2⟩ := st_lose_env hy
    rw [getD_put, if_neg (fun h => h1 h.1)]
    exact R.env t y h2
  · rw [st_lose_fr]
    exact R.ids t y (st_lose_env hy).2
theorem Rep.mono (R : Rep c st U γ S a w) (hU : ∀ o, U o → U' o) : Rep c st U' γ S a w :=
  ⟨R.mm, R.os, R.tape, R.output, R.size, R.keep, R.own, R.hd, R.sg, R.s0, R.s00, R.env, fun t x h => allp_mono (fun id _ hid => hid.imp id_ (fun h => ⟨h.1, hU _ h.2⟩)) x (R.ids t x h), fun id d h => (R.hid id d h).imp id_ (fun h => ⟨h.1, hU _ h.2⟩), R.dom, R.df, R.sz, R.iso⟩
where id_ {p : Prop} (h : p) : p := h
/-- Less is said. -/
theorem Rep.less (R : Rep c st U γ S a w) {e : Env} (he : ∀ t x, e t = some x → st.env t = some x) : Rep c { st with env := e } U γ S a w :=
  ⟨R.mm, R.os, R.tape, R.output, R.size, R.keep, R.own, R.hd, R.sg, R.s0, R.s00, fun t x h => R.env t x (he t x h), fun t x h => R.ids t x (he t x h), R.hid, R.dom, R.df, R.sz, R.iso⟩

theorem Bl.lt (R : Rep c st U γ S a w) {k : Nat} (h : Bl γ k) : k < w.heap.size := by
  obtain ⟨i, g, h1, h2⟩ := h
  exact G.ok_lt g (R.mm.ok i g h1) k h2

/-- Memory turns: what the evaluator's environment says stays. -/
theorem Rep.change (R : Rep c st U γ S a w) {h' : Heap} (m : Mm h' γ' S' w') (ho : w'.os = w.os) (ht : w'.tape = w.tape) (hp : w'.output = w.output) (hsz : w.heap.size ≤ w'.heap.size)
    (hk : ∀ k, k < w.heap.size → ¬ Bl γ k → w'.heap[k]? = w.heap[k]?) (hown : ∀ k, Bl γ' k → Bl γ k ∨ w.heap.size ≤ k)
    (hsame : ∀ t x, st.env t = some x → x.allp (Same γ γ')) (hhd : ∀ id : Id, id.1 < st.fr → Same γ γ' id [])
    (hS : ∀ k, S k → S' k) (hS' : ∀ k, S' k → S k ∨ w.heap.size ≤ k) (hid : ∀ id d, h' id = some d → IdIn c.A st.fr U' id) (hU : ∀ o, U o → U' o) (hdom : ∀ id : Id, id.1 < st.fr → st.heap id = none → h' id = none) : Rep c { st with heap := h' } U' γ' S' a w' := by
  have hSw : ∀ k, S k → S' k ∧ w'.heap[k]? = w.heap[k]? := fun k h => ⟨hS k h, hk k (R.mm.sd k h).1 (fun ⟨i, g, h1, h2⟩ => (R.mm.sd k h).2 i g h1 h2)⟩
  refine ⟨m, ho.trans R.os, ht.trans R.tape, hp.trans R.output, Nat.le_trans R.size hsz, fun k h1 h2 => ?_, fun k h => ?_, fun id hid' => (R.hd id hid').trans (hhd id hid'), fun k h => ?_, fun k h => hS k (R.s0 k h), R.s00, fun t x h => vr_same hSw x _ (hsame t x h) (R.env t x h), fun t x h => ?_, hid, fun id hid h0 => hdom id hid (R.dom id hid h0), R.df, R.sz, R.iso⟩
  · rw [hk k (Nat.lt_of_lt_of_le h1 R.size) (fun hb => (R.own k hb).elim h2 (fun h => by omega))]
    exact R.keep k h1 h2
  · rcases hown k h with h | h
    · exact R.own k h
    · have := R.size; exact .inr (by omega)
  · rcases hS' k h with h | h
    · exact R.sg k h
    · have := R.size; exact .inr (by omega)
  · exact allp_mono (fun id _ hid => hid.imp (fun h => h) (fun h => ⟨h.1, hU _ h.2⟩)) x (R.ids t x h)
/-- An order has been drawn. -/
theorem Rep.drew (R : Rep c st U γ S a w) : Rep c st U γ S a { w with drawn := w.drawn + 1 } := by
  have h := R.change (w' := { w with drawn := w.drawn + 1 }) (γ' := γ) (S' := S) (U' := U) (h' := st.heap) (R.mm.world (fun k h => ⟨h, rfl⟩) (fun _ _ _ _ _ => rfl) R.mm.sd) rfl rfl rfl (Nat.le_refl _) (fun _ _ _ => rfl) (fun _ h => .inl h)
    (fun t x _ => allp_all (fun id p => Same.refl γ id p) x) (fun id _ => Same.refl γ id []) (fun _ h => h) (fun _ h => .inl h) R.hid (fun _ h => h) (fun _ _ h => h)
  exact h
end

/-! ### The check of an operand -/
def vEq : Value → Value → Bool
  | .int k m, .int k' n => k == k' && m == n
  | .bool a, .bool b => a == b
  | .string a, .string b => a.data == b.data
  | _, _ => false
theorem vEq_ok {x y : Value} (h : vEq x y = true) : x = y ∧ x.oneCell' = true := by
  unfold vEq at h
  split at h
  · simp only [Bool.and_eq_true, beq_iff_eq] at h; obtain ⟨rfl, rfl⟩ := h; exact ⟨rfl, rfl⟩
  · simp only [beq_iff_eq] at h; subst h; exact ⟨rfl, rfl⟩
  · rename_i a b
    simp only [beq_iff_eq] at h
    have : a = b := by cases a; cases b; simp_all
    subst this
    exact ⟨rfl, rfl⟩
  · simp at h
def eqO : Operand → O → Bool
  | .tmp t, .t n => t == n
  | .const v, .c x => vEq v x
  | .const (.slice none 0 0), .n _ => true
  | .func f, .f g => f == g
  | _, _ => false
theorem eqO_ok {c : Ctx} {st : St} {U : Nat → Prop} {γ : Gm} {S : Nat → Prop} {a : Act} {w : World} (R : Rep c st U γ S a w) {x : Operand} {o : O} (h : eqO x o = true) {y : X} (hy : rdO st o = some y) :
    y.vr γ w S (a.eval x) ∧ y.allp (fun id _ => IdIn c.A st.fr U id) := by
  unfold eqO at h
  split at h
  · simp only [beq_iff_eq] at h
    subst h
    exact ⟨R.env _ _ hy, R.ids _ _ hy⟩
  · obtain ⟨rfl, h1⟩ := vEq_ok h
    simp only [rdO, Option.some.injEq] at hy
    subst hy
    exact ⟨by simp only [X.vr]; exact ⟨rfl, h1⟩, by simp only [X.allp]⟩
  · simp only [rdO, Option.some.injEq] at hy
    subst hy
    exact ⟨by simp [X.vr, Act.eval], by simp only [X.allp]⟩
  · simp only [beq_iff_eq] at h
    subst h
    simp only [rdO, Option.some.injEq] at hy
    subst hy
    exact ⟨by simp only [X.vr]; exact ⟨rfl, rfl⟩, by simp only [X.allp]⟩
  · simp at h
theorem int_of {y : X} {r : IntKind × Int} (h : y.int = some r) : y = .d (.v (.int r.1 r.2)) := by
  unfold X.int at h
  split at h
  · simp only [Option.some.injEq] at h; subst h; rfl
  · simp at h
theorem bool_of {y : X} {r : Bool} (h : y.bool = some r) : y = .d (.v (.bool r)) := by
  unfold X.bool at h
  split at h
  · simp only [Option.some.injEq] at h; subst h; rfl
  · simp at h
theorem str_of {y : X} {r : ByteArray} (h : y.str = some r) : y = .d (.v (.string r)) := by
  unfold X.str at h
  split at h
  · simp only [Option.some.injEq] at h; subst h; rfl
  · simp at h
section
variable {c : Ctx} {st : St} {U : Nat → Prop} {γ : Gm} {S : Nat → Prop} {a : Act} {w : World} (R : Rep c st U γ S a w) {x : Operand} {o : O} (h : eqO x o = true)
include R h
theorem rdI_ok {r : IntKind × Int} (hr : rdI st o = some r) : a.eval x = .int r.1 r.2 := by
  unfold rdI at hr
  rw [bind_some_iff] at hr
  obtain ⟨y, h1, h2⟩ := hr
  have := (eqO_ok R h h1).1
  rw [int_of h2] at this
  simp only [X.vr] at this
  exact this.1
theorem rdB_ok {r : Bool} (hr : rdB st o = some r) : a.eval x = .bool r := by
  unfold rdB at hr
  rw [bind_some_iff] at hr
  obtain ⟨y, h1, h2⟩ := hr
  have := (eqO_ok R h h1).1
  rw [bool_of h2] at this
  simp only [X.vr] at this
  exact this.1
theorem rdS_ok {r : ByteArray} (hr : rdS st o = some r) : a.eval x = .string r := by
  unfold rdS at hr
  rw [bind_some_iff] at hr
  obtain ⟨y, h1, h2⟩ := hr
  have := (eqO_ok R h h1).1
  rw [str_of h2] at this
  simp only [X.vr] at this
  exact this.1
end

end Go.Ev
