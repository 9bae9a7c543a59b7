/- The operations that call: each is sound for the machine, where the calls are. -/
import Derived.Test.YtcoigakalblkgaaEvCall
set_option linter.all false
namespace Go.Ev
open Go.RowKit

/-- What a call leaves. -/
structure CallPost (A : Id → Prop) (γ : Gm) (S : Nat → Prop) (w : World) (h : Heap) (fr : Nat) (r : X) (h' : Heap) (v : Value) (w' : World) (γ' : Gm) (S' : Nat → Prop) (is : List GId) : Prop where
  mm : Mm h' γ' S' w'
  res : resR γ' w' S' r v is
  nd : is.Nodup
  ids : r.allp (fun id _ => id.1 < fr ∧ A id)
  os : w'.os = w.os
  tape : w'.tape = w.tape
  output : w'.output = w.output
  size : w.heap.size ≤ w'.heap.size
  keep : ∀ k, k < w.heap.size → ¬ Bl γ k → w'.heap[k]? = w.heap[k]?
  own : ∀ k, Bl γ' k → Bl γ k ∨ w.heap.size ≤ k
  hd : ∀ id : Id, id.1 < fr → Same γ γ' id []
  s0 : ∀ k, S k → S' k
  sg : ∀ k, S' k → S k ∨ w.heap.size ≤ k
  dom : ∀ id : Id, id.1 < fr → h id = none → h' id = none
  low : ∀ id d, h' id = some d → id.1 < fr
def Callable (P : Program) (f : Nat) : Prop := ∃ fn, P.funcs[f]? = some fn ∧ ¬ fn.name = "runtime.NumGoroutine" ∧ ¬ fn.body = none
/-- The calls that the evaluator knows are the machine's. -/
def CallOk (P : Program) (C : Cl) : Prop := ∀ f args h fr r h', C f args h fr = some (r, h') → Callable P f ∧ ∀ A γ S w vs, Mm h γ S w → vrs γ w S args vs → allps (fun id _ => id.1 < fr ∧ A id) args → (∀ id d, h id = some d → id.1 < fr ∧ A id) →
  Calls P f vs.toArray w fun e w' => ∃ v γ' S' is, e = .returned v ∧ CallPost A γ S w h fr r h' v w' γ' S' is

section
variable {c : Ctx} {st st' : St} {U : Nat → Prop} {γ : Gm} {S : Nat → Prop} {a : Act} {w : World} {C : Cl} {o : Oper} {id : Nat}

/-! ### Rows that come back get places -/
theorem Mm.place {h : Heap} (m : Mm h γ S w) {i : GId} {g : G} (hi : γ i = some g) (hr : ∃ n, i = .inr n) (id : Id) : Mm (upd h id (some g.er)) (upd (rem γ [i]) (.inl id) (some g)) S w :=
  m.regroup (S' := S) (w' := w) [i] (by simpa using flo_inr hr) (m.ok _ _ hi) (m.nd _ _ hi) (fun k hk => .inl ⟨i, by simp, g, hi, hk⟩) (fun _ _ _ _ _ _ => rfl) (fun k hk => ⟨hk, rfl⟩) (fun k hk => ⟨(m.sd k hk).1, (m.sd k hk).2 _ _ hi, fun i g hi _ => (m.sd k hk).2 i g hi⟩) id

structure Imp (c : Ctx) (st : St) (γ γ' : Gm) (S : Nat → Prop) (a : Act) (w : World) (U' : Nat → Prop) (h' : Heap) (is : List GId) (n m : Nat) : Prop where
  rep : Rep c (st.with h') U' γ' S a w
  keep : ∀ j, (∃ q, j = .inr q) → j ∉ is → γ' j = γ j
  same : ∀ (id : Id) p, (id.1 = st.fr → ¬ (n ≤ id.2 ∧ id.2 < n + m)) → Same γ γ' id p
abbrev UB (U : Nat → Prop) (n m : Nat) : Nat → Prop := fun k => U k ∨ (n ≤ k ∧ k < n + m)
theorem Imp.refl (R : Rep c st U γ S a w) {n m : Nat} : Imp c st γ γ S a w (UB U n m) st.heap [] n m :=
  ⟨R.mono (fun k h => .inl h), fun _ _ _ => rfl, fun id p _ => Same.refl γ id p⟩

theorem impC_ok (R : Rep c st U γ S a w) {x : X} {v : Value} {is : List GId} (hr : resC γ w S x v is) (hi : x.allp (fun id _ => IdIn c.A st.fr U id)) {n : Nat} (hn : ¬ U n) :
    ∃ γ', Imp c st γ γ' S a w (UB U n 1) (impC st.heap (st.fr, n) x).2 is n 1 ∧ (impC st.heap (st.fr, n) x).1.vr γ' w S v ∧ (impC st.heap (st.fr, n) x).1.allp (fun id _ => IdIn c.A st.fr (UB U n 1) id) := by
  rcases hr with ⟨h1, rfl, h2⟩ | ⟨sz, els, i, g, rfl, rfl, h3, h4, h5, h6⟩
  · have hx : impC st.heap (st.fr, n) x = (x, st.heap) := by
      unfold impC
      split
      · simp [X.own] at h1
      · rfl
    rw [hx]
    exact ⟨γ, ⟨R.mono (fun k h => .inl h), fun _ _ _ => rfl, fun id p _ => Same.refl γ id p⟩, h2, allp_mono (fun id _ h => h.imp (fun h => h) (fun h => ⟨h.1, .inl h.2⟩)) x hi⟩
  · simp only [impC]
    have hM := R.mm.place h3 h4 (st.fr, n)
    rw [h5] at hM
    have hR := R.change (U' := UB U n 1) hM rfl rfl rfl (Nat.le_refl _) (fun _ _ _ => rfl) (fun k ⟨j, g', g1, g2⟩ => ?_) (fun t x hx => allp_mono (fun id p h => Same.regroup id p h) x (ids_ne R hn t x hx)) (fun id hid => ?_) (fun k h => h) (fun k h => .inl h) (fun id d hd => ?_) (fun k h => .inl h) (fun id hid h0 => ?_)
    · refine ⟨_, ⟨hR, fun j hj hji => ?_, fun id p hid => ?_⟩, ?_, ?_⟩
      · obtain ⟨q, rfl⟩ := hj
        have : rem γ [i] (.inr q) = γ (.inr q) := by
          unfold rem
          rw [if_neg hji]
        simp [upd, this]
      · refine Same.regroup id p fun e => ?_
        subst e
        exact hid rfl ⟨Nat.le_refl _, by omega⟩
      · simp only [X.vr]
        refine ⟨by rw [← h6]; exact gval_one (R.mm.ok _ _ h3), fun g' hg' => ?_⟩
        simp only [Gm.nav, upd, if_true, Option.bind_some, G.nav, Option.some.injEq] at hg'
        subst hg'
        refine ⟨h6, ?_⟩
        cases g with
        | s sz b els => rfl
        | l d v =>
          have := R.mm.ok _ _ h3
          simp only [G.ok] at this
          simp only [G.er] at h5
          subst h5
          simp [D.leaf] at this
      · simp only [X.allp]
        exact .inr ⟨rfl, .inr ⟨Nat.le_refl _, by omega⟩⟩
    · unfold upd at g1
      split at g1
      · simp only [Option.some.injEq] at g1
        subst g1
        exact .inl ⟨i, g, h3, g2⟩
      · rw [rem_some] at g1
        exact .inl ⟨j, g', g1.2, g2⟩
    · have : id ≠ (st.fr, n) := fun e => by rw [e] at hid; simp at hid
      exact Same.regroup id [] this
    · unfold upd at hd
      split at hd
      · rename_i e
        subst e
        exact .inr ⟨rfl, .inr ⟨Nat.le_refl _, by omega⟩⟩
      · exact (R.hid id d hd).imp (fun h => h) (fun h => ⟨h.1, .inl h.2⟩)
    · have hne : id ≠ (st.fr, n) := fun e => by rw [e] at hid; simp at hid
      simp only [upd, hne, if_false]
      exact h0

theorem Imp.trans {γ1 γ2 : Gm} {U1 U2 : Nat → Prop} {h1 h2 : Heap} {i1 i2 : List GId} {n m m' : Nat} (p1 : Imp c st γ γ1 S a w U1 h1 i1 n m) (p2 : Imp c (st.with h1) γ1 γ2 S a w U2 h2 i2 (n + m) m') (hU : ∀ k, U2 k → UB U n (m + m') k) : Imp c st γ γ2 S a w (UB U n (m + m')) h2 (i1 ++ i2) n (m + m') :=
  ⟨p2.rep.mono hU, fun j hj hji => (p2.keep j hj (fun h => hji (by simp [h]))).trans (p1.keep j hj (fun h => hji (by simp [h]))), fun id p hid => (p1.same id p (fun e h => hid e ⟨h.1, by omega⟩)).trans (p2.same id p (fun e h => hid e ⟨by omega, by omega⟩))⟩
theorem impL_ok : ∀ {xs : List X} {st : St} {U : Nat → Prop} {γ : Gm} {vs : List Value} {is : List GId} {n : Nat}, Rep c st U γ S a w → resL γ w S xs vs is → is.Nodup → allps (fun id _ => IdIn c.A st.fr U id) xs → (∀ k, n ≤ k → k < n + xs.length → ¬ U k) →
    ∃ γ', Imp c st γ γ' S a w (UB U n xs.length) (impL st.heap (st.fr, n) xs).2 is n xs.length ∧ vrs γ' w S (impL st.heap (st.fr, n) xs).1 vs ∧ allps (fun id _ => IdIn c.A st.fr (UB U n xs.length) id) (impL st.heap (st.fr, n) xs).1
  | [], st, U, γ, vs, is, n, R, hr, hnd, hi, hn => by
    cases vs with
    | nil =>
      simp only [resL] at hr
      subst hr
      exact ⟨γ, Imp.refl R, by simp [impL, vrs], by simp [impL, allps]⟩
    | cons v vs => simp [resL] at hr
  | x :: xs, st, U, γ, vs, is, n, R, hr, hnd, hi, hn => by
    cases vs with
    | nil => simp [resL] at hr
    | cons v vs =>
      simp only [resL] at hr
      obtain ⟨i1, i2, rfl, r1, r2⟩ := hr
      simp only [allps] at hi
      obtain ⟨hnd1, hnd2, hdis⟩ := List.nodup_append.1 hnd
      obtain ⟨γ1, p1, v1, a1⟩ := impC_ok R r1 hi.1 (n := n) (hn n (Nat.le_refl _) (by simp))
      have hinr : ∀ j ∈ i2, ∃ q, j = (Sum.inr q : GId) := by
        have : ∀ {xs : List X} {vs : List Value} {is : List GId}, resL γ w S xs vs is → ∀ j ∈ is, ∃ q, j = .inr q := by
          intro xs
          induction xs with
          | nil => intro vs is h j hj; cases vs <;> simp [resL] at h; subst h; simp at hj
          | cons x xs ih =>
            intro vs is h j hj
            cases vs with
            | nil => simp [resL] at h
            | cons v vs =>
              simp only [resL] at h
              obtain ⟨i1, i2, rfl, r1, r2⟩ := h
              rcases List.mem_append.1 hj with hj | hj
              · rcases r1 with ⟨_, rfl, _⟩ | ⟨_, _, i, _, _, rfl, _, hq, _⟩
                · simp at hj
                · rw [List.mem_singleton] at hj; subst hj; exact hq
              · exact ih r2 j hj
        exact this r2
      have hfresh : ∀ k, n + 1 ≤ k → k < n + 1 + xs.length → ¬ UB U n 1 k := fun k h1 h2 h3 => by
        rcases h3 with h3 | h3
        · exact hn k (by omega) (by simp; omega) h3
        · omega
      have r2' : resL γ1 w S xs vs i2 := resL_to (φ := fun id _ => IdIn c.A st.fr U id) ⟨fun id p hid => p1.same id p (fun e h => by
          rcases hid with hid | hid
          · omega
          · exact hn id.2 (by omega) (by simp; omega) hid.2), fun k hk => ⟨hk, rfl⟩⟩ hi.2 r2 (fun j hj => p1.keep j (hinr j hj) (fun h => hdis j h j hj rfl))
      obtain ⟨γ2, p2, v2, a2⟩ := impL_ok (st := st.with (impC st.heap (st.fr, n) x).2) (n := n + 1) p1.rep r2' hnd2 (allps_mono (fun id _ h => h.imp (fun h => h) (fun h => ⟨h.1, .inl h.2⟩)) xs hi.2) hfresh
      have p3 := p1.trans (U := U) p2 (fun k h => by
        rcases h with (h | h) | h
        · exact .inl h
        · exact .inr (by omega)
        · exact .inr (by omega))
      simp only [List.length_cons]
      rw [Nat.add_comm xs.length 1]
      refine ⟨γ2, p3, ?_, ?_⟩
      · simp only [impL, vrs]
        refine ⟨vr_same (fun k hk => ⟨hk, rfl⟩) _ _ (allp_mono (fun id p hid => p2.same id p (fun e h => ?_)) _ a1) v1, v2⟩
        rcases hid with hid | hid
        · have : (st.with (impC st.heap (st.fr, n) x).2).fr = st.fr := rfl
          omega
        · exact hfresh id.2 h.1 h.2 hid.2
      · simp only [impL, allps]
        refine ⟨allp_mono (fun id _ h => h.imp (fun h => h) (fun h => ⟨h.1, h.2.imp (fun h => h) (fun h => by omega)⟩)) _ a1, allps_mono (fun id _ h => h.imp (fun h => h) (fun h => ⟨h.1, ?_⟩)) _ a2⟩
        rcases h.2 with (h | h) | h
        · exact .inl h
        · exact .inr (by omega)
        · exact .inr (by omega)

theorem impV_ok (R : Rep c st U γ S a w) {x : X} {v : Value} {is : List GId} (hr : resV γ w S x v is) (hnd : is.Nodup) (hi : x.allp (fun id _ => IdIn c.A st.fr U id)) {n : Nat} (hn : ∀ k, n ≤ k → k < n + x.cells.length → ¬ U k) :
    ∃ γ', Imp c st γ γ' S a w (UB U n x.cells.length) (impV st.heap (st.fr, n) x).2 is n x.cells.length ∧ (impV st.heap (st.fr, n) x).1.vr γ' w S v ∧ (impV st.heap (st.fr, n) x).1.allp (fun id _ => IdIn c.A st.fr (UB U n x.cells.length) id) := by
  cases x with
  | agg cs =>
    simp only [resV, X.allp, X.cells] at hr hi hn ⊢
    obtain ⟨vs, rfl, h1, h2⟩ := hr
    obtain ⟨γ', p, v1, a1⟩ := impL_ok R h1 hnd hi hn
    exact ⟨γ', p, by simp only [impV, X.vr]; exact ⟨vs, rfl, v1, h2⟩, by simp only [impV, X.allp]; exact a1⟩
  | d x => exact impC_ok R (by simpa only [resV] using hr) hi (hn n (Nat.le_refl _) (by simp [X.cells]))
  | tup cs => exact impC_ok R (by simpa only [resV] using hr) hi (hn n (Nat.le_refl _) (by simp [X.cells]))
  | ref id p => exact impC_ok R (by simpa only [resV] using hr) hi (hn n (Nat.le_refl _) (by simp [X.cells]))
  | ptr id q j i => exact impC_ok R (by simpa only [resV] using hr) hi (hn n (Nat.le_refl _) (by simp [X.cells]))
  | rop cs => exact impC_ok R (by simpa only [resV] using hr) hi (hn n (Nat.le_refl _) (by simp [X.cells]))
  | vp cs => exact impC_ok R (by simpa only [resV] using hr) hi (hn n (Nat.le_refl _) (by simp [X.cells]))
  | clo f cs => exact impC_ok R (by simpa only [resV] using hr) hi (hn n (Nat.le_refl _) (by simp [X.cells]))

theorem resL_inr {γ : Gm} {w : World} {S : Nat → Prop} : ∀ {xs : List X} {vs : List Value} {is : List GId}, resL γ w S xs vs is → ∀ j ∈ is, ∃ q, j = .inr q
  | [], [], is, h, j, hj => by simp only [resL] at h; subst h; simp at hj
  | x :: xs, v :: vs, is, h, j, hj => by
    simp only [resL] at h
    obtain ⟨i1, i2, rfl, r1, r2⟩ := h
    rcases List.mem_append.1 hj with hj | hj
    · rcases r1 with ⟨_, rfl, _⟩ | ⟨_, _, i, _, _, rfl, _, hq, _⟩
      · simp at hj
      · rw [List.mem_singleton] at hj; subst hj; exact hq
    · exact resL_inr r2 j hj
  | [], _ :: _, _, h, _, _ => by simp [resL] at h
  | _ :: _, [], _, h, _, _ => by simp [resL] at h
theorem resC_inr {γ : Gm} {w : World} {S : Nat → Prop} {x : X} {v : Value} {is : List GId} (h : resC γ w S x v is) : ∀ j ∈ is, ∃ q, j = .inr q := fun j hj => by
  rcases h with ⟨_, rfl, _⟩ | ⟨_, _, i, _, _, rfl, _, hq, _⟩
  · simp at hj
  · rw [List.mem_singleton] at hj; subst hj; exact hq
theorem resV_inr {γ : Gm} {w : World} {S : Nat → Prop} {x : X} {v : Value} {is : List GId} (h : resV γ w S x v is) : ∀ j ∈ is, ∃ q, j = .inr q := by
  cases x with
  | agg cs => simp only [resV] at h; obtain ⟨vs, _, h, _⟩ := h; exact resL_inr h
  | d x => exact resC_inr (by simpa only [resV] using h)
  | tup cs => exact resC_inr (by simpa only [resV] using h)
  | ref id p => exact resC_inr (by simpa only [resV] using h)
  | ptr id q j i => exact resC_inr (by simpa only [resV] using h)
  | rop cs => exact resC_inr (by simpa only [resV] using h)
  | vp cs => exact resC_inr (by simpa only [resV] using h)
  | clo f cs => exact resC_inr (by simpa only [resV] using h)
theorem resT_inr {γ : Gm} {w : World} {S : Nat → Prop} : ∀ {xs : List X} {vs : List Value} {is : List GId}, resT γ w S xs vs is → ∀ j ∈ is, ∃ q, j = .inr q
  | [], [], is, h, j, hj => by simp only [resT] at h; subst h; simp at hj
  | x :: xs, v :: vs, is, h, j, hj => by
    simp only [resT] at h
    obtain ⟨i1, i2, rfl, r1, r2⟩ := h
    rcases List.mem_append.1 hj with hj | hj
    · exact resV_inr r1 j hj
    · exact resT_inr r2 j hj
  | [], _ :: _, _, h, _, _ => by simp [resT] at h
  | _ :: _, [], _, h, _, _ => by simp [resT] at h
theorem resR_inr {γ : Gm} {w : World} {S : Nat → Prop} {x : X} {v : Value} {is : List GId} (h : resR γ w S x v is) : ∀ j ∈ is, ∃ q, j = .inr q := by
  cases x with
  | tup cs => simp only [resR] at h; obtain ⟨vs, _, h⟩ := h; exact resT_inr h
  | agg cs => exact resV_inr (by simpa only [resR] using h)
  | d x => exact resV_inr (by simpa only [resR] using h)
  | ref id p => exact resV_inr (by simpa only [resR] using h)
  | ptr id q j i => exact resV_inr (by simpa only [resR] using h)
  | rop cs => exact resV_inr (by simpa only [resR] using h)
  | vp cs => exact resV_inr (by simpa only [resR] using h)
  | clo f cs => exact resV_inr (by simpa only [resR] using h)

def ncT : List X → Nat
  | [] => 0
  | x :: xs => x.cells.length + ncT xs
theorem ncT_eq (cs : List X) : (cs.map fun x => x.cells.length).sum = ncT cs := by
  induction cs with
  | nil => rfl
  | cons x xs ih => simp [ncT, ih]
theorem impT_ok : ∀ {xs : List X} {st : St} {U : Nat → Prop} {γ : Gm} {vs : List Value} {is : List GId} {n : Nat}, Rep c st U γ S a w → resT γ w S xs vs is → is.Nodup → allps (fun id _ => IdIn c.A st.fr U id) xs → (∀ k, n ≤ k → k < n + ncT xs → ¬ U k) →
    ∃ γ', Imp c st γ γ' S a w (UB U n (ncT xs)) (impT st.heap (st.fr, n) xs).2 is n (ncT xs) ∧ vrs γ' w S (impT st.heap (st.fr, n) xs).1 vs ∧ allps (fun id _ => IdIn c.A st.fr (UB U n (ncT xs)) id) (impT st.heap (st.fr, n) xs).1
  | [], st, U, γ, vs, is, n, R, hr, hnd, hi, hn => by
    cases vs with
    | nil =>
      simp only [resT] at hr
      subst hr
      exact ⟨γ, Imp.refl R, by simp [impT, vrs], by simp [impT, allps]⟩
    | cons v vs => simp [resT] at hr
  | x :: xs, st, U, γ, vs, is, n, R, hr, hnd, hi, hn => by
    cases vs with
    | nil => simp [resT] at hr
    | cons v vs =>
      simp only [resT] at hr
      obtain ⟨i1, i2, rfl, r1, r2⟩ := hr
      simp only [allps] at hi
      simp only [ncT] at hn ⊢
      obtain ⟨hnd1, hnd2, hdis⟩ := List.nodup_append.1 hnd
      obtain ⟨γ1, p1, v1, a1⟩ := impV_ok R r1 hnd1 hi.1 (n := n) (fun k h1 h2 => hn k h1 (by omega))
      have hinr : ∀ j ∈ i2, ∃ q, j = (Sum.inr q : GId) := resT_inr r2
      have hfresh : ∀ k, n + x.cells.length ≤ k → k < n + x.cells.length + ncT xs → ¬ UB U n x.cells.length k := fun k h1 h2 h3 => by
        rcases h3 with h3 | h3
        · exact hn k (by omega) (by omega) h3
        · omega
      have r2' : resT γ1 w S xs vs i2 := resT_to (φ := fun id _ => IdIn c.A st.fr U id) ⟨fun id p hid => p1.same id p (fun e h => by
          rcases hid with hid | hid
          · omega
          · exact hn id.2 (by omega) (by omega) hid.2), fun k hk => ⟨hk, rfl⟩⟩ hi.2 r2 (fun j hj => p1.keep j (hinr j hj) (fun h => hdis j h j hj rfl))
      obtain ⟨γ2, p2, v2, a2⟩ := impT_ok (st := st.with (impV st.heap (st.fr, n) x).2) (n := n + x.cells.length) p1.rep r2' hnd2 (allps_mono (fun id _ h => h.imp (fun h => h) (fun h => ⟨h.1, .inl h.2⟩)) xs hi.2) hfresh
      have p3 := p1.trans (U := U) p2 (fun k h => by
        rcases h with (h | h) | h
        · exact .inl h
        · exact .inr (by omega)
        · exact .inr (by omega))
      refine ⟨γ2, p3, ?_, ?_⟩
      · simp only [impT, vrs]
        refine ⟨vr_same (fun k hk => ⟨hk, rfl⟩) _ _ (allp_mono (fun id p hid => p2.same id p (fun e h => ?_)) _ a1) v1, v2⟩
        rcases hid with hid | hid
        · have : (st.with (impV st.heap (st.fr, n) x).2).fr = st.fr := rfl
          omega
        · exact hfresh id.2 h.1 h.2 hid.2
      · simp only [impT, allps]
        refine ⟨allp_mono (fun id _ h => h.imp (fun h => h) (fun h => ⟨h.1, h.2.imp (fun h => h) (fun h => by omega)⟩)) _ a1, allps_mono (fun id _ h => h.imp (fun h => h) (fun h => ⟨h.1, ?_⟩)) _ a2⟩
        rcases h.2 with (h | h) | h
        · exact .inl h
        · exact .inr (by omega)
        · exact .inr (by omega)
theorem impR_ok (R : Rep c st U γ S a w) {x : X} {v : Value} {is : List GId} (hr : resR γ w S x v is) (hnd : is.Nodup) (hi : x.allp (fun id _ => IdIn c.A st.fr U id)) {n : Nat} (hn : ∀ k, n ≤ k → k < n + x.ncells → ¬ U k) :
    ∃ γ', Imp c st γ γ' S a w (UB U n x.ncells) (impR st.heap (st.fr, n) x).2 is n x.ncells ∧ (impR st.heap (st.fr, n) x).1.vr γ' w S v ∧ (impR st.heap (st.fr, n) x).1.allp (fun id _ => IdIn c.A st.fr (UB U n x.ncells) id) := by
  cases x with
  | tup cs =>
    simp only [resR, X.allp, X.ncells, ncT_eq] at hr hi hn ⊢
    obtain ⟨vs, rfl, h1⟩ := hr
    obtain ⟨γ', p, v1, a1⟩ := impT_ok R h1 hnd hi hn
    exact ⟨γ', p, by simp only [impR, X.vr]; exact ⟨vs, rfl, v1⟩, by simp only [impR, X.allp]; exact a1⟩
  | agg cs => exact impV_ok R (by simpa only [resR] using hr) hnd hi hn
  | d x => exact impV_ok R (by simpa only [resR] using hr) hnd hi hn
  | ref id p => exact impV_ok R (by simpa only [resR] using hr) hnd hi hn
  | ptr id q j i => exact impV_ok R (by simpa only [resR] using hr) hnd hi hn
  | rop cs => exact impV_ok R (by simpa only [resR] using hr) hnd hi hn
  | vp cs => exact impV_ok R (by simpa only [resR] using hr) hnd hi hn
  | clo f cs => exact impV_ok R (by simpa only [resR] using hr) hnd hi hn
theorem landed_ok (R : Rep c st U γ S a w) {d : Option Nat} (hd : ∀ k, d = some k → k < c.nt) {x : X} {v : Value} {is : List GId} (hr : resR γ w S x v is) (hnd : is.Nodup) (hi : x.allp (fun id _ => IdIn c.A st.fr U id)) {n : Nat} (hn : ∀ k, n ≤ k → k < n + 32 → ¬ U k) {U' : Nat → Prop} (hU : ∀ k, UB U n 32 k → U' k)
    (hl : landed st d n x st.heap = some st') : Ok c st' U' (a.put d v) w := by
  unfold landed at hl
  split at hl
  · rename_i hle
    simp only [Option.some.injEq] at hl
    subst hl
    obtain ⟨γ', p, v1, a1⟩ := impR_ok R hr hnd hi (n := n) (fun k h1 h2 => hn k h1 (by omega))
    have h32 : ∀ k, UB U n x.ncells k → U' k := fun k h => hU k (h.imp (fun h => h) (fun h => by omega))
    exact ⟨γ', S, ((p.rep.mono h32).put hd v1 (allp_mono (fun id _ h => h.imp (fun h => h) (fun h => ⟨h.1, h32 _ h.2⟩)) _ a1))⟩
  · simp at hl

end
end Go.Ev
