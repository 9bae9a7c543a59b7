/- Rows that move: out of their places, into new rows, into cells. -/
import Derived.Test.YtcoigakalblkgaaEvVal
set_option linter.all false
namespace Go.Ev

/-- A ghost that no place has. -/
def Flo (h : Heap) (i : GId) : Prop := ∀ id, i = .inl id → h id = none
open Classical in
noncomputable def rem (γ : Gm) (is : List GId) : Gm := fun i => if i ∈ is then none else γ i
theorem rem_some {γ : Gm} {is : List GId} {i : GId} {g : G} : rem γ is i = some g ↔ i ∉ is ∧ γ i = some g := by
  unfold rem
  split <;> simp_all

/-- Blocks of one ghost map that another one has, too. -/
def Sub (γ' γ : Gm) : Prop := ∀ i g, γ' i = some g → ∀ k ∈ g.bl, ∃ i0 g0, γ i0 = some g0 ∧ k ∈ g0.bl
theorem Sub.refl (γ : Gm) : Sub γ γ := fun i g h k hk => ⟨i, g, h, hk⟩
theorem Sub.trans {a b c : Gm} (h1 : Sub a b) (h2 : Sub b c) : Sub a c := fun i g h k hk => by
  obtain ⟨i0, g0, h3, h4⟩ := h1 i g h k hk
  exact h2 i0 g0 h3 k h4

/-- A ghost without blocks comes along. -/
theorem Mm.addLeaf {h : Heap} {γ : Gm} {S : Nat → Prop} {w : World} (m : Mm h γ S w) {n : Nat} (hn : γ (.inr n) = none) {g : G} (hg : g.ok w S) (hb : g.bl = []) : Mm h (upd γ (.inr n) (some g)) S w := by
  have key : ∀ i g', upd γ (.inr n) (some g) i = some g' → γ i = some g' ∨ (i = .inr n ∧ g' = g) := fun i g' hi => by
    unfold upd at hi
    split at hi
    · simp only [Option.some.injEq] at hi; exact .inr ⟨‹_›, hi.symm⟩
    · exact .inl hi
  refine ⟨fun id d hd => ?_, fun i g' hi => ?_, fun i g' hi => ?_, fun i i' g1 g2 h1 h2 hne k hk => ?_, fun k hk => ⟨(m.sd k hk).1, fun i g' hi hk' => ?_⟩, ?_⟩
  · obtain ⟨g', h1, h2⟩ := m.er id d hd
    exact ⟨g', by simp [upd, h1], h2⟩
  · rcases key i g' hi with h1 | ⟨_, rfl⟩
    · exact m.ok i g' h1
    · exact hg
  · rcases key i g' hi with h1 | ⟨_, rfl⟩
    · exact m.nd i g' h1
    · rw [hb]; exact List.nodup_nil
  · rcases key i g1 h1 with h3 | ⟨_, rfl⟩
    · rcases key i' g2 h2 with h4 | ⟨_, rfl⟩
      · exact m.dj i i' g1 g2 h3 h4 hne k hk
      · rw [hb]; simp
    · rw [hb] at hk; simp at hk
  · rcases key i g' hi with h3 | ⟨_, rfl⟩
    · exact (m.sd k hk).2 i g' h3 hk'
    · rw [hb] at hk'; simp at hk'
  · obtain ⟨N, hN⟩ := m.fin
    refine ⟨max N (n + 1), fun q hq => ?_⟩
    have : q ≠ n := by omega
    simp [upd, this, hN q (by omega)]
theorem Same.addInr {γ : Gm} {n : Nat} {g : Option G} (id : Id) (p : Path) : Same γ (upd γ (.inr n) g) id p := Same.of_eq (by simp [upd]) p

/-- Rows that no place has any more are put together to a new one, with what is new in memory. -/
theorem Mm.regroup {h : Heap} {γ : Gm} {S S' : Nat → Prop} {w w' : World} (m : Mm h γ S w) (is : List GId) (hfl : ∀ i ∈ is, Flo h i) {G0 : G} (hok : G0.ok w' S') (hnd : G0.bl.Nodup)
    (hbl : ∀ k ∈ G0.bl, (∃ i ∈ is, ∃ g, γ i = some g ∧ k ∈ g.bl) ∨ w.heap.size ≤ k)
    (hw : ∀ i g, γ i = some g → i ∉ is → ∀ k ∈ g.bl, w'.heap[k]? = w.heap[k]?) (hS : ∀ k, S k → S' k ∧ w'.heap[k]? = w.heap[k]?)
    (hsd : ∀ k, S' k → k < w'.heap.size ∧ k ∉ G0.bl ∧ ∀ i g, γ i = some g → i ∉ is → k ∉ g.bl) (id : Id) :
    Mm (upd h id (some G0.er)) (upd (rem γ is) (.inl id) (some G0)) S' w' := by
  have key : ∀ i g', upd (rem γ is) (.inl id) (some G0) i = some g' → (i ∉ is ∧ γ i = some g' ∧ i ≠ .inl id) ∨ (i = .inl id ∧ g' = G0) := fun i g' hi => by
    unfold upd at hi
    split at hi
    · simp only [Option.some.injEq] at hi; exact .inr ⟨‹_›, hi.symm⟩
    · rw [rem_some] at hi; exact .inl ⟨hi.1, hi.2, ‹_›⟩
  have hlt : ∀ i g, γ i = some g → ∀ k ∈ g.bl, k < w.heap.size := fun i g hg => G.ok_lt g (m.ok i g hg)
  refine ⟨fun id' d hd => ?_, fun i g' hi => ?_, fun i g' hi => ?_, fun i i' g1 g2 h1 h2 hne k hk => ?_, fun k hk => ⟨(hsd k hk).1, fun i g' hi hk' => ?_⟩, ?_⟩
  · by_cases he : id' = id
    · subst he
      simp only [upd, if_true, Option.some.injEq] at hd
      exact ⟨G0, by simp [upd], hd⟩
    · simp only [upd, he, if_false] at hd
      obtain ⟨g', h1, h2⟩ := m.er id' d hd
      refine ⟨g', ?_, h2⟩
      simp only [upd, Sum.inl.injEq, he, if_false]
      rw [rem_some]
      refine ⟨fun hin => ?_, h1⟩
      have := hfl _ hin id' rfl
      rw [this] at hd
      simp at hd
  · rcases key i g' hi with ⟨h1, h2, _⟩ | ⟨_, rfl⟩
    · exact G.ok_congr hS g' (hw i g' h2 h1) (m.ok i g' h2)
    · exact hok
  · rcases key i g' hi with ⟨h1, h2, _⟩ | ⟨_, rfl⟩
    · exact m.nd i g' h2
    · exact hnd
  · have hx : ∀ i g', i ∉ is → γ i = some g' → ∀ k ∈ g'.bl, k ∉ G0.bl := fun i g' hi hg k hk hk0 => by
      rcases hbl k hk0 with ⟨i1, hi1, g1', h5, h6⟩ | h5
      · have hne' : i ≠ i1 := fun e => hi (e ▸ hi1)
        exact m.dj i i1 g' g1' hg h5 hne' k hk h6
      · have := hlt i g' hg k hk
        omega
    rcases key i g1 h1 with ⟨h3, h4, h5⟩ | ⟨rfl, rfl⟩
    · rcases key i' g2 h2 with ⟨h6, h7, _⟩ | ⟨_, rfl⟩
      · exact m.dj i i' g1 g2 h4 h7 hne k hk
      · exact hx i g1 h3 h4 k hk
    · rcases key i' g2 h2 with ⟨h6, h7, _⟩ | ⟨rfl, rfl⟩
      · exact fun hk' => hx i' g2 h6 h7 k hk' hk
      · exact absurd rfl hne
  · rcases key i g' hi with ⟨h1, h2, _⟩ | ⟨_, rfl⟩
    · exact (hsd k hk).2.2 i g' h2 h1 hk'
    · exact (hsd k hk).2.1 hk'
  · obtain ⟨N, hN⟩ := m.fin
    refine ⟨N, fun q hq => ?_⟩
    simp only [upd, reduceCtorEq, if_false]
    unfold rem
    split
    · rfl
    · exact hN q hq
theorem Same.regroup {γ : Gm} {is : List GId} {id0 : Id} {g0 : Option G} (id : Id) (p : Path) (hne : id ≠ id0) : Same γ (upd (rem γ is) (.inl id0) g0) id p := fun g hg => by
  unfold Gm.nav at hg
  simp only [upd, Sum.inl.injEq, hne, if_false, bind_some_iff] at hg
  obtain ⟨g1, h1, h2⟩ := hg
  rw [rem_some] at h1
  exact ⟨g, by simp [Gm.nav, h1.2, h2], Like.refl _⟩

/-! ### A move out of a place -/
structure Took (h h' : Heap) (γ γ' : Gm) (S : Nat → Prop) (w : World) (i : GId) (g : G) : Prop where
  mm : Mm h' γ' S w
  at_ : γ' i = some g
  flo : Flo h' i
  isr : ∃ n, i = .inr n
  new : ∀ j, Flo h j → (γ j).isSome = true → j ≠ i ∧ γ' j = γ j
  mono : ∀ id, h id = none → h' id = none
  same : ∀ id p, Same γ γ' id p
  sub : Sub γ' γ

theorem leaf_bl (d : D) (v : Value) : (G.l d v).bl = [] := by simp [G.bl]
theorem took_leaf {h : Heap} {γ : Gm} {S : Nat → Prop} {w : World} (m : Mm h γ S w) {g : G} (hg : g.ok w S) (hb : g.bl = []) : ∃ γ' i, Took h h γ γ' S w i g := by
  obtain ⟨n, hn⟩ := m.fresh
  refine ⟨upd γ (.inr n) (some g), .inr n, m.addLeaf hn hg hb, by simp [upd], fun id e => by simp at e, ⟨n, rfl⟩, fun j _ hj => ?_, fun _ h => h, fun id p => Same.addInr id p, fun i g' hi k hk => ?_⟩
  · have hne : j ≠ .inr n := fun e => by rw [e, hn] at hj; simp at hj
    exact ⟨hne, by simp [upd, hne]⟩
  · unfold upd at hi
    split at hi
    · simp only [Option.some.injEq] at hi; subst hi; rw [hb] at hk; simp at hk
    · exact ⟨i, g', hi, hk⟩
/-- Two places, neither within the other. -/
def Cmp (id : Id) (p : Path) (id' : Id) (p' : Path) : Prop := id' = id ∧ (p <+: p' ∨ p' <+: p)
theorem put_apart {x : G} : ∀ (p : Path) (g g' : G), g.put p x = some g' → ∀ p', ¬ p <+: p' → ¬ p' <+: p → g'.nav p' = g.nav p'
  | [], _, _, _, p', h, _ => absurd (List.nil_prefix) h
  | (j, i) :: p, .l _ _, _, h, _, _, _ => by simp [G.put] at h
  | (j, i) :: p, .s sz b els, g', h, p', h1, h2 => by
    simp only [G.put, bind_some_iff, map_some_iff] at h
    obtain ⟨el, h3, c, h4, c', h5, rfl⟩ := h
    cases p' with
    | nil => exact absurd List.nil_prefix h2
    | cons a p' =>
      obtain ⟨j', i'⟩ := a
      simp only [G.nav]
      by_cases hj : j' = j
      · subst hj
        rw [List.getElem?_set_self (List.getElem?_eq_some_iff.1 h3).1, h3]
        simp only [Option.bind_some]
        by_cases hi : i' = i
        · subst hi
          rw [List.getElem?_set_self (List.getElem?_eq_some_iff.1 h4).1, h4]
          simp only [Option.bind_some]
          exact put_apart p c c' h5 p' (fun h => h1 (List.cons_prefix_cons.2 ⟨rfl, h⟩)) (fun h => h2 (List.cons_prefix_cons.2 ⟨rfl, h⟩))
        · rw [List.getElem?_set_ne (Ne.symm hi)]
      · rw [List.getElem?_set_ne (Ne.symm hj)]
theorem took_row' {h h' : Heap} {γ : Gm} {S : Nat → Prop} {w : World} (m : Mm h γ S w) {id : Id} {p : Path} {d : D} (ht : h.take id p = some (d, h')) {v : Value} (hv : ∀ g, γ.nav id p = some g → g.val = v) :
    ∃ γ' i g, Took h h' γ γ' S w i g ∧ g.er = d ∧ g.val = v ∧ (∃ sz b els, g = .s sz b els) ∧ γ.nav id p = some g ∧ γ'.nav id p = (if p = [] then none else some (.l .u v)) ∧ ∀ id' p', ¬ Cmp id p id' p' → γ'.nav id' p' = γ.nav id' p' := by
  cases p with
  | nil =>
    simp only [Heap.take, map_some_iff] at ht
    obtain ⟨r, h1, h2⟩ := ht
    simp only [Prod.mk.injEq] at h2
    obtain ⟨rfl, rfl⟩ := h2
    obtain ⟨b, els, h3, h4⟩ := m.row h1
    have h5 : γ (.inl id) = some (.s r.1 b els) := by
      simp only [Gm.nav, bind_some_iff, G.nav, Option.some.injEq] at h3
      obtain ⟨g, h3, rfl⟩ := h3
      exact h3
    obtain ⟨n, hn⟩ := m.fresh
    have hne : (Sum.inr n : GId) ≠ .inl id := by simp
    have hm : Mm (upd h id none) (upd (upd γ (.inl id) none) (.inr n) (some (.s r.1 b els))) S w := by
      have key : ∀ i g', upd (upd γ (.inl id) none) (.inr n) (some (.s r.1 b els)) i = some g' → ∃ i0, γ i0 = some g' ∧ (i0 = .inl id ↔ i = .inr n) ∧ (i ≠ .inr n → i0 = i) := fun i g' hi => by
        unfold upd at hi
        split at hi
        · rename_i e
          simp only [Option.some.injEq] at hi
          exact ⟨.inl id, by rw [h5, hi], by simp [e], fun h => absurd e h⟩
        · rename_i e
          split at hi
          · simp at hi
          · rename_i e2
            exact ⟨i, hi, ⟨fun h => absurd h e2, fun h => absurd h e⟩, fun _ => rfl⟩
      refine ⟨fun id' d hd => ?_, fun i g' hi => ?_, fun i g' hi => ?_, fun i i' g1 g2 h6 h7 hne' k hk => ?_, fun k hk => ⟨(m.sd k hk).1, fun i g' hi => ?_⟩, ?_⟩
      · unfold upd at hd
        split at hd
        · simp at hd
        · rename_i e
          obtain ⟨g', a1, a2⟩ := m.er id' d hd
          exact ⟨g', by simp [upd, e, a1], a2⟩
      · obtain ⟨i0, a1, _⟩ := key i g' hi
        exact m.ok i0 g' a1
      · obtain ⟨i0, a1, _⟩ := key i g' hi
        exact m.nd i0 g' a1
      · obtain ⟨i0, a1, a2, a3⟩ := key i g1 h6
        obtain ⟨i1, b1, b2, b3⟩ := key i' g2 h7
        refine m.dj i0 i1 g1 g2 a1 b1 (fun e => hne' ?_) k hk
        by_cases hi : i = .inr n
        · have := b2.1 (e ▸ a2.2 hi)
          rw [hi, this]
        · by_cases hi' : i' = .inr n
          · exact absurd (a2.1 (e.trans (b2.2 hi'))) hi
          · rw [← a3 hi, ← b3 hi', e]
      · obtain ⟨i0, a1, _⟩ := key i g' hi
        exact (m.sd k hk).2 i0 g' a1
      · obtain ⟨N, hN⟩ := m.fin
        refine ⟨max N (n + 1), fun q hq => ?_⟩
        have : q ≠ n := by omega
        simp [upd, this, hN q (by omega)]
    refine ⟨_, .inr n, _, ⟨hm, by simp [upd], fun id' e => by simp at e, ⟨n, rfl⟩, fun j hj hs => ?_, fun id' h0 => ?_, fun id' p => ?_, fun i g' hi k hk => ?_⟩, by simp [G.er, h4], hv _ h3, ⟨_, _, _, rfl⟩, h3, by simp [Gm.nav, upd], fun id' p' hc => ?_⟩
    · have hj1 : j ≠ .inr n := fun e => by rw [e, hn] at hs; simp at hs
      have hj2 : j ≠ .inl id := fun e => by
        have := hj id e
        simp [Heap.row, Heap.nav, this] at h1
      exact ⟨hj1, by simp [upd, hj1, hj2]⟩
    · unfold upd
      split <;> simp_all
    · by_cases he : id' = id
      · exact Same.of_none (by simp [upd, he]) p
      · exact Same.of_eq (by simp [upd, he]) p
    · unfold upd at hi
      split at hi
      · simp only [Option.some.injEq] at hi
        subst hi
        exact ⟨.inl id, _, h5, hk⟩
      · split at hi
        · simp at hi
        · exact ⟨i, g', hi, hk⟩
    · have hne : id' ≠ id := fun e => hc ⟨e, .inl List.nil_prefix⟩
      simp [Gm.nav, upd, hne]
  | cons c p =>
    simp only [Heap.take, bind_some_iff, map_some_iff] at ht
    obtain ⟨r, h1, h'', h2, h3⟩ := ht
    simp only [Prod.mk.injEq] at h3
    obtain ⟨rfl, rfl⟩ := h3
    obtain ⟨b, els, h3, h4⟩ := m.row h1
    have h3' := h3
    unfold Gm.nav at h3
    simp only [bind_some_iff] at h3
    obtain ⟨g0, h5, h6⟩ := h3
    unfold Heap.put at h2
    simp only [bind_some_iff, map_some_iff] at h2
    obtain ⟨d0, h7, d1, h8, h9⟩ := h2
    obtain ⟨g0', h10, h11⟩ := m.er id d0 h7
    rw [h5] at h10
    simp only [Option.some.injEq] at h10
    subst h10
    subst h11
    have hnode := nav_ok (c :: p) g0 _ (m.ok _ _ h5) h6
    have hvv := hv _ h3'
    have hone : v.oneCell' = true := by
      rw [← hvv]
      cases b <;> rfl
    rw [show (D.u) = (G.l .u v).er from by simp [G.er], put_er (c :: p) g0 (.l .u v) (m.ok _ _ h5)] at h8
    simp only [map_some_iff] at h8
    obtain ⟨g1, h12, rfl⟩ := h8
    obtain ⟨R, hp1, hp2⟩ := put_perm (c :: p) g0 _ h6
    have hp3 := hp2 _ _ h12
    rw [leaf_bl, List.nil_append] at hp3
    have hnd0 := hp1.nodup_iff.1 (m.nd _ _ h5)
    obtain ⟨hndn, hndR, hdis⟩ := List.nodup_append.1 hnd0
    -- the place turned: the world is as it was
    have hok1 : g1.ok w S := by
      obtain ⟨q, a, hq⟩ : ∃ q a, c :: p = q ++ [a] := ⟨(c :: p).dropLast, (c :: p).getLast (by simp), (List.dropLast_concat_getLast (by simp)).symm⟩
      rw [hq, nav_append] at h6
      simp only [bind_some_iff] at h6
      obtain ⟨gq, h13, h14⟩ := h6
      obtain ⟨j, i⟩ := a
      cases gq with
      | l d v => simp [G.nav] at h14
      | s sz0 b0 els0 =>
        simp only [G.nav, bind_some_iff, Option.some.injEq] at h14
        obtain ⟨el, h15, cc, h16, rfl⟩ := h14
        have hrow := nav_ok q g0 _ (m.ok _ _ h5) h13
        cases b0 with
        | none =>
          simp only [G.ok] at hrow
          rw [hrow.1] at h15
          simp at h15
        | some b0 =>
          obtain ⟨g', h17, h18⟩ := store_ok (w := w) (w' := w) (S := S) (S' := S) (fun k hk => ⟨hk, rfl⟩) (c' := .l .u v) (by simp only [G.ok]; exact ⟨rfl, by simp only [D.rd]; exact hone⟩) h15 h16
            (fun cur e hcur hidx => by
              rw [hcur, hvv] at *
              congr 2
              simp only [G.val]
              apply Array.ext_getElem?
              intro n
              rw [Array.getElem?_setIfInBounds]
              split
              · rename_i e1
                subst e1
                split
                · exact hidx
                · rw [Array.getElem?_eq_none (by omega)]
              · rfl) q g0 (m.ok _ _ h5) (m.nd _ _ h5) h13 (fun _ _ _ => rfl)
          rw [hq, h17] at h12
          simp only [Option.some.injEq] at h12
          subst h12
          exact h18
    obtain ⟨n, hn⟩ := m.fresh
    have key : ∀ i g', upd (upd γ (.inl id) (some g1)) (.inr n) (some (.s r.1 b els)) i = some g' → (i = .inr n ∧ g' = .s r.1 b els) ∨ (i = .inl id ∧ g' = g1) ∨ (i ≠ .inl id ∧ i ≠ .inr n ∧ γ i = some g') := fun i g' hi => by
      unfold upd at hi
      split at hi
      · simp only [Option.some.injEq] at hi; exact .inl ⟨‹_›, hi.symm⟩
      · split at hi
        · simp only [Option.some.injEq] at hi; exact .inr (.inl ⟨‹_›, hi.symm⟩)
        · exact .inr (.inr ⟨‹_›, ‹_›, hi⟩)
    have hin1 : ∀ k ∈ g1.bl, k ∈ g0.bl := fun k hk => hp1.mem_iff.2 (List.mem_append_right _ (hp3.mem_iff.1 hk))
    have hinn : ∀ k ∈ (G.s r.1 b els).bl, k ∈ g0.bl := fun k hk => hp1.mem_iff.2 (List.mem_append_left _ hk)
    refine ⟨upd (upd γ (.inl id) (some g1)) (.inr n) (some (.s r.1 b els)), .inr n, .s r.1 b els, ⟨?_, by simp [upd], fun id e => by simp at e, ⟨n, rfl⟩, fun j hj hs => ?_, fun id' h0 => ?_, fun id' p' => ?_, fun i g' hi k hk => ?_⟩, by simp [G.er, h4], hvv, ⟨_, _, _, rfl⟩, h3', by simp [Gm.nav, upd, gnav_put_self _ _ _ _ h12], fun id' p' hc => ?_⟩
    · refine ⟨fun id' d hd => ?_, fun i g' hi => ?_, fun i g' hi => ?_, fun i i' g2 g3 h13 h14 hne k hk => ?_, fun k hk => ⟨(m.sd k hk).1, fun i g' hi hk' => ?_⟩, ?_⟩
      · rw [← h9] at hd
        unfold upd at hd
        split at hd
        · rename_i e
          subst e
          simp only [Option.some.injEq] at hd
          exact ⟨g1, by simp [upd], hd⟩
        · obtain ⟨g', e1, e2⟩ := m.er id' d hd
          exact ⟨g', by simp [upd, e1, ‹¬ id' = id›], e2⟩
      · rcases key i g' hi with ⟨_, rfl⟩ | ⟨_, rfl⟩ | ⟨_, _, e⟩
        · exact hnode
        · exact hok1
        · exact m.ok i g' e
      · rcases key i g' hi with ⟨_, rfl⟩ | ⟨_, rfl⟩ | ⟨_, _, e⟩
        · exact hndn
        · exact hp3.nodup_iff.2 hndR
        · exact m.nd i g' e
      · rcases key i g2 h13 with ⟨rfl, rfl⟩ | ⟨rfl, rfl⟩ | ⟨e1, e2, e3⟩
        · rcases key i' g3 h14 with ⟨rfl, rfl⟩ | ⟨rfl, rfl⟩ | ⟨e4, e5, e6⟩
          · exact absurd rfl hne
          · exact fun hk' => hdis k hk k (hp3.mem_iff.1 hk') rfl
          · exact m.dj _ _ g0 g3 h5 e6 (Ne.symm e4) k (hinn k hk)
        · rcases key i' g3 h14 with ⟨rfl, rfl⟩ | ⟨rfl, rfl⟩ | ⟨e4, e5, e6⟩
          · exact fun hk' => hdis k hk' k (hp3.mem_iff.1 hk) rfl
          · exact absurd rfl hne
          · exact m.dj _ _ g0 g3 h5 e6 (Ne.symm e4) k (hin1 k hk)
        · rcases key i' g3 h14 with ⟨rfl, rfl⟩ | ⟨rfl, rfl⟩ | ⟨e4, e5, e6⟩
          · exact fun hk' => m.dj _ _ g2 g0 e3 h5 e1 k hk (hinn k hk')
          · exact fun hk' => m.dj _ _ g2 g0 e3 h5 e1 k hk (hin1 k hk')
          · exact m.dj i i' g2 g3 e3 e6 hne k hk
      · rcases key i g' hi with ⟨_, rfl⟩ | ⟨_, rfl⟩ | ⟨_, _, e⟩
        · exact (m.sd k hk).2 _ g0 h5 (hinn k hk')
        · exact (m.sd k hk).2 _ g0 h5 (hin1 k hk')
        · exact (m.sd k hk).2 i g' e hk'
      · obtain ⟨N, hN⟩ := m.fin
        refine ⟨max N (n + 1), fun q hq => ?_⟩
        have : q ≠ n := by omega
        simp [upd, this, hN q (by omega)]
    · have hne : j ≠ .inr n := fun e => by rw [e, hn] at hs; simp at hs
      have hne2 : j ≠ .inl id := fun e => by
        have := hj id e
        rw [h7] at this
        simp at this
      exact ⟨hne, by simp [upd, hne, hne2]⟩
    · rw [← h9]
      unfold upd
      split
      · rename_i e
        subst e
        rw [h7] at h0
        simp at h0
      · exact h0
    · by_cases he : id' = id
      · subst he
        intro x' hx'
        unfold Gm.nav at hx'
        simp only [upd, reduceCtorEq, if_false, if_true, bind_some_iff, Option.some.injEq] at hx'
        obtain ⟨_, rfl, hx'⟩ := hx'
        obtain ⟨x, hx, r1⟩ := put_same (c := .s r.1 b els) (c' := .l .u v) (by rw [hvv]; rfl) rfl rfl (fun _ _ _ => by simp [G.nav]) (c :: p) g0 _ h6 h12 p' x' hx'
        exact ⟨x, by simp [Gm.nav, h5, hx], r1⟩
      · exact Same.of_eq (by simp [upd, he]) p'
    · rcases key i g' hi with ⟨_, rfl⟩ | ⟨_, rfl⟩ | ⟨_, _, e⟩
      · exact ⟨_, g0, h5, hinn k hk⟩
      · exact ⟨_, g0, h5, hin1 k hk⟩
      · exact ⟨i, g', e, hk⟩
    · by_cases he : id' = id
      · subst he
        have := put_apart _ _ _ h12 p' (fun h => hc ⟨rfl, .inl h⟩) (fun h => hc ⟨rfl, .inr h⟩)
        simp [Gm.nav, upd, h5, this]
      · simp [Gm.nav, upd, he]
theorem took_row {h h' : Heap} {γ : Gm} {S : Nat → Prop} {w : World} (m : Mm h γ S w) {id : Id} {p : Path} {d : D} (ht : h.take id p = some (d, h')) {v : Value} (hv : ∀ g, γ.nav id p = some g → g.val = v) :
    ∃ γ' i g, Took h h' γ γ' S w i g ∧ g.er = d ∧ g.val = v ∧ ∃ sz b els, g = .s sz b els := by
  obtain ⟨γ', i, g, h1, h2, h3, h4, _⟩ := took_row' m ht hv
  exact ⟨γ', i, g, h1, h2, h3, h4⟩

end Go.Ev
