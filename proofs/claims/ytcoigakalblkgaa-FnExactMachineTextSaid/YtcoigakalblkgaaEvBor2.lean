/- A call that is lent rows: the call, and how the rows come back. -/
import Derived.Test.YtcoigakalblkgaaEvBor
set_option linter.all false
namespace Go.Ev
open Go.RowKit

section
variable {c : Ctx} {st st' : St} {U : Nat → Prop} {γ γ1 γ2 : Gm} {S S' : Nat → Prop} {a : Act} {w w' : World} {C : Cl} {o : Oper} {h h1 h2 : Heap} {fr : Nat}

/-! ### A row comes back to its place -/
theorem back_row (m : Mm h γ S w) {n : Nat} {g : G} (hg : γ (.inr n) = some g) (hr : ∃ sz b els, g = .s sz b els) {id : Id} {p : Path} (hh : Hole γ id p g.val) (hp : h.putb id p g.er = some h1) :
    ∃ γ', Mm h1 γ' S w ∧ (∀ q, q ≠ n → γ' (.inr q) = γ (.inr q)) ∧ γ'.nav id p = some g ∧ (∀ id' p', ¬ Cmp id p id' p' → γ'.nav id' p' = γ.nav id' p') ∧ (∀ id' p', ¬ (id' = id ∧ p <+: p') → Same γ γ' id' p') ∧ Sub γ' γ := by
  cases p with
  | nil =>
    simp only [Heap.putb, Option.some.injEq] at hp
    subst hp
    refine ⟨upd (rem γ [.inr n]) (.inl id) (some g), m.regroup (S' := S) (w' := w) [.inr n] (fun i hi id' e => by simp at hi; subst hi; simp at e) (m.ok _ _ hg) (m.nd _ _ hg) (fun k hk => .inl ⟨.inr n, by simp, g, hg, hk⟩) (fun _ _ _ _ _ _ => rfl) (fun k hk => ⟨hk, rfl⟩) (fun k hk => ⟨(m.sd k hk).1, (m.sd k hk).2 _ _ hg, fun i g hi _ => (m.sd k hk).2 i g hi⟩) id, fun q hq => ?_, ?_, fun id' p' hc => ?_, fun id' p' hc => ?_, fun i g' hi k hk => ?_⟩
    · simp [upd, rem, hq]
    · simp [Gm.nav, upd, G.nav]
    · have hne : id' ≠ id := fun e => hc ⟨e, .inl List.nil_prefix⟩
      simp [Gm.nav, upd, rem, hne]
    · have hne : id' ≠ id := fun e => hc ⟨e, List.nil_prefix⟩
      exact Same.regroup id' p' hne
    · unfold upd at hi
      split at hi
      · simp only [Option.some.injEq] at hi
        subst hi
        exact ⟨_, _, hg, hk⟩
      · rw [rem_some] at hi
        exact ⟨i, g', hi.2, hk⟩
  | cons c0 p =>
    unfold Hole at hh
    rw [if_neg (by simp)] at hh
    have hh' := hh
    unfold Gm.nav at hh
    simp only [bind_some_iff] at hh
    obtain ⟨g0, h3, h4⟩ := hh
    simp only [Heap.putb] at hp
    unfold Heap.put at hp
    simp only [bind_some_iff, map_some_iff] at hp
    obtain ⟨d0, h5, d1, h6, rfl⟩ := hp
    obtain ⟨g0', h7, h8⟩ := m.er id d0 h5
    rw [h3] at h7
    simp only [Option.some.injEq] at h7
    subst h7
    subst h8
    have hok0 := m.ok _ _ h3
    rw [put_er (c0 :: p) g0 g hok0, map_some_iff] at h6
    obtain ⟨g1, h9, rfl⟩ := h6
    obtain ⟨R, hp1, hp2⟩ := put_perm (c0 :: p) g0 _ h4
    rw [leaf_bl, List.nil_append] at hp1
    have hp3 := hp2 _ _ h9
    have hok1 : g1.ok w S := by
      obtain ⟨q, x, hq⟩ : ∃ q x, c0 :: p = q ++ [x] := ⟨(c0 :: p).dropLast, (c0 :: p).getLast (by simp), (List.dropLast_concat_getLast (by simp)).symm⟩
      rw [hq, nav_append] at h4
      simp only [bind_some_iff] at h4
      obtain ⟨gq, h13, h14⟩ := h4
      obtain ⟨j, i⟩ := x
      cases gq with
      | l d v => simp [G.nav] at h14
      | s sz0 b0 els0 =>
        simp only [G.nav, bind_some_iff, Option.some.injEq] at h14
        obtain ⟨el, h15, cc, h16, rfl⟩ := h14
        have hrow := nav_ok q g0 _ hok0 h13
        cases b0 with
        | none =>
          simp only [G.ok] at hrow
          rw [hrow.1] at h15
          simp at h15
        | some b0 =>
          obtain ⟨g', h17, h18⟩ := store_ok (w := w) (w' := w) (S := S) (S' := S) (fun k hk => ⟨hk, rfl⟩) (c' := g) (m.ok _ _ hg) h15 h16
            (fun cur e hcur hidx => by
              rw [hcur]
              congr 2
              simp only [G.val] at hidx
              apply Array.ext_getElem?
              intro n
              rw [Array.getElem?_setIfInBounds]
              split
              · rename_i e1
                subst e1
                split
                · exact hidx
                · rw [Array.getElem?_eq_none (by omega)]
              · rfl) q g0 hok0 (m.nd _ _ h3) h13 (fun _ _ _ => rfl)
          rw [hq, h17] at h9
          simp only [Option.some.injEq] at h9
          subst h9
          exact h18
    have hdj : ∀ k ∈ g.bl, k ∉ g0.bl := m.dj _ _ g g0 hg h3 (by simp)
    have hin : ∀ k ∈ g1.bl, k ∈ g.bl ∨ k ∈ g0.bl := fun k hk => by
      rcases List.mem_append.1 (hp3.mem_iff.1 hk) with h | h
      · exact .inl h
      · exact .inr (hp1.mem_iff.2 h)
    have hnd1 : g1.bl.Nodup := hp3.nodup_iff.2 (List.nodup_append.2 ⟨m.nd _ _ hg, hp1.nodup_iff.1 (m.nd _ _ h3), fun x hx y hy e => by subst e; exact hdj x hx (hp1.mem_iff.2 hy)⟩)
    have m0 : Mm (upd h id none) γ S w := m.less (fun id' d hd => by
      unfold upd at hd
      split at hd
      · simp at hd
      · exact hd)
    have hM := m0.regroup (S' := S) (w' := w) [.inl id, .inr n] (fun i hi id' e => by
      simp at hi
      rcases hi with rfl | rfl
      · simp at e; subst e; simp [upd]
      · simp at e) hok1 hnd1 (fun k hk => .inl ((hin k hk).elim (fun h => ⟨.inr n, by simp, g, hg, h⟩) (fun h => ⟨.inl id, by simp, g0, h3, h⟩))) (fun _ _ _ _ _ _ => rfl) (fun k hk => ⟨hk, rfl⟩) (fun k hk => ⟨(m.sd k hk).1, fun hk1 => (hin k hk1).elim ((m.sd k hk).2 _ _ hg) ((m.sd k hk).2 _ _ h3), fun i g hi _ => (m.sd k hk).2 i g hi⟩) id
    have hhe : upd (upd h id none) id (some g1.er) = upd h id (some g1.er) := by
      funext j
      simp only [upd]
      split <;> rfl
    rw [hhe] at hM
    refine ⟨_, hM, fun q hq => ?_, ?_, fun id' p' hc => ?_, fun id' p' hc => ?_, fun i g' hi k hk => ?_⟩
    · simp [upd, rem, hq]
    · simp [Gm.nav, upd, gnav_put_self _ _ _ _ h9]
    · by_cases he : id' = id
      · subst he
        have := put_apart _ _ _ h9 p' (fun h => hc ⟨rfl, .inl h⟩) (fun h => hc ⟨rfl, .inr h⟩)
        simp [Gm.nav, upd, h3, this]
      · simp [Gm.nav, upd, rem, he]
    · by_cases he : id' = id
      · subst he
        intro x' hx'
        simp only [Gm.nav, upd, if_true, Option.bind_some] at hx'
        obtain ⟨x, hx, hl⟩ := put_other _ _ _ h9 (by simp) p' x' (fun r hr => hc ⟨rfl, r, hr.symm⟩) hx'
        exact ⟨x, by simp [Gm.nav, h3, hx], hl⟩
      · refine Same.of_eq ?_ p'
        simp [upd, rem, he]
    · unfold upd at hi
      split at hi
      · simp only [Option.some.injEq] at hi
        subst hi
        exact (hin k hk).elim (fun h => ⟨_, _, hg, h⟩) (fun h => ⟨_, _, h3, h⟩)
      · rw [rem_some] at hi
        exact ⟨i, g', hi.2, hk⟩

theorem putb_none {id : Id} {p : Path} {x : D} (hp : h.putb id p x = some h1) {id' : Id} (h0 : h id' = none) (hne : p = [] → id' ≠ id) : h1 id' = none := by
  cases p with
  | nil =>
    simp only [Heap.putb, Option.some.injEq] at hp
    subst hp
    simp [upd, hne rfl, h0]
  | cons c p =>
    simp only [Heap.putb, Heap.put, bind_some_iff, map_some_iff] at hp
    obtain ⟨d, h3, d', _, rfl⟩ := hp
    unfold upd
    split
    · rename_i e
      subst e
      rw [h3] at h0
      simp at h0
    · exact h0

/-- All rows that are there still come back. -/
theorem backs_ok {hB : Heap} {N : Nat} : ∀ {L : Lent} {k : Nat} {h h2 : Heap} {γ : Gm}, Mm h γ S w → apart L = true →
    (∀ (j : Nat) (x : Id × Path × D), L[j]? = some x → ∀ d, hB (0, k + j) = some d → ∃ g, γ (.inr (N + (k + j))) = some g ∧ g.er = d ∧ (∃ sz b els, g = .s sz b els) ∧ Hole γ x.1 x.2.1 g.val) →
    backH h hB k L = some h2 →
    ∃ γ2, Mm h2 γ2 S w ∧ (∀ q, q < N → γ2 (.inr q) = γ (.inr q)) ∧ (∀ id p, (∀ x ∈ L, ¬ (id = x.1 ∧ x.2.1 <+: p)) → Same γ γ2 id p) ∧ (∀ id p, ApartL L id p → γ2.nav id p = γ.nav id p) ∧
      (∀ (j : Nat) (x : Id × Path × D), L[j]? = some x → (hB (0, k + j) = none ∧ γ2.nav x.1 x.2.1 = γ.nav x.1 x.2.1) ∨ ∃ g, γ (.inr (N + (k + j))) = some g ∧ (hB (0, k + j)).isSome = true ∧ γ2.nav x.1 x.2.1 = some g) ∧ Sub γ2 γ ∧ (∀ id, h id = none → (∀ x ∈ L, x.1 ≠ id) → h2 id = none)
  | [], k, h, h2, γ, m, _, _, hb => by
    simp only [backH, Option.some.injEq] at hb
    subst hb
    exact ⟨γ, m, fun _ _ => rfl, fun id p _ => Same.refl γ id p, fun _ _ _ => rfl, by simp, Sub.refl γ, fun _ h _ => h⟩
  | x :: L, k, h, h2, γ, m, ha, hx, hb => by
    simp only [apart, Bool.and_eq_true] at ha
    have hap := apart1_ok ha.1
    simp only [backH] at hb
    split at hb
    · rename_i sz els hd
      rw [bind_some_iff] at hb
      obtain ⟨h', h3, h4⟩ := hb
      obtain ⟨g, e1, e2, e3, e4⟩ := hx 0 x rfl _ (by simpa using hd)
      simp only [Nat.add_zero] at e1
      rw [← e2] at h3
      obtain ⟨γ', m', b1, b2, b3, b4, b5⟩ := back_row m e1 e3 e4 h3
      have hne : ∀ j, N + (k + (j + 1)) ≠ N + k := fun j => by omega
      obtain ⟨γ2, m2, c1, c2, c3, c4, c5, c6⟩ := backs_ok (k := k + 1) m' ha.2 (fun j y hy d hd => by
        obtain ⟨g', f1, f2, f3, f4⟩ := hx (j + 1) y (by simpa using hy) d (by rw [show k + (j + 1) = k + 1 + j by omega]; exact hd)
        refine ⟨g', ?_, f2, f3, ?_⟩
        · rw [show k + 1 + j = k + (j + 1) by omega, b1 _ (hne j)]; exact f1
        · unfold Hole at f4 ⊢
          rw [b3]
          · exact f4
          · exact hap y (List.mem_of_getElem? hy)) h4
      refine ⟨γ2, m2, fun q hq => (c1 q hq).trans (b1 q (by omega)), fun id p hp => (b4 id p (hp x (by simp))).trans (c2 id p (fun y hy => hp y (by simp [hy]))), fun id p hp => ?_, fun j y hy => ?_, c5.trans b5, fun id h0 hne' => ?_⟩
      · rw [c3 id p (fun y hy => hp y (by simp [hy])), b3 id p (fun hc => hp x (by simp) (cmp_symm hc))]
      · cases j with
        | zero =>
          simp only [List.getElem?_cons_zero, Option.some.injEq] at hy
          subst hy
          refine .inr ⟨g, by simpa using e1, by simp [hd], ?_⟩
          rw [c3 _ _ (fun y hy => hap y hy)]
          exact b2
        | succ j =>
          simp only [List.getElem?_cons_succ] at hy
          have hnx : ¬ Cmp x.1 x.2.1 y.1 y.2.1 := hap y (List.mem_of_getElem? hy)
          rcases c4 j y hy with ⟨f1, f2⟩ | ⟨g', f1, f2, f3⟩
          · exact .inl ⟨by rw [show k + (j + 1) = k + 1 + j by omega]; exact f1, by rw [f2, b3 _ _ hnx]⟩
          · rw [show k + 1 + j = k + (j + 1) by omega, b1 _ (hne j)] at f1
            exact .inr ⟨g', f1, by rw [show k + (j + 1) = k + 1 + j by omega]; exact f2, f3⟩
      · exact c6 id (putb_none h3 h0 (fun _ => (hne' x (by simp)).symm)) (fun y hy => hne' y (by simp [hy]))
    · simp at hb
    · rename_i hd
      obtain ⟨γ2, m2, c1, c2, c3, c4, c5, c6⟩ := backs_ok (k := k + 1) m ha.2 (fun j y hy d hd => by
        obtain ⟨g', f1, f2, f3, f4⟩ := hx (j + 1) y (by simpa using hy) d (by rw [show k + (j + 1) = k + 1 + j by omega]; exact hd)
        exact ⟨g', by rw [show k + 1 + j = k + (j + 1) by omega]; exact f1, f2, f3, f4⟩) hb
      refine ⟨γ2, m2, c1, fun id p hp => c2 id p (fun y hy => hp y (by simp [hy])), fun id p hp => c3 id p (fun y hy => hp y (by simp [hy])), fun j y hy => ?_, c5, fun id h0 hne' => c6 id h0 (fun y hy => hne' y (by simp [hy]))⟩
      cases j with
      | zero =>
        simp only [List.getElem?_cons_zero, Option.some.injEq] at hy
        subst hy
        exact .inl ⟨by simpa using hd, c3 _ _ (fun y hy => hap y hy)⟩
      | succ j =>
        simp only [List.getElem?_cons_succ] at hy
        rcases c4 j y hy with ⟨f1, f2⟩ | ⟨g', f1, f2, f3⟩
        · exact .inl ⟨by rw [show k + (j + 1) = k + 1 + j by omega]; exact f1, f2⟩
        · exact .inr ⟨g', by rw [show k + (j + 1) = k + 1 + j by omega]; exact f1, by rw [show k + (j + 1) = k + 1 + j by omega]; exact f2, f3⟩

theorem lentH_at : ∀ (k : Nat) (L : Lent) (id : Id) (d : D), lentH k L id = some d → id.1 = 0 ∧ k ≤ id.2 ∧ ∃ x, L[id.2 - k]? = some x ∧ x.2.2 = d
  | _, [], id, d, h => by simp [lentH, emp] at h
  | k, x :: L, id, d, h => by
    simp only [lentH] at h
    unfold upd at h
    split at h
    · rename_i e
      subst e
      simp only [Option.some.injEq] at h
      exact ⟨rfl, Nat.le_refl _, x, by simp, h⟩
    · rename_i e
      obtain ⟨h1, h2, y, h3, h4⟩ := lentH_at (k + 1) L id d h
      refine ⟨h1, by omega, y, ?_, h4⟩
      rw [show id.2 - k = (id.2 - (k + 1)) + 1 by omega]
      simpa using h3
theorem noRB_at {hB : Heap} : ∀ {L : Lent} {k : Nat}, noRB hB k L = true → ∀ j, j < L.length → ∀ d, hB (0, k + j) = some d → d.noR = true
  | [], _, _, j, hj, _, _ => by simp at hj
  | x :: L, k, h, j, hj, d, hd => by
    simp only [noRB, Bool.and_eq_true] at h
    cases j with
    | zero =>
      rw [Nat.add_zero] at hd
      rw [hd] at h
      exact h.1
    | succ j =>
      exact noRB_at h.2 j (by simpa using hj) d (by rw [show k + 1 + j = k + (j + 1) by omega]; exact hd)
end
end Go.Ev
