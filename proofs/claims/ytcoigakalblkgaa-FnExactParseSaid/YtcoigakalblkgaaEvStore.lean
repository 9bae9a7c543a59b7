/- Moves of values into memory, and stores into cells. -/
import Derived.Test.YtcoigakalblkgaaEvTake
set_option linter.all false
namespace Go.Ev
open Go.RowKit

theorem takeX_ok {h h' : Heap} {γ : Gm} {S : Nat → Prop} {w : World} (m : Mm h γ S w) {x : X} {v : Value} (hx : x.vr γ w S v) {d : D} (ht : takeX h x = some (d, h')) :
    ∃ γ' i g, Took h h' γ γ' S w i g ∧ g.er = d ∧ g.val = v := by
  match x with
  | .d (.v a) =>
    simp only [takeX, Option.some.injEq, Prod.mk.injEq] at ht
    obtain ⟨rfl, rfl⟩ := ht
    simp only [X.vr] at hx
    obtain ⟨γ', i, ht⟩ := took_leaf m (g := .l (.v a) v) (by simp only [G.ok, D.rd]; exact ⟨rfl, hx⟩) (leaf_bl _ _)
    exact ⟨γ', i, _, ht, rfl, rfl⟩
  | .d (.r e) =>
    simp only [takeX, Option.some.injEq, Prod.mk.injEq] at ht
    obtain ⟨rfl, rfl⟩ := ht
    simp only [X.vr] at hx
    obtain ⟨γ', i, ht⟩ := took_leaf m (g := .l (.r e) v) (by simp only [G.ok]; exact ⟨rfl, hx⟩) (leaf_bl _ _)
    exact ⟨γ', i, _, ht, rfl, rfl⟩
  | .d (.s sz []) =>
    simp only [takeX, Option.some.injEq, Prod.mk.injEq] at ht
    obtain ⟨rfl, rfl⟩ := ht
    simp only [X.vr] at hx
    obtain ⟨γ', i, ht⟩ := took_leaf m (g := .s sz none []) (by simp [G.ok, okss]) (by simp [G.bl, blss])
    exact ⟨γ', i, _, ht, by simp [G.er, erss], by simp [G.val, hx]⟩
  | .ref id p =>
    simp only [takeX] at ht
    simp only [X.vr] at hx
    obtain ⟨γ', i, g, h1, h2, h3, _⟩ := took_row m ht (fun g hg => (hx.2 g hg).1)
    exact ⟨γ', i, g, h1, h2, h3⟩
  | .d (.s sz (_ :: _)) => simp [takeX] at ht
  | .d .u => simp [takeX] at ht
  | .agg _ => simp [takeX] at ht
  | .tup _ => simp [takeX] at ht
  | .ptr .. => simp [takeX] at ht
  | .rop _ => simp [takeX] at ht
  | .vp _ => simp [takeX] at ht
  | .clo .. => simp [takeX] at ht

/-- Ghosts that no place has, with what they are. -/
def fls (γ : Gm) (h : Heap) : List GId → List G → Prop
  | [], [] => True
  | i :: is, g :: gs => γ i = some g ∧ Flo h i ∧ i ∉ is ∧ fls γ h is gs
  | _, _ => False
theorem fls_flo {γ : Gm} {h : Heap} : ∀ {is : List GId} {gs : List G}, fls γ h is gs → ∀ i ∈ is, Flo h i ∧ ∃ g ∈ gs, γ i = some g
  | [], [], _, i, hi => by simp at hi
  | j :: is, g :: gs, hf, i, hi => by
    simp only [fls] at hf
    rcases List.mem_cons.1 hi with rfl | hi
    · exact ⟨hf.2.1, g, by simp, hf.1⟩
    · obtain ⟨h1, g', h2, h3⟩ := fls_flo hf.2.2.2 i hi
      exact ⟨h1, g', by simp [h2], h3⟩
  | [], _ :: _, hf, _, _ => by simp [fls] at hf
  | _ :: _, [], hf, _, _ => by simp [fls] at hf
theorem fls_mem {γ : Gm} {h : Heap} : ∀ {is : List GId} {gs : List G}, fls γ h is gs → ∀ g ∈ gs, ∃ i ∈ is, γ i = some g
  | [], [], _, i, hi => by simp at hi
  | j :: is, g :: gs, hf, g', hi => by
    simp only [fls] at hf
    rcases List.mem_cons.1 hi with rfl | hi
    · exact ⟨j, by simp, hf.1⟩
    · obtain ⟨i, h1, h2⟩ := fls_mem hf.2.2.2 g' hi
      exact ⟨i, by simp [h1], h2⟩
  | [], _ :: _, hf, _, _ => by simp [fls] at hf
  | _ :: _, [], hf, _, _ => by simp [fls] at hf
/-- Ghosts that are apart have no block twice. -/
theorem fls_nodup {h h0 : Heap} {γ : Gm} {S : Nat → Prop} {w : World} (m : Mm h γ S w) : ∀ {is : List GId} {gs : List G}, fls γ h0 is gs → (bls gs).Nodup
  | [], [], _ => by simp [bls]
  | j :: is, g :: gs, hf => by
    simp only [fls] at hf
    simp only [bls]
    refine List.nodup_append.2 ⟨m.nd _ _ hf.1, fls_nodup m hf.2.2.2, fun k hk k' hk' => ?_⟩
    rintro rfl
    obtain ⟨g', h1, h2⟩ := mem_bls.1 hk'
    obtain ⟨i, h3, h4⟩ := fls_mem hf.2.2.2 g' h1
    exact m.dj _ _ g g' hf.1 h4 (fun e => hf.2.2.1 (e ▸ h3)) k hk h2
  | [], _ :: _, hf => by simp [fls] at hf
  | _ :: _, [], hf => by simp [fls] at hf
theorem fls_ok {h h0 : Heap} {γ : Gm} {S : Nat → Prop} {w : World} (m : Mm h γ S w) {is : List GId} {gs : List G} (hf : fls γ h0 is gs) : ∀ g ∈ gs, g.ok w S := fun g hg => by
  obtain ⟨i, _, hi⟩ := fls_mem hf g hg
  exact m.ok i g hi

structure TookL (h h' : Heap) (γ γ' : Gm) (S : Nat → Prop) (w : World) (is : List GId) (gs : List G) : Prop where
  mm : Mm h' γ' S w
  fl : fls γ' h' is gs
  new : ∀ j, Flo h j → (γ j).isSome = true → j ∉ is ∧ γ' j = γ j
  mono : ∀ id, h id = none → h' id = none
  same : ∀ id p, Same γ γ' id p
  sub : Sub γ' γ
theorem takeL_ok {S : Nat → Prop} {w : World} : ∀ {xs : List X} {vs : List Value} {h h' : Heap} {γ : Gm}, Mm h γ S w → vrs γ w S xs vs → ∀ {ds : List D}, takeL h xs = some (ds, h') →
    ∃ γ' is gs, TookL h h' γ γ' S w is gs ∧ ers gs = ds ∧ vals gs = vs
  | [], [], h, h', γ, m, _, ds, ht => by
    simp only [takeL, Option.some.injEq, Prod.mk.injEq] at ht
    obtain ⟨rfl, rfl⟩ := ht
    exact ⟨γ, [], [], ⟨m, by simp [fls], fun j _ _ => ⟨by simp, rfl⟩, fun _ h => h, fun id p => Same.refl γ id p, Sub.refl γ⟩, by simp [ers], rfl⟩
  | x :: xs, v :: vs, h, h', γ, m, hv, ds, ht => by
    simp only [takeL, bind_some_iff, map_some_iff] at ht
    obtain ⟨⟨d, h1⟩, h2, ⟨ds', h3⟩, h4, h5⟩ := ht
    simp only [Prod.mk.injEq] at h5
    obtain ⟨rfl, rfl⟩ := h5
    simp only [vrs] at hv
    obtain ⟨γ1, i, g, t1, e1, e2⟩ := takeX_ok m hv.1 h2
    have hv2 : vrs γ1 w S xs vs := vrs_same (fun k hk => ⟨hk, rfl⟩) xs vs (allps_all t1.same xs) hv.2
    obtain ⟨γ2, is, gs, t2, e3, e4⟩ := takeL_ok t1.mm hv2 h4
    obtain ⟨hni, hγi⟩ := t2.new i t1.flo (by simp [t1.at_])
    refine ⟨γ2, i :: is, g :: gs, ⟨t2.mm, ?_, fun j hj hs => ?_, fun id hid => t2.mono id (t1.mono id hid), fun id p => (t1.same id p).trans (t2.same id p), t2.sub.trans t1.sub⟩, by simp [ers, e1, e3], by simp [vals, e2]; exact e4⟩
    · simp only [fls]
      exact ⟨hγi.trans t1.at_, fun id e => t2.mono id (t1.flo id e), hni, t2.fl⟩
    · obtain ⟨a1, a2⟩ := t1.new j hj hs
      obtain ⟨a3, a4⟩ := t2.new j (fun id e => t1.mono id (hj id e)) (by rw [a2]; exact hs)
      exact ⟨by simp [a1, a3], a4.trans a2⟩
  | [], _ :: _, _, _, _, _, hv, _, _ => by simp [vrs] at hv
  | _ :: _, [], _, _, _, _, hv, _, _ => by simp [vrs] at hv

/-! ### A store into one cell -/
theorem nav_put_self : ∀ (p : Path) (d x d' : D), d.put p x = some d' → d'.nav p = some x
  | [], d, x, d', h => by simp only [D.put, Option.some.injEq] at h; subst h; simp [D.nav]
  | (j, i) :: p, .s sz els, x, d', h => by
    simp only [D.put, bind_some_iff, map_some_iff] at h
    obtain ⟨el, h1, c, h2, c', h3, rfl⟩ := h
    simp only [D.nav, List.getElem?_set_self (List.getElem?_eq_some_iff.1 h1).1, Option.bind_some, List.getElem?_set_self (List.getElem?_eq_some_iff.1 h2).1]
    exact nav_put_self p c x c' h3
  | (j, i) :: p, .v _, x, d', h => by simp [D.put] at h
  | (j, i) :: p, .r _, x, d', h => by simp [D.put] at h
  | (j, i) :: p, .u, x, d', h => by simp [D.put] at h
theorem put_put : ∀ (p : Path) (d x y d' : D), d.put p x = some d' → d'.put p y = d.put p y
  | [], d, x, y, d', h => by simp [D.put]
  | (j, i) :: p, .s sz els, x, y, d', h => by
    simp only [D.put, bind_some_iff, map_some_iff] at h
    obtain ⟨el, h1, c, h2, c', h3, rfl⟩ := h
    simp only [D.put, List.getElem?_set_self (List.getElem?_eq_some_iff.1 h1).1, Option.bind_some, List.getElem?_set_self (List.getElem?_eq_some_iff.1 h2).1, h1, h2]
    rw [put_put p c x y c' h3]
    simp [List.set_set]
  | (j, i) :: p, .v _, x, y, d', h => by simp [D.put] at h
  | (j, i) :: p, .r _, x, y, d', h => by simp [D.put] at h
  | (j, i) :: p, .u, x, y, d', h => by simp [D.put] at h
theorem put_cell : ∀ (q : Path) (d : D) (sz : Nat) (els : List (List D)) (j i : Nat) (el : List D) (x : D), d.nav q = some (.s sz els) → els[j]? = some el → i < el.length →
    d.put (q ++ [(j, i)]) x = d.put q (.s sz (els.set j (el.set i x)))
  | [], d, sz, els, j, i, el, x, h, h1, h2 => by
    simp only [D.nav, Option.some.injEq] at h
    subst h
    simp [D.put, h1, List.getElem?_eq_getElem h2]
  | (j0, i0) :: q, .s sz0 els0, sz, els, j, i, el, x, h, h1, h2 => by
    simp only [D.nav, bind_some_iff] at h
    obtain ⟨el0, h3, c0, h4, h5⟩ := h
    simp only [List.cons_append, D.put, h3, h4, Option.bind_some]
    rw [put_cell q c0 sz els j i el x h5 h1 h2]
  | (j0, i0) :: q, .v _, _, _, _, _, _, _, h, _, _ => by simp [D.nav] at h
  | (j0, i0) :: q, .r _, _, _, _, _, _, _, h, _, _ => by simp [D.nav] at h
  | (j0, i0) :: q, .u, _, _, _, _, _, _, h, _, _ => by simp [D.nav] at h
theorem nav_gput : ∀ (q : Path) (g : G) (sz : Nat) (b : Option (Nat × Nat)) (els : List (List G)) (j i : Nat) (el : List G) (c' g' : G), g.nav q = some (.s sz b els) → els[j]? = some el → g.put (q ++ [(j, i)]) c' = some g' →
    g'.nav q = some (.s sz b (els.set j (el.set i c')))
  | [], g, sz, b, els, j, i, el, c', g', h, h1, hp => by
    simp only [G.nav, Option.some.injEq] at h
    subst h
    simp only [List.nil_append, G.put, h1, Option.bind_some, bind_some_iff, map_some_iff, Option.some.injEq] at hp
    obtain ⟨c, h2, c'', h3, rfl⟩ := hp
    subst h3
    simp [G.nav]
  | (j0, i0) :: q, .l d v, _, _, _, _, _, _, _, _, h, _, _ => by simp [G.nav] at h
  | (j0, i0) :: q, .s sz0 b0 els0, sz, b, els, j, i, el, c', g', h, h1, hp => by
    simp only [G.nav, bind_some_iff] at h
    obtain ⟨el0, h3, c0, h4, h5⟩ := h
    simp only [List.cons_append, G.put, h3, h4, Option.bind_some, map_some_iff] at hp
    obtain ⟨c0', h6, rfl⟩ := hp
    simp only [G.nav, List.getElem?_set_self (List.getElem?_eq_some_iff.1 h3).1, Option.bind_some, List.getElem?_set_self (List.getElem?_eq_some_iff.1 h4).1]
    exact nav_gput q c0 sz b els j i el c' c0' h5 h1 h6

theorem heap_cells_of_ok {w : World} {S : Nat → Prop} {sz b cap : Nat} {els : List (List G)} (h : (G.s sz (some (b, cap)) els).ok w S) : ∃ cur e, w.heap[b]? = some (.cells cur e (0, 0)) := by
  simp only [G.ok] at h
  obtain ⟨⟨_, _, cur, e, h3, _⟩, _⟩ := h
  exact ⟨cur, e, h3⟩

structure Stored (h h' : Heap) (γ γ' : Gm) (S : Nat → Prop) (w : World) (id : Id) (q : Path) (j i sz b cap : Nat) (els : List (List G)) (el : List G) (gid : GId) (c' : G) : Prop where
  cell : (w.cell? ⟨b, j * sz + i, none⟩).isSome = true
  free : w.frozen? ⟨b, j * sz + i, none⟩ = false
  put : h.put id q (.s sz (erss (els.set j (el.set i c')))) = some h'
  mm : Mm h' γ' S (w.setCell ⟨b, j * sz + i, none⟩ c'.val)
  at_ : γ'.nav id q = some (.s sz (some (b, cap)) (els.set j (el.set i c')))
  new : ∀ k, Flo h k → k ≠ gid → γ' k = γ k
  mono : ∀ id, h id = none ↔ h' id = none
  same : ∀ id' p', (id' = id → ∀ r, p' ≠ q ++ [(j, i)] ++ r) → Same γ γ' id' p'
  plain : (∃ x v y u, el[i]? = some (.l (.v x) v) ∧ c' = .l (.v y) u) → ∀ id' p', Same γ γ' id' p'
  sub : Sub γ' γ
  inb : ∃ i0 g0, γ i0 = some g0 ∧ b ∈ g0.bl
theorem store1 {h : Heap} {γ : Gm} {S : Nat → Prop} {w : World} (m : Mm h γ S w) {id : Id} {q : Path} {d0 : D} (hd0 : h id = some d0) {sz b cap : Nat} {els : List (List G)} (hq : γ.nav id q = some (.s sz (some (b, cap)) els))
    {j i : Nat} {el : List G} (hj : els[j]? = some el) {c : G} (hi : el[i]? = some c) {gid : GId} {c' : G} (hg : γ gid = some c') (hf : Flo h gid) :
    ∃ h' γ', Stored h h' γ γ' S w id q j i sz b cap els el gid c' := by
  have hq0 := hq
  unfold Gm.nav at hq
  simp only [bind_some_iff] at hq
  obtain ⟨g0, h1, h2⟩ := hq
  obtain ⟨g0', h3, h4⟩ := m.er id d0 hd0
  rw [h1] at h3
  simp only [Option.some.injEq] at h3
  subst h3
  have hne : gid ≠ .inl id := fun e => by
    have := hf id e
    rw [hd0] at this
    simp at this
  have hrow := nav_ok q g0 _ (m.ok _ _ h1) h2
  obtain ⟨cur, e, hcur⟩ := heap_cells_of_ok hrow
  have hb0 : b ∈ g0.bl := nav_bl q g0 _ h2 b (by simp [G.bl])
  have hdisj : ∀ k ∈ g0.bl, k ∉ c'.bl := m.dj _ _ g0 c' h1 hg (Ne.symm hne)
  have hcb : b ∉ c'.bl := hdisj b hb0
  have hSb : ¬ S b := fun hs => (m.sd b hs).2 _ _ h1 hb0
  have hSw : ∀ k, S k → S k ∧ (w.setCell ⟨b, j * sz + i, none⟩ c'.val).heap[k]? = w.heap[k]? := fun k hk => ⟨hk, Below.heap_setCell w _ _ k (fun e => hSb (by simp only at e; rw [← e]; exact hk))⟩
  have hc'ok : c'.ok (w.setCell ⟨b, j * sz + i, none⟩ c'.val) S := G.ok_congr hSw c' (fun k hk => Below.heap_setCell w _ _ k (fun e => hcb (by simp only at e; rw [← e]; exact hk))) (m.ok _ _ hg)
  have hset : ∀ cur e, w.heap[b]? = some (.cells cur e (0, 0)) → (w.setCell ⟨b, j * sz + i, none⟩ c'.val).heap[b]? = some (.cells (cur.setIfInBounds (j * sz + i) c'.val) e (0, 0)) := fun cur e hc => by
    simp [World.setCell, Array.getElem?_modify, hc]
  obtain ⟨g1, h5, h6⟩ := store_ok hSw hc'ok hj hi (fun cur e hc _ => hset cur e hc) q g0 (m.ok _ _ h1) (m.nd _ _ h1) h2 (fun k _ hkb => Below.heap_setCell w _ _ k hkb)
  have hnc : g0.nav (q ++ [(j, i)]) = some c := by rw [nav_append, h2]; simp [G.nav, hj, hi]
  obtain ⟨R, hp1, hp2⟩ := put_perm _ g0 c hnc
  have hp3 := hp2 _ _ h5
  have hnR := (List.nodup_append.1 (hp1.nodup_iff.1 (m.nd _ _ h1)))
  have hR0 : ∀ k ∈ R, k ∈ g0.bl := fun k hk => hp1.mem_iff.2 (List.mem_append_right _ hk)
  have key : ∀ k g', upd (upd γ gid none) (.inl id) (some g1) k = some g' → (k = .inl id ∧ g' = g1) ∨ (k ≠ .inl id ∧ k ≠ gid ∧ γ k = some g') := fun k g' hk => by
    unfold upd at hk
    split at hk
    · simp only [Option.some.injEq] at hk; exact .inl ⟨‹_›, hk.symm⟩
    · split at hk
      · simp at hk
      · exact .inr ⟨‹_›, ‹_›, hk⟩
  have hputD : h.put id q (.s sz (erss (els.set j (el.set i c')))) = some (upd h id (some g1.er)) := by
    have e1 : g0.er.nav q = some (.s sz (erss els)) := by rw [nav_er q g0 (m.ok _ _ h1), h2]; simp [G.er]
    have e2 := put_er (q ++ [(j, i)]) g0 c' (m.ok _ _ h1)
    rw [h5] at e2
    have e3 : (erss els)[j]? = some (ers el) := by simp [erss_map, ers_map, hj]
    have e4 : i < (ers el).length := by rw [ers_length]; exact (List.getElem?_eq_some_iff.1 hi).1
    rw [put_cell q g0.er sz (erss els) j i (ers el) c'.er e1 e3 e4] at e2
    have e5 : erss (els.set j (el.set i c')) = (erss els).set j ((ers el).set i c'.er) := by simp [erss_map, ers_map, List.map_set]
    rw [e5]
    unfold Heap.put
    rw [hd0, ← h4]
    simp only [Option.bind_some]
    rw [e2]
    simp
  have hsame : ∀ id' p', (id' = id → ∀ r, p' ≠ q ++ [(j, i)] ++ r) → Same γ (upd (upd γ gid none) (.inl id) (some g1)) id' p' := fun id' p' hp' => by
    by_cases he : id' = id
    · subst he
      intro x' hx'
      unfold Gm.nav at hx'
      simp only [upd, if_true, bind_some_iff, Option.some.injEq] at hx'
      obtain ⟨_, rfl, hx'⟩ := hx'
      obtain ⟨x, hx, r⟩ := put_other (q ++ [(j, i)]) g0 g1 h5 (by simp) p' x' (hp' rfl) hx'
      exact ⟨x, by simp [Gm.nav, h1, hx], r⟩
    · by_cases hgi : gid = .inl id'
      · exact Same.of_none (by simp [upd, he, hgi]) p'
      · exact Same.of_eq (by simp [upd, he, Ne.symm hgi]) p'
  refine ⟨upd h id (some g1.er), upd (upd γ gid none) (.inl id) (some g1), ⟨?_, frozen_of_row w b _ cur e hcur, hputD, ?_, ?_, fun k hk hkn => ?_, fun id' => ?_, hsame, ?_, fun k g' hk k' hk' => ?_, ⟨_, g0, h1, hb0⟩⟩⟩
  · rw [cell_at hrow hj hi]; rfl
  · refine ⟨fun id' d hd => ?_, fun k g' hk => ?_, fun k g' hk => ?_, fun k k' g2 g3 hk hk' hne' x hx => ?_, fun k hk => ⟨by simpa using (m.sd k hk).1, fun k' g' hk' hx => ?_⟩, ?_⟩
    · unfold upd at hd
      split at hd
      · rename_i e
        subst e
        simp only [Option.some.injEq] at hd
        exact ⟨g1, by simp [upd], hd⟩
      · obtain ⟨g', a1, a2⟩ := m.er id' d hd
        refine ⟨g', ?_, a2⟩
        have hx : (Sum.inl id' : GId) ≠ gid := fun e => by
          have := hf id' e.symm
          rw [this] at hd
          simp at hd
        simp only [upd, Sum.inl.injEq, ‹¬ id' = id›, if_false, hx]
        exact a1
    · rcases key k g' hk with ⟨_, rfl⟩ | ⟨a1, a2, a3⟩
      · exact h6
      · exact G.ok_congr hSw g' (fun x hx => Below.heap_setCell w _ _ x (fun e => m.dj _ _ g' g0 a3 h1 a1 x hx (by rw [e]; exact hb0))) (m.ok _ _ a3)
    · rcases key k g' hk with ⟨_, rfl⟩ | ⟨a1, a2, a3⟩
      · refine hp3.nodup_iff.2 (List.nodup_append.2 ⟨m.nd _ _ hg, hnR.2.1, fun x hx y hy e => ?_⟩)
        subst e
        exact hdisj x (hR0 x hy) hx
      · exact m.nd _ _ a3
    · have hcross : ∀ k g', k ≠ .inl id → k ≠ gid → γ k = some g' → ∀ x ∈ g'.bl, x ∉ g1.bl := fun k g' a1 a2 a3 x hx hx1 => by
        rcases List.mem_append.1 (hp3.mem_iff.1 hx1) with hx1 | hx1
        · exact m.dj _ _ g' c' a3 hg a2 x hx hx1
        · exact m.dj _ _ g' g0 a3 h1 a1 x hx (hR0 x hx1)
      rcases key k g2 hk with ⟨rfl, rfl⟩ | ⟨a1, a2, a3⟩
      · rcases key k' g3 hk' with ⟨rfl, rfl⟩ | ⟨b1, b2, b3⟩
        · exact absurd rfl hne'
        · exact fun hx' => hcross k' g3 b1 b2 b3 x hx' hx
      · rcases key k' g3 hk' with ⟨rfl, rfl⟩ | ⟨b1, b2, b3⟩
        · exact hcross k g2 a1 a2 a3 x hx
        · exact m.dj _ _ g2 g3 a3 b3 hne' x hx
    · rcases key k' g' hk' with ⟨_, rfl⟩ | ⟨a1, a2, a3⟩
      · rcases List.mem_append.1 (hp3.mem_iff.1 hx) with hx | hx
        · exact (m.sd k hk).2 _ _ hg hx
        · exact (m.sd k hk).2 _ _ h1 (hR0 k hx)
      · exact (m.sd k hk).2 _ _ a3 hx
    · obtain ⟨N, hN⟩ := m.fin
      refine ⟨N, fun n hn => ?_⟩
      simp only [upd, reduceCtorEq, if_false]
      split
      · rfl
      · exact hN n hn
  · simp only [Gm.nav, upd, if_true, Option.bind_some]
    exact nav_gput q g0 sz _ els j i el c' g1 h2 hj h5
  · have hx : k ≠ .inl id := fun e => by
      have := hk id e
      rw [hd0] at this
      simp at this
    simp [upd, hx, hkn]
  · unfold upd
    split
    · rename_i e
      subst e
      rw [hd0]
      simp
    · rfl
  · rintro ⟨x, v, y, u, hx, rfl⟩ id' p'
    by_cases hp' : id' = id ∧ ∃ r, p' = q ++ [(j, i)] ++ r
    · obtain ⟨rfl, r, rfl⟩ := hp'
      intro x' hx'
      unfold Gm.nav at hx'
      simp only [upd, if_true, bind_some_iff, Option.some.injEq] at hx'
      obtain ⟨_, rfl, hx'⟩ := hx'
      rw [nav_append, gnav_put_self _ _ _ _ h5] at hx'
      cases r with
      | nil =>
        simp only [G.nav, Option.bind_some, Option.some.injEq] at hx'
        subst hx'
        refine ⟨c, by rw [List.append_nil]; simp [Gm.nav, h1, hnc], .inl ⟨?_, rfl⟩⟩
        rw [hi] at hx
        simp only [Option.some.injEq] at hx
        subst hx
        rfl
      | cons a r => simp [G.nav] at hx'
    · exact hsame id' p' (fun e r er => hp' ⟨e, r, er⟩)
  · rcases key k g' hk with ⟨_, rfl⟩ | ⟨a1, a2, a3⟩
    · rcases List.mem_append.1 (hp3.mem_iff.1 hk') with hx | hx
      · exact ⟨gid, c', hg, hx⟩
      · exact ⟨_, g0, h1, hR0 k' hx⟩
    · exact ⟨k, g', a3, hk'⟩

end Go.Ev
