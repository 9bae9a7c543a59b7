/- What temporaries mean: values by places; how that stays where memory turns. -/
import Derived.Test.YtcoigakalblkgaaEvMem
set_option linter.all false
namespace Go.Ev

abbrev GId := Id ⊕ Nat
abbrev Gm := GId → Option G
def Gm.nav (γ : Gm) (id : Id) (p : Path) : Option G := (γ (.inl id)).bind fun g => g.nav p

/-- A row's shape: its elements' size, its block and room. -/
def G.shd : G → Option (Nat × Option (Nat × Nat))
  | .s sz b _ => some (sz, b)
  | .l _ _ => none
/-- No scalar. -/
def G.rowy : G → Bool
  | .l (.v _) _ => false
  | _ => true

mutual
def X.vr (γ : Gm) (w : World) (S : Nat → Prop) : X → Value → Prop
  | .d (.v x), v => v = x ∧ x.oneCell' = true
  | .d (.r els), v => D.rd w S (.r els) v
  | .d (.s _ els), v => els = [] ∧ v = .slice none 0 0
  | .d .u, v => v.oneCell' = true
  | .agg cs, v => ∃ vs : List Value, v = .agg vs.toArray ∧ vrs γ w S cs vs ∧ ∀ u ∈ vs, u.oneCell' = true
  | .tup cs, v => ∃ vs : List Value, v = .tuple vs.toArray ∧ vrs γ w S cs vs
  | .ref id p, v => v.oneCell' = true ∧ ∀ g, γ.nav id p = some g → g.val = v ∧ g.rowy = true
  | .ptr id q j i, v => ∃ a, v = .pointer (some a) ∧ ∀ sz b cap els, γ.nav id q = some (.s sz (some (b, cap)) els) → a = ⟨b, j * sz + i, none⟩
  | .rop cs, v => ∃ a, v = .pointer (some a) ∧ rds w S a 0 cs
  | .vp cs, v => ∃ a, v = .pointer (some a) ∧ ∃ us : List Value, vrs γ w S cs us ∧ (∀ u ∈ us, u.oneCell' = true) ∧ ∀ (i : Nat) (u : Value), us[i]? = some u → w.cell? (a.add i) = some u ∧ S a.block
  | .clo f caps, v => ∃ vs : List Value, v = .func (.func f) #[] vs.toArray ∧ vrs γ w S caps vs
def vrs (γ : Gm) (w : World) (S : Nat → Prop) : List X → List Value → Prop
  | [], [] => True
  | x :: xs, v :: vs => x.vr γ w S v ∧ vrs γ w S xs vs
  | _, _ => False
end
mutual
/-- Of each place that a value speaks of. -/
def X.allp (φ : Id → Path → Prop) : X → Prop
  | .ref id p => φ id p
  | .ptr id q _ _ => φ id q
  | .agg cs => allps φ cs
  | .tup cs => allps φ cs
  | .vp cs => allps φ cs
  | .clo _ cs => allps φ cs
  | _ => True
def allps (φ : Id → Path → Prop) : List X → Prop
  | [] => True
  | x :: xs => x.allp φ ∧ allps φ xs
end
/-- What is said of a place stays: its value and shape (or it held no row, and holds none). -/
def Like (g g' : G) : Prop := (g.rowy = false ∧ g'.shd = none) ∨ (g'.val = g.val ∧ (g'.shd = none ∨ g'.shd = g.shd) ∧ (g.rowy = true → g'.rowy = true))
def Same (γ γ' : Gm) (id : Id) (p : Path) : Prop := ∀ g', γ'.nav id p = some g' → ∃ g, γ.nav id p = some g ∧ Like g g'
theorem Like.refl (g : G) : Like g g := .inr ⟨rfl, .inr rfl, fun h => h⟩
theorem Like.trans {a b c : G} (h1 : Like a b) (h2 : Like b c) : Like a c := by
  rcases h1 with ⟨h1, h3⟩ | ⟨h1, h3, h4⟩
  · rcases h2 with ⟨h2, h5⟩ | ⟨h2, h5, h6⟩
    · exact .inl ⟨h1, h5⟩
    · exact .inl ⟨h1, h5.elim (fun h => h) (fun h => h.trans h3)⟩
  · rcases h2 with ⟨h2, h5⟩ | ⟨h2, h5, h6⟩
    · refine .inl ⟨?_, h5⟩
      cases ha : a.rowy with
      | false => rfl
      | true => rw [h4 ha] at h2; exact absurd h2 (by simp)
    · refine .inr ⟨h2.trans h1, ?_, fun h => h6 (h4 h)⟩
      rcases h5 with h5 | h5
      · exact .inl h5
      · exact h3.imp (fun h => h5.trans h) (fun h => h5.trans h)
theorem Same.refl (γ : Gm) (id : Id) (p : Path) : Same γ γ id p := fun g h => ⟨g, h, Like.refl g⟩
theorem Same.trans {γ γ1 γ2 : Gm} {id : Id} {p : Path} (h1 : Same γ γ1 id p) (h2 : Same γ1 γ2 id p) : Same γ γ2 id p := fun g2 hg2 => by
  obtain ⟨g1, hg1, a1⟩ := h2 g2 hg2
  obtain ⟨g, hg, a⟩ := h1 g1 hg1
  exact ⟨g, hg, a.trans a1⟩
theorem Same.of_eq {γ γ' : Gm} {id : Id} (h : γ' (.inl id) = γ (.inl id)) (p : Path) : Same γ γ' id p := fun g hg => ⟨g, by unfold Gm.nav at hg ⊢; rw [← h]; exact hg, Like.refl g⟩
theorem Same.of_none {γ γ' : Gm} {id : Id} (h : γ' (.inl id) = none) (p : Path) : Same γ γ' id p := fun g hg => by simp [Gm.nav, h] at hg

theorem shd_some {g : G} {sz : Nat} {b : Option (Nat × Nat)} (h : g.shd = some (sz, b)) : ∃ els, g = .s sz b els := by
  cases g with
  | l d v => simp [G.shd] at h
  | s sz' b' els =>
    simp only [G.shd, Option.some.injEq, Prod.mk.injEq] at h
    obtain ⟨rfl, rfl⟩ := h
    exact ⟨els, rfl⟩

mutual
theorem vr_same {γ γ' : Gm} {w w' : World} {S S' : Nat → Prop} (hS : ∀ k, S k → S' k ∧ w'.heap[k]? = w.heap[k]?) : ∀ (x : X) (v : Value), x.allp (Same γ γ') → x.vr γ w S v → x.vr γ' w' S' v
  | .d (.v x), v, _, h => by simpa only [X.vr] using h
  | .d (.r els), v, _, h => by
    simp only [X.vr] at h ⊢
    exact D.rd_congr hS _ _ h
  | .d (.s _ els), v, _, h => by simpa only [X.vr] using h
  | .d .u, v, _, h => by simpa only [X.vr] using h
  | .agg cs, v, ha, h => by
    simp only [X.vr, X.allp] at h ha ⊢
    obtain ⟨vs, h1, h2, h3⟩ := h
    exact ⟨vs, h1, vrs_same hS cs vs ha h2, h3⟩
  | .tup cs, v, ha, h => by
    simp only [X.vr, X.allp] at h ha ⊢
    obtain ⟨vs, h1, h2⟩ := h
    exact ⟨vs, h1, vrs_same hS cs vs ha h2⟩
  | .ref id p, v, ha, h => by
    simp only [X.vr, X.allp] at h ha ⊢
    refine ⟨h.1, fun g' hg' => ?_⟩
    obtain ⟨g, hg, e⟩ := ha g' hg'
    obtain ⟨h1, h2⟩ := h.2 g hg
    rcases e with ⟨e, _⟩ | ⟨e1, _, e3⟩
    · rw [h2] at e; exact absurd e (by simp)
    · exact ⟨e1.trans h1, e3 h2⟩
  | .ptr id q j i, v, ha, h => by
    simp only [X.vr, X.allp] at h ha ⊢
    obtain ⟨a, rfl, h2⟩ := h
    refine ⟨a, rfl, fun sz b cap els hg' => ?_⟩
    obtain ⟨g, hg, e⟩ := ha _ hg'
    rcases e with ⟨_, e2⟩ | ⟨_, e2 | e2, _⟩
    · simp [G.shd] at e2
    · simp [G.shd] at e2
    · obtain ⟨els', rfl⟩ := shd_some (g := g) (sz := sz) (b := some (b, cap)) e2.symm
      exact h2 _ _ _ _ hg
  | .rop cs, v, _, h => by
    simp only [X.vr] at h ⊢
    obtain ⟨a, h1, h2⟩ := h
    exact ⟨a, h1, rds_congr hS cs a 0 h2⟩
  | .vp cs, v, ha, h => by
    simp only [X.vr, X.allp] at h ha ⊢
    obtain ⟨a, h1, us, h2, h3, h4⟩ := h
    refine ⟨a, h1, us, vrs_same hS cs us ha h2, h3, fun i u hu => ?_⟩
    obtain ⟨h5, h6⟩ := h4 i u hu
    exact ⟨by rw [World.cell_congr (w := w) (by rw [Addr.add_block]; exact (hS _ h6).2)]; exact h5, (hS _ h6).1⟩
  | .clo f caps, v, ha, h => by
    simp only [X.vr, X.allp] at h ha ⊢
    obtain ⟨vs, h1, h2⟩ := h
    exact ⟨vs, h1, vrs_same hS caps vs ha h2⟩
theorem vrs_same {γ γ' : Gm} {w w' : World} {S S' : Nat → Prop} (hS : ∀ k, S k → S' k ∧ w'.heap[k]? = w.heap[k]?) : ∀ (xs : List X) (vs : List Value), allps (Same γ γ') xs → vrs γ w S xs vs → vrs γ' w' S' xs vs
  | [], [], _, _ => by simp only [vrs]
  | x :: xs, v :: vs, ha, h => by
    simp only [vrs, allps] at h ha ⊢
    exact ⟨vr_same hS x v ha.1 h.1, vrs_same hS xs vs ha.2 h.2⟩
  | [], _ :: _, _, h => by simp [vrs] at h
  | _ :: _, [], _, h => by simp [vrs] at h
end
mutual
theorem allp_mono {φ ψ : Id → Path → Prop} (h : ∀ id p, φ id p → ψ id p) : ∀ (x : X), x.allp φ → x.allp ψ
  | .d _, _ => by simp only [X.allp]
  | .agg cs, ha => by simp only [X.allp] at ha ⊢; exact allps_mono h cs ha
  | .tup cs, ha => by simp only [X.allp] at ha ⊢; exact allps_mono h cs ha
  | .ref id p, ha => by simp only [X.allp] at ha ⊢; exact h _ _ ha
  | .ptr id q j i, ha => by simp only [X.allp] at ha ⊢; exact h _ _ ha
  | .rop cs, _ => by simp only [X.allp]
  | .vp cs, ha => by simp only [X.allp] at ha ⊢; exact allps_mono h cs ha
  | .clo f caps, ha => by simp only [X.allp] at ha ⊢; exact allps_mono h caps ha
theorem allps_mono {φ ψ : Id → Path → Prop} (h : ∀ id p, φ id p → ψ id p) : ∀ (xs : List X), allps φ xs → allps ψ xs
  | [], _ => by simp only [allps]
  | x :: xs, ha => by simp only [allps] at ha ⊢; exact ⟨allp_mono h x ha.1, allps_mono h xs ha.2⟩
end
mutual
theorem allp_all {φ : Id → Path → Prop} (h : ∀ id p, φ id p) : ∀ (x : X), x.allp φ
  | .d _ => by simp only [X.allp]
  | .agg cs => by simp only [X.allp]; exact allps_all h cs
  | .tup cs => by simp only [X.allp]; exact allps_all h cs
  | .ref id p => by simp only [X.allp]; exact h _ _
  | .ptr id q j i => by simp only [X.allp]; exact h _ _
  | .rop cs => by simp only [X.allp]
  | .vp cs => by simp only [X.allp]; exact allps_all h cs
  | .clo f caps => by simp only [X.allp]; exact allps_all h caps
theorem allps_all {φ : Id → Path → Prop} (h : ∀ id p, φ id p) : ∀ (xs : List X), allps φ xs
  | [] => by simp only [allps]
  | x :: xs => by simp only [allps]; exact ⟨allp_all h x, allps_all h xs⟩
end
theorem vrs_length {γ : Gm} {w : World} {S : Nat → Prop} : ∀ {xs : List X} {vs : List Value}, vrs γ w S xs vs → xs.length = vs.length
  | [], [], _ => rfl
  | x :: xs, v :: vs, h => by
    simp only [vrs] at h
    simp [vrs_length h.2]
  | [], _ :: _, h => by simp [vrs] at h
  | _ :: _, [], h => by simp [vrs] at h
theorem vrs_get {γ : Gm} {w : World} {S : Nat → Prop} : ∀ {xs : List X} {vs : List Value}, vrs γ w S xs vs → ∀ {i : Nat} {x : X}, xs[i]? = some x → ∃ v, vs[i]? = some v ∧ x.vr γ w S v
  | [], [], _, i, x, hx => by simp at hx
  | x :: xs, v :: vs, h, 0, y, hx => by
    simp only [vrs] at h
    simp only [List.getElem?_cons_zero, Option.some.injEq] at hx
    subst hx
    exact ⟨v, rfl, h.1⟩
  | x :: xs, v :: vs, h, i + 1, y, hx => by
    simp only [vrs] at h
    simp only [List.getElem?_cons_succ] at hx ⊢
    exact vrs_get h.2 hx
  | [], _ :: _, h, _, _, _ => by simp [vrs] at h
  | _ :: _, [], h, _, _, _ => by simp [vrs] at h
theorem vrs_append {γ : Gm} {w : World} {S : Nat → Prop} : ∀ {xs ys : List X} {vs us : List Value}, vrs γ w S xs vs → vrs γ w S ys us → vrs γ w S (xs ++ ys) (vs ++ us)
  | [], ys, [], us, _, h => h
  | x :: xs, ys, v :: vs, us, h, h' => by
    simp only [vrs, List.cons_append] at h ⊢
    exact ⟨h.1, vrs_append h.2 h'⟩
  | [], _, _ :: _, _, h, _ => by simp [vrs] at h
  | _ :: _, _, [], _, h, _ => by simp [vrs] at h
theorem allps_iff {φ : Id → Path → Prop} : ∀ {xs : List X}, allps φ xs ↔ ∀ x ∈ xs, x.allp φ
  | [] => by simp [allps]
  | x :: xs => by simp [allps, allps_iff (xs := xs)]
theorem vrs_iff {γ : Gm} {w : World} {S : Nat → Prop} : ∀ {xs : List X} {vs : List Value}, vrs γ w S xs vs ↔ xs.length = vs.length ∧ ∀ (i : Nat) (x : X) (v : Value), xs[i]? = some x → vs[i]? = some v → x.vr γ w S v
  | [], [] => by simp [vrs]
  | x :: xs, v :: vs => by
    simp only [vrs, List.length_cons, Nat.add_right_cancel_iff, vrs_iff (xs := xs) (vs := vs)]
    constructor
    · rintro ⟨h1, h2, h3⟩
      refine ⟨h2, fun i y u hy hu => ?_⟩
      cases i with
      | zero =>
        simp only [List.getElem?_cons_zero, Option.some.injEq] at hy hu
        subst hy; subst hu
        exact h1
      | succ i =>
        simp only [List.getElem?_cons_succ] at hy hu
        exact h3 i y u hy hu
    · rintro ⟨h1, h2⟩
      exact ⟨h2 0 x v rfl rfl, h1, fun i y u hy hu => h2 (i + 1) y u (by simpa using hy) (by simpa using hu)⟩
  | [], _ :: _ => by simp [vrs]
  | _ :: _, [] => by simp [vrs]

/-- Memory, and what the evaluator says of it. -/
structure Mm (h : Heap) (γ : Gm) (S : Nat → Prop) (w : World) : Prop where
  er : ∀ id d, h id = some d → ∃ g, γ (.inl id) = some g ∧ g.er = d
  ok : ∀ i g, γ i = some g → g.ok w S
  nd : ∀ i g, γ i = some g → g.bl.Nodup
  dj : ∀ i i' g g', γ i = some g → γ i' = some g' → i ≠ i' → ∀ k ∈ g.bl, k ∉ g'.bl
  sd : ∀ k, S k → k < w.heap.size ∧ ∀ i g, γ i = some g → k ∉ g.bl
  fin : ∃ N, ∀ n, N ≤ n → γ (.inr n) = none

theorem Mm.row {h : Heap} {γ : Gm} {S : Nat → Prop} {w : World} (m : Mm h γ S w) {id : Id} {p : Path} {r : Nat × List (List D)} (hr : h.row id p = some r) : ∃ b els, γ.nav id p = some (.s r.1 b els) ∧ erss els = r.2 := by
  unfold Heap.row Heap.nav at hr
  simp only [bind_some_iff] at hr
  obtain ⟨d, ⟨d0, h1, h2⟩, h3⟩ := hr
  obtain ⟨g, h4, rfl⟩ := m.er id d0 h1
  rw [nav_er p g (m.ok _ _ h4)] at h2
  simp only [map_some_iff] at h2
  obtain ⟨g', h5, rfl⟩ := h2
  cases g' with
  | l d v =>
    have := nav_ok p g _ (m.ok _ _ h4) h5
    simp only [G.ok] at this
    cases d <;> simp_all [G.er, D.rowOf, D.leaf]
  | s sz b els =>
    simp only [G.er, D.rowOf, Option.some.injEq] at h3
    subst h3
    exact ⟨b, els, by simp [Gm.nav, h4, h5], rfl⟩
theorem Mm.nav_ok {h : Heap} {γ : Gm} {S : Nat → Prop} {w : World} (m : Mm h γ S w) {id : Id} {p : Path} {g : G} (hg : γ.nav id p = some g) : g.ok w S := by
  unfold Gm.nav at hg
  simp only [bind_some_iff] at hg
  obtain ⟨g0, h1, h2⟩ := hg
  exact Ev.nav_ok p g0 g (m.ok _ _ h1) h2
theorem Mm.fresh {h : Heap} {γ : Gm} {S : Nat → Prop} {w : World} (m : Mm h γ S w) : ∃ n, γ (.inr n) = none := by
  obtain ⟨N, hN⟩ := m.fin
  exact ⟨N, hN N (Nat.le_refl _)⟩
/-- The world goes on: nothing of it has turned that is spoken of. -/
theorem Mm.world {h : Heap} {γ : Gm} {S S' : Nat → Prop} {w w' : World} (m : Mm h γ S w) (hs : ∀ k, S k → S' k ∧ w'.heap[k]? = w.heap[k]?) (hb : ∀ i g, γ i = some g → ∀ k ∈ g.bl, w'.heap[k]? = w.heap[k]?)
    (hsd : ∀ k, S' k → k < w'.heap.size ∧ ∀ i g, γ i = some g → k ∉ g.bl) : Mm h γ S' w' :=
  ⟨m.er, fun i g hg => G.ok_congr hs g (hb i g hg) (m.ok i g hg), m.nd, m.dj, hsd, m.fin⟩
/-- Something is forgotten. -/
theorem Mm.less {h h' : Heap} {γ : Gm} {S : Nat → Prop} {w : World} (m : Mm h γ S w) (hh : ∀ id d, h' id = some d → h id = some d) : Mm h' γ S w :=
  ⟨fun id d hd => m.er id d (hh id d hd), m.ok, m.nd, m.dj, m.sd, m.fin⟩

theorem gnav_put_self : ∀ (p : Path) (d x d' : G), d.put p x = some d' → d'.nav p = some x
  | [], d, x, d', h => by simp only [G.put, Option.some.injEq] at h; subst h; simp [G.nav]
  | (j, i) :: p, .s sz b els, x, d', h => by
    simp only [G.put, bind_some_iff, map_some_iff] at h
    obtain ⟨el, h1, c, h2, c', h3, rfl⟩ := h
    simp only [G.nav, List.getElem?_set_self (List.getElem?_eq_some_iff.1 h1).1, Option.bind_some, List.getElem?_set_self (List.getElem?_eq_some_iff.1 h2).1]
    exact gnav_put_self p c x c' h3
  | (j, i) :: p, .l _ _, x, d', h => by simp [G.put] at h

/-! ### A cell of a row is turned: what other places say -/
theorem put_same {c c' : G} (hval : c'.val = c.val) (hshd : c'.shd = none) (hrow : c'.rowy = true) (hleaf : ∀ j i p, c'.nav ((j, i) :: p) = none) : ∀ (p : Path) (g g' : G), g.nav p = some c → g.put p c' = some g' →
    ∀ p' x', g'.nav p' = some x' → ∃ x, g.nav p' = some x ∧ Like x x'
  | [], g, g', hg, hp, p', x', hx => by
    simp only [G.nav, Option.some.injEq] at hg
    simp only [G.put, Option.some.injEq] at hp
    subst hg; subst hp
    cases p' with
    | nil =>
      simp only [G.nav, Option.some.injEq] at hx
      subst hx
      exact ⟨g, rfl, .inr ⟨hval, .inl hshd, fun _ => hrow⟩⟩
    | cons a p' => rw [hleaf a.1 a.2 p'] at hx; simp at hx
  | (j, i) :: p, .l d v, g', hg, _, _, _, _ => by simp [G.nav] at hg
  | (j, i) :: p, .s sz b els, g', hg, hp, p', x', hx => by
    simp only [G.nav, bind_some_iff] at hg
    obtain ⟨el, h1, c0, h2, h3⟩ := hg
    simp only [G.put, h1, h2, Option.bind_some, map_some_iff] at hp
    obtain ⟨c0', h4, rfl⟩ := hp
    cases p' with
    | nil =>
      simp only [G.nav, Option.some.injEq] at hx
      subst hx
      exact ⟨_, rfl, .inr ⟨by cases b <;> simp [G.val], .inr rfl, fun h => h⟩⟩
    | cons a p' =>
      obtain ⟨j', i'⟩ := a
      simp only [G.nav, bind_some_iff] at hx
      obtain ⟨el', h5, c1', h6, h7⟩ := hx
      by_cases hj : j' = j
      · subst hj
        rw [List.getElem?_set_self (List.getElem?_eq_some_iff.1 h1).1] at h5
        simp only [Option.some.injEq] at h5
        subst h5
        by_cases hi : i' = i
        · subst hi
          rw [List.getElem?_set_self (List.getElem?_eq_some_iff.1 h2).1] at h6
          simp only [Option.some.injEq] at h6
          subst h6
          obtain ⟨x, hx1, hx2⟩ := put_same hval hshd hrow hleaf p c0 c0' h3 h4 p' x' h7
          exact ⟨x, by simp [G.nav, h1, h2, hx1], hx2⟩
        · rw [List.getElem?_set_ne (Ne.symm hi)] at h6
          exact ⟨x', by simp [G.nav, h1, h6, h7], Like.refl _⟩
      · rw [List.getElem?_set_ne (Ne.symm hj)] at h5
        exact ⟨x', by simp [G.nav, h5, h6, h7], Like.refl _⟩
/-- A store: what does not lie at or behind the place says what it said. -/
theorem put_other {c' : G} : ∀ (p : Path) (g g' : G), g.put p c' = some g' → p ≠ [] →
    ∀ p' x', (∀ r, p' ≠ p ++ r) → g'.nav p' = some x' → ∃ x, g.nav p' = some x ∧ Like x x'
  | [], _, _, _, h, _, _, _, _ => absurd rfl h
  | (j, i) :: p, .l d v, g', hp, _, _, _, _, _ => by simp [G.put] at hp
  | (j, i) :: p, .s sz b els, g', hp, _, p', x', hne, hx => by
    simp only [G.put, bind_some_iff, map_some_iff] at hp
    obtain ⟨el, h1, c0, h2, c0', h4, rfl⟩ := hp
    cases p' with
    | nil =>
      simp only [G.nav, Option.some.injEq] at hx
      subst hx
      exact ⟨_, rfl, .inr ⟨by cases b <;> simp [G.val], .inr rfl, fun h => h⟩⟩
    | cons a p' =>
      obtain ⟨j', i'⟩ := a
      simp only [G.nav, bind_some_iff] at hx
      obtain ⟨el', h5, c1', h6, h7⟩ := hx
      by_cases hj : j' = j
      · subst hj
        rw [List.getElem?_set_self (List.getElem?_eq_some_iff.1 h1).1] at h5
        simp only [Option.some.injEq] at h5
        subst h5
        by_cases hi : i' = i
        · subst hi
          rw [List.getElem?_set_self (List.getElem?_eq_some_iff.1 h2).1] at h6
          simp only [Option.some.injEq] at h6
          subst h6
          cases p with
          | nil => exact absurd rfl (hne p')
          | cons a p =>
            obtain ⟨x, hx1, hx2⟩ := put_other (a :: p) c0 c0' h4 (by simp) p' x' (fun r hr => hne r (by rw [hr]; rfl)) h7
            exact ⟨x, by simp [G.nav, h1, h2, hx1], hx2⟩
        · rw [List.getElem?_set_ne (Ne.symm hi)] at h6
          exact ⟨x', by simp [G.nav, h1, h6, h7], Like.refl _⟩
      · rw [List.getElem?_set_ne (Ne.symm hj)] at h5
        exact ⟨x', by simp [G.nav, h5, h6, h7], Like.refl _⟩

end Go.Ev
