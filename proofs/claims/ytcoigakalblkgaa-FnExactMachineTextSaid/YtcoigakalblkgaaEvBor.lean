/- A call that is lent rows: they leave their places, and those that it turns come back. -/
import Derived.Test.YtcoigakalblkgaaEvCall4
set_option linter.all false
namespace Go.Ev
open Go.RowKit

section
variable {c : Ctx} {st st' : St} {U : Nat → Prop} {γ γ1 γ2 : Gm} {S S' : Nat → Prop} {a : Act} {w w' : World} {C : Cl} {o : Oper} {h h1 h2 : Heap} {fr : Nat}

/-- A place that a row has left; v is the slice that lies there. -/
def Hole (γ : Gm) (id : Id) (p : Path) (v : Value) : Prop := γ.nav id p = (if p = [] then none else some (.l .u v))
def ApartL (L : Lent) (id : Id) (p : Path) : Prop := ∀ b ∈ L, ¬ Cmp id p b.1 b.2.1
theorem cmp_symm {id id' : Id} {p p' : Path} (h : Cmp id p id' p') : Cmp id' p' id p := ⟨h.1.symm, h.2.symm⟩
theorem apart1_ok {id : Id} {p : Path} : ∀ {L : Lent}, apart1 id p L = true → ApartL L id p
  | [], _, b, hb => by simp at hb
  | x :: L, h, b, hb => by
    simp only [apart1, Bool.and_eq_true, Bool.or_eq_true, Bool.not_eq_true', decide_eq_false_iff_not] at h
    rcases List.mem_cons.1 hb with rfl | hb
    · rintro ⟨e, hc⟩
      rcases h.1 with h1 | ⟨h1, h2⟩
      · exact h1 e
      · rcases hc with hc | hc
        · rw [List.isPrefixOf_iff_prefix.2 hc] at h1; simp at h1
        · rw [List.isPrefixOf_iff_prefix.2 hc] at h2; simp at h2
    · exact apart1_ok h.2 b hb
theorem apart1_append {id : Id} {p : Path} : ∀ {L1 L2 : Lent}, apart1 id p (L1 ++ L2) = true → apart1 id p L1 = true ∧ apart1 id p L2 = true
  | [], L2, h => ⟨rfl, h⟩
  | x :: L1, L2, h => by
    simp only [List.cons_append, apart1, Bool.and_eq_true] at h ⊢
    obtain ⟨h1, h2⟩ := apart1_append h.2
    exact ⟨⟨h.1, h1⟩, h2⟩
theorem apart_append : ∀ {L1 L2 : Lent}, apart (L1 ++ L2) = true → apart L1 = true ∧ apart L2 = true ∧ ∀ a ∈ L1, ApartL L2 a.1 a.2.1
  | [], L2, h => ⟨rfl, h, by simp⟩
  | x :: L1, L2, h => by
    simp only [List.cons_append, apart, Bool.and_eq_true] at h ⊢
    obtain ⟨h1, h2⟩ := apart1_append h.1
    obtain ⟨h3, h4, h5⟩ := apart_append h.2
    exact ⟨⟨h1, h3⟩, h4, fun a ha => by
      rcases List.mem_cons.1 ha with rfl | ha
      · exact apart1_ok h2
      · exact h5 a ha⟩

structure Lending (h h1 : Heap) (γ γ1 : Gm) (S : Nat → Prop) (w : World) (L : Lent) (is : List GId) (gs : List G) : Prop where
  tk : TookF h h1 γ γ1 S w is
  l1 : is.length = L.length
  l2 : gs.length = L.length
  at_ : ∀ (j : Nat) (i : GId) (g : G), is[j]? = some i → gs[j]? = some g → γ1 i = some g
  row : ∀ (j : Nat) (a : Id × Path × D) (g : G), L[j]? = some a → gs[j]? = some g → g.er = a.2.2 ∧ (∃ sz b els, g = .s sz b els) ∧ γ.nav a.1 a.2.1 = some g ∧ Hole γ1 a.1 a.2.1 g.val ∧ h a.1 ≠ none
  oth : ∀ id p, ApartL L id p → γ1.nav id p = γ.nav id p
theorem Lending.nil (m : Mm h γ S w) : Lending h h γ γ S w [] [] [] := ⟨TookF.refl m, rfl, rfl, by simp, by simp, fun _ _ _ => rfl⟩
theorem idx_append {α : Type} {l1 l2 : List α} {j : Nat} {x : α} (h : (l1 ++ l2)[j]? = some x) : (j < l1.length ∧ l1[j]? = some x) ∨ (l1.length ≤ j ∧ l2[j - l1.length]? = some x) := by
  by_cases hj : j < l1.length
  · rw [List.getElem?_append_left hj] at h; exact .inl ⟨hj, h⟩
  · rw [List.getElem?_append_right (by omega)] at h; exact .inr ⟨by omega, h⟩
theorem Lending.trans {L1 L2 : Lent} {is1 is2 : List GId} {gs1 gs2 : List G} (t1 : Lending h h1 γ γ1 S w L1 is1 gs1) (t2 : Lending h1 h2 γ1 γ2 S w L2 is2 gs2) (hx : ∀ a ∈ L1, ApartL L2 a.1 a.2.1) : Lending h h2 γ γ2 S w (L1 ++ L2) (is1 ++ is2) (gs1 ++ gs2) := by
  obtain ⟨tk, hk⟩ := t1.tk.trans t2.tk
  refine ⟨tk, by simp [t1.l1, t2.l1], by simp [t1.l2, t2.l2], fun j i g hi hg => ?_, fun j b g hb hg => ?_, fun id p hp => ?_⟩
  · rcases idx_append hi with ⟨h3, h4⟩ | ⟨h3, h4⟩
    · rcases idx_append hg with ⟨h5, h6⟩ | ⟨h5, h6⟩
      · rw [hk i (List.mem_of_getElem? h4)]; exact t1.at_ j i g h4 h6
      · have := t1.l1; have := t1.l2; omega
    · rcases idx_append hg with ⟨h5, h6⟩ | ⟨h5, h6⟩
      · have := t1.l1; have := t1.l2; omega
      · have e : is1.length = gs1.length := t1.l1.trans t1.l2.symm
        exact t2.at_ (j - is1.length) i g h4 (by rw [e]; exact h6)
  · rcases idx_append hb with ⟨h3, h4⟩ | ⟨h3, h4⟩
    · rcases idx_append hg with ⟨h5, h6⟩ | ⟨h5, h6⟩
      · obtain ⟨r1, r2, r3, r4, r5⟩ := t1.row j b g h4 h6
        refine ⟨r1, r2, r3, ?_, r5⟩
        unfold Hole at r4 ⊢
        rw [t2.oth _ _ (hx b (List.mem_of_getElem? h4))]
        exact r4
      · have := t1.l1; have := t1.l2; omega
    · rcases idx_append hg with ⟨h5, h6⟩ | ⟨h5, h6⟩
      · have := t1.l1; have := t1.l2; omega
      · obtain ⟨r1, r2, r3, r4, r5⟩ := t2.row (j - L1.length) b g h4 (by rw [← t1.l2]; exact h6)
        refine ⟨r1, r2, ?_, r4, fun e => r5 (t1.tk.mono _ e)⟩
        rw [t1.oth] at r3
        · exact r3
        · exact fun a ha hc => hx a ha b (List.mem_of_getElem? h4) (cmp_symm hc)
  · rw [t2.oth id p (fun b hb => hp b (by simp [hb])), t1.oth id p (fun b hb => hp b (by simp [hb]))]
theorem Lending.of_took {id : Id} {p : Path} {d : D} {v : Value} (m : Mm h γ S w) (ht : h.take id p = some (d, h1)) (hv : ∀ g, γ.nav id p = some g → g.val = v) : ∃ γ1 i g, Lending h h1 γ γ1 S w [(id, p, d)] [i] [g] ∧ g.val = v := by
  obtain ⟨γ1, i, g, t, e1, e2, e3, e4, e5, e6⟩ := took_row' m ht hv
  refine ⟨γ1, i, g, ⟨TookF.of t, rfl, rfl, fun j i' g' h3 h4 => ?_, fun j b g' h3 h4 => ?_, fun id' p' hp => e6 id' p' (fun hc => hp (id, p, d) (by simp) (cmp_symm hc))⟩, e2⟩
  · cases j with
    | zero => simp at h3 h4; subst h3; subst h4; exact t.at_
    | succ j => simp at h3
  · cases j with
    | zero =>
      simp at h3 h4; subst h3; subst h4
      refine ⟨e1, e3, e4, by rw [e2]; exact e5, fun e => ?_⟩
      cases p with
      | nil =>
        simp only [Heap.take, map_some_iff] at ht
        obtain ⟨r, h5, _⟩ := ht
        simp [Heap.row, Heap.nav, e] at h5
      | cons c p =>
        simp only [Heap.take, bind_some_iff] at ht
        obtain ⟨r, h5, _⟩ := ht
        simp [Heap.row, Heap.nav, e] at h5
    | succ j => simp at h3

/-! ### The values of what is handed over -/
/-- T: the rows that are lent. -/
def LV (T : Nat → Option G) (w : World) (S : Nat → Prop) (y : X) (v : Value) : Prop := (∀ (Γ : Gm) (S' : Nat → Prop), (∀ b, S b → S' b) → (∀ k g, T k = some g → Γ (.inl (0, k)) = some g) → (∀ k g, Γ (.inl (0, k)) = some g → T k = some g) → y.vr Γ w S' v) ∧ y.allp (fun id _ => id.1 < 1 ∧ True)
def LVs (T : Nat → Option G) (w : World) (S : Nat → Prop) : List X → List Value → Prop
  | [], [] => True
  | x :: xs, v :: vs => LV T w S x v ∧ LVs T w S xs vs
  | _, _ => False
abbrev Tab' (T : Nat → Option G) (k : Nat) (gs : List G) : Prop := ∀ (j : Nat) (g : G), gs[j]? = some g → T (k + j) = some g
theorem rowy_s {g : G} (h : ∃ sz b els, g = .s sz b els) : g.rowy = true := by obtain ⟨_, _, _, rfl⟩ := h; rfl
theorem borC_ok (m : Mm h γ S w) {k : Nat} {x y : X} {v : Value} {L : Lent} (hx : x.vr γ w S v) (hb : borC h k x = some (y, h1, L)) :
    ∃ γ1 is gs, Lending h h1 γ γ1 S w L is gs ∧ ∀ T, Tab' T k gs → LV T w S y v := by
  unfold borC at hb
  split at hb
  · rename_i id p
    simp only [map_some_iff] at hb
    obtain ⟨⟨d, h3⟩, h4, h5⟩ := hb
    simp only [Prod.mk.injEq] at h5
    obtain ⟨rfl, rfl, rfl⟩ := h5
    simp only [X.vr] at hx
    obtain ⟨γ1, i, g, ld, e⟩ := Lending.of_took m h4 (v := v) (fun g hg => (hx.2 g hg).1)
    refine ⟨γ1, [i], [g], ld, fun T hT => ⟨fun Γ S' _ _ hΓ => ?_, by simp [X.allp]⟩⟩
    simp only [X.vr]
    refine ⟨hx.1, fun g' hg' => ?_⟩
    simp only [Gm.nav, bind_some_iff, G.nav, Option.some.injEq] at hg'
    obtain ⟨g0, h5, rfl⟩ := hg'
    have h6 := hΓ k _ h5
    have h7 := hT 0 g rfl
    rw [Nat.add_zero, h6] at h7
    simp only [Option.some.injEq] at h7
    subst h7
    exact ⟨e, rowy_s (ld.row 0 _ _ rfl rfl).2.1⟩
  · rename_i id q j i
    simp only [map_some_iff] at hb
    obtain ⟨⟨d, h3⟩, h4, h5⟩ := hb
    simp only [Prod.mk.injEq] at h5
    obtain ⟨rfl, rfl, rfl⟩ := h5
    simp only [X.vr] at hx
    obtain ⟨ad, rfl, h6⟩ := hx
    obtain ⟨b0, els0, h7⟩ : ∃ b els, ∃ sz : Nat, γ.nav id q = some (.s sz b els) := by
      have : ∃ r, h.row id q = some r := by
        cases q with
        | nil => simp only [Heap.take, map_some_iff] at h4; obtain ⟨r, h5, _⟩ := h4; exact ⟨r, h5⟩
        | cons c q => simp only [Heap.take, bind_some_iff] at h4; obtain ⟨r, h5, _⟩ := h4; exact ⟨r, h5⟩
      obtain ⟨r, hr⟩ := this
      obtain ⟨b, els, h8, _⟩ := m.row hr
      exact ⟨b, els, _, h8⟩
    obtain ⟨sz0, h7⟩ := h7
    obtain ⟨γ1, n, g, ld, e⟩ := Lending.of_took m h4 (v := (G.s sz0 b0 els0).val) (fun g hg => by rw [h7] at hg; simp only [Option.some.injEq] at hg; rw [← hg])
    refine ⟨γ1, [n], [g], ld, fun T hT => ⟨fun Γ S' _ _ hΓ => ?_, by simp [X.allp]⟩⟩
    simp only [X.vr]
    refine ⟨ad, rfl, fun sz b cap els hn => ?_⟩
    simp only [Gm.nav, bind_some_iff, G.nav, Option.some.injEq] at hn
    obtain ⟨g0, h8, rfl⟩ := hn
    have h9 := hΓ k _ h8
    have h10 := hT 0 g rfl
    rw [Nat.add_zero, h9] at h10
    simp only [Option.some.injEq] at h10
    subst h10
    exact h6 sz b cap els (ld.row 0 _ _ rfl rfl).2.2.1
  · simp only [Option.some.injEq, Prod.mk.injEq] at hb
    obtain ⟨rfl, rfl, rfl⟩ := hb
    exact ⟨γ, [], [], Lending.nil m, fun T _ => ⟨fun Γ S' _ _ _ => by simpa only [X.vr] using hx, by simp only [X.allp]⟩⟩
  · simp only [Option.some.injEq, Prod.mk.injEq] at hb
    obtain ⟨rfl, rfl, rfl⟩ := hb
    refine ⟨γ, [], [], Lending.nil m, fun T _ => ⟨fun Γ S' hS _ _ => ?_, by simp only [X.allp]⟩⟩
    simp only [X.vr] at hx ⊢
    exact D.rd_congr (fun k hk => ⟨hS k hk, rfl⟩) _ _ hx
  · simp only [Option.some.injEq, Prod.mk.injEq] at hb
    obtain ⟨rfl, rfl, rfl⟩ := hb
    exact ⟨γ, [], [], Lending.nil m, fun T _ => ⟨fun Γ S' _ _ _ => by simpa only [X.vr] using hx, by simp only [X.allp]⟩⟩
  · simp at hb
theorem tab_append {T : Nat → Option G} {k : Nat} {g1 g2 : List G} {n : Nat} (hn : g1.length = n) (h : Tab' T k (g1 ++ g2)) : Tab' T k g1 ∧ Tab' T (k + n) g2 :=
  ⟨fun j g hg => h j g (by rw [List.getElem?_append_left (List.getElem?_eq_some_iff.1 hg).1]; exact hg), fun j g hg => by rw [Nat.add_assoc]; exact h (n + j) g (by rw [List.getElem?_append_right (by omega)]; rw [show n + j - g1.length = j by omega]; exact hg)⟩
theorem borL_ok : ∀ {xs ys : List X} {vs : List Value} {h h1 : Heap} {γ : Gm} {k : Nat} {L : Lent}, Mm h γ S w → vrs γ w S xs vs → borL h k xs = some (ys, h1, L) → apart L = true →
    ∃ γ1 is gs, Lending h h1 γ γ1 S w L is gs ∧ ∀ T, Tab' T k gs → LVs T w S ys vs
  | [], ys, [], h, h1, γ, k, L, m, _, hb, _ => by
    simp only [borL, Option.some.injEq, Prod.mk.injEq] at hb
    obtain ⟨rfl, rfl, rfl⟩ := hb
    exact ⟨γ, [], [], Lending.nil m, fun _ _ => by simp [LVs]⟩
  | x :: xs, ys, v :: vs, h, h1, γ, k, L, m, hv, hb, ha => by
    simp only [borL, bind_some_iff, map_some_iff] at hb
    obtain ⟨⟨y, h2, L1⟩, h3, ⟨ys', h4, L2⟩, h5, h6⟩ := hb
    simp only [Prod.mk.injEq] at h6
    obtain ⟨rfl, rfl, rfl⟩ := h6
    simp only [vrs] at hv
    obtain ⟨ha1, ha2, hx⟩ := apart_append ha
    obtain ⟨γ1, is1, gs1, t1, f1⟩ := borC_ok m hv.1 h3
    obtain ⟨γ2, is2, gs2, t2, f2⟩ := borL_ok t1.tk.mm (vrs_same (fun k hk => ⟨hk, rfl⟩) xs vs (allps_all t1.tk.same xs) hv.2) h5 ha2
    refine ⟨γ2, is1 ++ is2, gs1 ++ gs2, t1.trans t2 hx, fun T hT => ?_⟩
    obtain ⟨hT1, hT2⟩ := tab_append t1.l2 hT
    simp only [LVs]
    exact ⟨f1 T hT1, f2 T hT2⟩
  | [], _, _ :: _, _, _, _, _, _, _, h, _, _ => by simp [vrs] at h
  | _ :: _, _, [], _, _, _, _, _, _, h, _, _ => by simp [vrs] at h
theorem LVs_vrs {T : Nat → Option G} : ∀ {ys : List X} {vs : List Value}, LVs T w S ys vs → (∀ (Γ : Gm) (S' : Nat → Prop), (∀ b, S b → S' b) → (∀ k g, T k = some g → Γ (.inl (0, k)) = some g) → (∀ k g, Γ (.inl (0, k)) = some g → T k = some g) → vrs Γ w S' ys vs) ∧ allps (fun id _ => id.1 < 1 ∧ True) ys
  | [], [], _ => ⟨fun _ _ _ _ _ => by simp [vrs], by simp [allps]⟩
  | y :: ys, v :: vs, h => by
    simp only [LVs] at h
    obtain ⟨h1, h2⟩ := LVs_vrs h.2
    exact ⟨fun Γ S' a b c => by simp only [vrs]; exact ⟨h.1.1 Γ S' a b c, h1 Γ S' a b c⟩, by simp only [allps]; exact ⟨h.1.2, h2⟩⟩
  | [], _ :: _, h => by simp [LVs] at h
  | _ :: _, [], h => by simp [LVs] at h
theorem borV_ok (m : Mm h γ S w) {k : Nat} {x y : X} {v : Value} {L : Lent} (hx : x.vr γ w S v) (hb : borV h k x = some (y, h1, L)) (ha : apart L = true) :
    ∃ γ1 is gs, Lending h h1 γ γ1 S w L is gs ∧ ∀ T, Tab' T k gs → LV T w S y v := by
  cases x with
  | agg cs =>
    simp only [borV, map_some_iff] at hb
    obtain ⟨⟨ys, h2, L'⟩, h3, h4⟩ := hb
    simp only [Prod.mk.injEq] at h4
    obtain ⟨rfl, rfl, rfl⟩ := h4
    simp only [X.vr] at hx
    obtain ⟨vs, rfl, h5, h6⟩ := hx
    obtain ⟨γ1, is, gs, t, f⟩ := borL_ok m h5 h3 ha
    refine ⟨γ1, is, gs, t, fun T hT => ?_⟩
    obtain ⟨f1, f2⟩ := LVs_vrs (f T hT)
    exact ⟨fun Γ S' a b c => by simp only [X.vr]; exact ⟨vs, rfl, f1 Γ S' a b c, h6⟩, by simp only [X.allp]; exact f2⟩
  | d x => exact borC_ok m hx hb
  | tup cs => exact borC_ok m hx hb
  | ref id p => exact borC_ok m hx hb
  | ptr id q j i => exact borC_ok m hx hb
  | rop cs => exact borC_ok m hx hb
  | vp cs => exact borC_ok m hx hb
  | clo f cs => exact borC_ok m hx hb
def mixV (T : Nat → Option G) (γ : Gm) (w : World) (S : Nat → Prop) : List X → List Bool → List Value → Prop
  | [], _, [] => True
  | x :: xs, true :: bs, v :: vs => LV T w S x v ∧ mixV T γ w S xs bs vs
  | x :: xs, false :: bs, v :: vs => x.vr γ w S v ∧ mixV T γ w S xs bs vs
  | _, _, _ => False
theorem borA_ok : ∀ {xs ys : List X} {bs : List Bool} {vs : List Value} {h h1 : Heap} {γ : Gm} {k : Nat} {L : Lent}, Mm h γ S w → vrs γ w S xs vs → borA h k xs bs = some (ys, h1, L) → apart L = true →
    ∃ γ1 is gs, Lending h h1 γ γ1 S w L is gs ∧ ∀ T, Tab' T k gs → mixV T γ1 w S ys bs vs
  | [], ys, bs, [], h, h1, γ, k, L, m, _, hb, _ => by
    simp only [borA, Option.some.injEq, Prod.mk.injEq] at hb
    obtain ⟨rfl, rfl, rfl⟩ := hb
    exact ⟨γ, [], [], Lending.nil m, fun _ _ => by simp [mixV]⟩
  | x :: xs, ys, true :: bs, v :: vs, h, h1, γ, k, L, m, hv, hb, ha => by
    simp only [borA, bind_some_iff, map_some_iff] at hb
    obtain ⟨⟨y, h2, L1⟩, h3, ⟨ys', h4, L2⟩, h5, h6⟩ := hb
    simp only [Prod.mk.injEq] at h6
    obtain ⟨rfl, rfl, rfl⟩ := h6
    simp only [vrs] at hv
    obtain ⟨ha1, ha2, hx⟩ := apart_append ha
    obtain ⟨γ1, is1, gs1, t1, f1⟩ := borV_ok m hv.1 h3 ha1
    obtain ⟨γ2, is2, gs2, t2, f2⟩ := borA_ok t1.tk.mm (vrs_same (fun k hk => ⟨hk, rfl⟩) xs vs (allps_all t1.tk.same xs) hv.2) h5 ha2
    refine ⟨γ2, is1 ++ is2, gs1 ++ gs2, t1.trans t2 hx, fun T hT => ?_⟩
    obtain ⟨hT1, hT2⟩ := tab_append t1.l2 hT
    simp only [mixV]
    exact ⟨f1 T hT1, f2 T hT2⟩
  | x :: xs, ys, false :: bs, v :: vs, h, h1, γ, k, L, m, hv, hb, ha => by
    simp only [borA, map_some_iff] at hb
    obtain ⟨⟨ys', h4, L2⟩, h5, h6⟩ := hb
    simp only [Prod.mk.injEq] at h6
    obtain ⟨rfl, rfl, rfl⟩ := h6
    simp only [vrs] at hv
    obtain ⟨γ2, is2, gs2, t2, f2⟩ := borA_ok m hv.2 h5 ha
    refine ⟨γ2, is2, gs2, t2, fun T hT => ?_⟩
    simp only [mixV]
    exact ⟨vr_same (fun k hk => ⟨hk, rfl⟩) x v (allp_all t2.tk.same x) hv.1, f2 T hT⟩
  | x :: xs, ys, [], v :: vs, h, h1, γ, k, L, m, hv, hb, ha => by simp [borA] at hb
  | [], _, _, _ :: _, _, _, _, _, _, _, h, _, _ => by simp [vrs] at h
  | _ :: _, _, _, [], _, _, _, _, _, _, h, _, _ => by simp [vrs] at h
theorem snapF_ok {T : Nat → Option G} {Γ : Gm} (m : Mm h γ S w) (hS : ∀ k, S k → S' k) (hΓ1 : ∀ k g, T k = some g → Γ (.inl (0, k)) = some g) (hΓ2 : ∀ k g, Γ (.inl (0, k)) = some g → T k = some g) : ∀ {xs ys : List X} {bs : List Bool} {vs : List Value}, mixV T γ w S xs bs vs → snapF h xs bs = some ys → (roF xs bs = true ∨ ∀ id g, γ (.inl id) = some g → ∀ k ∈ g.bl, S' k) → vrs Γ w S' ys vs ∧ allps (fun id _ => id.1 < 1 ∧ True) ys
  | [], ys, bs, [], _, hs, _ => by
    simp only [snapF, Option.some.injEq] at hs
    subst hs
    exact ⟨by simp [vrs], by simp [allps]⟩
  | x :: xs, ys, true :: bs, v :: vs, hv, hs, hr => by
    simp only [snapF, map_some_iff] at hs
    obtain ⟨zs, h1, rfl⟩ := hs
    simp only [mixV] at hv
    obtain ⟨h2, h3⟩ := snapF_ok m hS hΓ1 hΓ2 hv.2 h1 (hr.imp (fun h => by simpa only [roF] using h) (fun h => h))
    exact ⟨by simp only [vrs]; exact ⟨hv.1.1 Γ S' hS hΓ1 hΓ2, h2⟩, by simp only [allps]; exact ⟨hv.1.2, h3⟩⟩
  | x :: xs, ys, false :: bs, v :: vs, hv, hs, hr => by
    simp only [snapF, bind_some_iff, map_some_iff] at hs
    obtain ⟨y, h0, zs, h1, rfl⟩ := hs
    simp only [mixV] at hv
    obtain ⟨h2, h3⟩ := snapF_ok m hS hΓ1 hΓ2 hv.2 h1 (hr.imp (fun h => by simp only [roF, Bool.and_eq_true] at h; exact h.2) (fun h => h))
    obtain ⟨h4, h5⟩ := snap_ok m hv.1 h0 hS (hr.imp (fun h => by simp only [roF, Bool.and_eq_true] at h; exact h.1) (fun h => h))
    refine ⟨by simp only [vrs]; exact ⟨vr_same (fun k hk => ⟨hk, rfl⟩) y v (h5 _) h4, h2⟩, by simp only [allps]; exact ⟨h5 _, h3⟩⟩
  | x :: xs, ys, [], v :: vs, hv, hs, hr => by simp [snapF] at hs
  | [], _, _, _ :: _, h, _, _ => by simp [mixV] at h
  | _ :: _, _, bs, [], h, _, _ => by cases bs with
    | nil => simp [mixV] at h
    | cons b bs => cases b <;> simp [mixV] at h
end
end Go.Ev
