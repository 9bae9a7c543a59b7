/- What is kept at a loop's head: fewer slots; the frame's own rows get new numbers. -/
import Derived.Test.YtcoigakalblkgaaEvCode
set_option linter.all false
namespace Go.Ev

/-! ### The numbers -/
def has (m : List (Nat × Nat)) (o : Nat) : Prop := ∃ k, m[k]? = some (o, k) ∧ (m.find? fun a => a.1 == o) = some (o, k)
structure Numb (m : List (Nat × Nat)) : Prop where
  ix : ∀ (k : Nat) (a : Nat × Nat), m[k]? = some a → a.2 = k
  nd : (m.map fun a => a.1).Nodup

theorem find_has {m : List (Nat × Nat)} (hm : Numb m) {o : Nat} (h : (m.find? fun a => a.1 == o).isSome = true) : has m o := by
  obtain ⟨a, ha⟩ := Option.isSome_iff_exists.1 h
  have h1 := List.find?_some ha
  have h2 := List.mem_of_find?_eq_some ha
  obtain ⟨k, hk⟩ := List.mem_iff_getElem?.1 h2
  have h3 := hm.ix k a hk
  simp only [beq_iff_eq] at h1
  obtain ⟨a1, a2⟩ := a
  simp only at h1 h3
  subst h1; subst h3
  exact ⟨a2, hk, ha⟩

theorem addN_ok : ∀ (os : List Nat) {m : List (Nat × Nat)}, Numb m → Numb (addN m os) ∧ (∀ o, has m o → has (addN m os) o) ∧ (∀ o ∈ os, has (addN m os) o)
  | [], m, hm => ⟨by simpa only [addN] using hm, fun o h => by simpa only [addN] using h, fun o h => by simp at h⟩
  | o :: os, m, hm => by
    simp only [addN]
    split
    · rename_i hf
      obtain ⟨h1, h2, h3⟩ := addN_ok os hm
      refine ⟨h1, h2, fun o' ho' => ?_⟩
      rcases List.mem_cons.1 ho' with rfl | h
      · exact h2 _ (find_has hm hf)
      · exact h3 _ h
    · rename_i hf
      have hnone : (m.find? fun a => a.1 == o) = none := Option.not_isSome_iff_eq_none.1 hf
      have hm' : Numb (m ++ [(o, m.length)]) := by
        refine ⟨fun k a hk => ?_, ?_⟩
        · rw [List.getElem?_append] at hk
          split at hk
          · exact hm.ix k a hk
          · rename_i hlt
            have : k - m.length = 0 := by
              have := (List.getElem?_eq_some_iff.1 hk).1
              simpa using this
            rw [this] at hk
            simp only [List.getElem?_cons_zero, Option.some.injEq] at hk
            subst hk
            simp only
            omega
        · rw [List.map_append, List.nodup_append]
          refine ⟨hm.nd, by simp, fun x hx y hy => ?_⟩
          simp only [List.map_cons, List.map_nil, List.mem_singleton] at hy
          subst hy
          rintro rfl
          obtain ⟨a, ha, rfl⟩ := List.mem_map.1 hx
          have := List.find?_eq_none.1 hnone a ha
          simp at this
      obtain ⟨h1, h2, h3⟩ := addN_ok os hm'
      have hold : ∀ o', has m o' → has (m ++ [(o, m.length)]) o' := fun o' ⟨k, h4, h5⟩ => by
        refine ⟨k, ?_, ?_⟩
        · rw [List.getElem?_append_left (List.getElem?_eq_some_iff.1 h4).1]; exact h4
        · rw [List.find?_append, h5]; rfl
      refine ⟨h1, fun o' h => h2 _ (hold o' h), fun o' ho' => ?_⟩
      rcases List.mem_cons.1 ho' with rfl | h
      · refine h2 _ (find_has hm' ?_)
        rw [List.find?_append, hnone]
        simp
      · exact h3 _ h

theorem keepM_ok (st : St) : ∀ (L : List Nat) {m : List (Nat × Nat)}, Numb m → Numb (keepM st m L) ∧ (∀ o, has m o → has (keepM st m L) o) ∧ (∀ t ∈ L, ∀ x, st.env t = some x → x.keeps = true → ∀ o ∈ x.offs st.fr, has (keepM st m L) o)
  | [], m, hm => ⟨by simpa only [keepM] using hm, fun o h => by simpa only [keepM] using h, fun o h => by simp at h⟩
  | t :: ts, m, hm => by
    simp only [keepM]
    split
    · rename_i x hx
      split
      · rename_i hk
        obtain ⟨a1, a2, a3⟩ := addN_ok (x.offs st.fr) hm
        obtain ⟨h1, h2, h3⟩ := keepM_ok st ts a1
        refine ⟨h1, fun o h => h2 _ (a2 _ h), fun t' ht' y hy hyk o ho => ?_⟩
        rcases List.mem_cons.1 ht' with rfl | h
        · rw [hx] at hy
          simp only [Option.some.injEq] at hy
          subst hy
          exact h2 _ (a3 _ ho)
        · exact h3 t' h y hy hyk o ho
      · rename_i hk
        obtain ⟨h1, h2, h3⟩ := keepM_ok st ts hm
        refine ⟨h1, h2, fun t' ht' y hy hyk o ho => ?_⟩
        rcases List.mem_cons.1 ht' with rfl | h
        · rw [hx] at hy
          simp only [Option.some.injEq] at hy
          subst hy
          exact absurd hyk hk
        · exact h3 t' h y hy hyk o ho
    · rename_i hx
      obtain ⟨h1, h2, h3⟩ := keepM_ok st ts hm
      refine ⟨h1, h2, fun t' ht' y hy hyk o ho => ?_⟩
      rcases List.mem_cons.1 ht' with rfl | h
      · rw [hx] at hy; simp at hy
      · exact h3 t' h y hy hyk o ho

/-- Which elder place a new one was. -/
def was (fr : Nat) (m : List (Nat × Nat)) (id : Id) : Option Id := if id.1 = fr then (m[id.2]?).map fun a => (fr, a.1) else some id
def Gm.was (fr : Nat) (m : List (Nat × Nat)) (γ : Gm) : Gm := fun i => match i with
  | .inl id => (Ev.was fr m id).bind fun o => γ (.inl o)
  | .inr n => γ (.inr n)
theorem was_kid {fr : Nat} {m : List (Nat × Nat)} {id : Id} (h : id.1 = fr → has m id.2) : was fr m (kid fr m id) = some id := by
  unfold kid
  split
  · rename_i e
    obtain ⟨k, h1, h2⟩ := h e
    simp only [was, if_true, h2, Option.map_some, Option.getD_some, h1]
    rw [← e]
  · rename_i e
    simp only [was, if_neg e]
theorem was_inj {fr : Nat} {m : List (Nat × Nat)} (hm : Numb m) {i j o : Id} (hi : was fr m i = some o) (hj : was fr m j = some o) : i = j := by
  unfold was at hi hj
  split at hi
  · rename_i ei
    rw [map_some_iff] at hi
    obtain ⟨a, h1, rfl⟩ := hi
    split at hj
    · rename_i ej
      rw [map_some_iff] at hj
      obtain ⟨b, h2, h3⟩ := hj
      simp only [Prod.mk.injEq, true_and] at h3
      have h4 : (m.map fun a => a.1)[i.2]? = some a.1 := by rw [List.getElem?_map, h1]; rfl
      have h5 : (m.map fun a => a.1)[j.2]? = some a.1 := by rw [List.getElem?_map, h2]; simp [h3]
      have := (List.getElem?_inj (List.getElem?_eq_some_iff.1 h4).1 hm.nd).1 (h4.trans h5.symm)
      exact Prod.ext (ei.trans ej.symm) this
    · rename_i ej
      simp only [Option.some.injEq] at hj
      subst hj
      exact absurd rfl ej
  · rename_i ei
    simp only [Option.some.injEq] at hi
    subst hi
    split at hj
    · rename_i ej
      rw [map_some_iff] at hj
      obtain ⟨b, h2, h3⟩ := hj
      exact absurd (by rw [← h3]) ei
    · simp only [Option.some.injEq] at hj
      exact hj.symm
theorem Gm.was_some {fr : Nat} {m : List (Nat × Nat)} {γ : Gm} {i : GId} {g : G} (h : γ.was fr m i = some g) : ∃ j, γ j = some g ∧ (∀ n, i = .inr n → j = .inr n) ∧ (∀ id, i = .inl id → ∃ o, j = .inl o ∧ Ev.was fr m id = some o) := by
  cases i with
  | inl id =>
    simp only [Gm.was, bind_some_iff] at h
    obtain ⟨o, h1, h2⟩ := h
    exact ⟨.inl o, h2, by simp, fun id' e => by simp only [Sum.inl.injEq] at e; subst e; exact ⟨o, rfl, h1⟩⟩
  | inr n => exact ⟨.inr n, h, fun _ e => e, by simp⟩
theorem was_mm {fr : Nat} {m : List (Nat × Nat)} (hm : Numb m) {h h' : Heap} {γ : Gm} {S : Nat → Prop} {w : World} (M : Mm h γ S w) (hh : ∀ id d, h' id = some d → ∃ o, was fr m id = some o ∧ h o = some d) : Mm h' (γ.was fr m) S w := by
  refine ⟨fun id d hd => ?_, fun i g hi => ?_, fun i g hi => ?_, fun i i' g g' hi hi' hne => ?_, fun k hk => ⟨(M.sd k hk).1, fun i g hi => ?_⟩, ?_⟩
  · obtain ⟨o, h1, h2⟩ := hh id d hd
    obtain ⟨g, h3, h4⟩ := M.er o d h2
    exact ⟨g, by simp only [Gm.was, h1, Option.bind_some]; exact h3, h4⟩
  · obtain ⟨j, hj, _⟩ := Gm.was_some hi
    exact M.ok j g hj
  · obtain ⟨j, hj, _⟩ := Gm.was_some hi
    exact M.nd j g hj
  · obtain ⟨j, hj, a1, a2⟩ := Gm.was_some hi
    obtain ⟨j', hj', b1, b2⟩ := Gm.was_some hi'
    refine M.dj j j' g g' hj hj' ?_
    rintro rfl
    cases i with
    | inl id =>
      obtain ⟨o, rfl, h1⟩ := a2 id rfl
      cases i' with
      | inl id' =>
        obtain ⟨o', h2, h3⟩ := b2 id' rfl
        simp only [Sum.inl.injEq] at h2
        subst h2
        exact hne (by rw [was_inj hm h1 h3])
      | inr n => have := b1 n rfl; simp at this
    | inr n =>
      have h1 := a1 n rfl
      subst h1
      cases i' with
      | inl id' =>
        obtain ⟨o', h2, h3⟩ := b2 id' rfl
        simp at h2
      | inr n' => exact hne (b1 n' rfl)
  · obtain ⟨j, hj, _⟩ := Gm.was_some hi
    exact (M.sd k hk).2 j g hj
  · obtain ⟨N, hN⟩ := M.fin
    exact ⟨N, fun n hn => hN n hn⟩

section
variable {c : Ctx} {st : St} {U : Nat → Prop} {γ : Gm} {S : Nat → Prop} {a : Act} {w : World} {m : List (Nat × Nat)}

theorem renC_vr {fr : Nat} {x : X} {v : Value} (hx : x.vr γ w S v) (ho : ∀ o ∈ x.offC fr, has m o) (hf : x.flat = true) : (x.renC (kid fr m)).vr (γ.was fr m) w S v := by
  cases x with
  | d d => cases d <;> simpa only [X.renC, X.vr] using hx
  | ref id p =>
    simp only [X.renC, X.vr] at hx ⊢
    refine ⟨hx.1, fun g hg => hx.2 g ?_⟩
    unfold Gm.nav at hg ⊢
    rw [bind_some_iff] at hg ⊢
    obtain ⟨g0, h1, h2⟩ := hg
    refine ⟨g0, ?_, h2⟩
    have hk : was fr m (kid fr m id) = some id := was_kid fun e => ho _ (by simp [X.offC, e])
    simpa only [Gm.was, hk, Option.bind_some] using h1
  | ptr id q j i =>
    simp only [X.renC, X.vr] at hx ⊢
    obtain ⟨ad, rfl, h2⟩ := hx
    refine ⟨ad, rfl, fun sz b cap els hg => h2 sz b cap els ?_⟩
    unfold Gm.nav at hg ⊢
    rw [bind_some_iff] at hg ⊢
    obtain ⟨g0, h1, h3⟩ := hg
    refine ⟨g0, ?_, h3⟩
    have hk : was fr m (kid fr m id) = some id := was_kid fun e => ho _ (by simp [X.offC, e])
    simpa only [Gm.was, hk, Option.bind_some] using h1
  | rop cs => simpa only [X.renC, X.vr] using hx
  | vp cs => simp [X.flat] at hf
  | agg cs => simp [X.flat] at hf
  | tup cs => simp [X.flat] at hf
  | clo f cs => simp [X.flat] at hf
theorem offL_mem {fr : Nat} : ∀ {xs : List X} {x : X}, x ∈ xs → ∀ o ∈ x.offC fr, o ∈ offL fr xs
  | y :: xs, x, h, o, ho => by
    simp only [offL, List.mem_append]
    rcases List.mem_cons.1 h with rfl | h
    · exact .inl ho
    · exact .inr (offL_mem h o ho)
theorem ren_vrs {fr : Nat} : ∀ {xs : List X} {vs : List Value}, vrs γ w S xs vs → (∀ o ∈ offL fr xs, has m o) → xs.all X.flat = true → vrs (γ.was fr m) w S (xs.map (X.renC (kid fr m))) vs
  | [], [], _, _, _ => by simp only [List.map_nil, vrs]
  | x :: xs, v :: vs, h, ho, hf => by
    simp only [vrs, List.map_cons, List.all_cons, Bool.and_eq_true] at h hf ⊢
    exact ⟨renC_vr h.1 (fun o h1 => ho o (by simp [offL, h1])) hf.1, ren_vrs h.2 (fun o h1 => ho o (by simp [offL, h1])) hf.2⟩
  | [], _ :: _, h, _, _ => by simp [vrs] at h
  | _ :: _, [], h, _, _ => by simp [vrs] at h
theorem ren_vr {fr : Nat} {x : X} {v : Value} (hx : x.vr γ w S v) (ho : ∀ o ∈ x.offs fr, has m o) (hf : x.keeps = true) : (x.ren (kid fr m)).vr (γ.was fr m) w S v := by
  cases x with
  | agg cs =>
    simp only [X.ren, X.vr, X.offs, X.keeps] at hx ho hf ⊢
    obtain ⟨vs, h1, h2, h3⟩ := hx
    exact ⟨vs, h1, ren_vrs h2 ho hf, h3⟩
  | tup cs => simp [X.keeps] at hf
  | clo f cs =>
    simp only [X.ren, X.vr, X.offs, X.keeps] at hx ho hf ⊢
    obtain ⟨vs, h1, h2⟩ := hx
    exact ⟨vs, h1, ren_vrs h2 ho hf⟩
  | d d => exact renC_vr hx ho rfl
  | ref id p => exact renC_vr hx ho rfl
  | ptr id q j i => exact renC_vr hx ho rfl
  | rop cs => exact renC_vr hx ho rfl
  | vp cs =>
    simp only [X.ren, X.vr, X.offs, X.keeps] at hx ho hf ⊢
    obtain ⟨ad, h1, us, h2, h3, h4⟩ := hx
    exact ⟨ad, h1, us, ren_vrs h2 ho hf, h3, h4⟩
theorem kid_in {A : Id → Prop} {fr : Nat} {id : Id} (h : IdIn A fr U id) (ho : id.1 = fr → has m id.2) : IdIn A fr (fun k => k < m.length) (kid fr m id) := by
  rcases h with ⟨h1, h2⟩ | ⟨h1, h2⟩
  · have : kid fr m id = id := by unfold kid; rw [if_neg (by omega)]
    rw [this]
    exact .inl ⟨h1, h2⟩
  · obtain ⟨k, h3, h4⟩ := ho h1
    have : kid fr m id = (fr, k) := by unfold kid; rw [if_pos h1, h4]; rfl
    rw [this]
    exact .inr ⟨rfl, (List.getElem?_eq_some_iff.1 h3).1⟩
theorem renC_allp {A : Id → Prop} {fr : Nat} {x : X} (hx : x.allp (fun id _ => IdIn A fr U id)) (ho : ∀ o ∈ x.offC fr, has m o) (hf : x.flat = true) : (x.renC (kid fr m)).allp (fun id _ => IdIn A fr (fun k => k < m.length) id) := by
  cases x with
  | ref id p =>
    simp only [X.renC, X.allp] at hx ⊢
    exact kid_in hx (fun e => ho _ (by simp [X.offC, e]))
  | ptr id q j i =>
    simp only [X.renC, X.allp] at hx ⊢
    exact kid_in hx (fun e => ho _ (by simp [X.offC, e]))
  | d d => simp only [X.renC, X.allp]
  | rop cs => simp only [X.renC, X.allp]
  | vp cs => simp [X.flat] at hf
  | agg cs => simp [X.flat] at hf
  | tup cs => simp [X.flat] at hf
  | clo f cs => simp [X.flat] at hf
theorem ren_allps {A : Id → Prop} {fr : Nat} {xs : List X} (hx : allps (fun id _ => IdIn A fr U id) xs) (ho : ∀ o ∈ offL fr xs, has m o) (hf : xs.all X.flat = true) : allps (fun id _ => IdIn A fr (fun k => k < m.length) id) (xs.map (X.renC (kid fr m))) := by
  rw [allps_iff] at hx ⊢
  intro y hy
  obtain ⟨x, h1, rfl⟩ := List.mem_map.1 hy
  exact renC_allp (hx x h1) (fun o h2 => ho o (offL_mem h1 o h2)) (List.all_eq_true.1 hf x h1)
theorem ren_allp {A : Id → Prop} {fr : Nat} {x : X} (hx : x.allp (fun id _ => IdIn A fr U id)) (ho : ∀ o ∈ x.offs fr, has m o) (hf : x.keeps = true) : (x.ren (kid fr m)).allp (fun id _ => IdIn A fr (fun k => k < m.length) id) := by
  cases x with
  | agg cs =>
    simp only [X.ren, X.allp, X.offs, X.keeps] at hx ho hf ⊢
    exact ren_allps hx ho hf
  | tup cs => simp [X.keeps] at hf
  | clo f cs =>
    simp only [X.ren, X.allp, X.offs, X.keeps] at hx ho hf ⊢
    exact ren_allps hx ho hf
  | d d => exact renC_allp hx ho rfl
  | ref id p => exact renC_allp hx ho rfl
  | ptr id q j i => exact renC_allp hx ho rfl
  | rop cs => exact renC_allp hx ho rfl
  | vp cs =>
    simp only [X.ren, X.allp, X.offs, X.keeps] at hx ho hf ⊢
    exact ren_allps hx ho hf

theorem keepE_some (st : St) (m : List (Nat × Nat)) : ∀ {L : List Nat} {t : Nat} {y : X}, keepE st m L t = some y → ∃ x, t ∈ L ∧ st.env t = some x ∧ x.keeps = true ∧ y = x.ren (kid st.fr m)
  | [], t, y, h => by simp [keepE, emp] at h
  | s :: L, t, y, h => by
    simp only [keepE] at h
    cases hx : st.env s with
    | none =>
      rw [hx] at h
      obtain ⟨x', h1, h2⟩ := keepE_some st m h
      exact ⟨x', List.mem_cons_of_mem _ h1, h2⟩
    | some x =>
      rw [hx] at h
      simp only at h
      by_cases hk : x.keeps = true
      · rw [if_pos hk] at h
        simp only [upd] at h
        split at h
        · rename_i e
          subst e
          simp only [Option.some.injEq] at h
          exact ⟨x, by simp, hx, hk, h.symm⟩
        · obtain ⟨x', h1, h2⟩ := keepE_some st m h
          exact ⟨x', List.mem_cons_of_mem _ h1, h2⟩
      · rw [if_neg hk] at h
        obtain ⟨x', h1, h2⟩ := keepE_some st m h
        exact ⟨x', List.mem_cons_of_mem _ h1, h2⟩
theorem keepH_some {fr : Nat} {h : Heap} : ∀ {m : List (Nat × Nat)} {id : Id} {d : D}, keepH fr h m id = some d → (id.1 ≠ fr ∧ h id = some d) ∨ (id.1 = fr ∧ ∃ a ∈ m, a.2 = id.2 ∧ h (fr, a.1) = some d)
  | [], id, d, hd => by
    simp only [keepH, dropF] at hd
    split at hd
    · simp at hd
    · exact .inl ⟨‹_›, hd⟩
  | (o, n) :: m, id, d, hd => by
    simp only [keepH, upd] at hd
    split at hd
    · rename_i e
      subst e
      exact .inr ⟨rfl, (o, n), by simp, rfl, hd⟩
    · rcases keepH_some hd with h1 | ⟨h1, b, h2, h3⟩
      · exact .inl h1
      · exact .inr ⟨h1, b, List.mem_cons_of_mem _ h2, h3⟩

theorem keepS_ok (L : List Nat) (R : Rep c st U γ S a w) : Ok c (keepS L st) (fun k => k < (keepS L st).next) a w := by
  obtain ⟨hm, _, h3⟩ := keepM_ok st L (m := []) ⟨fun k a h => by simp at h, by simp⟩
  have hf : (keepS L st).fr = st.fr := rfl
  have hh : ∀ id d, (keepS L st).heap id = some d → ∃ o, was st.fr (keepM st [] L) id = some o ∧ st.heap o = some d := fun id d hd => by
    simp only [keepS] at hd
    rcases keepH_some hd with ⟨h1, h2⟩ | ⟨h1, b, h2, h4, h5⟩
    · exact ⟨id, by simp only [was, if_neg h1], h2⟩
    · obtain ⟨k, hk⟩ := List.mem_iff_getElem?.1 h2
      have hb := hm.ix k b hk
      refine ⟨(st.fr, b.1), ?_, h5⟩
      have hk2 : (keepM st [] L)[id.2]? = some b := by rw [← h4, hb]; exact hk
      simp only [was, if_pos h1, hk2, Option.map_some]
  have hlow : ∀ id : Id, id.1 < st.fr → (γ.was st.fr (keepM st [] L)) (.inl id) = γ (.inl id) := fun id hid => by
    have : ¬ id.1 = st.fr := by omega
    simp only [Gm.was, was, if_neg this, Option.bind_some]
  refine ⟨γ.was st.fr (keepM st [] L), S, was_mm hm R.mm hh, R.os, R.tape, R.output, R.size, R.keep, fun k ⟨i, g, h1, h2⟩ => ?_, fun id hid => (R.hd id hid).trans (Same.of_eq (hlow id hid) []), R.sg, R.s0, R.s00, fun t x hx => ?_, fun t x hx => ?_, fun id d hd => ?_, fun id hid h0 => ?_, R.df, R.sz⟩
  · obtain ⟨j, hj, _⟩ := Gm.was_some h1
    exact R.own k ⟨j, g, hj, h2⟩
  · obtain ⟨y, h1, h2, h4, rfl⟩ := keepE_some st _ hx
    exact ren_vr (R.env t y h2) (h3 t h1 y h2 h4) h4
  · obtain ⟨y, h1, h2, h4, rfl⟩ := keepE_some st _ hx
    exact ren_allp (R.ids t y h2) (h3 t h1 y h2 h4) h4
  · simp only [keepS] at hd
    rcases keepH_some hd with ⟨h1, h2⟩ | ⟨h1, b, h2, h4, h5⟩
    · rcases R.hid id d h2 with h6 | h6
      · exact .inl h6
      · exact absurd h6.1 h1
    · obtain ⟨k, hk⟩ := List.mem_iff_getElem?.1 h2
      have hb := hm.ix k b hk
      refine .inr ⟨h1, ?_⟩
      have := (List.getElem?_eq_some_iff.1 hk).1
      simp only [keepS]
      omega
  · have hid' : id.1 < st.fr := hid
    cases hd : (keepS L st).heap id with
    | none => rfl
    | some d =>
      simp only [keepS] at hd
      rcases keepH_some hd with ⟨h1, h2⟩ | ⟨h1, _⟩
      · rw [R.dom id hid h0] at h2; simp at h2
      · omega
end
end Go.Ev
