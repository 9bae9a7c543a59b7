/- The evaluator's limit over all rounds, and its equations: more rounds tell the same. -/
import Derived.Test.YtcoigakalblkgaaEvDef
set_option linter.all false
namespace Go.Ev

def Cl.le (C C' : Cl) : Prop := ∀ f a h fr r, C f a h fr = some r → C' f a h fr = some r

theorem bind_some_iff {α β : Type} {x : Option α} {f : α → Option β} {b : β} : x.bind f = some b ↔ ∃ a, x = some a ∧ f a = some b := by cases x <;> simp
theorem map_some_iff {α β : Type} {x : Option α} {f : α → β} {b : β} : x.map f = some b ↔ ∃ a, x = some a ∧ f a = b := by cases x <;> simp

theorem iso_some {C : Cl} {f : Nat} {a : List X} {r : X} : C.iso f a = some r ↔ ∃ h, C f a emp 0 = some (r, h) := by
  unfold Cl.iso
  rw [map_some_iff]
  constructor
  · rintro ⟨⟨x, h⟩, h1, h2⟩
    simp only at h2
    subst h2
    exact ⟨h, h1⟩
  · rintro ⟨h, h1⟩
    exact ⟨(r, h), h1, rfl⟩
theorem iso_mono {C C' : Cl} (h : C.le C') {f : Nat} {a : List X} {r : X} (hr : C.iso f a = some r) : C'.iso f a = some r := by
  obtain ⟨m, h1⟩ := iso_some.1 hr
  exact iso_some.2 ⟨m, h _ _ _ _ _ h1⟩

theorem opS_mono {C C' : Cl} (h : C.le C') {st : St} {d : Option Nat} {id : Nat} {o : SOp} {s : St} (hs : opS C st d id o = some s) : opS C' st d id o = some s := by
  cases o with
  | call f xs =>
    simp only [opS, bind_some_iff] at hs ⊢
    obtain ⟨as, h1, bs, h2, r, h3, h4⟩ := hs
    exact ⟨as, h1, bs, h2, r, iso_mono h h3, h4⟩
  | callr f xs =>
    simp only [opS, bind_some_iff] at hs ⊢
    obtain ⟨as, h1, bs, h2, r, h3, h4⟩ := hs
    exact ⟨as, h1, bs, h2, r, iso_mono h h3, h4⟩
  | calli f xs =>
    simp only [opS, bind_some_iff] at hs ⊢
    obtain ⟨c, h0, g, h1, as, h2, r, h3, h4⟩ := hs
    exact ⟨c, h0, g, h1, as, h2, r, h _ _ _ _ _ h3, h4⟩
  | callb f xs bs =>
    simp only [opS, bind_some_iff] at hs ⊢
    obtain ⟨as, h1, m, h2, ys, h3, r, h4, h5⟩ := hs
    exact ⟨as, h1, m, h2, ys, h3, r, h _ _ _ _ _ h4, h5⟩
  | _ => exact hs

theorem itS_mono {C C' : Cl} (h : C.le C') {st : St} {id : Nat} {it : SItem} {s : St} (hs : itS C st id it = some s) : itS C' st id it = some s := by
  unfold itS at hs ⊢
  split at hs
  · exact opS_mono h hs
  · rename_i s' b _
    simp only [bind_some_iff] at hs ⊢
    obtain ⟨c, h1, h2⟩ := hs
    refine ⟨c, h1, ?_⟩
    split at h2
    · rw [if_pos ‹_›]; exact opS_mono h h2
    · rw [if_neg ‹_›]; exact h2

theorem opsS_mono {C C' : Cl} (h : C.le C') : ∀ {l : List SItem} {i : Nat} {st s : St}, opsS C st i l = some s → opsS C' st i l = some s
  | [], _, _, _, hs => hs
  | it :: l, i, st, s, hs => by
    simp only [opsS, bind_some_iff] at hs ⊢
    obtain ⟨s', h1, h2⟩ := hs
    exact ⟨s', itS_mono h h1, opsS_mono h h2⟩

theorem reS_mono {C C' : Cl} (h : C.le C') {st : St} : ∀ {l : List SItem}, reS C st l = some () → reS C' st l = some ()
  | [], hs => hs
  | x :: l, hs => by
    simp only [reS, bind_some_iff] at hs ⊢
    obtain ⟨u, ⟨s2, h1, h2⟩, h3⟩ := hs
    exact ⟨u, ⟨s2, itS_mono h h1, h2⟩, reS_mono h h3⟩
theorem opsD_mono {C C' : Cl} (h : C.le C') {b : Nat} : ∀ {l : List DItem} {st s : St}, opsD C b l st = some s → opsD C' b l st = some s
  | [], _, _, hs => hs
  | y :: l, st, s, hs => by
    simp only [opsD, bind_some_iff] at hs ⊢
    obtain ⟨s', h1, u, h2, h3⟩ := hs
    exact ⟨s', itS_mono h h1, u, reS_mono h h2, opsD_mono h h3⟩
theorem ev_mono_aux (Φ : Nat → Option SFn) : ∀ k, (∀ c st r, ev Φ k c st = some r → ev Φ (k + 1) c st = some r) ∧ (evC Φ k).le (evC Φ (k + 1)) := by
  intro k
  induction k with
  | zero => exact ⟨fun c st r h => by simp [ev] at h, fun f a h fr r hr => by simp [evC] at hr⟩
  | succ k ih =>
    obtain ⟨ih1, ih2⟩ := ih
    refine ⟨fun c st r h => ?_, fun f a h fr r hr => ?_⟩
    · cases c with
      | skip => simpa [ev] using h
      | ops l =>
        simp only [ev, map_some_iff] at h ⊢
        obtain ⟨s, h1, h2⟩ := h
        exact ⟨s, opsS_mono ih2 h1, h2⟩
      | opsd l =>
        simp only [ev, map_some_iff] at h ⊢
        obtain ⟨s, h1, h2⟩ := h
        exact ⟨s, opsD_mono ih2 h1, h2⟩
      | clone sz l =>
        simp only [ev, bind_some_iff] at h ⊢
        obtain ⟨x, h1, els, h2, s, h3, h4⟩ := h
        exact ⟨x, h1, els, h2, s, opsS_mono ih2 h3, h4⟩
      | seq a b =>
        rw [ev] at h ⊢
        simp only [bind_some_iff] at h ⊢
        obtain ⟨s, h1, h2⟩ := h
        refine ⟨s, ih1 _ _ _ h1, ?_⟩
        revert h2
        cases s.1 <;> intro h2
        · exact ih1 _ _ _ h2
        · exact h2
        · exact h2
      | cond o a b =>
        rw [ev] at h ⊢
        simp only [bind_some_iff] at h ⊢
        obtain ⟨t, h1, h2⟩ := h
        refine ⟨t, h1, ?_⟩
        split at h2
        · rw [if_pos ‹_›]; exact ih1 _ _ _ h2
        · rw [if_neg ‹_›]; exact ih1 _ _ _ h2
      | block id a =>
        rw [ev] at h ⊢
        simp only [map_some_iff] at h ⊢
        obtain ⟨s, h1, h2⟩ := h
        exact ⟨s, ih1 _ _ _ h1, h2⟩
      | loop L a =>
        rw [ev] at h ⊢
        simp only [bind_some_iff] at h ⊢
        obtain ⟨s, h1, h2⟩ := h
        refine ⟨s, ih1 _ _ _ h1, ?_⟩
        revert h2
        cases s.1 <;> intro h2
        · exact ih1 _ _ _ h2
        · exact h2
        · exact h2
      | exit id => simpa [ev] using h
      | ret => simpa [ev] using h
      | keep L => simpa [ev] using h
      | stuck => simp [ev] at h
    · rw [evC] at hr ⊢
      simp only [bind_some_iff] at hr ⊢
      obtain ⟨fn, h1, h2⟩ := hr
      refine ⟨fn, h1, ?_⟩
      split at h2
      · rw [if_pos ‹_›]
        simp only [bind_some_iff] at h2 ⊢
        obtain ⟨s, h3, h4⟩ := h2
        exact ⟨s, ih1 _ _ _ h3, h4⟩
      · simp at h2

theorem ev_le (Φ : Nat → Option SFn) {k k' : Nat} (h : k ≤ k') {c : SCode} {st : St} {r : Ex × St} (hr : ev Φ k c st = some r) : ev Φ k' c st = some r := by
  induction h with
  | refl => exact hr
  | step _ ih => exact (ev_mono_aux Φ _).1 _ _ _ ih
theorem evC_le (Φ : Nat → Option SFn) {k k' : Nat} (h : k ≤ k') : (evC Φ k).le (evC Φ k') := by
  induction h with
  | refl => exact fun _ _ _ _ _ hr => hr
  | step _ ih => exact fun f a h fr r hr => (ev_mono_aux Φ _).2 _ _ _ _ _ (ih f a h fr r hr)

/-! ### The limit -/
open Classical in
noncomputable def lim {α : Type} (F : Nat → Option α) : Option α := if h : ∃ k r, F k = some r then some (Classical.choose (Classical.choose_spec h)) else none
theorem lim_iff {α : Type} {F : Nat → Option α} (hm : ∀ k k' r, k ≤ k' → F k = some r → F k' = some r) {r : α} : lim F = some r ↔ ∃ k, F k = some r := by
  unfold lim
  constructor
  · intro h
    split at h
    · rename_i hx
      simp only [Option.some.injEq] at h
      exact ⟨_, h ▸ Classical.choose_spec (Classical.choose_spec hx)⟩
    · simp at h
  · rintro ⟨k, hk⟩
    have hx : ∃ k r, F k = some r := ⟨k, r, hk⟩
    rw [dif_pos hx]
    have h1 := Classical.choose_spec (Classical.choose_spec hx)
    have h2 := hm _ _ _ (Nat.le_max_left _ k) h1
    have h3 := hm _ _ _ (Nat.le_max_right (Classical.choose hx) _) hk
    rw [← h2, h3]

section
variable (Φ : Nat → Option SFn)
noncomputable def evW (c : SCode) (st : St) : Option (Ex × St) := lim fun k => ev Φ k c st
noncomputable def evCW : Cl := fun f a h fr => lim fun k => evC Φ k f a h fr
variable {Φ}
theorem evW_iff {c : SCode} {st : St} {r : Ex × St} : evW Φ c st = some r ↔ ∃ k, ev Φ k c st = some r := lim_iff fun _ _ _ h hr => ev_le Φ h hr
theorem evCW_iff {f : Nat} {a : List X} {h : Heap} {fr : Nat} {r : X × Heap} : evCW Φ f a h fr = some r ↔ ∃ k, evC Φ k f a h fr = some r := lim_iff fun _ _ _ h hr => evC_le Φ h _ _ _ _ _ hr
theorem evC_leW (k : Nat) : (evC Φ k).le (evCW Φ) := fun _ _ _ _ _ hr => evCW_iff.2 ⟨k, hr⟩

theorem opS_lim {st : St} {d : Option Nat} {id : Nat} {o : SOp} {s : St} (hs : opS (evCW Φ) st d id o = some s) : ∃ k, opS (evC Φ k) st d id o = some s := by
  cases o with
  | call f xs =>
    simp only [opS, bind_some_iff] at hs ⊢
    obtain ⟨as, h1, bs, h2, r, h3, h4⟩ := hs
    obtain ⟨m, h3⟩ := iso_some.1 h3
    obtain ⟨k, hk⟩ := evCW_iff.1 h3
    exact ⟨k, as, h1, bs, h2, r, iso_some.2 ⟨m, hk⟩, h4⟩
  | callr f xs =>
    simp only [opS, bind_some_iff] at hs ⊢
    obtain ⟨as, h1, bs, h2, r, h3, h4⟩ := hs
    obtain ⟨m, h3⟩ := iso_some.1 h3
    obtain ⟨k, hk⟩ := evCW_iff.1 h3
    exact ⟨k, as, h1, bs, h2, r, iso_some.2 ⟨m, hk⟩, h4⟩
  | calli f xs =>
    simp only [opS, bind_some_iff] at hs ⊢
    obtain ⟨c, h0, g, h1, as, h2, r, h3, h4⟩ := hs
    obtain ⟨k, hk⟩ := evCW_iff.1 h3
    exact ⟨k, c, h0, g, h1, as, h2, r, hk, h4⟩
  | callb f xs bs =>
    simp only [opS, bind_some_iff] at hs ⊢
    obtain ⟨as, h1, m, h2, ys, h3, r, h4, h5⟩ := hs
    obtain ⟨k, hk⟩ := evCW_iff.1 h4
    exact ⟨k, as, h1, m, h2, ys, h3, r, hk, h5⟩
  | _ => exact ⟨0, hs⟩
theorem itS_lim {st : St} {id : Nat} {it : SItem} {s : St} (hs : itS (evCW Φ) st id it = some s) : ∃ k, itS (evC Φ k) st id it = some s := by
  unfold itS at hs ⊢
  split at hs
  · exact opS_lim hs
  · simp only [bind_some_iff] at hs ⊢
    obtain ⟨c, h1, h2⟩ := hs
    split at h2
    · obtain ⟨k, hk⟩ := opS_lim h2
      exact ⟨k, c, h1, by rw [if_pos ‹_›]; exact hk⟩
    · exact ⟨0, c, h1, by rw [if_neg ‹_›]; exact h2⟩
theorem opsS_lim : ∀ {l : List SItem} {i : Nat} {st s : St}, opsS (evCW Φ) st i l = some s → ∃ k, opsS (evC Φ k) st i l = some s
  | [], _, _, _, hs => ⟨0, hs⟩
  | it :: l, i, st, s, hs => by
    simp only [opsS, bind_some_iff] at hs ⊢
    obtain ⟨s', h1, h2⟩ := hs
    obtain ⟨k1, hk1⟩ := itS_lim h1
    obtain ⟨k2, hk2⟩ := opsS_lim h2
    exact ⟨max k1 k2, s', itS_mono (evC_le Φ (Nat.le_max_left ..)) hk1, opsS_mono (evC_le Φ (Nat.le_max_right ..)) hk2⟩

theorem reS_lim {st : St} : ∀ {l : List SItem}, reS (evCW Φ) st l = some () → ∃ k, reS (evC Φ k) st l = some ()
  | [], hs => ⟨0, hs⟩
  | x :: l, hs => by
    simp only [reS, bind_some_iff] at hs ⊢
    obtain ⟨u, ⟨s2, h1, h2⟩, h3⟩ := hs
    obtain ⟨k1, hk1⟩ := itS_lim h1
    obtain ⟨k2, hk2⟩ := reS_lim h3
    exact ⟨max k1 k2, u, ⟨s2, itS_mono (evC_le Φ (Nat.le_max_left ..)) hk1, h2⟩, reS_mono (evC_le Φ (Nat.le_max_right ..)) hk2⟩
theorem opsD_lim {b : Nat} : ∀ {l : List DItem} {st s : St}, opsD (evCW Φ) b l st = some s → ∃ k, opsD (evC Φ k) b l st = some s
  | [], _, _, hs => ⟨0, hs⟩
  | y :: l, st, s, hs => by
    simp only [opsD, bind_some_iff] at hs ⊢
    obtain ⟨s', h1, u, h2, h3⟩ := hs
    obtain ⟨k1, hk1⟩ := itS_lim h1
    obtain ⟨k2, hk2⟩ := reS_lim h2
    obtain ⟨k3, hk3⟩ := opsD_lim h3
    have h13 : k1 ≤ max k1 (max k2 k3) := Nat.le_max_left ..
    have h23 : k2 ≤ max k1 (max k2 k3) := Nat.le_trans (Nat.le_max_left ..) (Nat.le_max_right ..)
    have h33 : k3 ≤ max k1 (max k2 k3) := Nat.le_trans (Nat.le_max_right ..) (Nat.le_max_right ..)
    exact ⟨max k1 (max k2 k3), s', itS_mono (evC_le Φ h13) hk1, u, reS_mono (evC_le Φ h23) hk2, opsD_mono (evC_le Φ h33) hk3⟩

theorem opt_ext {α : Type} {x y : Option α} (h : ∀ a, x = some a ↔ y = some a) : x = y := by
  cases x with
  | none => cases y with
    | none => rfl
    | some b => exact absurd ((h b).2 rfl) (by simp)
  | some a => exact ((h a).1 rfl).symm

theorem evW_skip (st : St) : evW Φ .skip st = some (.nor, st) := evW_iff.2 ⟨1, rfl⟩
theorem evW_exit (id : Nat) (st : St) : evW Φ (.exit id) st = some (.ext id, st) := evW_iff.2 ⟨1, rfl⟩
theorem evW_ret (st : St) : evW Φ .ret st = some (.ret, st) := evW_iff.2 ⟨1, rfl⟩
theorem evW_keep (L : List Nat) (st : St) : evW Φ (.keep L) st = some (.nor, keepS L st) := evW_iff.2 ⟨1, rfl⟩
theorem evW_stuck (st : St) : evW Φ .stuck st = none := by
  cases h : evW Φ .stuck st with
  | none => rfl
  | some r =>
    obtain ⟨k, hk⟩ := evW_iff.1 h
    cases k <;> simp [ev] at hk
theorem evW_ops (l : List SItem) (st : St) : evW Φ (.ops l) st = (opsS (evCW Φ) st 0 l).map fun s => (.nor, s) := by
  apply opt_ext
  intro a
  rw [evW_iff, map_some_iff]
  constructor
  · rintro ⟨k, hk⟩
    cases k with
    | zero => simp [ev] at hk
    | succ k =>
      simp only [ev, map_some_iff] at hk
      obtain ⟨s, h1, h2⟩ := hk
      exact ⟨s, opsS_mono (evC_leW k) h1, h2⟩
  · rintro ⟨s, h1, h2⟩
    obtain ⟨k, hk⟩ := opsS_lim h1
    exact ⟨k + 1, by simp only [ev, map_some_iff]; exact ⟨s, hk, h2⟩⟩
theorem evW_opsd (l : List DItem) (st : St) : evW Φ (.opsd l) st = (opsD (evCW Φ) st.next l st).map fun s => (.nor, { s with next := st.next + 32 * l.length }) := by
  apply opt_ext
  intro a
  rw [evW_iff, map_some_iff]
  constructor
  · rintro ⟨k, hk⟩
    cases k with
    | zero => simp [ev] at hk
    | succ k =>
      simp only [ev, map_some_iff] at hk
      obtain ⟨s, h1, h2⟩ := hk
      exact ⟨s, opsD_mono (evC_leW k) h1, h2⟩
  · rintro ⟨s, h1, h2⟩
    obtain ⟨k, hk⟩ := opsD_lim h1
    exact ⟨k + 1, by simp only [ev, map_some_iff]; exact ⟨s, hk, h2⟩⟩
theorem evW_clone (sz : Nat) (l : List SItem) (st : St) : evW Φ (.clone sz l) st = (st.env 0).bind fun x => (x.elsOf).bind fun els => (opsS (evCW Φ) (cloneS st x) 0 l).bind (cloneF st sz els) := by
  apply opt_ext
  intro a
  rw [evW_iff]
  simp only [bind_some_iff]
  constructor
  · rintro ⟨k, hk⟩
    cases k with
    | zero => simp [ev] at hk
    | succ k =>
      simp only [ev, bind_some_iff] at hk
      obtain ⟨x, h1, els, h2, s, h3, h4⟩ := hk
      exact ⟨x, h1, els, h2, s, opsS_mono (evC_leW k) h3, h4⟩
  · rintro ⟨x, h1, els, h2, s, h3, h4⟩
    obtain ⟨k, hk⟩ := opsS_lim h3
    exact ⟨k + 1, by simp only [ev, bind_some_iff]; exact ⟨x, h1, els, h2, s, hk, h4⟩⟩
/-- What follows, where nothing has ended the way. -/
noncomputable def next (Φ : Nat → Option SFn) (b : SCode) : Ex × St → Option (Ex × St)
  | (.nor, s) => evW Φ b s
  | (.ext id, s) => some (.ext id, s)
  | (.ret, s) => some (.ret, s)
theorem evW_seq (a b : SCode) (st : St) : evW Φ (.seq a b) st = (evW Φ a st).bind (next Φ b) := by
  apply opt_ext
  intro r
  rw [evW_iff, bind_some_iff]
  constructor
  · rintro ⟨k, hk⟩
    cases k with
    | zero => simp [ev] at hk
    | succ k =>
      rw [ev, bind_some_iff] at hk
      obtain ⟨⟨x, s⟩, h1, h2⟩ := hk
      refine ⟨(x, s), evW_iff.2 ⟨k, h1⟩, ?_⟩
      cases x
      · exact evW_iff.2 ⟨k, h2⟩
      · exact h2
      · exact h2
  · rintro ⟨⟨x, s⟩, h1, h2⟩
    obtain ⟨k1, hk1⟩ := evW_iff.1 h1
    cases x
    · obtain ⟨k2, hk2⟩ := evW_iff.1 h2
      refine ⟨max k1 k2 + 1, ?_⟩
      rw [ev, bind_some_iff]
      exact ⟨_, ev_le Φ (Nat.le_max_left ..) hk1, ev_le Φ (Nat.le_max_right ..) hk2⟩
    · exact ⟨k1 + 1, by rw [ev, bind_some_iff]; exact ⟨_, hk1, h2⟩⟩
    · exact ⟨k1 + 1, by rw [ev, bind_some_iff]; exact ⟨_, hk1, h2⟩⟩
theorem evW_cond (o : O) (a b : SCode) (st : St) : evW Φ (.cond o a b) st = (rdB st o).bind fun t => if t = true then evW Φ a st else evW Φ b st := by
  apply opt_ext
  intro r
  rw [evW_iff, bind_some_iff]
  constructor
  · rintro ⟨k, hk⟩
    cases k with
    | zero => simp [ev] at hk
    | succ k =>
      rw [ev, bind_some_iff] at hk
      obtain ⟨t, h1, h2⟩ := hk
      refine ⟨t, h1, ?_⟩
      split at h2
      · rw [if_pos ‹_›]; exact evW_iff.2 ⟨k, h2⟩
      · rw [if_neg ‹_›]; exact evW_iff.2 ⟨k, h2⟩
  · rintro ⟨t, h1, h2⟩
    split at h2
    · obtain ⟨k, hk⟩ := evW_iff.1 h2
      exact ⟨k + 1, by rw [ev, bind_some_iff]; exact ⟨t, h1, by rw [if_pos ‹_›]; exact hk⟩⟩
    · obtain ⟨k, hk⟩ := evW_iff.1 h2
      exact ⟨k + 1, by rw [ev, bind_some_iff]; exact ⟨t, h1, by rw [if_neg ‹_›]; exact hk⟩⟩
def outOf (id : Nat) (r : Ex × St) : Ex × St := (if r.1 = .ext id then .nor else r.1, r.2)
theorem evW_block (id : Nat) (a : SCode) (st : St) : evW Φ (.block id a) st = (evW Φ a st).map (outOf id) := by
  apply opt_ext
  intro r
  rw [evW_iff, map_some_iff]
  constructor
  · rintro ⟨k, hk⟩
    cases k with
    | zero => simp [ev] at hk
    | succ k =>
      rw [ev, map_some_iff] at hk
      obtain ⟨s, h1, h2⟩ := hk
      exact ⟨s, evW_iff.2 ⟨k, h1⟩, h2⟩
  · rintro ⟨s, h1, h2⟩
    obtain ⟨k, hk⟩ := evW_iff.1 h1
    exact ⟨k + 1, by rw [ev, map_some_iff]; exact ⟨s, hk, h2⟩⟩
/-- One round from a head. -/
noncomputable def loopW (Φ : Nat → Option SFn) (L : List Nat) (a : SCode) (st : St) : Option (Ex × St) := (evW Φ a st).bind (next Φ (.loop L a))
theorem evW_loop (L : List Nat) (a : SCode) (st : St) : evW Φ (.loop L a) st = loopW Φ L a (keepS L st) := by
  unfold loopW
  apply opt_ext
  intro r
  rw [evW_iff, bind_some_iff]
  constructor
  · rintro ⟨k, hk⟩
    cases k with
    | zero => simp [ev] at hk
    | succ k =>
      rw [ev, bind_some_iff] at hk
      obtain ⟨⟨x, s⟩, h1, h2⟩ := hk
      refine ⟨(x, s), evW_iff.2 ⟨k, h1⟩, ?_⟩
      cases x
      · exact evW_iff.2 ⟨k, h2⟩
      · exact h2
      · exact h2
  · rintro ⟨⟨x, s⟩, h1, h2⟩
    obtain ⟨k1, hk1⟩ := evW_iff.1 h1
    cases x
    · obtain ⟨k2, hk2⟩ := evW_iff.1 h2
      refine ⟨max k1 k2 + 1, ?_⟩
      rw [ev, bind_some_iff]
      exact ⟨_, ev_le Φ (Nat.le_max_left ..) hk1, ev_le Φ (Nat.le_max_right ..) hk2⟩
    · exact ⟨k1 + 1, by rw [ev, bind_some_iff]; exact ⟨_, hk1, h2⟩⟩
    · exact ⟨k1 + 1, by rw [ev, bind_some_iff]; exact ⟨_, hk1, h2⟩⟩
/-- What a function hands back out of its last state. -/
def back (fn : SFn) (fr : Nat) : Ex × St → Option (X × Heap)
  | (.ext _, _) => none
  | (.nor, s) => (rdRes s fn.res).bind fun xs => (fins fr s.heap xs).map fun b => (packed b.1, dropF fr b.2)
  | (.ret, s) => (rdRes s fn.res).bind fun xs => (fins fr s.heap xs).map fun b => (packed b.1, dropF fr b.2)
theorem evCW_eq (f : Nat) (args : List X) (h : Heap) (fr : Nat) : evCW Φ f args h fr = (Φ f).bind fun fn => if args.length = fn.np then
    (evW Φ fn.code { env := initE 0 args, heap := h, fr := fr, next := 0 }).bind (back fn fr) else none := by
  apply opt_ext
  intro r
  rw [evCW_iff, bind_some_iff]
  constructor
  · rintro ⟨k, hk⟩
    cases k with
    | zero => simp [evC] at hk
    | succ k =>
      rw [evC, bind_some_iff] at hk
      obtain ⟨fn, h1, h2⟩ := hk
      refine ⟨fn, h1, ?_⟩
      split at h2
      · rw [if_pos ‹_›]
        rw [bind_some_iff] at h2 ⊢
        obtain ⟨⟨x, s⟩, h3, h4⟩ := h2
        refine ⟨_, evW_iff.2 ⟨k, h3⟩, ?_⟩
        cases x <;> exact h4
      · simp at h2
  · rintro ⟨fn, h1, h2⟩
    split at h2
    · rw [bind_some_iff] at h2
      obtain ⟨⟨x, s⟩, h3, h4⟩ := h2
      obtain ⟨k, hk⟩ := evW_iff.1 h3
      refine ⟨k + 1, ?_⟩
      rw [evC, bind_some_iff]
      refine ⟨fn, h1, ?_⟩
      rw [if_pos ‹_›, bind_some_iff]
      refine ⟨_, hk, ?_⟩
      cases x <;> exact h4
    · simp at h2

/-- A call that only reads what it is handed. -/
noncomputable def call (Φ : Nat → Option SFn) (f : Nat) (args : List X) : Option X := (evCW Φ f args emp 0).map fun r => r.1
theorem iso_call {Φ : Nat → Option SFn} {f : Nat} {args : List X} : (evCW Φ).iso f args = call Φ f args := rfl
end
end Go.Ev
