/- Calls: what is handed over and back; what a call leaves. -/
import Derived.Test.YtcoigakalblkgaaEvOps6
set_option linter.all false
namespace Go.Ev
open Go.RowKit

/-! ### Rows of the call's own, as memory that is only read -/
mutual
theorem own_rd {w : World} {S S' : Nat → Prop} (hS : ∀ k, S k → S' k) : ∀ (g : G), g.ok w S → (∀ k ∈ g.bl, S' k) → g.er.rd w S' g.val
  | .l d v, h, _ => by
    simp only [G.ok] at h
    simp only [G.er, G.val]
    exact D.rd_congr (fun k hk => ⟨hS k hk, rfl⟩) d v h.2
  | .s sz none els, h, _ => by
    simp only [G.ok] at h
    simp only [G.er, G.val, h.1, erss, D.rd]
    exact ⟨none, 0, rfl, by simp, by simp, ⟨sz, by simp⟩, by simp [rdss]⟩
  | .s sz (some b) els, h, hb => by
    have h0 := h
    simp only [G.ok] at h
    obtain ⟨⟨h1, h2, cur, e, h3, h4, h5⟩, h6, h7⟩ := h
    simp only [G.er, G.val, D.rd]
    simp only [G.bl, List.singleton_append, List.mem_cons] at hb
    refine ⟨some ⟨b.1, 0, none⟩, b.2, by rw [erss_length], by rw [erss_length]; exact h1, h2, ⟨sz, fun el hel => ?_⟩, own_rdss hS els b.1 0 (fun j u hj => ?_) h7 (fun k hk => hb k (.inr hk)) (hb b.1 (.inl rfl))⟩
    · rw [erss_map] at hel
      obtain ⟨gs, hgs, rfl⟩ := List.mem_map.1 hel
      simpa using h6 gs hgs
    · rw [← h5, List.getElem?_take] at hj
      split at hj
      · rw [cell_of_row w b.1 _ cur e (0, 0) h3]
        simpa using hj
      · simp at hj
theorem own_rdss {w : World} {S S' : Nat → Prop} (hS : ∀ k, S k → S' k) : ∀ (els : List (List G)) (b off : Nat), (∀ (j : Nat) (u : Value), (valss els)[j]? = some u → w.cell? ⟨b, off + j, none⟩ = some u) → okss w S els → (∀ k ∈ blss els, S' k) → S' b → rdss w S' (some ⟨b, 0, none⟩) off (erss els)
  | [], b, off, _, _, _, _ => by simp [erss, rdss]
  | el :: els, b, off, hc, hok, hb, hS'b => by
    simp only [okss] at hok
    simp only [blss, List.mem_append] at hb
    simp only [erss, rdss]
    refine ⟨⟨_, rfl, own_rds hS el b off (fun j u hj => hc j u (by simp only [valss]; rw [List.getElem?_append_left (List.getElem?_eq_some_iff.1 hj).1]; exact hj)) hok.1 (fun k hk => hb k (.inl hk)) hS'b⟩, ?_⟩
    rw [ers_length]
    refine own_rdss hS els b _ (fun j u hj => ?_) hok.2 (fun k hk => hb k (.inr hk)) hS'b
    have := hc (el.length + j) u (by simp only [valss]; rw [List.getElem?_append_right (by rw [vals_length]; omega), vals_length]; simpa using hj)
    rwa [show off + el.length + j = off + (el.length + j) by omega]
theorem own_rds {w : World} {S S' : Nat → Prop} (hS : ∀ k, S k → S' k) : ∀ (gs : List G) (b off : Nat), (∀ (j : Nat) (u : Value), (vals gs)[j]? = some u → w.cell? ⟨b, off + j, none⟩ = some u) → oks w S gs → (∀ k ∈ bls gs, S' k) → S' b → rds w S' ⟨b, 0, none⟩ off (ers gs)
  | [], b, off, _, _, _, _ => by simp [ers, rds]
  | g :: gs, b, off, hc, hok, hb, hS'b => by
    simp only [oks] at hok
    simp only [bls, List.mem_append] at hb
    simp only [ers, rds]
    refine ⟨⟨g.val, ?_, hS'b, own_rd hS g hok.1 (fun k hk => hb k (.inl hk))⟩, own_rds hS gs b (off + 1) (fun j u hj => ?_) hok.2 (fun k hk => hb k (.inr hk)) hS'b⟩
    · rw [Addr.add_lit]
      simpa using hc 0 g.val rfl
    · have := hc (j + 1) u (by simpa [vals] using hj)
      rwa [show off + 1 + j = off + (j + 1) by omega]
end
theorem rd_r {w : World} {S : Nat → Prop} {sz : Nat} {els : List (List D)} {v : Value} : D.rd w S (.s sz els) v ↔ D.rd w S (.r els) v := by simp only [D.rd]

/-! ### What is handed over -/
theorem fzs_len : ∀ els : List (List D), (fzs els).length = els.length
  | [] => by simp [fzs]
  | el :: els => by simp [fzs, fzs_len els]
theorem fzl_len : ∀ ds : List D, (fzl ds).length = ds.length
  | [] => by simp [fzl]
  | d :: ds => by simp [fzl, fzl_len ds]
theorem fzs_sz {sz : Nat} : ∀ {els : List (List D)}, (∀ el ∈ els, el.length = sz) → ∀ el ∈ fzs els, el.length = sz
  | [], _, el, h => by simp [fzs] at h
  | e :: els, ha, el, h => by
    simp only [fzs, List.mem_cons] at h
    rcases h with rfl | h
    · rw [fzl_len]; exact ha e (by simp)
    · exact fzs_sz (fun el hel => ha el (by simp [hel])) el h
mutual
theorem rd_fz {w : World} {S : Nat → Prop} : ∀ (d : D) (v : Value), d.rd w S v → d.fz.rd w S v
  | .v x, v, h => by simpa only [D.fz] using h
  | .u, v, h => by simpa only [D.fz] using h
  | .s _ els, v, h => by
    simp only [D.fz, D.rd] at h ⊢
    obtain ⟨A, c, h1, h2, h3, ⟨sz, h4⟩, h5⟩ := h
    exact ⟨A, c, by rw [fzs_len]; exact h1, by rw [fzs_len]; exact h2, h3, ⟨sz, fzs_sz h4⟩, rdss_fz els A 0 h5⟩
  | .r els, v, h => by
    simp only [D.fz, D.rd] at h ⊢
    obtain ⟨A, c, h1, h2, h3, ⟨sz, h4⟩, h5⟩ := h
    exact ⟨A, c, by rw [fzs_len]; exact h1, by rw [fzs_len]; exact h2, h3, ⟨sz, fzs_sz h4⟩, rdss_fz els A 0 h5⟩
theorem rdss_fz {w : World} {S : Nat → Prop} : ∀ (els : List (List D)) (A : Option Addr) (off : Nat), rdss w S A off els → rdss w S A off (fzs els)
  | [], A, off, _ => by simp only [fzs, rdss]
  | el :: els, A, off, h => by
    simp only [fzs, rdss] at h ⊢
    obtain ⟨⟨a, h1, h2⟩, h3⟩ := h
    exact ⟨⟨a, h1, rds_fz el a off h2⟩, by rw [fzl_len]; exact rdss_fz els A _ h3⟩
theorem rds_fz {w : World} {S : Nat → Prop} : ∀ (ds : List D) (a : Addr) (off : Nat), rds w S a off ds → rds w S a off (fzl ds)
  | [], a, off, _ => by simp only [fzl, rds]
  | d :: ds, a, off, h => by
    simp only [fzl, rds] at h ⊢
    obtain ⟨⟨u, h1, h2, h3⟩, h4⟩ := h
    exact ⟨⟨u, h1, h2, rd_fz d u h3⟩, rds_fz ds a _ h4⟩
end
section
variable {γ : Gm} {S S' : Nat → Prop} {w : World} {h : Heap}
theorem snapC_ok (m : Mm h γ S w) {x y : X} {v : Value} (hx : x.vr γ w S v) (hs : snapC h x = some y) (hS : ∀ k, S k → S' k) (hS' : x.roC = true ∨ ∀ id g, γ (.inl id) = some g → ∀ k ∈ g.bl, S' k) : y.vr (fun _ => none) w S' v ∧ (∀ φ : Id → Path → Prop, y.allp φ) ∧ v.oneCell' = true := by
  unfold snapC at hs
  split at hs
  · simp only [Option.some.injEq] at hs
    subst hs
    simp only [X.vr] at hx ⊢
    exact ⟨hx, fun φ => by simp only [X.allp], by rw [hx.1]; exact hx.2⟩
  · simp only [Option.some.injEq] at hs
    subst hs
    simp only [X.vr] at hx ⊢
    exact ⟨D.rd_congr (fun k hk => ⟨hS k hk, rfl⟩) _ _ hx, fun φ => by simp only [X.allp], rd_one hx⟩
  · simp only [Option.some.injEq] at hs
    subst hs
    simp only [X.vr] at hx
    rw [hx.2]
    exact ⟨by simp only [X.vr, D.rd]; exact ⟨none, 0, rfl, by simp, by simp, ⟨0, by simp⟩, by simp [rdss]⟩, fun φ => by simp only [X.allp], rfl⟩
  · rename_i id p
    simp only [map_some_iff] at hs
    obtain ⟨r, h1, rfl⟩ := hs
    obtain ⟨b, els, h2, h3⟩ := m.row h1
    simp only [X.vr] at hx
    have hok := m.nav_ok h2
    have hv := (hx.2 _ h2).1
    have hall : ∀ id g, γ (.inl id) = some g → ∀ k ∈ g.bl, S' k := hS'.resolve_left (by simp [X.roC])
    have h2' := h2
    simp only [Gm.nav, bind_some_iff] at h2'
    obtain ⟨g0, h4, h5⟩ := h2'
    have := own_rd (S' := S') hS _ hok (fun k hk => hall id g0 h4 k (nav_bl _ _ _ h5 k hk))
    simp only [G.er] at this
    rw [hv, rd_r, h3] at this
    exact ⟨by simp only [X.vr]; exact rd_fz (.r r.2) v this, fun φ => by simp only [X.allp], hx.1⟩
  · simp at hs
theorem snapL_ok (m : Mm h γ S w) (hS : ∀ k, S k → S' k) : ∀ {xs ys : List X} {vs : List Value}, vrs γ w S xs vs → snapL h xs = some ys → (roAll xs = true ∨ ∀ id g, γ (.inl id) = some g → ∀ k ∈ g.bl, S' k) → vrs (fun _ => none) w S' ys vs ∧ (∀ φ : Id → Path → Prop, allps φ ys) ∧ ∀ u ∈ vs, u.oneCell' = true
  | [], ys, [], _, hs, _ => by
    simp only [snapL, Option.some.injEq] at hs
    subst hs
    exact ⟨by simp [vrs], fun φ => by simp [allps], by simp⟩
  | x :: xs, ys, v :: vs, hv, hs, hr => by
    simp only [snapL, bind_some_iff, map_some_iff] at hs
    obtain ⟨y, h1, zs, h2, rfl⟩ := hs
    simp only [vrs] at hv
    obtain ⟨h3, h4, h5⟩ := snapC_ok m hv.1 h1 hS (hr.imp (fun h => by simp only [roAll, Bool.and_eq_true] at h; exact h.1) (fun h => h))
    obtain ⟨h6, h7, h8⟩ := snapL_ok m hS hv.2 h2 (hr.imp (fun h => by simp only [roAll, Bool.and_eq_true] at h; exact h.2) (fun h => h))
    exact ⟨by simp only [vrs]; exact ⟨h3, h6⟩, fun φ => by simp only [allps]; exact ⟨h4 φ, h7 φ⟩, fun u hu => by rcases List.mem_cons.1 hu with rfl | hu; exact h5; exact h8 u hu⟩
  | [], _, _ :: _, h, _, _ => by simp [vrs] at h
  | _ :: _, _, [], h, _, _ => by simp [vrs] at h
theorem snap_ok (m : Mm h γ S w) {x y : X} {v : Value} (hx : x.vr γ w S v) (hs : snap h x = some y) (hS : ∀ k, S k → S' k) (hS' : x.roV = true ∨ ∀ id g, γ (.inl id) = some g → ∀ k ∈ g.bl, S' k) : y.vr (fun _ => none) w S' v ∧ (∀ φ : Id → Path → Prop, y.allp φ) := by
  unfold snap at hs
  split at hs
  · rename_i cs
    simp only [map_some_iff] at hs
    obtain ⟨ys, h1, rfl⟩ := hs
    simp only [X.vr] at hx
    obtain ⟨vs, rfl, h2, h3⟩ := hx
    obtain ⟨h4, h5, _⟩ := snapL_ok m hS h2 h1 hS'
    exact ⟨by simp only [X.vr]; exact ⟨vs, rfl, h4, h3⟩, fun φ => by simp only [X.allp]; exact h5 φ⟩
  · rename_i hna
    have hro : x.roV = true → x.roC = true := fun h => by
      cases x <;> simp_all [X.roV]
    obtain ⟨h1, h2, _⟩ := snapC_ok m hx hs hS (hS'.imp hro (fun h => h))
    exact ⟨h1, h2⟩
theorem snaps_ok (m : Mm h γ S w) (hS : ∀ k, S k → S' k) : ∀ {xs ys : List X} {vs : List Value}, vrs γ w S xs vs → snaps h xs = some ys → (roArgs xs = true ∨ ∀ id g, γ (.inl id) = some g → ∀ k ∈ g.bl, S' k) → vrs (fun _ => none) w S' ys vs ∧ ∀ φ : Id → Path → Prop, allps φ ys
  | [], ys, [], _, hs, _ => by
    simp only [snaps, Option.some.injEq] at hs
    subst hs
    exact ⟨by simp [vrs], fun φ => by simp [allps]⟩
  | x :: xs, ys, v :: vs, hv, hs, hr => by
    simp only [snaps, bind_some_iff, map_some_iff] at hs
    obtain ⟨y, h1, zs, h2, rfl⟩ := hs
    simp only [vrs] at hv
    obtain ⟨h3, h4⟩ := snap_ok m hv.1 h1 hS (hr.imp (fun h => by simp only [roArgs, Bool.and_eq_true] at h; exact h.1) (fun h => h))
    obtain ⟨h6, h7⟩ := snaps_ok m hS hv.2 h2 (hr.imp (fun h => by simp only [roArgs, Bool.and_eq_true] at h; exact h.2) (fun h => h))
    exact ⟨by simp only [vrs]; exact ⟨h3, h6⟩, fun φ => by simp only [allps]; exact ⟨h4 φ, h7 φ⟩⟩
  | [], _, _ :: _, h, _, _ => by simp [vrs] at h
  | _ :: _, _, [], h, _, _ => by simp [vrs] at h
end

/-! ### What is handed back -/
def X.own : X → Bool
  | .d (.s _ _) => true
  | _ => false
def resC (γ : Gm) (w : World) (S : Nat → Prop) (x : X) (v : Value) (is : List GId) : Prop :=
  (x.own = false ∧ is = [] ∧ x.vr γ w S v) ∨ ∃ sz els i g, x = .d (.s sz els) ∧ is = [i] ∧ γ i = some g ∧ (∃ n, i = .inr n) ∧ g.er = .s sz els ∧ g.val = v
def resL (γ : Gm) (w : World) (S : Nat → Prop) : List X → List Value → List GId → Prop
  | [], [], is => is = []
  | x :: xs, v :: vs, is => ∃ i1 i2, is = i1 ++ i2 ∧ resC γ w S x v i1 ∧ resL γ w S xs vs i2
  | _, _, _ => False
def resV (γ : Gm) (w : World) (S : Nat → Prop) : X → Value → List GId → Prop
  | .agg cs, v, is => ∃ vs : List Value, v = .agg vs.toArray ∧ resL γ w S cs vs is ∧ ∀ u ∈ vs, u.oneCell' = true
  | x, v, is => resC γ w S x v is
def resT (γ : Gm) (w : World) (S : Nat → Prop) : List X → List Value → List GId → Prop
  | [], [], is => is = []
  | x :: xs, v :: vs, is => ∃ i1 i2, is = i1 ++ i2 ∧ resV γ w S x v i1 ∧ resT γ w S xs vs i2
  | _, _, _ => False
def resR (γ : Gm) (w : World) (S : Nat → Prop) : X → Value → List GId → Prop
  | .tup cs, v, is => ∃ vs : List Value, v = .tuple vs.toArray ∧ resT γ w S cs vs is
  | x, v, is => resV γ w S x v is

/-- A result's rows under turned ghosts. -/
structure ResTo (γ γ' : Gm) (w w' : World) (S S' : Nat → Prop) (φ : Id → Path → Prop) : Prop where
  same : ∀ id p, φ id p → Same γ γ' id p
  hS : ∀ k, S k → S' k ∧ w'.heap[k]? = w.heap[k]?
theorem resC_to {γ γ' : Gm} {w w' : World} {S S' : Nat → Prop} {φ : Id → Path → Prop} (t : ResTo γ γ' w w' S S' φ) {x : X} {v : Value} {is : List GId} (hφ : x.allp φ) (hr : resC γ w S x v is) (hk : ∀ i ∈ is, γ' i = γ i) : resC γ' w' S' x v is := by
  rcases hr with ⟨h1, h2, h3⟩ | ⟨sz, els, i, g, h1, h2, h3, h4, h5, h6⟩
  · exact .inl ⟨h1, h2, vr_same t.hS x v (allp_mono t.same x hφ) h3⟩
  · subst h2
    exact .inr ⟨sz, els, i, g, h1, rfl, (hk i (by simp)).trans h3, h4, h5, h6⟩
theorem resL_to {γ γ' : Gm} {w w' : World} {S S' : Nat → Prop} {φ : Id → Path → Prop} (t : ResTo γ γ' w w' S S' φ) : ∀ {xs : List X} {vs : List Value} {is : List GId}, allps φ xs → resL γ w S xs vs is → (∀ i ∈ is, γ' i = γ i) → resL γ' w' S' xs vs is
  | [], [], is, _, hr, _ => hr
  | x :: xs, v :: vs, is, hφ, hr, hk => by
    simp only [resL, allps] at hr hφ ⊢
    obtain ⟨i1, i2, rfl, h1, h2⟩ := hr
    exact ⟨i1, i2, rfl, resC_to t hφ.1 h1 (fun i hi => hk i (by simp [hi])), resL_to t hφ.2 h2 (fun i hi => hk i (by simp [hi]))⟩
  | [], _ :: _, _, _, h, _ => by simp [resL] at h
  | _ :: _, [], _, _, h, _ => by simp [resL] at h
theorem resV_to {γ γ' : Gm} {w w' : World} {S S' : Nat → Prop} {φ : Id → Path → Prop} (t : ResTo γ γ' w w' S S' φ) {x : X} {v : Value} {is : List GId} (hφ : x.allp φ) (hr : resV γ w S x v is) (hk : ∀ i ∈ is, γ' i = γ i) : resV γ' w' S' x v is := by
  cases x with
  | agg cs =>
    simp only [resV, X.allp] at hr hφ ⊢
    obtain ⟨vs, h1, h2, h3⟩ := hr
    exact ⟨vs, h1, resL_to t hφ h2 hk, h3⟩
  | d x => exact resC_to t hφ (by simpa [resV] using hr) hk
  | tup cs => exact resC_to t hφ (by simpa [resV] using hr) hk
  | ref id p => exact resC_to t hφ (by simpa [resV] using hr) hk
  | ptr id q j i => exact resC_to t hφ (by simpa [resV] using hr) hk
  | rop cs => exact resC_to t hφ (by simpa [resV] using hr) hk
  | vp cs => exact resC_to t hφ (by simpa [resV] using hr) hk
  | clo f cs => exact resC_to t hφ (by simpa [resV] using hr) hk
theorem resT_to {γ γ' : Gm} {w w' : World} {S S' : Nat → Prop} {φ : Id → Path → Prop} (t : ResTo γ γ' w w' S S' φ) : ∀ {xs : List X} {vs : List Value} {is : List GId}, allps φ xs → resT γ w S xs vs is → (∀ i ∈ is, γ' i = γ i) → resT γ' w' S' xs vs is
  | [], [], is, _, hr, _ => hr
  | x :: xs, v :: vs, is, hφ, hr, hk => by
    simp only [resT, allps] at hr hφ ⊢
    obtain ⟨i1, i2, rfl, h1, h2⟩ := hr
    exact ⟨i1, i2, rfl, resV_to t hφ.1 h1 (fun i hi => hk i (by simp [hi])), resT_to t hφ.2 h2 (fun i hi => hk i (by simp [hi]))⟩
  | [], _ :: _, _, _, h, _ => by simp [resT] at h
  | _ :: _, [], _, _, h, _ => by simp [resT] at h

/-! ### Out of a frame -/
structure TookF (h h' : Heap) (γ γ' : Gm) (S : Nat → Prop) (w : World) (is : List GId) : Prop where
  mm : Mm h' γ' S w
  some : ∀ i ∈ is, (∃ n, i = .inr n) ∧ (γ' i).isSome = true
  nd : is.Nodup
  new : ∀ j, Flo h j → (γ j).isSome = true → j ∉ is ∧ γ' j = γ j
  mono : ∀ id, h id = none → h' id = none
  same : ∀ id p, Same γ γ' id p
  sub : Sub γ' γ
theorem flo_inr {h : Heap} {i : GId} (hi : ∃ n, i = .inr n) : Flo h i := fun id e => by obtain ⟨n, rfl⟩ := hi; simp at e
theorem TookF.refl {h : Heap} {γ : Gm} {S : Nat → Prop} {w : World} (m : Mm h γ S w) : TookF h h γ γ S w [] :=
  ⟨m, by simp, by simp, fun j _ _ => ⟨by simp, rfl⟩, fun _ h => h, fun id p => Same.refl γ id p, Sub.refl γ⟩
theorem TookF.of {h h' : Heap} {γ γ' : Gm} {S : Nat → Prop} {w : World} {i : GId} {g : G} (t : Took h h' γ γ' S w i g) : TookF h h' γ γ' S w [i] :=
  ⟨t.mm, fun j hj => by rw [List.mem_singleton] at hj; subst hj; exact ⟨t.isr, by rw [t.at_]; rfl⟩, by simp, fun j hj hs => ⟨by simp [(t.new j hj hs).1], (t.new j hj hs).2⟩, t.mono, t.same, t.sub⟩
theorem TookF.trans {h h1 h2 : Heap} {γ γ1 γ2 : Gm} {S : Nat → Prop} {w : World} {i1 i2 : List GId} (t1 : TookF h h1 γ γ1 S w i1) (t2 : TookF h1 h2 γ1 γ2 S w i2) : TookF h h2 γ γ2 S w (i1 ++ i2) ∧ ∀ i ∈ i1, γ2 i = γ1 i := by
  have key : ∀ i ∈ i1, i ∉ i2 ∧ γ2 i = γ1 i := fun i hi => t2.new i (flo_inr (t1.some i hi).1) (t1.some i hi).2
  refine ⟨⟨t2.mm, fun i hi => ?_, List.nodup_append.2 ⟨t1.nd, t2.nd, fun a ha b hb e => ?_⟩, fun j hj hs => ?_, fun id hid => t2.mono id (t1.mono id hid), fun id p => (t1.same id p).trans (t2.same id p), t2.sub.trans t1.sub⟩, fun i hi => (key i hi).2⟩
  · rcases List.mem_append.1 hi with hi | hi
    · exact ⟨(t1.some i hi).1, by rw [(key i hi).2]; exact (t1.some i hi).2⟩
    · exact t2.some i hi
  · subst e
    exact (key a ha).1 hb
  · obtain ⟨a1, a2⟩ := t1.new j hj hs
    obtain ⟨a3, a4⟩ := t2.new j (fun id e => t1.mono id (hj id e)) (by rw [a2]; exact hs)
    exact ⟨by simp [a1, a3], a4.trans a2⟩
theorem TookF.to {h1 h2 : Heap} {γ1 γ2 : Gm} {S : Nat → Prop} {w : World} {i2 : List GId} (t2 : TookF h1 h2 γ1 γ2 S w i2) : ResTo γ1 γ2 w w S S (fun _ _ => True) :=
  ⟨fun id p _ => t2.same id p, fun k hk => ⟨hk, rfl⟩⟩
theorem allp_tt (x : X) : x.allp (fun _ _ => True) := allp_all (fun _ _ => trivial) x

section
variable {S : Nat → Prop} {w : World} {fr : Nat} {A : Id → Prop}
theorem finC_ok {h h' : Heap} {γ : Gm} (m : Mm h γ S w) {x y : X} {v : Value} (hx : x.vr γ w S v) (hi : x.allp (fun id _ => (id.1 < fr ∧ A id) ∨ id.1 = fr)) (hf : finC fr h x = some (y, h')) :
    ∃ γ' is, TookF h h' γ γ' S w is ∧ resC γ' w S y v is ∧ y.allp (fun id _ => id.1 < fr ∧ A id) := by
  unfold finC at hf
  split at hf
  · rename_i id q j i
    split at hf
    · simp at hf
    · rename_i hne
      simp only [Option.some.injEq, Prod.mk.injEq] at hf
      obtain ⟨rfl, rfl⟩ := hf
      simp only [X.allp] at hi
      exact ⟨γ, [], TookF.refl m, .inl ⟨rfl, rfl, hx⟩, by simp only [X.allp]; exact hi.resolve_right hne⟩
  · rename_i id p
    split at hf
    · simp only [map_some_iff] at hf
      obtain ⟨⟨d, h1⟩, h2, h3⟩ := hf
      simp only [Prod.mk.injEq] at h3
      obtain ⟨rfl, rfl⟩ := h3
      simp only [X.vr] at hx
      obtain ⟨γ', i, g, t, e1, e2, sz, b, els, rfl⟩ := took_row m h2 (fun g hg => (hx.2 g hg).1)
      subst e1
      exact ⟨γ', [i], TookF.of t, .inr ⟨sz, erss els, i, _, by simp [G.er], rfl, t.at_, t.isr, by simp [G.er], e2⟩, by simp only [X.allp]⟩
    · rename_i hne
      simp only [Option.some.injEq, Prod.mk.injEq] at hf
      obtain ⟨rfl, rfl⟩ := hf
      simp only [X.allp] at hi
      exact ⟨γ, [], TookF.refl m, .inl ⟨rfl, rfl, hx⟩, by simp only [X.allp]; exact hi.resolve_right hne⟩
  · simp only [Option.some.injEq, Prod.mk.injEq] at hf
    obtain ⟨rfl, rfl⟩ := hf
    exact ⟨γ, [], TookF.refl m, .inl ⟨rfl, rfl, hx⟩, by simp only [X.allp]⟩
  · simp only [Option.some.injEq, Prod.mk.injEq] at hf
    obtain ⟨rfl, rfl⟩ := hf
    exact ⟨γ, [], TookF.refl m, .inl ⟨rfl, rfl, hx⟩, by simp only [X.allp]⟩
  · rename_i sz
    simp only [Option.some.injEq, Prod.mk.injEq] at hf
    obtain ⟨rfl, rfl⟩ := hf
    simp only [X.vr] at hx
    obtain ⟨γ', i, t⟩ := took_leaf m (g := .s sz none []) (by simp [G.ok, okss]) (by simp [G.bl, blss])
    exact ⟨γ', [i], TookF.of t, .inr ⟨sz, [], i, _, rfl, rfl, t.at_, t.isr, by simp [G.er, erss], by simp [G.val, hx]⟩, by simp only [X.allp]⟩
  · simp at hf
theorem finL_ok : ∀ {xs ys : List X} {vs : List Value} {h h' : Heap} {γ : Gm}, Mm h γ S w → vrs γ w S xs vs → allps (fun id _ => (id.1 < fr ∧ A id) ∨ id.1 = fr) xs → finL fr h xs = some (ys, h') →
    ∃ γ' is, TookF h h' γ γ' S w is ∧ resL γ' w S ys vs is ∧ allps (fun id _ => id.1 < fr ∧ A id) ys
  | [], ys, [], h, h', γ, m, _, _, hf => by
    simp only [finL, Option.some.injEq, Prod.mk.injEq] at hf
    obtain ⟨rfl, rfl⟩ := hf
    exact ⟨γ, [], TookF.refl m, by simp [resL], by simp [allps]⟩
  | x :: xs, ys, v :: vs, h, h', γ, m, hv, hi, hf => by
    simp only [finL, bind_some_iff, map_some_iff] at hf
    obtain ⟨⟨y, h1⟩, h2, ⟨zs, h3⟩, h4, h5⟩ := hf
    simp only [Prod.mk.injEq] at h5
    obtain ⟨rfl, rfl⟩ := h5
    simp only [vrs, allps] at hv hi
    obtain ⟨γ1, i1, t1, r1, a1⟩ := finC_ok m hv.1 hi.1 h2
    obtain ⟨γ2, i2, t2, r2, a2⟩ := finL_ok t1.mm (vrs_same (fun k hk => ⟨hk, rfl⟩) xs vs (allps_all t1.same xs) hv.2) hi.2 h4
    obtain ⟨t3, hk⟩ := t1.trans t2
    exact ⟨γ2, i1 ++ i2, t3, by simp only [resL]; exact ⟨i1, i2, rfl, resC_to t2.to (allp_tt y) r1 hk, r2⟩, by simp only [allps]; exact ⟨a1, a2⟩⟩
  | [], _, _ :: _, _, _, _, _, h, _, _ => by simp [vrs] at h
  | _ :: _, _, [], _, _, _, _, h, _, _ => by simp [vrs] at h
theorem finV_ok {h h' : Heap} {γ : Gm} (m : Mm h γ S w) {x y : X} {v : Value} (hx : x.vr γ w S v) (hi : x.allp (fun id _ => (id.1 < fr ∧ A id) ∨ id.1 = fr)) (hf : finV fr h x = some (y, h')) :
    ∃ γ' is, TookF h h' γ γ' S w is ∧ resV γ' w S y v is ∧ y.allp (fun id _ => id.1 < fr ∧ A id) := by
  cases x with
  | agg cs =>
    simp only [finV, map_some_iff] at hf
    obtain ⟨⟨ys, h1⟩, h2, h3⟩ := hf
    simp only [Prod.mk.injEq] at h3
    obtain ⟨rfl, rfl⟩ := h3
    simp only [X.vr, X.allp] at hx hi
    obtain ⟨vs, rfl, h4, h5⟩ := hx
    obtain ⟨γ', is, t, r, a⟩ := finL_ok m h4 hi h2
    exact ⟨γ', is, t, by simp only [resV]; exact ⟨vs, rfl, r, h5⟩, by simp only [X.allp]; exact a⟩
  | d x =>
    obtain ⟨γ', is, t, r, a⟩ := finC_ok m hx hi (by simpa [finV] using hf)
    refine ⟨γ', is, t, ?_, a⟩
    cases y <;> first | exact r | (rcases r with ⟨_, _, r⟩ | ⟨_, _, _, _, e, _⟩ <;> first | (cases e; done) | skip)
    · simp only [finV, finC] at hf
      split at hf <;> simp_all
  | tup cs => simp [finV, finC] at hf
  | ref id p =>
    obtain ⟨γ', is, t, r, a⟩ := finC_ok m hx hi (by simpa [finV] using hf)
    refine ⟨γ', is, t, ?_, a⟩
    cases y <;> first | exact r | (simp only [finV, finC] at hf; split at hf <;> simp_all [map_some_iff])
  | ptr id q j i =>
    obtain ⟨γ', is, t, r, a⟩ := finC_ok m hx hi (by simpa [finV] using hf)
    refine ⟨γ', is, t, ?_, a⟩
    cases y <;> first | exact r | (simp only [finV, finC] at hf; split at hf <;> simp_all)
  | rop cs => simp [finV, finC] at hf
  | vp cs => simp [finV, finC] at hf
  | clo f cs => simp [finV, finC] at hf
theorem fins_ok : ∀ {xs ys : List X} {vs : List Value} {h h' : Heap} {γ : Gm}, Mm h γ S w → vrs γ w S xs vs → allps (fun id _ => (id.1 < fr ∧ A id) ∨ id.1 = fr) xs → fins fr h xs = some (ys, h') →
    ∃ γ' is, TookF h h' γ γ' S w is ∧ resT γ' w S ys vs is ∧ allps (fun id _ => id.1 < fr ∧ A id) ys
  | [], ys, [], h, h', γ, m, _, _, hf => by
    simp only [fins, Option.some.injEq, Prod.mk.injEq] at hf
    obtain ⟨rfl, rfl⟩ := hf
    exact ⟨γ, [], TookF.refl m, by simp [resT], by simp [allps]⟩
  | x :: xs, ys, v :: vs, h, h', γ, m, hv, hi, hf => by
    simp only [fins, bind_some_iff, map_some_iff] at hf
    obtain ⟨⟨y, h1⟩, h2, ⟨zs, h3⟩, h4, h5⟩ := hf
    simp only [Prod.mk.injEq] at h5
    obtain ⟨rfl, rfl⟩ := h5
    simp only [vrs, allps] at hv hi
    obtain ⟨γ1, i1, t1, r1, a1⟩ := finV_ok m hv.1 hi.1 h2
    obtain ⟨γ2, i2, t2, r2, a2⟩ := fins_ok t1.mm (vrs_same (fun k hk => ⟨hk, rfl⟩) xs vs (allps_all t1.same xs) hv.2) hi.2 h4
    obtain ⟨t3, hk⟩ := t1.trans t2
    exact ⟨γ2, i1 ++ i2, t3, by simp only [resT]; exact ⟨i1, i2, rfl, resV_to t2.to (allp_tt y) r1 hk, r2⟩, by simp only [allps]; exact ⟨a1, a2⟩⟩
  | [], _, _ :: _, _, _, _, _, h, _, _ => by simp [vrs] at h
  | _ :: _, _, [], _, _, _, _, h, _, _ => by simp [vrs] at h
end

end Go.Ev
