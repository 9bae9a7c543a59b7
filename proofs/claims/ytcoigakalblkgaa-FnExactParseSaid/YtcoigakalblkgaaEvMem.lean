/- Places in memory: what a move out of a place and a store into one do to rows. -/
import Derived.Test.YtcoigakalblkgaaEvRep
set_option linter.all false
namespace Go.Ev

theorem bls_at : ∀ (el : List G) (i : Nat) (c : G), el[i]? = some c → ∃ R, (bls el).Perm (c.bl ++ R) ∧ ∀ c', (bls (el.set i c')).Perm (c'.bl ++ R)
  | [], i, c, h => by simp at h
  | g :: gs, 0, c, h => by
    simp only [List.getElem?_cons_zero, Option.some.injEq] at h
    subst h
    exact ⟨bls gs, by simp [bls], fun c' => by simp [bls]⟩
  | g :: gs, i + 1, c, h => by
    simp only [List.getElem?_cons_succ] at h
    obtain ⟨R, h1, h2⟩ := bls_at gs i c h
    refine ⟨g.bl ++ R, ?_, fun c' => ?_⟩
    · simp only [bls]
      refine (h1.append_left g.bl).trans ?_
      rw [← List.append_assoc, ← List.append_assoc]
      exact List.perm_append_comm.append_right R
    · simp only [bls, List.set_cons_succ]
      refine ((h2 c').append_left g.bl).trans ?_
      rw [← List.append_assoc, ← List.append_assoc]
      exact List.perm_append_comm.append_right R
theorem blss_at : ∀ (els : List (List G)) (j : Nat) (el : List G), els[j]? = some el → ∀ (i : Nat) (c : G), el[i]? = some c →
    ∃ R, (blss els).Perm (c.bl ++ R) ∧ ∀ c', (blss (els.set j (el.set i c'))).Perm (c'.bl ++ R)
  | [], j, el, h, _, _, _ => by simp at h
  | e :: els, 0, el, h, i, c, hc => by
    simp only [List.getElem?_cons_zero, Option.some.injEq] at h
    subst h
    obtain ⟨R, h1, h2⟩ := bls_at e i c hc
    refine ⟨R ++ blss els, ?_, fun c' => ?_⟩
    · simp only [blss]
      rw [← List.append_assoc]
      exact h1.append_right _
    · simp only [blss, List.set_cons_zero]
      rw [← List.append_assoc]
      exact (h2 c').append_right _
  | e :: els, j + 1, el, h, i, c, hc => by
    simp only [List.getElem?_cons_succ] at h
    obtain ⟨R, h1, h2⟩ := blss_at els j el h i c hc
    refine ⟨bls e ++ R, ?_, fun c' => ?_⟩
    · simp only [blss]
      refine (h1.append_left _).trans ?_
      rw [← List.append_assoc, ← List.append_assoc]
      exact List.perm_append_comm.append_right R
    · simp only [blss, List.set_cons_succ]
      refine ((h2 c').append_left _).trans ?_
      rw [← List.append_assoc, ← List.append_assoc]
      exact List.perm_append_comm.append_right R
def G.top : G → List Nat
  | .s _ (some b) _ => [b.1]
  | _ => []
theorem G.bl_s (sz : Nat) (b : Option (Nat × Nat)) (els : List (List G)) : (G.s sz b els).bl = (G.s sz b els).top ++ blss els := by
  cases b <;> simp [G.bl, G.top]
theorem put_perm : ∀ (p : Path) (g c : G), g.nav p = some c → ∃ R, g.bl.Perm (c.bl ++ R) ∧ ∀ c' g', g.put p c' = some g' → g'.bl.Perm (c'.bl ++ R)
  | [], g, c, h => by
    simp only [G.nav, Option.some.injEq] at h
    subst h
    exact ⟨[], by simp, fun c' g' h => by simp only [G.put, Option.some.injEq] at h; subst h; simp⟩
  | (j, i) :: p, .l d v, c, h => by simp [G.nav] at h
  | (j, i) :: p, .s sz b els, c, h => by
    simp only [G.nav, bind_some_iff] at h
    obtain ⟨el, h1, c0, h2, h3⟩ := h
    obtain ⟨R0, h4, h5⟩ := put_perm p c0 c h3
    obtain ⟨R1, h6, h7⟩ := blss_at els j el h1 i c0 h2
    refine ⟨(G.s sz b els).top ++ (R0 ++ R1), ?_, fun c' g' hp => ?_⟩
    · rw [G.bl_s]
      refine (h6.append_left _).trans ?_
      refine ((h4.append_right R1).append_left _).trans ?_
      simp only [← List.append_assoc]
      exact (List.perm_append_comm.append_right R0).append_right R1
    · simp only [G.put, h1, h2, Option.bind_some, map_some_iff] at hp
      obtain ⟨c0', h8, rfl⟩ := hp
      rw [G.bl_s]
      have ht : (G.s sz b (els.set j (el.set i c0'))).top = (G.s sz b els).top := by cases b <;> rfl
      rw [ht]
      refine ((h7 c0').append_left _).trans ?_
      refine (((h5 c' c0' h8).append_right R1).append_left _).trans ?_
      simp only [← List.append_assoc]
      exact (List.perm_append_comm.append_right R0).append_right R1
theorem put_val : ∀ (p : Path) (g c' g' : G), p ≠ [] → g.put p c' = some g' → g'.val = g.val
  | [], _, _, _, h, _ => absurd rfl h
  | (j, i) :: p, .l d v, c', g', _, h => by simp [G.put] at h
  | (j, i) :: p, .s sz b els, c', g', _, h => by
    simp only [G.put, bind_some_iff, map_some_iff] at h
    obtain ⟨el, h1, c0, h2, c0', h3, rfl⟩ := h
    cases b <;> simp [G.val]
/-- The cell of a row, in memory. -/
theorem cell_at {w : World} {S : Nat → Prop} {sz b cap : Nat} {els : List (List G)} (h : (G.s sz (some (b, cap)) els).ok w S) {j i : Nat} {el : List G} {c : G} (h1 : els[j]? = some el) (h2 : el[i]? = some c) :
    w.cell? ⟨b, j * sz + i, none⟩ = some c.val := by
  simp only [G.ok] at h
  obtain ⟨⟨_, _, cur, e, h3, h4, h5⟩, h6, _⟩ := h
  have hv := valss_get h6 h1 h2
  rw [← h5, List.getElem?_take] at hv
  split at hv
  · rw [cell_of_row w b _ cur e (0, 0) h3]
    simpa using hv
  · simp at hv
theorem idx_lt {sz : Nat} {els : List (List G)} (h : ∀ el ∈ els, el.length = sz) {j i : Nat} {el : List G} {c : G} (h1 : els[j]? = some el) (h2 : el[i]? = some c) : i < sz ∧ j * sz + i < els.length * sz := by
  have h3 := h el (List.mem_of_getElem? h1)
  have h4 := (List.getElem?_eq_some_iff.1 h2).1
  have h5 := (List.getElem?_eq_some_iff.1 h1).1
  refine ⟨by omega, ?_⟩
  have : (j + 1) * sz ≤ els.length * sz := Nat.mul_le_mul_right _ h5
  rw [Nat.add_mul] at this
  omega
theorem store_ok {w w' : World} {S S' : Nat → Prop} (hS : ∀ k, S k → S' k ∧ w'.heap[k]? = w.heap[k]?) {c' : G} (hc' : c'.ok w' S') {sz b cap : Nat} {els : List (List G)} {j i : Nat} {el : List G} {c : G}
    (h1 : els[j]? = some el) (h2 : el[i]? = some c)
    (hb : ∀ cur e, w.heap[b]? = some (.cells cur e (0, 0)) → cur[j * sz + i]? = some c.val → w'.heap[b]? = some (.cells (cur.setIfInBounds (j * sz + i) c'.val) e (0, 0))) :
    ∀ (q : Path) (g : G), g.ok w S → g.bl.Nodup → g.nav q = some (.s sz (some (b, cap)) els) → (∀ k ∈ g.bl, k ≠ b → w'.heap[k]? = w.heap[k]?) →
    ∃ g', g.put (q ++ [(j, i)]) c' = some g' ∧ g'.ok w' S'
  | [], g, hg, hn, hq, hk => by
    simp only [G.nav, Option.some.injEq] at hq
    subst hq
    refine ⟨.s sz (some (b, cap)) (els.set j (el.set i c')), by simp [G.put, h1, h2], ?_⟩
    have hg0 := hg
    simp only [G.ok] at hg ⊢
    obtain ⟨⟨h3, h4, cur, e, h5, h6, h7⟩, h8, h9⟩ := hg
    obtain ⟨hi, hlt⟩ := idx_lt h8 h1 h2
    simp only [G.bl, List.singleton_append, List.nodup_cons] at hn
    refine ⟨⟨by simpa using h3, h4, cur.setIfInBounds (j * sz + i) c'.val, e, hb cur e h5 ?_, by simpa using h6, ?_⟩, ?_, ?_⟩
    · have hc := cell_at hg0 h1 h2
      rw [cell_of_row w b _ cur e (0, 0) h5] at hc
      exact hc
    · rw [Array.toList_setIfInBounds, List.length_set, List.take_set, h7, valss_set h8 h1 hi]
    · intro e' he'
      rcases List.mem_or_eq_of_mem_set he' with he' | he'
      · exact h8 e' he'
      · subst he'
        rw [List.length_set]
        exact h8 el (List.mem_of_getElem? h1)
    · rw [okss_iff] at h9 ⊢
      intro e' he' g' hg'
      have hold : ∀ e0 ∈ els, ∀ g0 ∈ e0, g0.ok w' S' := fun e0 he0 g0 hg0' => by
        refine G.ok_congr hS g0 (fun k hk0 => hk k ?_ ?_) (h9 e0 he0 g0 hg0')
        · simp only [G.bl, List.singleton_append, List.mem_cons]
          exact .inr (mem_blss.2 ⟨e0, he0, g0, hg0', hk0⟩)
        · rintro rfl
          exact hn.1 (mem_blss.2 ⟨e0, he0, g0, hg0', hk0⟩)
      rcases List.mem_or_eq_of_mem_set he' with he' | he'
      · exact hold e' he' g' hg'
      · subst he'
        rcases List.mem_or_eq_of_mem_set hg' with hg' | hg'
        · exact hold el (List.mem_of_getElem? h1) g' hg'
        · subst hg'
          exact hc'
  | (j0, i0) :: q, .l d v, hg, hn, hq, hk => by simp [G.nav] at hq
  | (j0, i0) :: q, .s sz0 b0 els0, hg, hn, hq, hk => by
    simp only [G.nav, bind_some_iff] at hq
    obtain ⟨el0, h3, c0, h4, h5⟩ := hq
    have hg0 := hg
    simp only [G.ok] at hg
    obtain ⟨h6, h7, h8⟩ := hg
    obtain ⟨R, hR, _⟩ := blss_at els0 j0 el0 h3 i0 c0 h4
    have hbc : b ∈ c0.bl := nav_bl q c0 _ h5 b (by simp [G.bl])
    have hn2 : ((G.s sz0 b0 els0).top ++ (c0.bl ++ R)).Nodup := by
      rw [G.bl_s] at hn
      exact (hR.append_left _).nodup_iff.1 hn
    have hcn : c0.bl.Nodup := (List.nodup_append.1 (List.nodup_append.1 hn2).2.1).1
    have hin : ∀ k ∈ c0.bl, k ∈ (G.s sz0 b0 els0).bl := fun k hk0 => by
      rw [G.bl_s]
      exact List.mem_append_right _ (mem_blss.2 ⟨el0, List.mem_of_getElem? h3, c0, List.mem_of_getElem? h4, hk0⟩)
    obtain ⟨c0', h9, h10⟩ := store_ok hS hc' h1 h2 hb q c0 (okss_iff.1 h8 el0 (List.mem_of_getElem? h3) c0 (List.mem_of_getElem? h4)) hcn h5 (fun k hk0 hne => hk k (hin k hk0) hne)
    have hval : c0'.val = c0.val := put_val _ _ _ _ (by simp) h9
    refine ⟨.s sz0 b0 (els0.set j0 (el0.set i0 c0')), by simp [G.put, h3, h4, h9], ?_⟩
    simp only [G.ok]
    obtain ⟨hi, hlt⟩ := idx_lt h7 h3 h4
    have hvs : valss (els0.set j0 (el0.set i0 c0')) = valss els0 := by
      rw [valss_set h7 h3 hi, hval]
      have := valss_get h7 h3 h4
      obtain ⟨hl, hv⟩ := List.getElem?_eq_some_iff.1 this
      rw [← hv, List.set_getElem_self]
    refine ⟨?_, ?_, ?_⟩
    · cases b0 with
      | none =>
        simp only at h6 ⊢
        subst h6
        simp at h3
      | some b0 =>
        simp only at h6 ⊢
        obtain ⟨h11, h12, cur, e, h13, h14, h15⟩ := h6
        refine ⟨by simpa using h11, h12, cur, e, ?_, h14, ?_⟩
        · rw [hk b0.1 (by simp [G.bl]) ?_]
          · exact h13
          · rintro rfl
            have := (List.nodup_append.1 hn2).2.2 b0.1 (by simp [G.top]) b0.1 (List.mem_append_left _ hbc)
            exact this rfl
        · rw [List.length_set, hvs]
          exact h15
    · intro e' he'
      rcases List.mem_or_eq_of_mem_set he' with he' | he'
      · exact h7 e' he'
      · subst he'
        rw [List.length_set]
        exact h7 el0 (List.mem_of_getElem? h3)
    · rw [okss_iff]
      have hold : ∀ (j1 i1 : Nat) e0 g0, els0[j1]? = some e0 → e0[i1]? = some g0 → (j1 ≠ j0 ∨ i1 ≠ i0) → g0.ok w' S' := fun j1 i1 e0 g0 he0 hg0' hne => by
        refine G.ok_congr hS g0 (fun k hk0 => hk k ?_ ?_) (okss_iff.1 h8 e0 (List.mem_of_getElem? he0) g0 (List.mem_of_getElem? hg0'))
        · rw [G.bl_s]
          exact List.mem_append_right _ (mem_blss.2 ⟨e0, List.mem_of_getElem? he0, g0, List.mem_of_getElem? hg0', hk0⟩)
        · rintro rfl
          -- b lies in c0 and in another cell: it would stand twice
          obtain ⟨R', hR1, hR2⟩ := blss_at els0 j0 el0 h3 i0 c0 h4
          have hz := hR2 (.l .u .nilFunc)
          have hmem : k ∈ blss (els0.set j0 (el0.set i0 (.l .u .nilFunc))) := by
            rw [mem_blss]
            by_cases hj : j1 = j0
            · subst hj
              have hi1 : i1 ≠ i0 := hne.resolve_left (fun h => h rfl)
              rw [h3] at he0
              simp only [Option.some.injEq] at he0
              subst he0
              refine ⟨el0.set i0 (.l .u .nilFunc), ?_, g0, ?_, hk0⟩
              · exact List.mem_of_getElem? (i := j1) (by rw [List.getElem?_set_self (List.getElem?_eq_some_iff.1 h3).1])
              · exact List.mem_of_getElem? (i := i1) (by rw [List.getElem?_set_ne (Ne.symm hi1)]; exact hg0')
            · exact ⟨e0, List.mem_of_getElem? (i := j1) (by rw [List.getElem?_set_ne (Ne.symm hj)]; exact he0), g0, List.mem_of_getElem? hg0', hk0⟩
          have hkR : k ∈ R' := by
            have := hz.mem_iff.1 hmem
            simpa [G.bl] using this
          have hnn := hR1.nodup_iff.1 (List.nodup_append.1 (by rw [← G.bl_s]; exact hn)).2.1
          exact (List.nodup_append.1 hnn).2.2 k hbc k hkR rfl
      intro e' he' g' hg'
      obtain ⟨j1, hj1⟩ := List.getElem?_of_mem he'
      obtain ⟨i1, hi1⟩ := List.getElem?_of_mem hg'
      by_cases hj : j1 = j0
      · subst hj
        rw [List.getElem?_set_self (List.getElem?_eq_some_iff.1 h3).1] at hj1
        simp only [Option.some.injEq] at hj1
        subst hj1
        by_cases hi' : i1 = i0
        · subst hi'
          rw [List.getElem?_set_self (List.getElem?_eq_some_iff.1 h4).1] at hi1
          simp only [Option.some.injEq] at hi1
          subst hi1
          exact h10
        · rw [List.getElem?_set_ne (Ne.symm hi')] at hi1
          exact hold j1 i1 el0 g' h3 hi1 (.inr hi')
      · rw [List.getElem?_set_ne (Ne.symm hj)] at hj1
        exact hold j1 i1 e' g' hj1 hi1 (.inl hj)

end Go.Ev
