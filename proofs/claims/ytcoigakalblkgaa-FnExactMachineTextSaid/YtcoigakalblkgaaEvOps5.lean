/- Stores, structs that are built, appends: each is sound for the machine. -/
import Derived.Test.YtcoigakalblkgaaEvOps4
set_option linter.all false
namespace Go.Ev
open Go.RowKit

section
variable {c : Ctx} {st st' : St} {U : Nat → Prop} {γ : Gm} {S : Nat → Prop} {a : Act} {w : World} {C : Cl} {o : Oper} {id : Nat}

/-! ### A store -/
def setGs (el : List G) (i : Nat) : List G → List G
  | [] => el
  | c :: cs => setGs (el.set i c) (i + 1) cs
theorem setGs_ers : ∀ (cs el : List G) (i : Nat), ers (setGs el i cs) = setCells (ers el) i (ers cs)
  | [], el, i => by simp [setGs, setCells, ers]
  | c :: cs, el, i => by
    simp only [setGs, setCells, ers]
    rw [setGs_ers cs]
    congr 1
    simp [ers_map, List.map_set]
theorem setGs_length : ∀ (cs el : List G) (i : Nat), (setGs el i cs).length = el.length
  | [], el, i => rfl
  | c :: cs, el, i => by simp only [setGs]; rw [setGs_length cs]; simp
theorem hput_put {h h1 : Heap} {id : Id} {q : Path} {x : D} (h1' : h.put id q x = some h1) (y : D) : h1.put id q y = h.put id q y := by
  unfold Heap.put at h1' ⊢
  rw [bind_some_iff] at h1'
  obtain ⟨d, hd, h2⟩ := h1'
  rw [map_some_iff] at h2
  obtain ⟨d', h3, rfl⟩ := h2
  rw [hd]
  simp only [upd, if_true, Option.bind_some, put_put q d x y d' h3]
  congr 1
  funext d2 j
  by_cases hj : j = id <;> simp [upd, hj]

structure StoredL (h h' : Heap) (γ γ' : Gm) (S : Nat → Prop) (w : World) (id : Id) (q : Path) (j i sz b cap : Nat) (els : List (List G)) (el : List G) (gs : List G) : Prop where
  put : h.put id q (.s sz (erss (els.set j (setGs el i gs)))) = some h'
  mm : Mm h' γ' S (w.setCells b (j * sz + i) (vals gs))
  mono : ∀ id, h id = none ↔ h' id = none
  same : ∀ id' p', (id' = id → ∀ k r, i ≤ k → k < i + gs.length → p' ≠ q ++ [(j, k)] ++ r) → Same γ γ' id' p'
  plain : (∀ k, k < gs.length → ∃ x v, el[i + k]? = some (.l (.v x) v)) → (∀ g ∈ gs, ∃ y u, g = .l (.v y) u) → ∀ id' p', Same γ γ' id' p'
  sub : Sub γ' γ
  inb : ∃ i0 g0, γ i0 = some g0 ∧ b ∈ g0.bl
theorem storeN {id : Id} {q : Path} {sz b cap j : Nat} : ∀ {gs : List G} {is : List GId} {h : Heap} {γ : Gm} {w : World} {els : List (List G)} {el : List G} {i : Nat} {d0 : D}, gs ≠ [] → Mm h γ S w → fls γ h is gs → h id = some d0 → γ.nav id q = some (.s sz (some (b, cap)) els) →
    els[j]? = some el → i + gs.length ≤ el.length → ∃ h' γ', StoredL h h' γ γ' S w id q j i sz b cap els el gs
  | [], _, _, _, _, _, _, _, _, hne, _, _, _, _, _, _ => absurd rfl hne
  | g :: gs, [], _, _, _, _, _, _, _, _, _, hf, _, _, _, _ => by simp [fls] at hf
  | g :: gs, gid :: is, h, γ, w, els, el, i, d0, _, m, hf, hd0, hq, hj, hle => by
    simp only [fls] at hf
    obtain ⟨f1, f2, f3, f4⟩ := hf
    simp only [List.length_cons] at hle
    have hi : i < el.length := by omega
    obtain ⟨h1, γ1, s1⟩ := store1 m hd0 hq hj (List.getElem?_eq_getElem hi) f1 f2
    have hplain1 : (∃ x v, el[i]? = some (.l (.v x) v)) → (∃ y u, g = .l (.v y) u) → ∀ id' p', Same γ γ1 id' p' := fun ⟨x, v, hx⟩ ⟨y, u, hy⟩ => s1.plain ⟨x, v, y, u, hx, hy⟩
    by_cases hgs : gs = []
    · subst hgs
      refine ⟨h1, γ1, ⟨by simpa [setGs] using s1.put, by simpa [vals, World.setCells] using s1.mm, s1.mono, fun id' p' hp => s1.same id' p' (fun e r => hp e i r (Nat.le_refl _) (by simp)), fun he hg => hplain1 (by simpa using he 0 (by simp)) (hg g (by simp)), s1.sub, s1.inb⟩⟩
    · have hf' : fls γ1 h1 is gs := by
        have hh : ∀ {is : List GId} {gs : List G}, gid ∉ is → fls γ h is gs → fls γ1 h1 is gs := by
          intro is
          induction is with
          | nil => intro gs _ hf; cases gs with
            | nil => simp [fls]
            | cons g gs => simp [fls] at hf
          | cons k is ih => intro gs hn hf; cases gs with
            | nil => simp [fls] at hf
            | cons g gs =>
              simp only [fls] at hf ⊢
              refine ⟨?_, fun id e => (s1.mono id).1 (hf.2.1 id e), hf.2.2.1, ih (fun h => hn (by simp [h])) hf.2.2.2⟩
              rw [s1.new k hf.2.1 (fun e => hn (by simp [e]))]
              exact hf.1
        exact hh f3 f4
      have hd1 : ∃ d1, h1 id = some d1 := by
        cases hx : h1 id with
        | none => have := (s1.mono id).2 hx; rw [hd0] at this; simp at this
        | some d1 => exact ⟨d1, rfl⟩
      obtain ⟨d1, hd1⟩ := hd1
      obtain ⟨h2, γ2, s2⟩ := storeN (i := i + 1) hgs s1.mm hf' hd1 s1.at_ (by rw [List.getElem?_set_self (List.getElem?_eq_some_iff.1 hj).1]) (by simp; omega)
      refine ⟨h2, γ2, ⟨?_, ?_, fun id => (s1.mono id).trans (s2.mono id), fun id' p' hp => ?_, fun he hg => ?_, s2.sub.trans s1.sub, s1.inb⟩⟩
      · have := s2.put
        rw [hput_put s1.put] at this
        rw [← this]
        simp only [setGs, List.set_set]
      · have := s2.mm
        simp only [vals, List.map_cons, World.setCells] at this ⊢
        rw [show j * sz + i + 1 = j * sz + (i + 1) by omega]
        exact this
      · exact (s1.same id' p' (fun e r => hp e i r (Nat.le_refl _) (by simp))).trans (s2.same id' p' (fun e k r hk1 hk2 => hp e k r (by omega) (by simp; omega)))
      · intro id' p'
        exact (hplain1 (by simpa using he 0 (by simp)) (hg g (by simp)) id' p').trans (s2.plain (fun k hk => by
          rw [List.getElem?_set_ne (by omega)]
          have := he (k + 1) (by simp; omega)
          rwa [show i + (k + 1) = i + 1 + k by omega] at this) (fun g' hg' => hg g' (by simp [hg'])) id' p')

theorem under_of {q : Path} {j i n k : Nat} {r : Path} (h1 : i ≤ k) (h2 : k < i + n) : Path.under q j i n (q ++ (j, k) :: r) = true := by
  unfold Path.under
  simp [h1, h2]
theorem hitL_of {id : Id} {q : Path} {j i n : Nat} : ∀ {xs : List X}, hitL id q j i n xs = false → ∀ x ∈ xs, x.hitC id q j i n = false
  | [], _, x, hx => by simp at hx
  | y :: ys, h, x, hx => by
    simp only [hitL, Bool.or_eq_false_iff] at h
    rcases List.mem_cons.1 hx with rfl | hx
    · exact h.1
    · exact hitL_of h.2 x hx
/-- What is kept behind a store speaks of other places. -/
theorem not_hit {id : Id} {q : Path} {j i n : Nat} {φ : Id → Path → Prop} (hφ : ∀ id' p', (id' = id → ∀ k r, i ≤ k → k < i + n → p' ≠ q ++ [(j, k)] ++ r) → φ id' p') {x : X} (h : x.hit id q j i n = false) : x.allp φ := by
  have hc : ∀ y : X, y.hitC id q j i n = false → y.allp φ := fun y hy => by
    cases y with
    | ref id' p' =>
      simp only [X.allp]
      refine hφ id' p' fun e k r h1 h2 e2 => ?_
      subst e; subst e2
      simp [X.hitC, under_of h1 h2] at hy
    | ptr id' p' a b =>
      simp only [X.allp]
      refine hφ id' p' fun e k r h1 h2 e2 => ?_
      subst e; subst e2
      simp [X.hitC, under_of h1 h2] at hy
    | d x => simp only [X.allp]
    | rop cs => simp only [X.allp]
    | vp cs => simp [X.hitC] at hy
    | agg cs => simp [X.hitC] at hy
    | tup cs => simp [X.hitC] at hy
    | clo f cs => simp [X.hitC] at hy
  cases x with
  | agg cs =>
    simp only [X.hit] at h
    simp only [X.allp]
    exact allps_iff.2 fun y hy => hc y (hitL_of h y hy)
  | tup cs => simp [X.hit] at h
  | d x => simp only [X.allp]
  | rop cs => simp only [X.allp]
  | vp cs =>
    simp only [X.hit] at h
    simp only [X.allp]
    exact allps_iff.2 fun y hy => hc y (hitL_of h y hy)
  | ref id' p' => exact hc _ (by simpa [X.hit] using h)
  | ptr id' p' a b => exact hc _ (by simpa [X.hit] using h)
  | clo f cs => exact hc _ (by simpa [X.hit] using h)

theorem plainL_ers : ∀ {gs : List G}, (∀ g ∈ gs, g.ok w S) → plainL (ers gs) = true → ∀ g ∈ gs, ∃ x v, g = .l (.v x) v
  | [], _, _, g, hg => by simp at hg
  | g :: gs, hok, h, g', hg' => by
    cases g with
    | s sz b els => simp [ers, G.er, plainL] at h
    | l d v =>
      cases d with
      | v x =>
        simp only [ers, G.er, plainL] at h
        rcases List.mem_cons.1 hg' with rfl | hg'
        · exact ⟨x, v, rfl⟩
        · exact plainL_ers (fun g hg => hok g (by simp [hg])) h g' hg'
      | s _ _ => simp [ers, G.er, plainL] at h
      | r _ => simp [ers, G.er, plainL] at h
      | u => simp [ers, G.er, plainL] at h

theorem heap_setCells (b : Nat) : ∀ (vs : List Value) (off : Nat) (w : World) (k : Nat), k ≠ b → (w.setCells b off vs).heap[k]? = w.heap[k]?
  | [], off, w, k, _ => rfl
  | v :: vs, off, w, k, h => by
    simp only [World.setCells]
    rw [heap_setCells b vs (off + 1) _ k h, Below.heap_setCell w _ v k (by simpa using h)]
theorem setCells_same (b : Nat) : ∀ (vs : List Value) (off : Nat) (w : World), (w.setCells b off vs).os = w.os ∧ (w.setCells b off vs).tape = w.tape ∧ (w.setCells b off vs).output = w.output ∧ (w.setCells b off vs).heap.size = w.heap.size
  | [], off, w => ⟨rfl, rfl, rfl, rfl⟩
  | v :: vs, off, w => by
    simp only [World.setCells]
    obtain ⟨h1, h2, h3, h4⟩ := setCells_same b vs (off + 1) (w.setCell ⟨b, off, none⟩ v)
    exact ⟨h1, h2, h3, by rw [h4]; simp⟩

theorem op_store (R : Rep c st U γ S a w) {t : TypeId} {y1 y2 : Operand} {x1 x2 : O} {n : Nat} (ho : o.op = .store t y1 y2) (h1 : eqO y1 x1 = true) (h2 : eqO y2 x2 = true) (ht : sizeT c.P t = some n) (hn : 0 < n) (hs : opS C st o.dst id (.store n x1 x2) = some st') : Runs c o a w st' U := by
  simp only [opS, bind_some_iff, map_some_iff] at hs
  obtain ⟨p, h3, y, h4, s, h5, rfl⟩ := hs
  obtain ⟨h6, h7⟩ := eqO_ok R h1 h3
  obtain ⟨h8, h9⟩ := eqO_ok R h2 h4
  unfold storeL at h5
  split at h5
  · rename_i pid q j i
    rw [bind_some_iff] at h5
    obtain ⟨⟨ds, hp⟩, h10, h11⟩ := h5
    split at h11
    · rename_i hl
      simp only [bind_some_iff] at h11
      obtain ⟨r, h12, el, h13, h14⟩ := h11
      split at h14
      · rename_i hle
        rw [map_some_iff] at h14
        obtain ⟨h', h15, rfl⟩ := h14
        rcases vr_cells h8 with h16 | ⟨cs, rfl⟩
        · obtain ⟨γ1, is, gs, t1, e1, e2⟩ := takeL_ok R.mm h16 h10
          obtain ⟨b, els, h17, h18⟩ := t1.mm.row h12
          rw [← h18, erss_map, List.getElem?_map, map_some_iff] at h13
          obtain ⟨gel, h19, h20⟩ := h13
          rw [← ers_map] at h20
          have hgl : gs.length = n := by rw [← ers_length, e1]; exact hl
          have hel : gel.length = el.length := by rw [← h20, ers_length]
          have hrow := t1.mm.nav_ok h17
          cases b with
          | none =>
            simp only [G.ok] at hrow
            rw [hrow.1] at h19
            simp at h19
          | some b =>
            obtain ⟨b, cap⟩ := b
            have hd0 : ∃ d0, hp pid = some d0 := by
              unfold Heap.row Heap.nav at h12
              simp only [bind_some_iff] at h12
              obtain ⟨_, ⟨d0, hd0, _⟩, _⟩ := h12
              exact ⟨d0, hd0⟩
            obtain ⟨d0, hd0⟩ := hd0
            obtain ⟨h2', γ2, s2⟩ := storeN (S := S) (gs := gs) (by intro e; rw [e] at hgl; simp at hgl; omega) t1.mm t1.fl hd0 h17 h19 (i := i) (by rw [hgl, hel]; exact hle)
            have hput := s2.put
            have hrw : erss (els.set j (setGs gel i gs)) = r.2.set j (setCells el i ds) := by
              rw [← h18, ← h20, ← e1, ← setGs_ers]
              simp [erss_map, ers_map, List.map_set]
            rw [hrw] at hput
            rw [h15] at hput
            simp only [Option.some.injEq] at hput
            subst hput
            have hvr1 := vr_same (S' := S) (w' := w) (fun k hk => ⟨hk, rfl⟩) (.ptr pid q j i) _ (by simp only [X.allp]; exact t1.same pid q) h6
            simp only [X.vr] at hvr1
            obtain ⟨ad, had, hadeq⟩ := hvr1
            have hadb := hadeq _ _ _ _ h17
            subst hadb
            have hvs : vals gs = (a.eval y2).cells.toList := e2
            -- the cells are there
            have hcells : ∀ k, k < gs.length → (w.cell? ⟨b, j * r.1 + i + k, none⟩).isSome = true ∧ w.frozen? ⟨b, j * r.1 + i + k, none⟩ = false := fun k hk => by
              have hk' : i + k < gel.length := by omega
              have := cell_at hrow h19 (List.getElem?_eq_getElem hk')
              obtain ⟨cur, e, hcur⟩ := heap_cells_of_ok hrow
              rw [show j * r.1 + i + k = j * r.1 + (i + k) by omega]
              exact ⟨by rw [this]; rfl, frozen_of_row w b _ cur e hcur⟩
            have hone : ∀ v ∈ vals gs, v.oneCell' = true := fun v hv => by
              simp only [vals, List.mem_map] at hv
              obtain ⟨g, hg, rfl⟩ := hv
              exact gval_one (fls_ok t1.mm t1.fl g hg)
            have hrun : (execOp a.eval o).run c.P w = .ok .skip (w.setCells b (j * r.1 + i) (vals gs)) := by
              unfold sizeT at ht
              rw [map_some_iff] at ht
              obtain ⟨ti, hti, hts⟩ := ht
              have hcs : (a.eval y2).cells.size = n := by
                have := congrArg List.length hvs
                rw [vals_length, hgl] at this
                simpa using this.symm
              have hst := run_storeCells_cells (P := c.P) b (j * r.1 + i) (vals gs) 0 w (fun k hk => by rw [vals_length] at hk; simpa using (hcells k hk).1) (fun k hk => by rw [vals_length] at hk; simpa using (hcells k hk).2) hone
              rw [hvs] at hst
              simp [execOp, ho, had, Instr.storeAt, Instr.sureAddr, storeVar, sizeOf, typeInfo, hti, hts, hcs, hst, hvs]
            refine .skip _ hrun ?_
            obtain ⟨so, stp, sou, ssz⟩ := setCells_same b (vals gs) (j * r.1 + i) w
            have hbl : Bl γ b := by
              obtain ⟨i0, g0, hb1, hb2⟩ := s2.inb
              exact t1.sub i0 g0 hb1 b hb2
            -- the environment that stays
            have hsame : ∀ t x, (if plainL ((el.drop i).take n) && plainL ds then st.env else purge pid q j i n st.env) t = some x → st.env t = some x ∧ x.allp (Same γ γ2) := fun t x hx => by
              split at hx
              · rename_i hpl
                simp only [Bool.and_eq_true] at hpl
                refine ⟨hx, allp_all (fun id p => (t1.same id p).trans (s2.plain (fun k hk => ?_) (fun g hg => ?_) id p)) x⟩
                · have hok : ∀ g ∈ (gel.drop i).take n, g.ok w S := fun g hg => by
                    have hg' := List.mem_of_mem_drop (List.mem_of_mem_take hg)
                    simp only [G.ok] at hrow
                    exact okss_iff.1 hrow.2.2 gel (List.mem_of_getElem? h19) g hg'
                  have hpl1 := hpl.1
                  rw [← h20, ← ers_drop, ← ers_take] at hpl1
                  have hk' : i + k < gel.length := by omega
                  have hmem : gel[i + k] ∈ (gel.drop i).take n := by
                    refine List.mem_of_getElem? (i := k) ?_
                    rw [List.getElem?_take, if_pos (by omega), List.getElem?_drop, List.getElem?_eq_getElem hk']
                  obtain ⟨x, v, e⟩ := plainL_ers hok hpl1 _ hmem
                  exact ⟨x, v, by rw [List.getElem?_eq_getElem hk', e]⟩
                · have hpl2 := hpl.2
                  rw [← e1] at hpl2
                  exact plainL_ers (fls_ok t1.mm t1.fl) hpl2 g hg
              · unfold purge at hx
                rw [bind_some_iff] at hx
                obtain ⟨x', hx1, hx2⟩ := hx
                split at hx2
                · simp at hx2
                · rename_i hh
                  simp only [Option.some.injEq] at hx2
                  subst hx2
                  refine ⟨hx1, not_hit (n := n) (fun id' p' hp' => (t1.same id' p').trans (s2.same id' p' (fun e k r hk1 hk2 => hp' e k r hk1 (by omega)))) (by simpa using hh)⟩
            have R2 := (R.less (fun t x hx => (hsame t x hx).1)).change (U' := U) s2.mm so stp sou (by rw [ssz]; exact Nat.le_refl _) (fun k _ hk => heap_setCells b _ _ w k (fun e => hk (e ▸ hbl))) (Sub.own R (s2.sub.trans t1.sub)) (fun t x hx => (hsame t x hx).2)
              (fun id hid => ?_) (fun k h => h) (fun k h => .inl h) (fun id d hd => ?_) (fun _ h => h) (fun id _ h0 => (s2.mono id).1 (t1.mono id h0))
            · exact ⟨γ2, S, R2.lose _⟩
            · refine (t1.same id []).trans (s2.same id [] (fun e k r _ _ e2 => ?_))
              simp at e2
            · have hne : st.heap id ≠ none := fun h0 => by
                have := (s2.mono id).1 (t1.mono id h0)
                rw [this] at hd
                simp at hd
              obtain ⟨d1, hd1⟩ := Option.ne_none_iff_exists'.1 hne
              exact R.hid id d1 hd1
        · rw [takeL_tup] at h10
          simp at h10
      · simp at h14
    · simp at h11
  · simp at h5

end
end Go.Ev
