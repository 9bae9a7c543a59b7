/- Operations that read memory or lead to it: each is sound for the machine. -/
import Derived.Test.YtcoigakalblkgaaEvOps
import Derived.Laws.Cells
set_option linter.all false
namespace Go.Ev
open Go.RowKit

/-! ### Lists -/
section
variable {γ : Gm} {w : World} {S : Nat → Prop}
theorem vrs_drop : ∀ (n : Nat) {xs : List X} {vs : List Value}, vrs γ w S xs vs → vrs γ w S (xs.drop n) (vs.drop n)
  | 0, _, _, h => h
  | n + 1, [], [], h => by simpa using h
  | n + 1, x :: xs, v :: vs, h => by
    simp only [vrs] at h
    simpa using vrs_drop n h.2
  | _ + 1, [], _ :: _, h => by simp [vrs] at h
  | _ + 1, _ :: _, [], h => by simp [vrs] at h
theorem vrs_take : ∀ (n : Nat) {xs : List X} {vs : List Value}, vrs γ w S xs vs → vrs γ w S (xs.take n) (vs.take n)
  | 0, _, _, h => by simp [vrs]
  | n + 1, [], [], h => by simpa using h
  | n + 1, x :: xs, v :: vs, h => by
    simp only [vrs, List.take_succ_cons] at h ⊢
    exact ⟨h.1, vrs_take n h.2⟩
  | _ + 1, [], _ :: _, h => by simp [vrs] at h
  | _ + 1, _ :: _, [], h => by simp [vrs] at h
theorem rds_add : ∀ (cs : List D) (a : Addr) (m n : Nat), rds w S (a.add m) n cs ↔ rds w S a (m + n) cs
  | [], _, _, _ => by simp [rds]
  | c :: cs, a, m, n => by
    simp only [rds, Addr.add_add, Addr.add_block, rds_add cs a m (n + 1), Nat.add_assoc]
theorem rds_drop : ∀ (k : Nat) (cs : List D) (a : Addr) (n : Nat), rds w S a n cs → rds w S a (n + k) (cs.drop k)
  | 0, cs, a, n, h => h
  | k + 1, [], a, n, h => by simp [rds]
  | k + 1, c :: cs, a, n, h => by
    simp only [rds] at h
    have := rds_drop k cs a (n + 1) h.2
    rw [show n + 1 + k = n + (k + 1) by omega] at this
    simpa using this
theorem rds_take : ∀ (k : Nat) (cs : List D) (a : Addr) (n : Nat), rds w S a n cs → rds w S a n (cs.take k)
  | 0, cs, a, n, h => by simp [rds]
  | k + 1, [], a, n, h => by simp [rds]
  | k + 1, c :: cs, a, n, h => by
    simp only [rds, List.take_succ_cons] at h ⊢
    exact ⟨h.1, rds_take k cs a (n + 1) h.2⟩
/-- The cells' values. -/
theorem rds_vals : ∀ (cs : List D) (a : Addr) (n : Nat), rds w S a n cs → ∃ us : List Value, us.length = cs.length ∧ (∀ (j : Nat) (u : Value), us[j]? = some u → w.cell? (a.add (n + j)) = some u) ∧ ∀ (j : Nat) (c : D) (u : Value), cs[j]? = some c → us[j]? = some u → c.rd w S u
  | [], a, n, h => ⟨[], rfl, by simp, by simp⟩
  | c :: cs, a, n, h => by
    simp only [rds] at h
    obtain ⟨⟨u, h1, _, h2⟩, h3⟩ := h
    obtain ⟨us, e1, e2, e3⟩ := rds_vals cs a (n + 1) h3
    refine ⟨u :: us, by simp [e1], fun j v hj => ?_, fun j d v hd hj => ?_⟩
    · cases j with
      | zero => simp only [List.getElem?_cons_zero, Option.some.injEq] at hj; subst hj; exact h1
      | succ j =>
        simp only [List.getElem?_cons_succ] at hj
        have := e2 j v hj
        rwa [show n + 1 + j = n + (j + 1) by omega] at this
    · cases j with
      | zero =>
        simp only [List.getElem?_cons_zero, Option.some.injEq] at hj hd
        subst hj; subst hd
        exact h2
      | succ j =>
        simp only [List.getElem?_cons_succ] at hj hd
        exact e3 j d v hd hj
theorem rdss_at {sz : Nat} : ∀ (els : List (List D)) (A : Option Addr) (n : Nat), (∀ el ∈ els, el.length = sz) → rdss w S A n els → ∀ (i : Nat) (el : List D), els[i]? = some el → ∃ a, A = some a ∧ rds w S a (n + i * sz) el
  | [], A, n, _, h, i, el, hi => by simp at hi
  | e :: els, A, n, hl, h, 0, el, hi => by
    simp only [List.getElem?_cons_zero, Option.some.injEq] at hi
    subst hi
    simp only [rdss] at h
    simpa using h.1
  | e :: els, A, n, hl, h, i + 1, el, hi => by
    simp only [List.getElem?_cons_succ] at hi
    simp only [rdss] at h
    obtain ⟨a, h1, h2⟩ := rdss_at els A _ (fun x hx => hl x (by simp [hx])) h.2 i el hi
    refine ⟨a, h1, ?_⟩
    rw [hl e (by simp)] at h2
    rw [show n + (i + 1) * sz = n + sz + i * sz by rw [Nat.add_mul]; omega]
    exact h2
/-- A cell that is loaded out of memory that is only read. -/
theorem ro_vr {c : D} {x : X} (hx : c.ro = some x) {u : Value} (h : c.rd w S u) : x.vr γ w S u ∧ ∀ φ, x.allp φ := by
  unfold D.ro at hx
  split at hx
  · simp only [Option.some.injEq] at hx; subst hx
    simp only [D.rd] at h
    exact ⟨by simp only [X.vr]; exact h, fun φ => by simp only [X.allp]⟩
  · simp only [Option.some.injEq] at hx; subst hx
    simp only [D.rd] at h
    exact ⟨by simp only [X.vr, D.rd]; exact h, fun φ => by simp only [X.allp]⟩
  · simp only [Option.some.injEq] at hx; subst hx
    simp only [D.rd] at h
    exact ⟨by simp only [X.vr, D.rd]; exact h, fun φ => by simp only [X.allp]⟩
  · simp at hx
theorem rd_one {c : D} {u : Value} (h : c.rd w S u) : u.oneCell' = true := by
  cases c with
  | v x => simp only [D.rd] at h; rw [h.1]; exact h.2
  | s sz els => simp only [D.rd] at h; obtain ⟨A, c, rfl, _⟩ := h; rfl
  | r els => simp only [D.rd] at h; obtain ⟨A, c, rfl, _⟩ := h; rfl
  | u => simpa only [D.rd] using h
theorem roL_vrs : ∀ {cs : List D} {xs : List X} {us : List Value}, roL cs = some xs → us.length = cs.length → (∀ (j : Nat) (c : D) (u : Value), cs[j]? = some c → us[j]? = some u → c.rd w S u) → vrs γ w S xs us ∧ ∀ φ, allps φ xs
  | [], xs, [], h, _, _ => by
    simp only [roL, Option.some.injEq] at h
    subst h
    exact ⟨by simp [vrs], fun φ => by simp [allps]⟩
  | c :: cs, xs, u :: us, h, hl, hr => by
    simp only [roL, bind_some_iff, map_some_iff] at h
    obtain ⟨x, h1, ys, h2, rfl⟩ := h
    obtain ⟨h3, h4⟩ := ro_vr (γ := γ) h1 (hr 0 c u rfl rfl)
    obtain ⟨h5, h6⟩ := roL_vrs (us := us) h2 (by simpa using hl) (fun j d v hd hv => hr (j + 1) d v (by simpa using hd) (by simpa using hv))
    exact ⟨by simp only [vrs]; exact ⟨h3, h5⟩, fun φ => by simp only [allps]; exact ⟨h4 φ, h6 φ⟩⟩
  | [], _, _ :: _, _, hl, _ => by simp at hl
  | _ :: _, _, [], _, hl, _ => by simp at hl
theorem gval_one {g : G} (h : g.ok w S) : g.val.oneCell' = true := by
  cases g with
  | l d v => simp only [G.ok] at h; exact rd_one h.2
  | s sz b els => cases b <;> rfl
/-- A cell that is loaded out of a row of the call's own. -/
theorem own_vr {id : Id} {p : Path} {g : G} (hn : γ.nav id p = some g) (hg : g.ok w S) {x : X} (hx : g.er.own id p = some x) : x.vr γ w S g.val ∧ ∀ φ : Id → Path → Prop, (∀ p, φ id p) → x.allp φ := by
  cases g with
  | l d v =>
    simp only [G.ok] at hg
    simp only [G.er, D.own] at hx
    split at hx
    · simp only [Option.some.injEq] at hx; subst hx
      simp only [D.rd] at hg
      exact ⟨by simp only [X.vr, G.val]; exact hg.2, fun φ _ => by simp only [X.allp]⟩
    · simp [D.leaf] at hg
    · simp only [Option.some.injEq] at hx; subst hx
      exact ⟨by simp only [X.vr, G.val]; exact hg.2, fun φ _ => by simp only [X.allp]⟩
    · simp at hx
  | s sz b els =>
    simp only [G.er, D.own, Option.some.injEq] at hx
    subst hx
    refine ⟨?_, fun φ h => by simp only [X.allp]; exact h p⟩
    simp only [X.vr]
    refine ⟨gval_one hg, fun g' hg' => ?_⟩
    rw [hn] at hg'
    simp only [Option.some.injEq] at hg'
    subst hg'
    exact ⟨rfl, rfl⟩
theorem ownL_vrs {id : Id} {q : Path} {j : Nat} : ∀ {gs : List G} {i : Nat} {xs : List X}, (∀ (k : Nat) (g : G), gs[k]? = some g → γ.nav id (q ++ [(j, i + k)]) = some g ∧ g.ok w S) → ownL id q j i (ers gs) = some xs →
    vrs γ w S xs (vals gs) ∧ ∀ φ : Id → Path → Prop, (∀ p, φ id p) → allps φ xs
  | [], i, xs, _, h => by
    simp only [ers, ownL, Option.some.injEq] at h
    subst h
    exact ⟨by simp [vrs, vals], fun φ _ => by simp [allps]⟩
  | g :: gs, i, xs, hg, h => by
    simp only [ers, ownL, bind_some_iff, map_some_iff] at h
    obtain ⟨x, h1, ys, h2, rfl⟩ := h
    obtain ⟨h3, h4⟩ := hg 0 g rfl
    obtain ⟨h5, h6⟩ := own_vr h3 h4 h1
    obtain ⟨h7, h8⟩ := ownL_vrs (gs := gs) (i := i + 1) (fun k g' hk => by
      have := hg (k + 1) g' (by simpa using hk)
      rwa [show i + (k + 1) = i + 1 + k by omega] at this) h2
    exact ⟨by simp only [vrs, vals, List.map_cons]; exact ⟨h5, h7⟩, fun φ hφ => by simp only [allps]; exact ⟨h6 φ hφ, h8 φ hφ⟩⟩
theorem ers_drop (gs : List G) (n : Nat) : ers (gs.drop n) = (ers gs).drop n := by simp [ers_map, List.map_drop]
theorem ers_take (gs : List G) (n : Nat) : ers (gs.take n) = (ers gs).take n := by simp [ers_map, List.map_take]
end

section
variable {c : Ctx} {st st' : St} {U : Nat → Prop} {γ : Gm} {S : Nat → Prop} {a : Act} {w : World} {C : Cl} {o : Oper} {id : Nat}

/-- What cells lie at an address. -/
theorem loadL_ok (R : Rep c st U γ S a w) {n : Nat} {x : X} {xs : List X} (hl : loadL st.heap n x = some xs) {v : Value} (hx : x.vr γ w S v) (hi : x.allp (fun id _ => IdIn c.A st.fr U id)) :
    ∃ ad us, v = .pointer (some ad) ∧ us.length = n ∧ (∀ (j : Nat) (u : Value), us[j]? = some u → w.cell? (ad.add j) = some u) ∧ vrs γ w S xs us ∧ allps (fun id _ => IdIn c.A st.fr U id) xs ∧ ∀ u ∈ us, u.oneCell' = true := by
  unfold loadL at hl
  split at hl
  · rename_i cs
    split at hl
    · rename_i hle
      simp only [X.vr] at hx
      obtain ⟨ad, rfl, h1⟩ := hx
      obtain ⟨us, e1, e2, e3⟩ := rds_vals _ _ _ (rds_take n cs ad 0 h1)
      obtain ⟨h2, h3⟩ := roL_vrs (γ := γ) hl e1 e3
      refine ⟨ad, us, rfl, by rw [e1, List.length_take]; omega, fun j u hj => by simpa using e2 j u hj, h2, h3 _, fun u hu => ?_⟩
      obtain ⟨j, hj⟩ := List.getElem?_of_mem hu
      have hlt := (List.getElem?_eq_some_iff.1 hj).1
      exact rd_one (e3 j _ u (List.getElem?_eq_getElem (by omega)) hj)
    · simp at hl
  · rename_i cs
    split at hl
    · rename_i hle
      simp only [Option.some.injEq] at hl
      subst hl
      simp only [X.vr, X.allp] at hx hi
      obtain ⟨ad, rfl, us, h1, h2, h3⟩ := hx
      have hlen := vrs_length h1
      refine ⟨ad, us.take n, rfl, by rw [List.length_take]; omega, fun j u hj => ?_, vrs_take n h1, allps_iff.2 fun x hx => allps_iff.1 hi x (List.mem_of_mem_take hx), fun u hu => h2 u (List.mem_of_mem_take hu)⟩
      rw [List.getElem?_take] at hj
      split at hj
      · exact (h3 j u hj).1
      · simp at hj
    · simp at hl
  · rename_i id q j i
    simp only [bind_some_iff] at hl
    obtain ⟨r, h1, el, h2, h3⟩ := hl
    split at h3
    · rename_i hle
      obtain ⟨b, els, h4, h5⟩ := R.mm.row h1
      rw [← h5, erss_map, List.getElem?_map, map_some_iff] at h2
      obtain ⟨gs, h6, rfl⟩ := h2
      rw [← ers_map] at h3 hle
      rw [← ers_drop, ← ers_take] at h3
      rw [ers_length] at hle
      have hrow := R.mm.nav_ok h4
      cases b with
      | none =>
        simp only [G.ok] at hrow
        rw [hrow.1] at h6
        simp at h6
      | some b =>
        obtain ⟨b, cap⟩ := b
        simp only [X.vr] at hx
        obtain ⟨ad, rfl, h7⟩ := hx
        have h8 := h7 _ _ _ _ h4
        subst h8
        have hcell : ∀ (k : Nat) (g : G), ((gs.drop i).take n)[k]? = some g → gs[i + k]? = some g := fun k g hk => by
          rw [List.getElem?_take] at hk
          split at hk
          · rwa [List.getElem?_drop] at hk
          · simp at hk
        have hnav : ∀ (k : Nat) (g : G), gs[k]? = some g → γ.nav id (q ++ [(j, k)]) = some g ∧ g.ok w S := fun k g hk => by
          have : γ.nav id (q ++ [(j, k)]) = some g := by
            unfold Gm.nav at h4 ⊢
            rw [bind_some_iff] at h4 ⊢
            obtain ⟨g0, e1, e2⟩ := h4
            exact ⟨g0, e1, by rw [nav_append, e2]; simp [G.nav, h6, hk]⟩
          exact ⟨this, R.mm.nav_ok this⟩
        obtain ⟨h9, h10⟩ := ownL_vrs (γ := γ) (w := w) (S := S) (gs := (gs.drop i).take n) (i := i) (fun k g hk => hnav _ _ (hcell k g hk)) h3
        simp only [X.allp] at hi
        refine ⟨_, vals ((gs.drop i).take n), rfl, by simp [vals]; omega, fun k u hk => ?_, h9, h10 _ (fun _ => hi), fun u hu => ?_⟩
        · simp only [vals, List.getElem?_map, map_some_iff] at hk
          obtain ⟨g, hk, rfl⟩ := hk
          rw [Addr.add_lit, show j * r.1 + i + k = j * r.1 + (i + k) by omega]
          exact cell_at hrow h6 (hcell k g hk)
        · simp only [vals, List.mem_map] at hu
          obtain ⟨g, hg, rfl⟩ := hu
          obtain ⟨k, hk⟩ := List.getElem?_of_mem hg
          exact gval_one (hnav _ _ (hcell k g hk)).2
    · simp at h3
  · simp at hl

theorem run_loadVar_agg {P : Program} {w : World} {t : TypeId} {n : Nat} (h : aggOf P t = some (some n)) {ad : Addr} {us : List Value} (hl : us.length = n) (hc : ∀ (j : Nat) (u : Value), us[j]? = some u → w.cell? (ad.add j) = some u) :
    (Instr.loadAt t (.pointer (some ad))).run P w = .ok (.agg us.toArray) w := by
  have hrun := run_loadCells_list (P := P) w ad us hc
  rw [hl] at hrun
  unfold aggOf at h
  split at h
  · rename_i fs hu
    rw [map_some_iff] at h
    obtain ⟨i, hi, he⟩ := h
    simp only [Option.some.injEq] at he
    simp [Instr.loadAt, Instr.sureAddr, loadVar, isAgg, run_underlying hu, sizeOf, typeInfo, hi, he, hrun]
  · rename_i e m hu
    rw [map_some_iff] at h
    obtain ⟨i, hi, he⟩ := h
    simp only [Option.some.injEq] at he
    simp [Instr.loadAt, Instr.sureAddr, loadVar, isAgg, run_underlying hu, sizeOf, typeInfo, hi, he, hrun]
  · simp at h
  · simp at h
theorem run_loadVar_one {P : Program} {w : World} {t : TypeId} (h : aggOf P t = some none) {ad : Addr} {u : Value} (hc : w.cell? ad = some u) :
    (Instr.loadAt t (.pointer (some ad))).run P w = .ok u w := by
  unfold aggOf at h
  split at h
  · rw [map_some_iff] at h
    obtain ⟨i, _, he⟩ := h
    simp at he
  · rw [map_some_iff] at h
    obtain ⟨i, _, he⟩ := h
    simp at he
  · rename_i d hns hna hu
    have hag : (isAgg t).run P w = .ok false w := by
      unfold isAgg
      simp only [Sem.run_bind, run_underlying hu, Result.andThen_ok]
      rfl
    simp [Instr.loadAt, Instr.sureAddr, loadVar, hag, load, Sem.run, hc]
  · simp at h
theorem op_load (R : Rep c st U γ S a w) (hd : ∀ k, o.dst = some k → k < c.nt) {t : TypeId} {y : Operand} {x : O} {n : Option Nat} (ho : o.op = .load t y) (hx : eqO y x = true) (ht : aggOf c.P t = some n) (hs : opS C st o.dst id (.load n x) = some st') : Runs c o a w st' U := by
  simp only [opS, bind_some_iff, map_some_iff] at hs
  obtain ⟨z, h1, xs, h2, r, h3, rfl⟩ := hs
  obtain ⟨h4, h5⟩ := eqO_ok R hx h1
  obtain ⟨ad, us, h6, h7, h8, h9, h10, h11⟩ := loadL_ok R h2 h4 h5
  cases n with
  | none =>
    simp only [loadV] at h3
    unfold one at h3
    split at h3
    · rename_i x1
      simp only [Option.some.injEq] at h3
      subst h3
      have hul := vrs_length h9
      obtain ⟨u, rfl⟩ : ∃ u, us = [u] := by
        match us, hul with
        | [u], _ => exact ⟨u, rfl⟩
      simp only [vrs, allps] at h9 h10
      have hc := h8 0 u rfl
      rw [Addr.add_zero'] at hc
      refine .value u w ?_ (ok_put R hd h9.1 h10.1)
      simp [execOp, ho, h6, run_loadVar_one ht hc]
    · simp at h3
  | some n =>
    simp only [loadV, Option.some.injEq] at h3
    subst h3
    simp only [Option.getD_some] at h7
    refine .value (.agg us.toArray) w ?_ (ok_put R hd (by simp only [X.vr]; exact ⟨us, rfl, h9, h11⟩) (by simp only [X.allp]; exact h10))
    simp [execOp, ho, h6, run_loadVar_agg ht h7 h8]

theorem op_fld (R : Rep c st U γ S a w) (hd : ∀ k, o.dst = some k → k < c.nt) {t : TypeId} {f : Nat} {y : Operand} {x : O} {off : Nat} {n : Option Nat} {ft : TypeId} (ho : o.op = .field t y f) (hx : eqO y x = true) (hf : fieldT c.P t f = some (off, ft)) (ht : aggOf c.P ft = some n)
    (hs : opS C st o.dst id (.fld off n x) = some st') : Runs c o a w st' U := by
  simp only [opS, bind_some_iff] at hs
  obtain ⟨z, h1, h2⟩ := hs
  obtain ⟨h3, h4⟩ := eqO_ok R hx h1
  split at h2
  · rename_i cs
    rw [map_some_iff] at h2
    obtain ⟨r, h5, rfl⟩ := h2
    simp only [X.vr] at h3
    obtain ⟨vs, h6, h7, h8⟩ := h3
    simp only [X.allp] at h4
    unfold fieldT at hf
    split at hf
    · rename_i fs hu
      rw [map_some_iff] at hf
      obtain ⟨fl, h9, h10⟩ := hf
      simp only [Prod.mk.injEq] at h10
      obtain ⟨rfl, rfl⟩ := h10
      cases n with
      | none =>
        simp only [fldX] at h5
        obtain ⟨u, h11, h12⟩ := vrs_get h7 h5
        refine .value u w ?_ (ok_put R hd h12 (allps_iff.1 h4 r (List.mem_of_getElem? h5)))
        have hag : (isAgg fl.type).run c.P w = .ok false w := by
          unfold aggOf at ht
          split at ht
          · rw [map_some_iff] at ht; obtain ⟨i, _, he⟩ := ht; simp at he
          · rw [map_some_iff] at ht; obtain ⟨i, _, he⟩ := ht; simp at he
          · rename_i d hns hna hu2
            unfold isAgg
            simp only [Sem.run_bind, run_underlying hu2, Result.andThen_ok]
            rfl
          · simp at ht
        simp [execOp, ho, h6, Instr.field, run_underlying hu, h9, asAgg, part, hag, h11]
      | some n =>
        simp only [fldX] at h5
        split at h5
        · rename_i hle
          simp only [Option.some.injEq] at h5
          subst h5
          have hlen := vrs_length h7
          refine .value (.agg ((vs.drop fl.offset).take n).toArray) w ?_ (ok_put R hd (by
            simp only [X.vr]
            exact ⟨_, rfl, vrs_take n (vrs_drop fl.offset h7), fun u hu' => h8 u (List.mem_of_mem_drop (List.mem_of_mem_take hu'))⟩) (by
            simp only [X.allp]
            exact allps_iff.2 fun x hx' => allps_iff.1 h4 x (List.mem_of_mem_drop (List.mem_of_mem_take hx'))))
          have hag : ∃ i, c.P.info? fl.type = some i ∧ i.size = n ∧ (isAgg fl.type).run c.P w = .ok true w := by
            unfold aggOf at ht
            split at ht
            · rename_i hu2
              rw [map_some_iff] at ht
              obtain ⟨i, hi, he⟩ := ht
              simp only [Option.some.injEq] at he
              exact ⟨i, hi, he, by simp [isAgg, run_underlying hu2]⟩
            · rename_i hu2
              rw [map_some_iff] at ht
              obtain ⟨i, hi, he⟩ := ht
              simp only [Option.some.injEq] at he
              exact ⟨i, hi, he, by simp [isAgg, run_underlying hu2]⟩
            · simp at ht
            · simp at ht
          obtain ⟨i, hi, he, hag⟩ := hag
          simp [execOp, ho, h6, Instr.field, run_underlying hu, h9, asAgg, part, hag, sizeOf, typeInfo, hi, he, List.extract_eq_take_drop]
        · simp at h5
    · simp at hf
  · simp at h2

theorem op_faddr (R : Rep c st U γ S a w) (hd : ∀ k, o.dst = some k → k < c.nt) {t : TypeId} {f : Nat} {y : Operand} {x : O} {off : Nat} {ft : TypeId} {n : Nat} (ho : o.op = .fieldAddr t y f) (hx : eqO y x = true) (hf : fieldT c.P t f = some (off, ft)) (ht : sizeT c.P ft = some n) (hn : n ≠ 0)
    (hs : opS C st o.dst id (.faddr off x) = some st') : Runs c o a w st' U := by
  simp only [opS, bind_some_iff, map_some_iff] at hs
  obtain ⟨z, h1, r, h2, rfl⟩ := hs
  obtain ⟨h3, h4⟩ := eqO_ok R hx h1
  unfold fieldT at hf
  split at hf
  · rename_i fs hu
    rw [map_some_iff] at hf
    obtain ⟨fl, h9, h10⟩ := hf
    simp only [Prod.mk.injEq] at h10
    obtain ⟨rfl, rfl⟩ := h10
    unfold sizeT at ht
    rw [map_some_iff] at ht
    obtain ⟨i, hi, he⟩ := ht
    have hrun : ∀ ad, (Instr.fieldAt t (.pointer (some ad)) f).run c.P w = .ok (.pointer (some (ad.add fl.offset))) w := fun ad => by
      simp [Instr.fieldAt, run_underlying hu, h9, Instr.sureAddr, fieldPlace, sizeOf, typeInfo, hi, he, hn]
    unfold faddrX at h2
    split at h2
    · rename_i id q j i
      simp only [Option.some.injEq] at h2
      subst h2
      simp only [X.vr] at h3
      obtain ⟨ad, h5, h6⟩ := h3
      refine .value _ w (by simp only [execOp, ho, h5, Sem.run_bind, hrun]; rfl) (ok_put R hd (by
        simp only [X.vr]
        refine ⟨_, rfl, fun sz b cap els hnav => ?_⟩
        rw [h6 sz b cap els hnav, Addr.add_lit, Nat.add_assoc]) (by simpa only [X.allp] using h4))
    · rename_i cs
      simp only [Option.some.injEq] at h2
      subst h2
      simp only [X.vr] at h3
      obtain ⟨ad, h5, h6⟩ := h3
      refine .value _ w (by simp only [execOp, ho, h5, Sem.run_bind, hrun]; rfl) (ok_put R hd (by
        simp only [X.vr]
        refine ⟨_, rfl, ?_⟩
        rw [rds_add]
        have := rds_drop fl.offset cs ad 0 h6
        rw [Nat.zero_add] at this
        exact this) (by simp only [X.allp]))
    · rename_i cs
      simp only [Option.some.injEq] at h2
      subst h2
      simp only [X.vr, X.allp] at h3 h4
      obtain ⟨ad, h5, us, h6, h7, h8⟩ := h3
      refine .value _ w (by simp only [execOp, ho, h5, Sem.run_bind, hrun]; rfl) (ok_put R hd (by
        simp only [X.vr]
        refine ⟨_, rfl, us.drop fl.offset, vrs_drop _ h6, fun u hu => h7 u (List.mem_of_mem_drop hu), fun i u hu => ?_⟩
        rw [List.getElem?_drop] at hu
        rw [Addr.add_add, Addr.add_block]
        exact h8 _ u hu) (by
        simp only [X.allp]
        exact allps_iff.2 fun x hx => allps_iff.1 h4 x (List.mem_of_mem_drop hx)))
    · simp at h2
  · simp at hf

theorem op_ixa (R : Rep c st U γ S a w) (hd : ∀ k, o.dst = some k → k < c.nt) {t e : TypeId} {y1 y2 : Operand} {x1 x2 : O} {sz : Nat} (ho : o.op = .indexAddr t y1 y2) (h1 : eqO y1 x1 = true) (h2 : eqO y2 x2 = true) (ht : sliceE c.P t = some e) (hz : sizeT c.P e = some sz)
    (hs : opS C st o.dst id (.ixa sz x1 x2) = some st') : Runs c o a w st' U := by
  simp only [opS, bind_some_iff, map_some_iff] at hs
  obtain ⟨x, h4, ⟨k, n⟩, h5, r, h6, rfl⟩ := hs
  obtain ⟨h7, h8⟩ := eqO_ok R h1 h4
  have e2 := rdI_ok R h2 h5
  simp only at e2 h6
  unfold sizeT at hz
  rw [map_some_iff] at hz
  obtain ⟨i, hi, he⟩ := hz
  unfold sliceE at ht
  split at ht
  · rename_i e' hu
    simp only [Option.some.injEq] at ht
    subst ht
    have hrun : ∀ (ad : Addr) (len cap : Nat), 0 ≤ n → n < (len : Int) → (Instr.indexAt t (.slice (some ad) len cap) (.int k n)).run c.P w = .ok (.pointer (some (ad.add (n.toNat * sz)))) w := fun ad len cap h0 h1 => by
      simp [Instr.indexAt, run_underlying hu, asIntOf, sizeOf, typeInfo, hi, he, h0, h1]
    unfold ixaX at h6
    split at h6
    · rename_i els
      split at h6
      · rename_i hb
        simp only [bind_some_iff] at h6
        obtain ⟨el, h9, h10⟩ := h6
        split at h10
        · rename_i hel
          simp only [Option.some.injEq] at h10
          subst h10
          simp only [X.vr, D.rd] at h7
          obtain ⟨A, cap, h11, h12, h13, ⟨sz', h14⟩, h15⟩ := h7
          obtain ⟨ad, rfl, h16⟩ := rdss_at els A 0 h14 h15 _ _ h9
          have hsz : sz' = sz := by rw [← hel]; exact (h14 el (List.mem_of_getElem? h9)).symm
          subst hsz
          refine .value _ w (by simp only [execOp, ho, h11, e2, Sem.run_bind, hrun ad _ _ hb.1 hb.2]; rfl) (ok_put R hd (by
            simp only [X.vr]
            refine ⟨_, rfl, ?_⟩
            rw [rds_add]
            rw [Nat.zero_add] at h16
            exact h16) (by simp only [X.allp]))
        · simp at h10
      · simp at h6
    · rename_i id p
      simp only [bind_some_iff] at h6
      obtain ⟨q, h9, h10⟩ := h6
      split at h10
      · rename_i hb
        simp only [Option.some.injEq] at h10
        subst h10
        obtain ⟨b, els, h11, h12⟩ := R.mm.row h9
        simp only [X.vr] at h7
        obtain ⟨h13, _⟩ := h7.2 _ h11
        have hlen : els.length = q.2.length := by rw [← h12, erss_length]
        cases b with
        | none =>
          have hrow := R.mm.nav_ok h11
          simp only [G.ok] at hrow
          rw [hrow.1] at hlen
          simp at hlen
          have := hb.2.1
          rw [← hlen] at this
          simp at this
          omega
        | some b =>
          obtain ⟨b, cap⟩ := b
          simp only [G.val] at h13
          refine .value _ w (by simp only [execOp, ho, ← h13, e2, Sem.run_bind, hrun _ els.length _ hb.1 (by rw [hlen]; exact hb.2.1)]; rfl) (ok_put R hd (by
            simp only [X.vr]
            refine ⟨_, rfl, fun sz' b' cap' els' hnav => ?_⟩
            rw [h11] at hnav
            simp only [Option.some.injEq, G.s.injEq, Prod.mk.injEq] at hnav
            obtain ⟨rfl, ⟨rfl, rfl⟩, rfl⟩ := hnav
            rw [Addr.add_lit, hb.2.2]
            simp) (by simpa only [X.allp] using h8))
      · simp at h10
    · simp at h6
  · simp at ht

theorem op_slen (R : Rep c st U γ S a w) (hd : ∀ k, o.dst = some k → k < c.nt) {t : TypeId} {y1 : Operand} {x1 : O} (ho : o.op = .call { callee := .builtin .len, args := #[y1], argTypes := #[t] }) (h1 : eqO y1 x1 = true) (ht : isStr c.P t = true)
    (hs : opS C st o.dst id (.slen x1) = some st') : Runs c o a w st' U := by
  simp only [opS, map_some_iff] at hs
  obtain ⟨s, h4, rfl⟩ := hs
  have e1 := rdS_ok R h1 h4
  unfold isStr at ht
  split at ht
  · rename_i hu
    refine .value (.int .i64 s.size) w ?_ (ok_lit R hd rfl)
    simp [execOp, ho, resolve, invoke, builtin, e1, Builtin.len_, run_underlying hu, goInt]
  · simp at ht
theorem op_len (R : Rep c st U γ S a w) (hd : ∀ k, o.dst = some k → k < c.nt) {t e : TypeId} {y1 : Operand} {x1 : O} (ho : o.op = .call { callee := .builtin .len, args := #[y1], argTypes := #[t] }) (h1 : eqO y1 x1 = true) (ht : sliceE c.P t = some e)
    (hs : opS C st o.dst id (.len x1) = some st') : Runs c o a w st' U := by
  simp only [opS, bind_some_iff, map_some_iff] at hs
  obtain ⟨x, h4, n, h5, rfl⟩ := hs
  obtain ⟨h6, h7⟩ := eqO_ok R h1 h4
  have hrun : ∀ (base : Option Addr) (m cap : Nat), a.eval y1 = .slice base m cap → (execOp a.eval o).run c.P w = .ok (.value (.int .i64 m)) w := fun base m cap he => by
    unfold sliceE at ht
    split at ht
    · rename_i e' hu
      simp [execOp, ho, resolve, invoke, builtin, he, Builtin.len_, run_underlying hu, goInt]
    · simp at ht
  refine .value (.int .i64 n) w ?_ (ok_lit R hd rfl)
  unfold lenX at h5
  split at h5
  · rename_i els
    simp only [Option.some.injEq] at h5
    subst h5
    simp only [X.vr, D.rd] at h6
    obtain ⟨A, cap, h11, _⟩ := h6
    exact hrun _ _ _ h11
  · simp only [Option.some.injEq] at h5
    subst h5
    simp only [X.vr] at h6
    exact hrun _ _ _ h6.2
  · rename_i id p
    simp only [map_some_iff] at h5
    obtain ⟨q, h8, rfl⟩ := h5
    obtain ⟨b, els, h9, h10⟩ := R.mm.row h8
    simp only [X.vr] at h6
    have hv := (h6.2 _ h9).1
    rw [← h10, erss_length]
    cases b with
    | none =>
      have hrow := R.mm.nav_ok h9
      simp only [G.ok] at hrow
      rw [hrow.1]
      simp only [G.val] at hv
      exact hrun _ _ _ hv.symm
    | some b =>
      simp only [G.val] at hv
      exact hrun _ _ _ hv.symm
  · simp at h5

theorem rdss_len {w : World} {S : Nat → Prop} {sz : Nat} : ∀ (els : List (List D)) (A : Option Addr) (n : Nat), (∀ el ∈ els, el.length = sz) → rdss w S A n els → ∀ k, rdss w S A (n + k * sz) (els.drop k) ∧ rdss w S A n (els.take k)
  | els, A, n, hl, h, 0 => by simp [h, rdss]
  | [], A, n, hl, h, k + 1 => by simp [rdss]
  | e :: els, A, n, hl, h, k + 1 => by
    simp only [rdss] at h
    obtain ⟨h1, h2⟩ := rdss_len els A _ (fun x hx => hl x (by simp [hx])) h.2 k
    simp only [List.drop_succ_cons, List.take_succ_cons, rdss]
    refine ⟨?_, h.1, h2⟩
    rw [hl e (by simp)] at h1
    rw [show n + (k + 1) * sz = n + sz + k * sz by rw [Nat.add_mul]; omega]
    exact h1
theorem rdss_add {w : World} {S : Nat → Prop} : ∀ (els : List (List D)) (ad : Addr) (m n : Nat), rdss w S (some (ad.add m)) n els ↔ rdss w S (some ad) (m + n) els
  | [], _, _, _ => by simp [rdss]
  | e :: els, ad, m, n => by
    simp only [rdss, Option.some.injEq, exists_eq_left', rds_add, rdss_add els ad m, Nat.add_assoc]

theorem op_cutr (R : Rep c st U γ S a w) (hd : ∀ k, o.dst = some k → k < c.nt) {t e : TypeId} {y1 : Operand} {x1 : O} {l h : Option Operand} {xl xh : Option O} (ho : o.op = .slice t y1 l h none) (h1 : eqO y1 x1 = true) (h2 : eqOo l xl = true) (h3 : eqOo h xh = true) (ht : sliceE c.P t = some e) {sz : Nat} (hz : sizeT c.P e = some sz)
    (hs : opS C st o.dst id (.cutr sz x1 xl xh) = some st') : Runs c o a w st' U := by
  simp only [opS, bind_some_iff] at hs
  obtain ⟨x, h4, h5⟩ := hs
  obtain ⟨h6, h7⟩ := eqO_ok R h1 h4
  split at h5
  · rename_i els
    simp only [bind_some_iff] at h5
    obtain ⟨lo, h8, hi, h9, h10⟩ := h5
    split at h10
    · rename_i hb
      simp only [Option.some.injEq] at h10
      subst h10
      obtain ⟨b1, b2, b3, b4⟩ := hb
      simp only [X.vr, D.rd] at h6
      obtain ⟨A, cap, e1, e2, e3, ⟨sz', e4⟩, e5⟩ := h6
      unfold sizeT at hz
      rw [map_some_iff] at hz
      obtain ⟨ie, hie, hse⟩ := hz
      have e2' : (els.length : Int) ≤ cap := by omega
      have hsz : ∀ el ∈ els, el.length = sz := fun el hel => by
        have := List.all_eq_true.1 b4 el hel
        simpa using this
      have hlen : ((els.take hi.toNat).drop lo.toNat).length = hi.toNat - lo.toNat := by
        rw [List.length_drop, List.length_take]; omega
      unfold sliceE at ht
      split at ht
      · rename_i e' hu
        simp only [Option.some.injEq] at ht
        subst ht
        have hel : c.P.elem t = e' := by simp [Program.elem, hu]
        have hu' : c.P.underlying t = some (.slice (c.P.elem t)) := by rw [hel]; exact hu
        have hrun : (execOp a.eval o).run c.P w = .ok (.value (sliced A lo.toNat hi.toNat cap sz)) w := by
          have hso : (sizeOf (c.P.elem t)).run c.P w = .ok sz w := by simp [hel, sizeOf, typeInfo, hie, hse]
          cases l with
          | none =>
            cases xl with
            | some _ => simp [eqOo] at h2
            | none =>
              simp only [bound, Option.some.injEq] at h8
              subst h8
              cases h with
              | none =>
                cases xh with
                | some _ => simp [eqOo] at h3
                | none =>
                  simp only [bound, Option.some.injEq] at h9
                  subst h9
                  simp [execOp, ho, e1, run_sliceAt_slice (P := c.P) w t _ _ _ _ hu', run_slice_all (P := c.P) w t A _ cap hu', hso]
              | some h =>
                cases xh with
                | none => simp [eqOo] at h3
                | some xh =>
                  simp only [bound, map_some_iff] at h9
                  obtain ⟨⟨k, n⟩, h11, rfl⟩ := h9
                  have e6 := rdI_ok R (x := h) (o := xh) (by simpa [eqOo] using h3) h11
                  simp only at e6 b2 b3
                  simp [execOp, ho, e1, e6, run_sliceAt_slice (P := c.P) w t _ _ _ _ hu', run_slice_h (P := c.P) w t A _ cap hu' k n b2 (by omega), hso]
          | some l =>
            cases xl with
            | none => simp [eqOo] at h2
            | some xl =>
              simp only [bound, map_some_iff] at h8
              obtain ⟨⟨k, n⟩, h11, rfl⟩ := h8
              have e6 := rdI_ok R (x := l) (o := xl) (by simpa [eqOo] using h2) h11
              simp only at e6 b1 b2
              cases h with
              | none =>
                cases xh with
                | some _ => simp [eqOo] at h3
                | none =>
                  simp only [bound, Option.some.injEq] at h9
                  subst h9
                  simp [execOp, ho, e1, e6, run_sliceAt_slice (P := c.P) w t _ _ _ _ hu', run_slice_l (P := c.P) w t A _ cap hu' k n b1 b2, hso]
              | some h =>
                cases xh with
                | none => simp [eqOo] at h3
                | some xh =>
                  simp only [bound, map_some_iff] at h9
                  obtain ⟨⟨k2, n2⟩, h12, rfl⟩ := h9
                  have e7 := rdI_ok R (x := h) (o := xh) (by simpa [eqOo] using h3) h12
                  simp only at e7 b2 b3
                  simp [execOp, ho, e1, e6, e7, run_sliceAt_slice (P := c.P) w t _ _ _ _ hu', run_slice_lh (P := c.P) w t A _ cap hu' k k2 n n2 b1 b2 (by omega), hso]
        refine .value _ w hrun (ok_put R hd (by
          simp only [X.vr, D.rd, sliced, hlen]
          refine ⟨_, _, rfl, by omega, by omega, ⟨sz, fun el hel' => hsz el (List.mem_of_mem_take (List.mem_of_mem_drop hel'))⟩, ?_⟩
          by_cases hz0 : lo.toNat = hi.toNat
          · have : (els.take hi.toNat).drop lo.toNat = [] := by
              apply List.eq_nil_of_length_eq_zero; rw [hlen]; omega
            rw [this]
            simp [rdss]
          · rw [if_neg (by omega)]
            have hcut : (els.take hi.toNat).drop lo.toNat = (els.drop lo.toNat).take (hi.toNat - lo.toNat) := by rw [List.drop_take]
            rw [hcut]
            have h13 := (rdss_len els A 0 hsz e5 lo.toNat).1
            have h14 := (rdss_len (els.drop lo.toNat) A _ (fun x hx => hsz x (List.mem_of_mem_drop hx)) h13 (hi.toNat - lo.toNat)).2
            rw [Nat.zero_add] at h14
            cases A with
            | none =>
              cases hq : (els.drop lo.toNat).take (hi.toNat - lo.toNat) with
              | nil => simp [rdss]
              | cons q qs => rw [hq] at h14; simp only [rdss] at h14; obtain ⟨⟨ad, hc, _⟩, _⟩ := h14; simp at hc
            | some ad =>
              simp only [Option.map_some]
              rw [rdss_add]
              exact h14) (by simp only [X.allp]))
      · simp at ht
    · simp at h10
  · simp at h5

theorem rdOs_ok (R : Rep c st U γ S a w) : ∀ {ys : List Operand} {xs : List O} {as : List X}, eqOs ys xs = true → rdOs st xs = some as → vrs γ w S as (ys.map a.eval) ∧ allps (fun id _ => IdIn c.A st.fr U id) as
  | [], [], as, _, h => by
    simp only [rdOs, Option.some.injEq] at h
    subst h
    exact ⟨by simp [vrs], by simp [allps]⟩
  | y :: ys, x :: xs, as, he, h => by
    simp only [rdOs, bind_some_iff, map_some_iff] at h
    obtain ⟨z, h1, zs, h2, rfl⟩ := h
    simp only [eqOs, Bool.and_eq_true] at he
    obtain ⟨h3, h4⟩ := eqO_ok R he.1 h1
    obtain ⟨h5, h6⟩ := rdOs_ok R he.2 h2
    exact ⟨by simp only [vrs, List.map_cons]; exact ⟨h3, h5⟩, by simp only [allps]; exact ⟨h4, h6⟩⟩
  | [], _ :: _, _, h, _ => by simp [eqOs] at h
  | _ :: _, [], _, h, _ => by simp [eqOs] at h

theorem op_fn (R : Rep c st U γ S a w) (hd : ∀ k, o.dst = some k → k < c.nt) {f : Nat} {ys : Array Operand} {xs : List O} (ho : o.op = .makeFunc (.func f) #[] ys) (h1 : eqOs ys.toList xs = true) (hs : opS C st o.dst id (.fn f xs) = some st') : Runs c o a w st' U := by
  simp only [opS, map_some_iff] at hs
  obtain ⟨as, h2, rfl⟩ := hs
  obtain ⟨h3, h4⟩ := rdOs_ok R h1 h2
  refine .value (.func (.func f) #[] (ys.toList.map a.eval).toArray) w ?_ (ok_put R hd ?_ ?_)
  · simp [execOp, ho, Instr.makeFunc]
    rw [← Array.toList_map, Array.toArray_toList]
  · split
    · rename_i he
      have : as = [] := by simpa using he
      subst this
      have := vrs_length h3
      simp only [List.length_nil] at this
      have : ys.toList.map a.eval = [] := List.eq_nil_of_length_eq_zero this.symm
      rw [this]
      simp [X.vr, Value.oneCell']
    · simp only [X.vr]
      exact ⟨_, rfl, h3⟩
  · split
    · simp only [X.allp]
    · simp only [X.allp]; exact h4

end
end Go.Ev
