/- A call whose result is only read; a call that goes on in the same memory. -/
import Derived.Test.YtcoigakalblkgaaEvCall3
set_option linter.all false
namespace Go.Ev
open Go.RowKit

section
variable {c : Ctx} {st st' : St} {U : Nat → Prop} {γ : Gm} {S : Nat → Prop} {a : Act} {w : World} {C : Cl} {o : Oper} {id : Nat}

/-- Rows that no place has are dropped: they are only read from then on. -/
theorem Mm.drop {h : Heap} (m : Mm h γ S w) {is : List GId} (hr : ∀ j ∈ is, ∃ q, j = (Sum.inr q : GId)) :
    Mm h (rem γ is) (fun k => S k ∨ ∃ i ∈ is, ∃ g, γ i = some g ∧ k ∈ g.bl) w := by
  refine ⟨fun id d hd => ?_, fun i g hg => ?_, fun i g hg => ?_, fun i i' g g' hg hg' hne => ?_, fun k hk => ?_, ?_⟩
  · obtain ⟨g, h1, h2⟩ := m.er id d hd
    refine ⟨g, rem_some.2 ⟨fun hin => ?_, h1⟩, h2⟩
    obtain ⟨q, hq⟩ := hr _ hin
    simp at hq
  · exact G.ok_congr (fun k hk => ⟨.inl hk, rfl⟩) g (fun _ _ => rfl) (m.ok i g (rem_some.1 hg).2)
  · exact m.nd i g (rem_some.1 hg).2
  · exact m.dj i i' g g' (rem_some.1 hg).2 (rem_some.1 hg').2 hne
  · rcases hk with hk | ⟨i, hi, g, hg, hkg⟩
    · exact ⟨(m.sd k hk).1, fun i g hg => (m.sd k hk).2 i g (rem_some.1 hg).2⟩
    · refine ⟨G.ok_lt g (m.ok i g hg) k hkg, fun i' g' hg' hk' => ?_⟩
      obtain ⟨h1, h2⟩ := rem_some.1 hg'
      exact m.dj i i' g g' hg h2 (fun e => h1 (e ▸ hi)) k hkg hk'
  · obtain ⟨N, hN⟩ := m.fin
    refine ⟨N, fun n hn => ?_⟩
    unfold rem
    split
    · rfl
    · exact hN n hn
theorem Same.rem {is : List GId} (hr : ∀ j ∈ is, ∃ q, j = (Sum.inr q : GId)) (id : Id) (p : Path) : Same γ (rem γ is) id p := Same.of_eq (by
  unfold Ev.rem
  rw [if_neg]
  intro hin
  obtain ⟨q, hq⟩ := hr _ hin
  simp at hq) p
theorem frzC_ok {S2 : Nat → Prop} {is js : List GId} (m : Mm st.heap γ S w) (hr : ∀ j ∈ js, ∃ q, j = (Sum.inr q : GId)) (hS : ∀ k, S k → S2 k) (hb : ∀ i ∈ js, ∀ g, γ i = some g → ∀ k ∈ g.bl, S2 k) (hij : ∀ i ∈ is, i ∈ js) {x : X} {v : Value} (h : resC γ w S x v is) : x.frzC.vr (rem γ js) w S2 v := by
  rcases h with ⟨h1, _, h2⟩ | ⟨sz, els, i, g, rfl, rfl, h3, h4, h5, h6⟩
  · have hx : x.frzC = x := by
      unfold X.frzC
      split
      · simp [X.own] at h1
      · rfl
    rw [hx]
    exact vr_same (fun k hk => ⟨hS k hk, rfl⟩) x v (allp_all (Same.rem hr) x) h2
  · have := own_rd hS g (m.ok _ _ h3) (hb i (hij i (by simp)) g h3)
    rw [h5, h6, rd_r] at this
    simp only [X.frzC, X.vr]
    exact rd_fz (.r els) v this
theorem frzL_ok {S2 : Nat → Prop} {js : List GId} (m : Mm st.heap γ S w) (hr : ∀ j ∈ js, ∃ q, j = (Sum.inr q : GId)) (hS : ∀ k, S k → S2 k) (hb : ∀ i ∈ js, ∀ g, γ i = some g → ∀ k ∈ g.bl, S2 k) : ∀ {xs : List X} {vs : List Value} {is : List GId}, (∀ i ∈ is, i ∈ js) → resL γ w S xs vs is → vrs (rem γ js) w S2 (frzL xs) vs
  | [], [], _, _, _ => by simp [frzL, vrs]
  | x :: xs, v :: vs, is, hij, h => by
    simp only [resL] at h
    obtain ⟨i1, i2, rfl, h1, h2⟩ := h
    simp only [frzL, vrs]
    exact ⟨frzC_ok m hr hS hb (fun i hi => hij i (by simp [hi])) h1, frzL_ok m hr hS hb (fun i hi => hij i (by simp [hi])) h2⟩
  | [], _ :: _, _, _, h => by simp [resL] at h
  | _ :: _, [], _, _, h => by simp [resL] at h
theorem frzV_ok {S2 : Nat → Prop} {is js : List GId} (m : Mm st.heap γ S w) (hr : ∀ j ∈ js, ∃ q, j = (Sum.inr q : GId)) (hS : ∀ k, S k → S2 k) (hb : ∀ i ∈ js, ∀ g, γ i = some g → ∀ k ∈ g.bl, S2 k) (hij : ∀ i ∈ is, i ∈ js) {x : X} {v : Value} (h : resV γ w S x v is) : x.frzV.vr (rem γ js) w S2 v := by
  cases x with
  | agg cs =>
    simp only [resV] at h
    obtain ⟨vs, rfl, h1, h2⟩ := h
    simp only [X.frzV, X.vr]
    exact ⟨vs, rfl, frzL_ok m hr hS hb hij h1, h2⟩
  | d x => exact frzC_ok m hr hS hb hij (by simpa only [resV] using h)
  | tup cs => exact frzC_ok m hr hS hb hij (by simpa only [resV] using h)
  | ref id p => exact frzC_ok m hr hS hb hij (by simpa only [resV] using h)
  | ptr id q j i => exact frzC_ok m hr hS hb hij (by simpa only [resV] using h)
  | rop cs => exact frzC_ok m hr hS hb hij (by simpa only [resV] using h)
  | vp cs => exact frzC_ok m hr hS hb hij (by simpa only [resV] using h)
  | clo f cs => exact frzC_ok m hr hS hb hij (by simpa only [resV] using h)
theorem frzT_ok {S2 : Nat → Prop} {js : List GId} (m : Mm st.heap γ S w) (hr : ∀ j ∈ js, ∃ q, j = (Sum.inr q : GId)) (hS : ∀ k, S k → S2 k) (hb : ∀ i ∈ js, ∀ g, γ i = some g → ∀ k ∈ g.bl, S2 k) : ∀ {xs : List X} {vs : List Value} {is : List GId}, (∀ i ∈ is, i ∈ js) → resT γ w S xs vs is → vrs (rem γ js) w S2 (frzT xs) vs
  | [], [], _, _, _ => by simp [frzT, vrs]
  | x :: xs, v :: vs, is, hij, h => by
    simp only [resT] at h
    obtain ⟨i1, i2, rfl, h1, h2⟩ := h
    simp only [frzT, vrs]
    exact ⟨frzV_ok m hr hS hb (fun i hi => hij i (by simp [hi])) h1, frzT_ok m hr hS hb (fun i hi => hij i (by simp [hi])) h2⟩
  | [], _ :: _, _, _, h => by simp [resT] at h
  | _ :: _, [], _, _, h => by simp [resT] at h
theorem frz_ok {S2 : Nat → Prop} {is : List GId} (m : Mm st.heap γ S w) (hr : ∀ j ∈ is, ∃ q, j = (Sum.inr q : GId)) (hS : ∀ k, S k → S2 k) (hb : ∀ i ∈ is, ∀ g, γ i = some g → ∀ k ∈ g.bl, S2 k) {x : X} {v : Value} (h : resR γ w S x v is) : x.frz.vr (rem γ is) w S2 v := by
  cases x with
  | tup cs =>
    simp only [resR] at h
    obtain ⟨vs, rfl, h1⟩ := h
    simp only [X.frz, X.vr]
    exact ⟨vs, rfl, frzT_ok m hr hS hb (fun _ h => h) h1⟩
  | agg cs => exact frzV_ok m hr hS hb (fun _ h => h) (by simpa only [resR] using h)
  | d x => exact frzV_ok m hr hS hb (fun _ h => h) (by simpa only [resR] using h)
  | ref id p => exact frzV_ok m hr hS hb (fun _ h => h) (by simpa only [resR] using h)
  | ptr id q j i => exact frzV_ok m hr hS hb (fun _ h => h) (by simpa only [resR] using h)
  | rop cs => exact frzV_ok m hr hS hb (fun _ h => h) (by simpa only [resR] using h)
  | vp cs => exact frzV_ok m hr hS hb (fun _ h => h) (by simpa only [resR] using h)
  | clo f cs => exact frzV_ok m hr hS hb (fun _ h => h) (by simpa only [resR] using h)
theorem frzC_allp {φ : Id → Path → Prop} {x : X} (h : x.allp φ) : x.frzC.allp φ := by
  unfold X.frzC
  split
  · simp only [X.allp]
  · exact h
theorem frzL_allp {φ : Id → Path → Prop} : ∀ {xs : List X}, allps φ xs → allps φ (frzL xs)
  | [], _ => by simp [frzL, allps]
  | x :: xs, h => by simp only [frzL, allps] at h ⊢; exact ⟨frzC_allp h.1, frzL_allp h.2⟩
theorem frzV_allp {φ : Id → Path → Prop} {x : X} (h : x.allp φ) : x.frzV.allp φ := by
  cases x with
  | agg cs => simp only [X.frzV, X.allp] at h ⊢; exact frzL_allp h
  | d x => exact frzC_allp h
  | tup cs => exact frzC_allp h
  | ref id p => exact frzC_allp h
  | ptr id q j i => exact frzC_allp h
  | rop cs => exact frzC_allp h
  | vp cs => exact frzC_allp h
  | clo f cs => exact frzC_allp h
theorem frzT_allp {φ : Id → Path → Prop} : ∀ {xs : List X}, allps φ xs → allps φ (frzT xs)
  | [], _ => by simp [frzT, allps]
  | x :: xs, h => by simp only [frzT, allps] at h ⊢; exact ⟨frzV_allp h.1, frzT_allp h.2⟩
theorem frz_allp {φ : Id → Path → Prop} {x : X} (h : x.allp φ) : x.frz.allp φ := by
  cases x with
  | tup cs => simp only [X.frz, X.allp] at h ⊢; exact frzT_allp h
  | agg cs => exact frzV_allp h
  | d x => exact frzV_allp h
  | ref id p => exact frzV_allp h
  | ptr id q j i => exact frzV_allp h
  | rop cs => exact frzV_allp h
  | vp cs => exact frzV_allp h
  | clo f cs => exact frzV_allp h

theorem op_callr (R : Rep c st U γ S a w) (hd : ∀ k, o.dst = some k → k < c.nt) {y : Operand} {ys : Array Operand} {ts : Array TypeId} {f : Nat} {xs : List O} (ho : o.op = .call { callee := .value y, args := ys, argTypes := ts }) (hf : eqO y (.f f) = true) (hx : eqOs ys.toList xs = true) (hC : CallOk c.P C)
    (hs : opS C st o.dst id (.callr f xs) = some st') : Runs c o a w st' U := by
  simp only [opS, bind_some_iff] at hs
  obtain ⟨as, h1, bs, h2, r, h3, h4⟩ := hs
  obtain ⟨h', h3⟩ := iso_some.1 h3
  split at h4
  · rename_i hro
    simp only [Option.some.injEq] at h4
    subst h4
    obtain ⟨h5, h6⟩ := rdOs_ok R hx h1
    obtain ⟨hcal, hcl⟩ := isolated R h5 h2 hC h3 hro
    have hy := (eqO_ok R hf (y := .d (.v (.func (.func f) #[] #[]))) rfl).1
    simp only [X.vr] at hy
    refine .enter f _ w (by
      have := run_call (w := w) ho hy.1 hcal
      simpa using this) (hcl.mono ?_)
    rintro e w' ⟨v, γ1, S1, is, rfl, hR, hres, hnd, hids, hnew⟩
    have hinr := resR_inr hres
    have hM := hR.mm.drop hinr
    have hv := frz_ok (S2 := fun k => S1 k ∨ ∃ i ∈ is, ∃ g, γ1 i = some g ∧ k ∈ g.bl) hR.mm hinr (fun k hk => .inl hk) (fun i hi g hg k hk => .inr ⟨i, hi, g, hg, hk⟩) hres
    have hR2 : Rep c st U (rem γ1 is) (fun k => S1 k ∨ ∃ i ∈ is, ∃ g, γ1 i = some g ∧ k ∈ g.bl) a w' := by
      refine ⟨hM, hR.os, hR.tape, hR.output, hR.size, hR.keep, fun k ⟨i, g, g1, g2⟩ => hR.own k ⟨i, g, (rem_some.1 g1).2, g2⟩, fun id hid => (hR.hd id hid).trans (Same.rem hinr id []), fun k hk => ?_, fun k hk => .inl (hR.s0 k hk), hR.s00, fun t x hx => ?_, hR.ids, hR.hid, hR.dom, hR.df, hR.sz⟩
      · rcases hk with hk | ⟨i, hi, g, hg, hkg⟩
        · exact hR.sg k hk
        · have := hnew i hi g hg k hkg
          have := R.size
          exact .inr (by omega)
      · exact vr_same (fun k hk => ⟨.inl hk, rfl⟩) x _ (allp_all (Same.rem hinr) x) (hR.env t x hx)
    exact ⟨v, rfl, ok_put hR2 hd hv (frz_allp (hids _))⟩
  · simp at h4

theorem vrs_argv {xs cs : List X} {vs us : List Value} (h1 : vrs γ w S xs vs) (h2 : vrs γ w S cs us) : vrs γ w S (xs ++ cs) (vs ++ us) := vrs_append h1 h2
theorem root_allp {φ : Id → Path → Prop} {ψ : Id → Prop} (h : ∀ id, ψ id → φ id []) {x : X} (hr : x.root = true) (hx : x.allp (fun id _ => ψ id)) : x.allp φ := by
  have hc : ∀ y : X, y.rootC = true → y.allp (fun id _ => ψ id) → y.allp φ := fun y hy hy2 => by
    cases y with
    | ref id p =>
      simp only [X.rootC, List.isEmpty_iff] at hy
      subst hy
      simp only [X.allp] at hy2 ⊢
      exact h id hy2
    | ptr id q j i =>
      simp only [X.rootC, List.isEmpty_iff] at hy
      subst hy
      simp only [X.allp] at hy2 ⊢
      exact h id hy2
    | d x => simp only [X.allp]
    | rop cs => simp only [X.allp]
    | vp cs => simp [X.rootC] at hy
    | agg cs => simp [X.rootC] at hy
    | tup cs => simp [X.rootC] at hy
    | clo f cs => simp [X.rootC] at hy
  have hl : ∀ ys : List X, rootL ys = true → allps (fun id _ => ψ id) ys → allps φ ys := fun ys => by
    induction ys with
    | nil => intro _ _; simp [allps]
    | cons y ys ih =>
      intro h1 h2
      simp only [rootL, Bool.and_eq_true, allps] at h1 h2 ⊢
      exact ⟨hc y h1.1 h2.1, ih h1.2 h2.2⟩
  cases x with
  | agg cs => simp only [X.root, X.allp] at hr hx ⊢; exact hl cs hr hx
  | clo f cs => simp only [X.root, X.allp] at hr hx ⊢; exact hl cs hr hx
  | d x => simp only [X.allp]
  | rop cs => simp only [X.allp]
  | vp cs => simp only [X.root, X.allp] at hr hx ⊢; exact hl cs hr hx
  | ref id p => exact hc _ (by simpa only [X.root] using hr) hx
  | ptr id q j i => exact hc _ (by simpa only [X.root] using hr) hx
  | tup cs => simp [X.root, X.rootC] at hr

theorem op_calli (R : Rep c st U γ S a w) (hd : ∀ k, o.dst = some k → k < c.nt) {y : Operand} {ys : Array Operand} {ts : Array TypeId} {f : O} {xs : List O} (ho : o.op = .call { callee := .value y, args := ys, argTypes := ts }) (hf : eqO y f = true) (hx : eqOs ys.toList xs = true) (hC : CallOk c.P C)
    {n : Nat} (hn : ∀ k, n ≤ k → k < n + 32 → ¬ U k) {U' : Nat → Prop} (hU : ∀ k, UB U n 32 k → U' k) (hs : opS C st o.dst n (.calli f xs) = some st') : Runs c o a w st' U' := by
  simp only [opS, bind_some_iff] at hs
  obtain ⟨z, h1, ⟨g, caps⟩, h2, as, h3, ⟨r, h'⟩, h4, h5⟩ := hs
  obtain ⟨h6, h7⟩ := eqO_ok R hf h1
  obtain ⟨h8, h9⟩ := rdOs_ok R hx h3
  -- the function, and what it captured
  obtain ⟨cvs, hcv, hcvs, hci⟩ : ∃ cvs : List Value, a.eval y = .func (.func g) #[] cvs.toArray ∧ vrs γ w S caps cvs ∧ allps (fun id _ => IdIn c.A st.fr U id) caps := by
    unfold calleeX at h2
    split at h2
    · rename_i x
      rw [map_some_iff] at h2
      obtain ⟨f', h10, h11⟩ := h2
      simp only [Prod.mk.injEq] at h11
      obtain ⟨rfl, rfl⟩ := h11
      simp only [X.vr] at h6
      unfold fnOf at h10
      split at h10
      · rename_i fn first captured
        split at h10
        · rename_i he
          simp only [Option.some.injEq] at h10
          subst h10
          refine ⟨[], ?_, by simp [vrs], by simp [allps]⟩
          rw [h6.1, Array.eq_empty_of_size_eq_zero he.1, Array.eq_empty_of_size_eq_zero he.2]
        · simp at h10
      · simp at h10
    · rename_i f' cs
      simp only [Option.some.injEq, Prod.mk.injEq] at h2
      obtain ⟨rfl, rfl⟩ := h2
      simp only [X.vr, X.allp] at h6 h7
      obtain ⟨vs, e1, e2⟩ := h6
      exact ⟨vs, e1, e2, h7⟩
    · simp at h2
  obtain ⟨hcal, hcl⟩ := hC g (as ++ caps) st.heap (st.fr + 1) r h' h4
  have hall : allps (fun id _ => id.1 < st.fr + 1 ∧ IdIn c.A st.fr U id) (as ++ caps) := allps_iff.2 fun x hx => by
    have : x.allp (fun id _ => IdIn c.A st.fr U id) := by
      rcases List.mem_append.1 hx with hx | hx
      · exact allps_iff.1 h9 x hx
      · exact allps_iff.1 hci x hx
    exact allp_mono (fun id _ h => ⟨by rcases h with h | h <;> omega, h⟩) x this
  refine .enter g _ w (run_call (w := w) ho hcv hcal) ?_
  have hcl' := hcl (fun id => IdIn c.A st.fr U id) γ S w _ R.mm (vrs_append h8 hcvs) hall (fun id d h => ⟨by have := R.hid id d h; rcases this with h | h <;> omega, R.hid id d h⟩)
  rw [show ((ys.toList.map a.eval).toArray ++ cvs.toArray) = (ys.toList.map a.eval ++ cvs).toArray by simp]
  refine hcl'.mono ?_
  rintro e w' ⟨v, γ', S', is, rfl, p⟩
  refine ⟨v, rfl, ?_⟩
  have hpe : ∀ t x, purgeN st.env t = some x → st.env t = some x ∧ x.root = true := fun t x hx => by
    unfold purgeN at hx
    rw [bind_some_iff] at hx
    obtain ⟨x', h10, h11⟩ := hx
    split at h11
    · simp only [Option.some.injEq] at h11
      subst h11
      exact ⟨h10, ‹_›⟩
    · simp at h11
  have hR := (R.less (fun t x hx => (hpe t x hx).1)).change (U' := U) p.mm p.os p.tape p.output p.size p.keep p.own (fun t x hx => root_allp (ψ := fun id => IdIn c.A st.fr U id) (fun id hid => p.hd id (by rcases hid with h | h <;> omega)) (hpe t x hx).2 (R.ids t x (hpe t x hx).1)) (fun id hid => p.hd id (by have : id.1 < st.fr := hid; omega)) p.s0 p.sg (fun id d hd => ?_) (fun _ h => h) (fun id hid h0 => p.dom id (by have : id.1 < st.fr := hid; omega) h0)
  · exact landed_ok (st := { st with env := purgeN st.env, heap := h' }) hR hd p.res p.nd (allp_mono (fun id _ h => h.2) _ p.ids) hn hU h5
  · have hlow := p.low id d hd
    have hne : st.heap id ≠ none := fun h0 => by
      have := p.dom id hlow h0
      rw [this] at hd
      simp at hd
    obtain ⟨d0, hd0⟩ := Option.ne_none_iff_exists'.1 hne
    exact R.hid id d0 hd0

end
end Go.Ev
