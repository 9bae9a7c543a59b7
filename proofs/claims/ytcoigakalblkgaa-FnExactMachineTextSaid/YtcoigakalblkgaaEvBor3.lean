/- A call that is lent rows is sound for the machine. -/
import Derived.Test.YtcoigakalblkgaaEvBor2
set_option linter.all false
namespace Go.Ev
open Go.RowKit

section
variable {c : Ctx} {st st' : St} {U : Nat → Prop} {γ γ1 γ2 : Gm} {S S' : Nat → Prop} {a : Act} {w w' : World} {C : Cl} {o : Oper} {h h1 h2 : Heap} {fr : Nat}

theorem inC_all {L : Lent} {φ : Id → Path → Prop} (h : ∀ id p, (∀ x ∈ L, ¬ (id = x.1 ∧ x.2.1 <+: p ∧ p ≠ x.2.1)) → φ id p) {y : X} (hy : ∀ x ∈ L, y.inC x.1 x.2.1 = false) : y.allp φ := by
  cases L with
  | nil => exact allp_all (fun id p => h id p (by simp)) y
  | cons x0 L =>
    have h0 := hy x0 (by simp)
    cases y with
    | d x => simp only [X.allp]
    | rop cs => simp only [X.allp]
    | vp cs => simp [X.inC] at h0
    | agg cs => simp [X.inC] at h0
    | tup cs => simp [X.inC] at h0
    | clo f cs => simp [X.inC] at h0
    | ref id' p' =>
      simp only [X.allp]
      refine h id' p' (fun x hx ⟨e, h1, h2⟩ => ?_)
      have := hy x hx
      subst e
      simp [X.inC, List.isPrefixOf_iff_prefix.2 h1, h2] at this
    | ptr id' p' j i =>
      simp only [X.allp]
      refine h id' p' (fun x hx ⟨e, h1, h2⟩ => ?_)
      have := hy x hx
      subst e
      simp [X.inC, List.isPrefixOf_iff_prefix.2 h1, h2] at this
theorem inL_mem {id : Id} {p : Path} : ∀ {cs : List X}, inL id p cs = false → ∀ y ∈ cs, y.inC id p = false
  | [], _, y, hy => by simp at hy
  | z :: cs, h, y, hy => by
    simp only [inL, Bool.or_eq_false_iff] at h
    rcases List.mem_cons.1 hy with rfl | hy
    · exact h.1
    · exact inL_mem h.2 y hy
theorem inLent_mem {x : X} : ∀ {L : Lent}, inLent x L = false → ∀ b ∈ L, x.inV b.1 b.2.1 = false
  | [], _, b, hb => by simp at hb
  | b0 :: L, h, b, hb => by
    simp only [inLent, Bool.or_eq_false_iff] at h
    rcases List.mem_cons.1 hb with rfl | hb
    · exact h.1
    · exact inLent_mem h.2 b hb
theorem inLent_ok {L : Lent} {φ : Id → Path → Prop} (h : ∀ id p, (∀ x ∈ L, ¬ (id = x.1 ∧ x.2.1 <+: p ∧ p ≠ x.2.1)) → φ id p) {x : X} (hx : inLent x L = false) : x.allp φ := by
  have hm := inLent_mem hx
  cases x with
  | agg cs =>
    simp only [X.allp]
    exact allps_iff.2 fun y hy => inC_all h (fun b hb => inL_mem (by have := hm b hb; simpa only [X.inV] using this) y hy)
  | clo f cs =>
    simp only [X.allp]
    exact allps_iff.2 fun y hy => inC_all h (fun b hb => inL_mem (by have := hm b hb; simpa only [X.inV] using this) y hy)
  | d x => exact inC_all h (fun b hb => hm b hb)
  | rop cs => exact inC_all h (fun b hb => hm b hb)
  | vp cs =>
    simp only [X.allp]
    exact allps_iff.2 fun y hy => inC_all h (fun b hb => inL_mem (by have := hm b hb; simpa only [X.inV] using this) y hy)
  | tup cs => exact inC_all h (fun b hb => hm b hb)
  | ref id p => exact inC_all h (fun b hb => hm b hb)
  | ptr id p j i => exact inC_all h (fun b hb => hm b hb)

theorem roC_allp {φ : Id → Path → Prop} {x : X} (h : x.roC = true) : x.allp φ := by
  cases x with
  | d x => simp only [X.allp]
  | _ => simp [X.roC] at h
theorem roAll_allp {φ : Id → Path → Prop} : ∀ {xs : List X}, roAll xs = true → allps φ xs
  | [], _ => by simp [allps]
  | x :: xs, h => by
    simp only [roAll, Bool.and_eq_true] at h
    simp only [allps]
    exact ⟨roC_allp h.1, roAll_allp h.2⟩
theorem roV_allp {φ : Id → Path → Prop} {x : X} (h : x.roV = true) : x.allp φ := by
  cases x with
  | agg cs => simp only [X.allp]; exact roAll_allp (by simpa only [X.roV] using h)
  | d x => simp only [X.allp]
  | ref id p => simp [X.roV, X.roC] at h
  | ptr id p j i => simp [X.roV, X.roC] at h
  | tup cs => simp [X.roV, X.roC] at h
  | rop cs => simp [X.roV, X.roC] at h
  | vp cs => simp [X.roV, X.roC] at h
  | clo f cs => simp [X.roV, X.roC] at h
theorem roArgs_allp {φ : Id → Path → Prop} : ∀ {xs : List X}, roArgs xs = true → allps φ xs
  | [], _ => by simp [allps]
  | x :: xs, h => by
    simp only [roArgs, Bool.and_eq_true] at h
    simp only [allps]
    exact ⟨roV_allp h.1, roArgs_allp h.2⟩
theorem noP_allp {φ : Id → Path → Prop} {x : X} (h : x.noP = true) : x.allp φ := by
  cases x with
  | tup cs => simp only [X.allp]; exact roArgs_allp (by simpa only [X.noP] using h)
  | agg cs => exact roV_allp (by simpa only [X.noP] using h)
  | d x => exact roV_allp (by simpa only [X.noP] using h)
  | ref id p => exact roV_allp (by simpa only [X.noP] using h)
  | ptr id p j i => exact roV_allp (by simpa only [X.noP] using h)
  | rop cs => exact roV_allp (by simpa only [X.noP] using h)
  | vp cs => exact roV_allp (by simpa only [X.noP] using h)
  | clo f cs => exact roV_allp (by simpa only [X.noP] using h)
theorem resR_to {γ γ' : Gm} {w w' : World} {S S' : Nat → Prop} {φ : Id → Path → Prop} (t : ResTo γ γ' w w' S S' φ) {x : X} {v : Value} {is : List GId} (hφ : x.allp φ) (hr : resR γ w S x v is) (hk : ∀ i ∈ is, γ' i = γ i) : resR γ' w' S' x v is := by
  cases x with
  | tup cs =>
    simp only [resR, X.allp] at hr hφ ⊢
    obtain ⟨us, e1, e2⟩ := hr
    exact ⟨us, e1, resT_to t hφ e2 hk⟩
  | agg cs => exact resV_to t hφ (by simpa only [resR] using hr) hk
  | d x => exact resV_to t hφ (by simpa only [resR] using hr) hk
  | ref id q => exact resV_to t hφ (by simpa only [resR] using hr) hk
  | ptr id q j i => exact resV_to t hφ (by simpa only [resR] using hr) hk
  | rop cs => exact resV_to t hφ (by simpa only [resR] using hr) hk
  | vp cs => exact resV_to t hφ (by simpa only [resR] using hr) hk
  | clo f cs => exact resV_to t hφ (by simpa only [resR] using hr) hk
theorem resC_some {x : X} {v : Value} {is : List GId} (h : resC γ w S x v is) : ∀ j ∈ is, ∃ g, γ j = some g := fun j hj => by
  rcases h with ⟨_, rfl, _⟩ | ⟨_, _, i, g, _, rfl, h1, _, _⟩
  · simp at hj
  · rw [List.mem_singleton] at hj; subst hj; exact ⟨g, h1⟩
theorem resL_some : ∀ {xs : List X} {vs : List Value} {is : List GId}, resL γ w S xs vs is → ∀ j ∈ is, ∃ g, γ j = some g
  | [], [], is, h, j, hj => by simp only [resL] at h; subst h; simp at hj
  | x :: xs, v :: vs, is, h, j, hj => by
    simp only [resL] at h
    obtain ⟨i1, i2, rfl, r1, r2⟩ := h
    rcases List.mem_append.1 hj with hj | hj
    · exact resC_some r1 j hj
    · exact resL_some r2 j hj
  | [], _ :: _, _, h, _, _ => by simp [resL] at h
  | _ :: _, [], _, h, _, _ => by simp [resL] at h
theorem resV_some {x : X} {v : Value} {is : List GId} (h : resV γ w S x v is) : ∀ j ∈ is, ∃ g, γ j = some g := by
  cases x with
  | agg cs => simp only [resV] at h; obtain ⟨vs, _, h, _⟩ := h; exact resL_some h
  | _ => exact resC_some (by simpa only [resV] using h)
theorem resT_some : ∀ {xs : List X} {vs : List Value} {is : List GId}, resT γ w S xs vs is → ∀ j ∈ is, ∃ g, γ j = some g
  | [], [], is, h, j, hj => by simp only [resT] at h; subst h; simp at hj
  | x :: xs, v :: vs, is, h, j, hj => by
    simp only [resT] at h
    obtain ⟨i1, i2, rfl, r1, r2⟩ := h
    rcases List.mem_append.1 hj with hj | hj
    · exact resV_some r1 j hj
    · exact resT_some r2 j hj
  | [], _ :: _, _, h, _, _ => by simp [resT] at h
  | _ :: _, [], _, h, _, _ => by simp [resT] at h
theorem resR_some {x : X} {v : Value} {is : List GId} (h : resR γ w S x v is) : ∀ j ∈ is, ∃ g, γ j = some g := by
  cases x with
  | tup cs => simp only [resR] at h; obtain ⟨vs, _, h⟩ := h; exact resT_some h
  | _ => exact resV_some (by simpa only [resR] using h)

/-- The ghosts behind the call: the caller's; the result's; the rows that were lent. -/
noncomputable def merged (γ1 γ' : Gm) (N : Nat) (is : List GId) (hB : Heap) (n : Nat) : Gm := fun i => match i with
  | .inl id => γ1 (.inl id)
  | .inr q => open Classical in if q < N then (if Sum.inr q ∈ is then γ' (.inr q) else none) else if (hB (0, q - N)).isSome ∧ q - N < n then γ' (.inl (0, q - N)) else none

theorem op_callb (R : Rep c st U γ S a w) (hd : ∀ k, o.dst = some k → k < c.nt) {y : Operand} {ys : Array Operand} {ts : Array TypeId} {f : Nat} {xs : List O} {bs : List Bool} (ho : o.op = .call { callee := .value y, args := ys, argTypes := ts }) (hf : eqO y (.f f) = true) (hx : eqOs ys.toList xs = true) (hC : CallOk c.P C)
    {n : Nat} (hn : ∀ k, n ≤ k → k < n + 32 → ¬ U k) {U' : Nat → Prop} (hU : ∀ k, UB U n 32 k → U' k) (hs : opS C st o.dst n (.callb f xs bs) = some st') : Runs c o a w st' U' := by
  classical
  simp only [opS, bind_some_iff] at hs
  obtain ⟨as, h1, ⟨as1, hp, L⟩, h2, zs, h3, ⟨r, hB⟩, h4, h5⟩ := hs
  split at h5
  · rename_i hcond
    rw [bind_some_iff] at h5
    obtain ⟨hb2, h6, h7⟩ := h5
    simp only [Bool.and_eq_true, Bool.or_eq_true] at hcond
    obtain ⟨⟨hap, hnp⟩, hro⟩ := hcond
    simp only at h3 h4 h6 h7 hap hnp hro
    obtain ⟨h8, h9⟩ := rdOs_ok R hx h1
    obtain ⟨γ1, is, gs, ld, hmix⟩ := borA_ok R.mm h8 h2 hap
    have m1 := ld.tk.mm
    -- the rows that are lent
    let T : Nat → Option G := fun k => gs[k]?
    have hT : Tab' T 0 gs := fun j g hg => by simp only [T, Nat.zero_add]; exact hg
    let Γ : Gm := fun i => match i with
      | .inl id => if id.1 = 0 then T id.2 else none
      | .inr _ => none
    have hΓ : ∀ i g, Γ i = some g → ∃ k, i = .inl (0, k) ∧ gs[k]? = some g := fun i g hg => by
      cases i with
      | inl id =>
        simp only [Γ] at hg
        split at hg
        · rename_i e
          exact ⟨id.2, by rw [← e], hg⟩
        · simp at hg
      | inr q => simp [Γ] at hg
    have hgi : ∀ (k : Nat) (g : G), gs[k]? = some g → ∃ i, is[k]? = some i ∧ γ1 i = some g ∧ ∃ q, i = Sum.inr q := fun k g hg => by
      have hk := (List.getElem?_eq_some_iff.1 hg).1
      have hk2 : k < is.length := by rw [ld.l1, ← ld.l2]; exact hk
      refine ⟨is[k], List.getElem?_eq_getElem hk2, ld.at_ k _ g (List.getElem?_eq_getElem hk2) hg, ?_⟩
      exact (ld.tk.some _ (List.getElem_mem hk2)).1
    have hlt1 : ∀ i g, γ1 i = some g → ∀ k ∈ g.bl, k < w.heap.size := fun i g hg => G.ok_lt g (m1.ok i g hg)
    have hinl : ∀ id g, γ1 (.inl id) = some g → ∀ k ∈ g.bl, ¬ Bl Γ k := fun id g hg k hk ⟨i, g', h10, h11⟩ => by
      obtain ⟨k', rfl, h12⟩ := hΓ i g' h10
      obtain ⟨i2, h13, h14, q, rfl⟩ := hgi k' g' h12
      exact m1.dj (.inl id) (.inr q) g g' hg h14 (by simp) k hk h11
    have hBlγ : ∀ k, Bl Γ k → Bl γ k ∧ k < w.heap.size := fun k ⟨i, g', h10, h11⟩ => by
      obtain ⟨k', rfl, h12⟩ := hΓ i g' h10
      obtain ⟨i2, h13, h14, q, rfl⟩ := hgi k' g' h12
      exact ⟨ld.tk.sub _ _ h14 k h11, hlt1 _ _ h14 k h11⟩
    have hSΓ : ∀ k, S k → ¬ Bl Γ k := fun k hk ⟨i, g', h10, h11⟩ => by
      obtain ⟨k', rfl, h12⟩ := hΓ i g' h10
      obtain ⟨i2, h13, h14, q, rfl⟩ := hgi k' g' h12
      exact (m1.sd k hk).2 _ _ h14 h11
    obtain ⟨hcal, hcl⟩ := hC f zs (lentH 0 L) 1 r hB h4
    -- what is only read in the call
    let ro : Prop := roF as bs = true
    let Sc : Nat → Prop := fun k => if ro then S k else k < w.heap.size ∧ ¬ Bl Γ k
    have hSc : ∀ k, S k → Sc k := fun k hk => by
      simp only [Sc]
      split
      · exact hk
      · exact ⟨(m1.sd k hk).1, hSΓ k hk⟩
    have hScs : ∀ k, Sc k → k < w.heap.size ∧ ¬ Bl Γ k := fun k hk => by
      simp only [Sc] at hk
      split at hk
      · exact ⟨(m1.sd k hk).1, hSΓ k hk⟩
      · exact hk
    have mB : Mm (lentH 0 L) Γ Sc w := by
      refine ⟨fun id d hd => ?_, fun i g hg => ?_, fun i g hg => ?_, fun i i' g g' hg hg' hne k hk => ?_, fun k hk => ⟨(hScs k hk).1, fun i g hg hk' => (hScs k hk).2 ⟨i, g, hg, hk'⟩⟩, ⟨0, fun _ _ => rfl⟩⟩
      · obtain ⟨e1, _, x, e2, e3⟩ := lentH_at 0 L id d hd
        rw [Nat.sub_zero] at e2
        have hk := (List.getElem?_eq_some_iff.1 e2).1
        have hk2 : id.2 < gs.length := by rw [ld.l2]; exact hk
        have e4 := List.getElem?_eq_getElem hk2
        refine ⟨gs[id.2], by simp only [Γ, T, e1, if_true]; exact e4, ?_⟩
        rw [(ld.row _ _ _ e2 e4).1, e3]
      · obtain ⟨k', rfl, h12⟩ := hΓ i g hg
        obtain ⟨i2, _, h14, _⟩ := hgi k' g h12
        exact G.ok_congr (fun k hk => ⟨hSc k hk, rfl⟩) g (fun _ _ => rfl) (m1.ok _ _ h14)
      · obtain ⟨k', rfl, h12⟩ := hΓ i g hg
        obtain ⟨i2, _, h14, _⟩ := hgi k' g h12
        exact m1.nd _ _ h14
      · obtain ⟨k1, rfl, h12⟩ := hΓ i g hg
        obtain ⟨k2, rfl, h13⟩ := hΓ i' g' hg'
        obtain ⟨i1, h14, h15, _⟩ := hgi k1 g h12
        obtain ⟨i2, h16, h17, _⟩ := hgi k2 g' h13
        refine m1.dj i1 i2 g g' h15 h17 (fun e => hne ?_) k hk
        subst e
        obtain ⟨a1, a2⟩ := List.getElem?_eq_some_iff.1 h14
        obtain ⟨b1, b2⟩ := List.getElem?_eq_some_iff.1 h16
        have hpw := List.pairwise_iff_getElem.1 ld.tk.nd
        rcases Nat.lt_trichotomy k1 k2 with h18 | h18 | h18
        · exact absurd (a2.trans b2.symm) (hpw k1 k2 a1 b1 h18)
        · rw [h18]
        · exact absurd (b2.trans a2.symm) (hpw k2 k1 b1 a1 h18)
    obtain ⟨hargs, halp⟩ := snapF_ok (S' := Sc) (T := T) (Γ := Γ) m1 hSc (fun k g h => by simp only [Γ, if_true]; exact h) (fun k g h => by simpa only [Γ, if_true] using h) (hmix T hT) h3 (by
      by_cases hr : ro
      · refine .inl ?_
        -- what is not lent is as it was
        have : ∀ {xs ys : List X} {bs : List Bool} {h h' : Heap} {k : Nat} {L : Lent}, borA h k xs bs = some (ys, h', L) → roF xs bs = true → roF ys bs = true := by
          intro xs
          induction xs with
          | nil =>
            intro ys bs h h' k L hb hr
            simp only [borA, Option.some.injEq, Prod.mk.injEq] at hb
            obtain ⟨rfl, _⟩ := hb
            exact hr
          | cons x xs ih =>
            intro ys bs h h' k L hb hr
            cases bs with
            | nil => simp [borA] at hb
            | cons b bs =>
              cases b with
              | true =>
                simp only [borA, bind_some_iff, map_some_iff] at hb
                obtain ⟨p1, _, p2, hb2, hb3⟩ := hb
                simp only [Prod.mk.injEq] at hb3
                obtain ⟨rfl, rfl, rfl⟩ := hb3
                simp only [roF] at hr ⊢
                exact ih (ys := p2.1) (h' := p2.2.1) (L := p2.2.2) hb2 hr
              | false =>
                simp only [borA, map_some_iff] at hb
                obtain ⟨p2, hb2, hb3⟩ := hb
                simp only [Prod.mk.injEq] at hb3
                obtain ⟨rfl, rfl, rfl⟩ := hb3
                simp only [roF, Bool.and_eq_true] at hr ⊢
                exact ⟨hr.1, ih (ys := p2.1) (h' := p2.2.1) (L := p2.2.2) hb2 hr.2⟩
        exact this h2 hr
      · refine .inr fun id g hg k hk => ?_
        simp only [Sc, if_neg hr]
        exact ⟨hlt1 _ _ hg k hk, hinl id g hg k hk⟩)
    have hy := (eqO_ok R hf (y := .d (.v (.func (.func f) #[] #[]))) rfl).1
    simp only [X.vr] at hy
    refine .enter f _ w (by
      have := run_call (w := w) ho hy.1 hcal
      simpa using this) ((hcl (fun _ => True) Γ Sc w _ mB hargs halp (fun id d hd => by
        obtain ⟨e1, _⟩ := lentH_at 0 L id d hd
        exact ⟨by omega, trivial⟩)).mono ?_)
    rintro e w' ⟨v, γ', S'', is', rfl, p⟩
    refine ⟨v, rfl, ?_⟩
    obtain ⟨N, hN⟩ := p.mm.fin
    have hisN : ∀ i ∈ is', ∃ q, i = Sum.inr q ∧ q < N := fun i hi => by
      obtain ⟨q, rfl⟩ := resR_inr p.res i hi
      refine ⟨q, rfl, ?_⟩
      obtain ⟨g, hg⟩ := resR_some p.res _ hi
      by_cases hq : q < N
      · exact hq
      · rw [hN q (by omega)] at hg; simp at hg
    let γm := merged γ1 γ' N is' hB L.length
    let S2 : Nat → Prop := fun k => if ro then S'' k else S k
    -- the rows that were lent, behind the call
    have hlent : ∀ (j : Nat) (x : Id × Path × D) (d : D), L[j]? = some x → hB (0, j) = some d → ∃ g' g, γ' (.inl (0, j)) = some g' ∧ g'.er = d ∧ gs[j]? = some g ∧ Like g g' := fun j x d hx hd => by
      obtain ⟨g', h10, h11⟩ := p.mm.er _ _ hd
      have hk := (List.getElem?_eq_some_iff.1 hx).1
      have hk2 : j < gs.length := by rw [ld.l2]; exact hk
      have e4 := List.getElem?_eq_getElem hk2
      obtain ⟨g0, h12, h13⟩ := p.hd (0, j) (by simp) g' (by simp [Gm.nav, h10, G.nav])
      simp only [Gm.nav, Γ, T, if_true, e4, Option.bind_some, G.nav, Option.some.injEq] at h12
      subst h12
      exact ⟨g', gs[j], h10, h11, e4, h13⟩
    have hmi : ∀ i g, γm i = some g → ((∃ id, i = .inl id) ∧ γ1 i = some g) ∨ ∃ i', γ' i' = some g ∧ (∃ q, i = .inr q) ∧ ((i' = i ∧ i ∈ is' ∧ ∃ q, i = .inr q ∧ q < N) ∨ ∃ j, i = .inr (N + j) ∧ i' = .inl (0, j) ∧ j < L.length ∧ ∃ d, hB (0, j) = some d) := fun i g hg => by
      cases i with
      | inl id => exact .inl ⟨⟨id, rfl⟩, hg⟩
      | inr q =>
        simp only [γm, merged] at hg
        split at hg
        · rename_i hq
          split at hg
          · rename_i hi
            exact .inr ⟨.inr q, hg, ⟨q, rfl⟩, .inl ⟨rfl, hi, q, rfl, hq⟩⟩
          · simp at hg
        · rename_i hq
          split at hg
          · rename_i hi
            obtain ⟨d, hd⟩ := Option.isSome_iff_exists.1 hi.1
            exact .inr ⟨.inl (0, q - N), hg, ⟨q, rfl⟩, .inr ⟨q - N, by rw [show N + (q - N) = q by omega], rfl, hi.2, d, hd⟩⟩
          · simp at hg
    have hγ'bl : ∀ i g, γ' i = some g → ∀ k ∈ g.bl, Bl Γ k ∨ w.heap.size ≤ k := fun i g hg k hk => p.own k ⟨i, g, hg, hk⟩
    have hcross : ∀ id g, γ1 (.inl id) = some g → ∀ i' g', γ' i' = some g' → ∀ k ∈ g.bl, k ∉ g'.bl := fun id g hg i' g' hg' k hk hk' => by
      rcases hγ'bl i' g' hg' k hk' with h10 | h10
      · exact hinl id g hg k hk h10
      · have := hlt1 _ _ hg k hk
        omega
    have hnrm : ¬ ro → r.noR = true ∧ noRB hB 0 L = true := fun hr => by
      rcases hro with h10 | h10
      · exact absurd h10 hr
      · exact h10
    have hmm : Mm hp γm S2 w' := by
      refine ⟨fun id d hd => ?_, fun i g hg => ?_, fun i g hg => ?_, fun i i' g g' hg hg' hne k hk => ?_, fun k hk => ?_, ?_⟩
      · exact m1.er id d hd
      · rcases hmi i g hg with ⟨⟨id, rfl⟩, h10⟩ | ⟨i', h10, ⟨q, rfl⟩, h12⟩
        · refine G.ok_congr (fun k hk => ⟨?_, p.keep k (m1.sd k hk).1 (hSΓ k hk)⟩) g (fun k hk => p.keep k (hlt1 _ _ h10 k hk) (hinl id g h10 k hk)) (m1.ok _ _ h10)
          simp only [S2]
          split
          · exact p.s0 k (hSc k hk)
          · exact hk
        · by_cases hr : ro
          · simp only [S2, if_pos hr]
            exact p.mm.ok _ _ h10
          · simp only [S2, if_neg hr]
            obtain ⟨hn1, hn2⟩ := hnrm hr
            refine ok_noR g ?_ (p.mm.ok _ _ h10)
            rcases h12 with ⟨e1, h13, _⟩ | ⟨j, e1, e2, h13, d, hd⟩
            · subst e1
              exact (resR_noR (γ' := γ') (S' := S) hn1 p.res (fun _ _ => rfl)).2 _ h13 g h10
            · subst e2
              obtain ⟨g', e3, e4⟩ := p.mm.er _ _ hd
              rw [h10] at e3
              simp only [Option.some.injEq] at e3
              subst e3
              rw [e4]
              exact noRB_at hn2 j h13 d (by rw [Nat.zero_add]; exact hd)
      · rcases hmi i g hg with ⟨_, h10⟩ | ⟨i', h10, _⟩
        · exact m1.nd _ _ h10
        · exact p.mm.nd _ _ h10
      · rcases hmi i g hg with ⟨⟨id, rfl⟩, h10⟩ | ⟨i1, h10, h11, h12⟩
        · rcases hmi i' g' hg' with ⟨_, h13⟩ | ⟨i2, h13, _⟩
          · exact m1.dj _ _ g g' h10 h13 hne k hk
          · exact hcross id g h10 i2 g' h13 k hk
        · rcases hmi i' g' hg' with ⟨⟨id, rfl⟩, h13⟩ | ⟨i2, h13, h14, h15⟩
          · exact fun hk' => hcross id g' h13 i1 g h10 k hk' hk
          · refine p.mm.dj i1 i2 g g' h10 h13 (fun e => hne ?_) k hk
            subst e
            rcases h12 with ⟨rfl, _, q, hq, _⟩ | ⟨j, e1, e2, _⟩
            · rcases h15 with ⟨e3, _⟩ | ⟨j, e3, e4, _⟩
              · exact e3
              · rw [hq] at e4; simp at e4
            · rcases h15 with ⟨e3, _, q, hq, _⟩ | ⟨j', e3, e4, _⟩
              · rw [hq] at e3; rw [e2] at e3; simp at e3
              · rw [e2] at e4
                simp only [Sum.inl.injEq, Prod.mk.injEq, true_and] at e4
                rw [e1, e3, e4]
      · by_cases hr : ro
        · simp only [S2, if_pos hr] at hk
          refine ⟨(p.mm.sd k hk).1, fun i g hg hk' => ?_⟩
          rcases hmi i g hg with ⟨⟨id, rfl⟩, h10⟩ | ⟨i', h10, _⟩
          · rcases p.sg k hk with h11 | h11
            · simp only [Sc, if_pos hr] at h11
              exact (m1.sd k h11).2 _ _ h10 hk'
            · have := hlt1 _ _ h10 k hk'
              omega
          · exact (p.mm.sd k hk).2 _ _ h10 hk'
        · simp only [S2, if_neg hr] at hk
          refine ⟨Nat.lt_of_lt_of_le (m1.sd k hk).1 p.size, fun i g hg hk' => ?_⟩
          rcases hmi i g hg with ⟨⟨id, rfl⟩, h10⟩ | ⟨i', h10, _⟩
          · exact (m1.sd k hk).2 _ _ h10 hk'
          · exact (p.mm.sd k (p.s0 k (hSc k hk))).2 _ _ h10 hk'
      · refine ⟨N + L.length, fun q hq => ?_⟩
        simp only [γm, merged]
        rw [if_neg (by omega), if_neg (fun h => by omega)]
    -- the rows come back
    have hholes : ∀ (j : Nat) (x : Id × Path × D), L[j]? = some x → ∃ g, gs[j]? = some g ∧ γ.nav x.1 x.2.1 = some g ∧ (∃ sz b els, g = .s sz b els) ∧ γm.nav x.1 x.2.1 = (if x.2.1 = [] then none else some (.l .u g.val)) ∧ st.heap x.1 ≠ none := fun j x hx => by
      have hk := (List.getElem?_eq_some_iff.1 hx).1
      have hk2 : j < gs.length := by rw [ld.l2]; exact hk
      have e4 := List.getElem?_eq_getElem hk2
      obtain ⟨_, r2, r3, r4, r5⟩ := ld.row j x _ hx e4
      exact ⟨gs[j], e4, r3, r2, r4, r5⟩
    obtain ⟨γ2, mm2, k1, k2, k3, k4, k5, k6⟩ := backs_ok (N := N) (k := 0) hmm hap (fun j x hx d hd => by
      rw [Nat.zero_add] at hd
      obtain ⟨g', g, h10, h11, h12, h13⟩ := hlent j x d hx hd
      obtain ⟨g0, e1, e2, e3, e4, _⟩ := hholes j x hx
      rw [h12] at e1
      simp only [Option.some.injEq] at e1
      subst e1
      have hk := (List.getElem?_eq_some_iff.1 hx).1
      have hlike : g'.val = g.val ∧ g'.rowy = true := by
        rcases h13 with ⟨e, _⟩ | ⟨e, _, e'⟩
        · rw [rowy_s e3] at e; simp at e
        · exact ⟨e, e' (rowy_s e3)⟩
      refine ⟨g', ?_, h11, ?_, ?_⟩
      · simp only [γm, merged, Nat.zero_add]
        rw [if_neg (by omega), Nat.add_sub_cancel_left, if_pos ⟨by rw [hd]; rfl, hk⟩]
        exact h10
      · -- what came back is a row: else it would not go back
        have hrow : ∃ sz els, d = .s sz els := by
          have : ∀ {L : Lent} {k : Nat} {h h2 : Heap}, backH h hB k L = some h2 → ∀ j, j < L.length → ∀ d, hB (0, k + j) = some d → ∃ sz els, d = .s sz els := by
            intro L
            induction L with
            | nil => intro k h h2 _ j hj; simp at hj
            | cons y L ih =>
              intro k h h2 hb j hj d hd
              simp only [backH] at hb
              split at hb
              · rename_i sz els he
                rw [bind_some_iff] at hb
                obtain ⟨h', _, hb2⟩ := hb
                cases j with
                | zero =>
                  rw [Nat.add_zero, he] at hd
                  simp only [Option.some.injEq] at hd
                  exact ⟨sz, els, hd.symm⟩
                | succ j => exact ih hb2 j (by simpa using hj) d (by rw [show k + 1 + j = k + (j + 1) by omega]; exact hd)
              · simp at hb
              · rename_i he
                cases j with
                | zero => rw [Nat.add_zero, he] at hd; simp at hd
                | succ j => exact ih hb j (by simpa using hj) d (by rw [show k + 1 + j = k + (j + 1) by omega]; exact hd)
          exact this h6 j hk d (by rw [Nat.zero_add]; exact hd)
        obtain ⟨sz, els, rfl⟩ := hrow
        cases g' with
        | s sz' b' els' => exact ⟨_, _, _, rfl⟩
        | l d' v' =>
          have hok := p.mm.ok _ _ h10
          simp only [G.ok] at hok
          simp only [G.er] at h11
          subst h11
          simp [D.leaf] at hok
      · unfold Hole
        rw [hlike.1]
        exact e4) h6
    -- what other places say
    have hsame1 : ∀ id p', Same γ γm id p' := fun id p' => (ld.tk.same id p').trans (Same.of_eq rfl p')
    have hsame : ∀ id p', (∀ x ∈ L, ¬ (id = x.1 ∧ x.2.1 <+: p' ∧ p' ≠ x.2.1)) → Same γ γ2 id p' := fun id p' hnot => by
      by_cases hex : ∃ x ∈ L, id = x.1 ∧ p' = x.2.1
      · obtain ⟨x, hxm, rfl, rfl⟩ := hex
        obtain ⟨j, hj⟩ := List.getElem?_of_mem hxm
        obtain ⟨g, e1, e2, e3, e4, _⟩ := hholes j x hj
        intro g2 hg2
        refine ⟨g, e2, ?_⟩
        rcases k4 j x hj with ⟨_, h10⟩ | ⟨g', h10, h11, h12⟩
        · rw [h10, e4] at hg2
          split at hg2
          · simp at hg2
          · simp only [Option.some.injEq] at hg2
            subst hg2
            exact .inr ⟨rfl, .inl rfl, fun _ => rfl⟩
        · rw [h12] at hg2
          simp only [Option.some.injEq] at hg2
          subst hg2
          rw [Nat.zero_add] at h10 h11
          obtain ⟨d, hd⟩ := Option.isSome_iff_exists.1 h11
          obtain ⟨g1', g1, f1, f2, f3, f4⟩ := hlent j x d hj hd
          have hk := (List.getElem?_eq_some_iff.1 hj).1
          simp only [γm, merged] at h10
          rw [if_neg (by omega), Nat.add_sub_cancel_left, if_pos ⟨h11, hk⟩, f1] at h10
          simp only [Option.some.injEq] at h10
          subst h10
          rw [e1] at f3
          simp only [Option.some.injEq] at f3
          subst f3
          exact f4
      · refine (hsame1 id p').trans (k2 id p' (fun x hxm ⟨e1, e2⟩ => ?_))
        by_cases e3 : p' = x.2.1
        · exact hex ⟨x, hxm, e1, e3⟩
        · exact hnot x hxm ⟨e1, e2, e3⟩
    have hdom : ∀ id, st.heap id = none → hb2 id = none := fun id h0 => k6 id (ld.tk.mono id h0) (fun x hxm e => by
      obtain ⟨j, hj⟩ := List.getElem?_of_mem hxm
      obtain ⟨_, _, _, _, _, e5⟩ := hholes j x hj
      rw [e] at e5
      exact e5 h0)
    have hres : resR γ2 w' S2 r v is' := by
      have hk : ∀ i ∈ is', γ2 i = γ' i := fun i hi => by
        obtain ⟨q, rfl, hq⟩ := hisN i hi
        rw [k1 q hq]
        simp only [γm, merged]
        rw [if_pos hq, if_pos hi]
      by_cases hr : ro
      · simp only [S2, if_pos hr]
        exact resR_to (φ := fun _ _ => False) ⟨fun id q h => h.elim, fun k hk => ⟨hk, rfl⟩⟩ (noP_allp hnp) p.res hk
      · simp only [S2, if_neg hr]
        exact (resR_noR (γ' := γ2) (S' := S) (hnrm hr).1 p.res hk).1
    have hpe : ∀ t x, purgeL L st.env t = some x → st.env t = some x ∧ inLent x L = false := fun t x hx => by
      unfold purgeL at hx
      rw [bind_some_iff] at hx
      obtain ⟨x', h10, h11⟩ := hx
      split at h11
      · simp at h11
      · rename_i hne
        simp only [Option.some.injEq] at h11
        subst h11
        exact ⟨h10, by simpa using hne⟩
    have hR := (R.less (fun t x hx => (hpe t x hx).1)).change (U' := U) mm2 p.os p.tape p.output p.size (fun k hk hnb => p.keep k hk (fun hb => hnb (hBlγ k hb).1)) (fun k ⟨i, g, h10, h11⟩ => by
        obtain ⟨i0, g0, h12, h13⟩ := k5 i g h10 k h11
        rcases hmi i0 g0 h12 with ⟨_, h14⟩ | ⟨i', h14, _⟩
        · exact .inl (ld.tk.sub _ _ h14 k h13)
        · exact (hγ'bl i' g0 h14 k h13).imp (fun h => (hBlγ k h).1) (fun h => h)) (fun t x hx => inLent_ok hsame (hpe t x hx).2) (fun id _ => hsame id [] (fun x _ ⟨_, e2, e3⟩ => e3 (List.prefix_nil.1 e2).symm)) (fun k hk => by
        simp only [S2]
        split
        · exact p.s0 k (hSc k hk)
        · exact hk) (fun k hk => by
        simp only [S2] at hk
        split at hk
        · rename_i hr
          rcases p.sg k hk with h10 | h10
          · simp only [Sc, if_pos hr] at h10
            exact .inl h10
          · exact .inr h10
        · exact .inl hk) (fun id d hd => by
        have hne : st.heap id ≠ none := fun h0 => by rw [hdom id h0] at hd; simp at hd
        obtain ⟨d0, hd0⟩ := Option.ne_none_iff_exists'.1 hne
        exact R.hid id d0 hd0) (fun _ h => h) (fun id _ h0 => hdom id h0)
    exact landed_ok (st := { st with env := purgeL L st.env, heap := hb2 }) hR hd hres p.nd (noP_allp hnp) hn hU h7
  · simp at h5
end
end Go.Ev
