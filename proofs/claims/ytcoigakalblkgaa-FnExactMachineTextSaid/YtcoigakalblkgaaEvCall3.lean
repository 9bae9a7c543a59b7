/- The operations that call. -/
import Derived.Test.YtcoigakalblkgaaEvCall2
set_option linter.all false
namespace Go.Ev
open Go.RowKit

section
variable {c : Ctx} {st st' : St} {U : Nat → Prop} {γ : Gm} {S : Nat → Prop} {a : Act} {w : World} {C : Cl} {o : Oper} {id : Nat}

theorem run_call {P : Program} {o : Oper} {a : Act} {w : World} {y : Operand} {ys : Array Operand} {ts : Array TypeId} {f : Nat} {caps : Array Value} (ho : o.op = .call { callee := .value y, args := ys, argTypes := ts }) (hy : a.eval y = .func (.func f) #[] caps) (hc : Callable P f) :
    (execOp a.eval o).run P w = .ok (.enter f ((ys.toList.map a.eval).toArray ++ caps)) w := by
  obtain ⟨fn, h1, h2, h3⟩ := hc
  have hm : ys.map a.eval = (ys.toList.map a.eval).toArray := by rw [← Array.toList_map, Array.toArray_toList]
  simp [execOp, ho, resolve, hy, Deferred.ofValue, invoke, callFunc, h1, h2, h3, hm]

/-- The ghosts of an isolated call's result beside the caller's own. -/
def beside (γ γ' : Gm) : Gm := fun i => match i with
  | .inl id => γ (.inl id)
  | .inr n => γ' (.inr n)
theorem beside_mm {h h' : Heap} {γ γ' : Gm} {S S0 S1 S2 : Nat → Prop} {w w' : World} (m : Mm h γ S w) (m' : Mm h' γ' S1 w') (hsz : w.heap.size ≤ w'.heap.size) (hold : ∀ k, k < w.heap.size → w'.heap[k]? = w.heap[k]?) (hown : ∀ k, Bl γ' k → w.heap.size ≤ k)
    (hS : ∀ k, S k → S2 k) (hok : ∀ i g, γ' i = some g → g.ok w' S2) (hS2 : ∀ k, S2 k → S k ∨ (w.heap.size ≤ k ∧ S1 k)) : Mm h (beside γ γ') S2 w' := by
  have hlt : ∀ i g, γ i = some g → ∀ k ∈ g.bl, k < w.heap.size := fun i g hg => G.ok_lt g (m.ok i g hg)
  have hge : ∀ i g, γ' i = some g → ∀ k ∈ g.bl, w.heap.size ≤ k := fun i g hg k hk => hown k ⟨i, g, hg, hk⟩
  have key : ∀ i g, beside γ γ' i = some g → ((∃ id, i = .inl id) ∧ γ i = some g) ∨ ((∃ n, i = .inr n) ∧ γ' i = some g) := fun i g hg => by
    cases i with
    | inl id => exact .inl ⟨⟨id, rfl⟩, hg⟩
    | inr n => exact .inr ⟨⟨n, rfl⟩, hg⟩
  refine ⟨fun id d hd => m.er id d hd, fun i g hg => ?_, fun i g hg => ?_, fun i i' g g' hg hg' hne k hk => ?_, fun k hk => ?_, ?_⟩
  · rcases key i g hg with ⟨_, h1⟩ | ⟨_, h1⟩
    · exact G.ok_congr (fun k hk => ⟨hS k hk, hold k (m.sd k hk).1⟩) g (fun k hk => hold k (hlt i g h1 k hk)) (m.ok i g h1)
    · exact hok i g h1
  · rcases key i g hg with ⟨_, h1⟩ | ⟨_, h1⟩
    · exact m.nd i g h1
    · exact m'.nd i g h1
  · rcases key i g hg with ⟨_, h1⟩ | ⟨_, h1⟩
    · rcases key i' g' hg' with ⟨_, h2⟩ | ⟨_, h2⟩
      · exact m.dj i i' g g' h1 h2 hne k hk
      · exact fun hk' => by have := hlt i g h1 k hk; have := hge i' g' h2 k hk'; omega
    · rcases key i' g' hg' with ⟨_, h2⟩ | ⟨_, h2⟩
      · exact fun hk' => by have := hge i g h1 k hk; have := hlt i' g' h2 k hk'; omega
      · exact m'.dj i i' g g' h1 h2 hne k hk
  · rcases hS2 k hk with h1 | ⟨h1, h2⟩
    · refine ⟨by have := (m.sd k h1).1; omega, fun i g hg hk' => ?_⟩
      rcases key i g hg with ⟨_, h3⟩ | ⟨_, h3⟩
      · exact (m.sd k h1).2 i g h3 hk'
      · have := (m.sd k h1).1
        have := hge i g h3 k hk'
        omega
    · refine ⟨(m'.sd k h2).1, fun i g hg hk' => ?_⟩
      rcases key i g hg with ⟨_, h3⟩ | ⟨_, h3⟩
      · have := hlt i g h3 k hk'
        omega
      · exact (m'.sd k h2).2 i g h3 hk'
  · obtain ⟨N, hN⟩ := m'.fin
    exact ⟨N, fun n hn => hN n hn⟩

/-! ### Nothing that is only read in it: any S does -/
mutual
theorem ok_noR {w : World} {S S' : Nat → Prop} : ∀ (g : G), g.er.noR = true → g.ok w S → g.ok w S'
  | .l d v, hn, h => by
    simp only [G.ok, G.er] at h hn ⊢
    refine ⟨h.1, ?_⟩
    cases d with
    | v x => simpa only [D.rd] using h.2
    | s sz els => simp [D.leaf] at h
    | r els => simp [D.noR] at hn
    | u => simpa only [D.rd] using h.2
  | .s sz b els, hn, h => by
    simp only [G.ok, G.er, D.noR] at h hn ⊢
    exact ⟨h.1, h.2.1, okss_noR els hn h.2.2⟩
theorem okss_noR {w : World} {S S' : Nat → Prop} : ∀ (els : List (List G)), D.noR.noRss (erss els) = true → okss w S els → okss w S' els
  | [], _, _ => by simp [okss]
  | el :: els, hn, h => by
    simp only [erss, D.noR.noRss, Bool.and_eq_true, okss] at hn h ⊢
    exact ⟨oks_noR el hn.1 h.1, okss_noR els hn.2 h.2⟩
theorem oks_noR {w : World} {S S' : Nat → Prop} : ∀ (gs : List G), D.noR.noRs (ers gs) = true → oks w S gs → oks w S' gs
  | [], _, _ => by simp [oks]
  | g :: gs, hn, h => by
    simp only [ers, D.noR.noRs, Bool.and_eq_true, oks] at hn h ⊢
    exact ⟨ok_noR g hn.1 h.1, oks_noR gs hn.2 h.2⟩
end
theorem resC_noR {γ γ' : Gm} {w : World} {S S' : Nat → Prop} {x : X} {v : Value} {is : List GId} (hn : x.noRC = true) (h : resC γ w S x v is) (hγ : ∀ i ∈ is, γ' i = γ i) : resC γ' w S' x v is ∧ ∀ i ∈ is, ∀ g, γ i = some g → g.er.noR = true := by
  rcases h with ⟨h1, rfl, h2⟩ | ⟨sz, els, i, g, rfl, rfl, h3, h4, h5, h6⟩
  · refine ⟨.inl ⟨h1, rfl, ?_⟩, by simp⟩
    cases x with
    | d x =>
      cases x with
      | v x => simpa only [X.vr] using h2
      | s sz els => simp [X.own] at h1
      | r els => simp [X.noRC, D.noR] at hn
      | u => simpa only [X.vr] using h2
    | _ => simp [X.noRC] at hn
  · refine ⟨.inr ⟨sz, els, i, g, rfl, rfl, (hγ i (by simp)).trans h3, h4, h5, h6⟩, fun j hj g' hg' => ?_⟩
    rw [List.mem_singleton] at hj
    subst hj
    rw [h3] at hg'
    simp only [Option.some.injEq] at hg'
    subst hg'
    rw [h5]
    simpa only [X.noRC] using hn
theorem resL_noR {γ γ' : Gm} {w : World} {S S' : Nat → Prop} : ∀ {xs : List X} {vs : List Value} {is : List GId}, noRL xs = true → resL γ w S xs vs is → (∀ i ∈ is, γ' i = γ i) → resL γ' w S' xs vs is ∧ ∀ i ∈ is, ∀ g, γ i = some g → g.er.noR = true
  | [], [], is, _, h, _ => by simp only [resL] at h; subst h; exact ⟨by simp [resL], by simp⟩
  | x :: xs, v :: vs, is, hn, h, hγ => by
    simp only [resL, noRL, Bool.and_eq_true] at h hn ⊢
    obtain ⟨i1, i2, rfl, h1, h2⟩ := h
    obtain ⟨a1, a2⟩ := resC_noR (γ' := γ') (S' := S') hn.1 h1 (fun i hi => hγ i (by simp [hi]))
    obtain ⟨b1, b2⟩ := resL_noR (γ' := γ') (S' := S') hn.2 h2 (fun i hi => hγ i (by simp [hi]))
    exact ⟨⟨i1, i2, rfl, a1, b1⟩, fun i hi => (List.mem_append.1 hi).elim (a2 i) (b2 i)⟩
  | [], _ :: _, _, _, h, _ => by simp [resL] at h
  | _ :: _, [], _, _, h, _ => by simp [resL] at h
theorem resV_noR {γ γ' : Gm} {w : World} {S S' : Nat → Prop} {x : X} {v : Value} {is : List GId} (hn : x.noRV = true) (h : resV γ w S x v is) (hγ : ∀ i ∈ is, γ' i = γ i) : resV γ' w S' x v is ∧ ∀ i ∈ is, ∀ g, γ i = some g → g.er.noR = true := by
  cases x with
  | agg cs =>
    simp only [resV] at h ⊢
    obtain ⟨vs, h1, h2, h3⟩ := h
    obtain ⟨a1, a2⟩ := resL_noR (γ' := γ') (S' := S') (by simpa only [X.noRV] using hn) h2 hγ
    exact ⟨⟨vs, h1, a1, h3⟩, a2⟩
  | d x => simp only [resV, X.noRV] at h hn ⊢; exact resC_noR hn h hγ
  | tup cs => simp [X.noRV, X.noRC] at hn
  | ref id p => simp [X.noRV, X.noRC] at hn
  | ptr id q j i => simp [X.noRV, X.noRC] at hn
  | rop cs => simp [X.noRV, X.noRC] at hn
  | vp cs => simp [X.noRV, X.noRC] at hn
  | clo f cs => simp [X.noRV, X.noRC] at hn
theorem resT_noR {γ γ' : Gm} {w : World} {S S' : Nat → Prop} : ∀ {xs : List X} {vs : List Value} {is : List GId}, noRT xs = true → resT γ w S xs vs is → (∀ i ∈ is, γ' i = γ i) → resT γ' w S' xs vs is ∧ ∀ i ∈ is, ∀ g, γ i = some g → g.er.noR = true
  | [], [], is, _, h, _ => by simp only [resT] at h; subst h; exact ⟨by simp [resT], by simp⟩
  | x :: xs, v :: vs, is, hn, h, hγ => by
    simp only [resT, noRT, Bool.and_eq_true] at h hn ⊢
    obtain ⟨i1, i2, rfl, h1, h2⟩ := h
    obtain ⟨a1, a2⟩ := resV_noR (γ' := γ') (S' := S') hn.1 h1 (fun i hi => hγ i (by simp [hi]))
    obtain ⟨b1, b2⟩ := resT_noR (γ' := γ') (S' := S') hn.2 h2 (fun i hi => hγ i (by simp [hi]))
    exact ⟨⟨i1, i2, rfl, a1, b1⟩, fun i hi => (List.mem_append.1 hi).elim (a2 i) (b2 i)⟩
  | [], _ :: _, _, _, h, _ => by simp [resT] at h
  | _ :: _, [], _, _, h, _ => by simp [resT] at h
theorem resR_noR {γ γ' : Gm} {w : World} {S S' : Nat → Prop} {x : X} {v : Value} {is : List GId} (hn : x.noR = true) (h : resR γ w S x v is) (hγ : ∀ i ∈ is, γ' i = γ i) : resR γ' w S' x v is ∧ ∀ i ∈ is, ∀ g, γ i = some g → g.er.noR = true := by
  cases x with
  | tup cs =>
    simp only [resR, X.noR] at h hn ⊢
    obtain ⟨vs, h1, h2⟩ := h
    obtain ⟨a1, a2⟩ := resT_noR (γ' := γ') (S' := S') hn h2 hγ
    exact ⟨⟨vs, h1, a1⟩, a2⟩
  | agg cs => simp only [resR, X.noR] at h hn ⊢; exact resV_noR hn h hγ
  | d x => simp only [resR, X.noR] at h hn ⊢; exact resV_noR hn h hγ
  | ref id p => simp [X.noR, X.noRV, X.noRC] at hn
  | ptr id q j i => simp [X.noR, X.noRV, X.noRC] at hn
  | rop cs => simp [X.noR, X.noRV, X.noRC] at hn
  | vp cs => simp [X.noR, X.noRV, X.noRC] at hn
  | clo f cs => simp [X.noR, X.noRV, X.noRC] at hn

/-- An isolated call: what is known behind it. -/
theorem isolated (R : Rep c st U γ S a w) {xs ys : List X} {vs : List Value} (hv : vrs γ w S xs vs) (hs : snaps st.heap xs = some ys) (hC : CallOk c.P C) {f : Nat} {r : X} {h' : Heap} (hf : C f ys emp 0 = some (r, h')) (hro : (roArgs xs || r.noR) = true) :
    Callable c.P f ∧ Calls c.P f vs.toArray w fun e w' => ∃ v γ1 S1 is, e = .returned v ∧ Rep c st U γ1 S1 a w' ∧ resR γ1 w' S1 r v is ∧ is.Nodup ∧ (∀ φ : Id → Path → Prop, r.allp φ) ∧ ∀ i ∈ is, ∀ g, γ1 i = some g → ∀ k ∈ g.bl, w.heap.size ≤ k := by
  classical
  obtain ⟨hcal, hcl⟩ := hC f ys emp 0 r h' hf
  refine ⟨hcal, ?_⟩
  -- where only what is read is handed over, S; else all that lies in memory
  have hem : ∀ S' : Nat → Prop, (∀ k, S' k → k < w.heap.size) → Mm emp (fun _ => none) S' w := fun S' hlt =>
    ⟨fun id d h => by simp [emp] at h, fun i g h => by simp at h, fun i g h => by simp at h, fun i i' g g' h => by simp at h, fun k hk => ⟨hlt k hk, fun i g h => by simp at h⟩, ⟨0, fun _ _ => rfl⟩⟩
  have hnoBl : ∀ k, ¬ Bl (fun _ => none) k := fun k ⟨i, g, h, _⟩ => by simp at h
  have hlow : ∀ (r : X), r.allp (fun id _ => id.1 < 0 ∧ True) → ∀ φ : Id → Path → Prop, r.allp φ := fun r hr φ => allp_mono (fun id _ h => absurd h.1 (Nat.not_lt_zero _)) r hr
  by_cases hr : roArgs xs = true
  · obtain ⟨h1, h2⟩ := snaps_ok R.mm (S' := S) (fun k h => h) hv hs (.inl hr)
    refine (hcl (fun _ => True) (fun _ => none) S w vs (hem S (fun k hk => (R.mm.sd k hk).1)) h1 (h2 _) (fun id d h => by simp [emp] at h)).mono ?_
    rintro e w' ⟨v, γ', S', is, rfl, p⟩
    have hold : ∀ k, k < w.heap.size → w'.heap[k]? = w.heap[k]? := fun k hk => p.keep k hk (hnoBl k)
    have hown : ∀ k, Bl γ' k → w.heap.size ≤ k := fun k hk => (p.own k hk).resolve_left (hnoBl k)
    have hM := beside_mm (S2 := S') (S0 := S) R.mm p.mm p.size hold hown p.s0 (fun i g hg => p.mm.ok i g hg) (fun k hk => (p.sg k hk).imp (fun h => h) (fun h => ⟨h, hk⟩))
    refine ⟨v, beside γ γ', S', is, rfl, ?_, ?_, p.nd, hlow r p.ids, fun i hi g hg k hk => by
      obtain ⟨n, rfl⟩ := resR_inr p.res i hi
      exact hown k ⟨.inr n, g, hg, hk⟩⟩
    · have hR := R.change (U' := U) (h' := st.heap) hM p.os p.tape p.output p.size (fun k hk _ => hold k hk) (fun k ⟨i, g, h3, h4⟩ => ?_) (fun t x _ => allp_all (fun id q => Same.of_eq rfl q) x) (fun id _ => Same.of_eq rfl []) p.s0 p.sg R.hid (fun _ h => h) (fun _ _ h => h)
      · exact hR
      · cases i with
        | inl id => exact .inl ⟨.inl id, g, h3, h4⟩
        | inr n => exact .inr (hown k ⟨.inr n, g, h3, h4⟩)
    · have hinr := resR_inr p.res
      have : ∀ {φ : Id → Path → Prop}, ResTo γ' (beside γ γ') w' w' S' S' φ → resR (beside γ γ') w' S' r v is := fun t => by
        have hk : ∀ i ∈ is, beside γ γ' i = γ' i := fun i hi => by obtain ⟨n, rfl⟩ := hinr i hi; rfl
        cases r with
        | tup cs =>
          have := p.res
          simp only [resR] at this ⊢
          obtain ⟨us, e1, e2⟩ := this
          exact ⟨us, e1, resT_to t (by simpa only [X.allp] using hlow _ p.ids _) e2 hk⟩
        | agg cs => exact resV_to t (hlow _ p.ids _) (by simpa only [resR] using p.res) hk
        | d x => exact resV_to t (hlow _ p.ids _) (by simpa only [resR] using p.res) hk
        | ref id q => exact resV_to t (hlow _ p.ids _) (by simpa only [resR] using p.res) hk
        | ptr id q j i => exact resV_to t (hlow _ p.ids _) (by simpa only [resR] using p.res) hk
        | rop cs => exact resV_to t (hlow _ p.ids _) (by simpa only [resR] using p.res) hk
        | vp cs => exact resV_to t (hlow _ p.ids _) (by simpa only [resR] using p.res) hk
        | clo f cs => exact resV_to t (hlow _ p.ids _) (by simpa only [resR] using p.res) hk
      exact this (φ := fun _ _ => False) ⟨fun id q h => h.elim, fun k hk => ⟨hk, rfl⟩⟩
  · have hnr : r.noR = true := by simpa [hr] using hro
    obtain ⟨h1, h2⟩ := snaps_ok R.mm (S' := fun k => k < w.heap.size) (fun k h => (R.mm.sd k h).1) hv hs (.inr fun id g hg k hk => G.ok_lt g (R.mm.ok _ _ hg) k hk)
    refine (hcl (fun _ => True) (fun _ => none) _ w vs (hem _ (fun k hk => hk)) h1 (h2 _) (fun id d h => by simp [emp] at h)).mono ?_
    rintro e w' ⟨v, γ', S', is, rfl, p⟩
    have hold : ∀ k, k < w.heap.size → w'.heap[k]? = w.heap[k]? := fun k hk => p.keep k hk (hnoBl k)
    have hown : ∀ k, Bl γ' k → w.heap.size ≤ k := fun k hk => (p.own k hk).resolve_left (hnoBl k)
    have hinr := resR_inr p.res
    -- the result's rows alone
    let γr : Gm := fun i => if i ∈ is then γ' i else none
    have hγr : ∀ i g, γr i = some g → i ∈ is ∧ γ' i = some g := fun i g h => by
      simp only [γr] at h
      split at h
      · exact ⟨‹_›, h⟩
      · simp at h
    obtain ⟨hres, hpure⟩ := resR_noR (γ' := γr) (S' := S) hnr p.res (fun i hi => by simp [γr, hi])
    have hm' : Mm emp γr (fun _ => False) w' := ⟨fun id d h => by simp [emp] at h, fun i g hg => ok_noR g (hpure i (hγr i g hg).1 g (hγr i g hg).2) (p.mm.ok i g (hγr i g hg).2), fun i g hg => p.mm.nd i g (hγr i g hg).2, fun i i' g g' hg hg' => p.mm.dj i i' g g' (hγr i g hg).2 (hγr i' g' hg').2, fun k hk => hk.elim, by
      obtain ⟨N, hN⟩ := p.mm.fin
      refine ⟨N, fun n hn => ?_⟩
      simp only [γr]
      split
      · exact hN n hn
      · rfl⟩
    have hownr : ∀ k, Bl γr k → w.heap.size ≤ k := fun k ⟨i, g, h3, h4⟩ => hown k ⟨i, g, (hγr i g h3).2, h4⟩
    have hM := beside_mm (S2 := S) (S0 := S) R.mm hm' p.size hold hownr (fun k h => h) (fun i g hg => ok_noR g (hpure i (hγr i g hg).1 g (hγr i g hg).2) (p.mm.ok i g (hγr i g hg).2)) (fun k hk => .inl hk)
    refine ⟨v, beside γ γr, S, is, rfl, ?_, ?_, p.nd, hlow r p.ids, fun i hi g hg k hk => by
      obtain ⟨n, rfl⟩ := hinr i hi
      exact hownr k ⟨.inr n, g, hg, hk⟩⟩
    · have hR := R.change (U' := U) (h' := st.heap) hM p.os p.tape p.output p.size (fun k hk _ => hold k hk) (fun k ⟨i, g, h3, h4⟩ => ?_) (fun t x _ => allp_all (fun id q => Same.of_eq rfl q) x) (fun id _ => Same.of_eq rfl []) (fun k h => h) (fun k h => .inl h) R.hid (fun _ h => h) (fun _ _ h => h)
      · exact hR
      · cases i with
        | inl id => exact .inl ⟨.inl id, g, h3, h4⟩
        | inr n => exact .inr (hownr k ⟨.inr n, g, h3, h4⟩)
    · exact (resR_noR (γ' := beside γ γr) (S' := S) hnr hres (fun i hi => by obtain ⟨n, rfl⟩ := hinr i hi; rfl)).1

theorem op_call (R : Rep c st U γ S a w) (hd : ∀ k, o.dst = some k → k < c.nt) {y : Operand} {ys : Array Operand} {ts : Array TypeId} {f : Nat} {xs : List O} (ho : o.op = .call { callee := .value y, args := ys, argTypes := ts }) (hf : eqO y (.f f) = true) (hx : eqOs ys.toList xs = true) (hC : CallOk c.P C)
    {n : Nat} (hn : ∀ k, n ≤ k → k < n + 32 → ¬ U k) {U' : Nat → Prop} (hU : ∀ k, UB U n 32 k → U' k) (hs : opS C st o.dst n (.call f xs) = some st') : Runs c o a w st' U' := by
  simp only [opS, bind_some_iff] at hs
  obtain ⟨as, h1, bs, h2, r, h3, h4⟩ := hs
  obtain ⟨h', h3⟩ := iso_some.1 h3
  split at h4
  · rename_i hro
    obtain ⟨h5, h6⟩ := rdOs_ok R hx h1
    obtain ⟨hcal, hcl⟩ := isolated R h5 h2 hC h3 hro
    have hy := (eqO_ok R hf (y := .d (.v (.func (.func f) #[] #[]))) rfl).1
    simp only [X.vr] at hy
    refine .enter f _ w (by
      have := run_call (w := w) ho hy.1 hcal
      simpa using this) (hcl.mono ?_)
    rintro e w' ⟨v, γ1, S1, is, rfl, hR, hres, hnd, hids, _⟩
    exact ⟨v, rfl, landed_ok hR hd hres hnd (hids _) hn hU h4⟩
  · simp at h4

end
end Go.Ev
