/- Operations that make memory, or turn it: each is sound for the machine. -/
import Derived.Test.YtcoigakalblkgaaEvOps2
import Derived.Great.BuildSlice
import Derived.Laws.MakeOwn
set_option linter.all false
namespace Go.Ev
open Go.RowKit

theorem Sub.own {c : Ctx} {st : St} {U : Nat → Prop} {γ γ' : Gm} {S : Nat → Prop} {a : Act} {w : World} (_ : Rep c st U γ S a w) (h : Sub γ' γ) : ∀ k, Bl γ' k → Bl γ k ∨ w.heap.size ≤ k := fun k ⟨i, g, h1, h2⟩ => .inl (h i g h1 k h2)

section
variable {c : Ctx} {st st' : St} {U : Nat → Prop} {γ : Gm} {S : Nat → Prop} {a : Act} {w : World} {C : Cl} {o : Oper} {id : Nat}

theorem vr_cells {γ : Gm} {w : World} {S : Nat → Prop} {x : X} {v : Value} (h : x.vr γ w S v) : vrs γ w S x.cells v.cells.toList ∨ ∃ cs, x = .tup cs := by
  cases x with
  | agg cs =>
    simp only [X.vr] at h
    obtain ⟨vs, rfl, h1, _⟩ := h
    exact .inl (by simpa [X.cells, Value.cells] using h1)
  | tup cs => exact .inr ⟨cs, rfl⟩
  | d x =>
    have hc : v.cells = #[v] := by
      cases x with
      | v x => simp only [X.vr] at h; obtain ⟨rfl, h1⟩ := h; cases v <;> first | rfl | simp [Value.oneCell'] at h1
      | r els => simp only [X.vr, D.rd] at h; obtain ⟨A, c, rfl, _⟩ := h; rfl
      | s sz els => simp only [X.vr] at h; rw [h.2]; rfl
      | u => simp only [X.vr] at h; cases v <;> first | rfl | simp [Value.oneCell'] at h
    refine .inl ?_
    rw [hc]
    simp only [X.cells, vrs]
    exact ⟨h, trivial⟩
  | ref id p =>
    have hc : v.cells = #[v] := by
      simp only [X.vr] at h; obtain ⟨h1, _⟩ := h; cases v <;> first | rfl | simp [Value.oneCell'] at h1
    refine .inl ?_
    rw [hc]
    simp only [X.cells, vrs]
    exact ⟨h, trivial⟩
  | ptr id q j i =>
    have hc : v.cells = #[v] := by simp only [X.vr] at h; obtain ⟨a, rfl, _⟩ := h; rfl
    refine .inl ?_
    rw [hc]
    simp only [X.cells, vrs]
    exact ⟨h, trivial⟩
  | rop cs =>
    have hc : v.cells = #[v] := by simp only [X.vr] at h; obtain ⟨a, rfl, _⟩ := h; rfl
    refine .inl ?_
    rw [hc]
    simp only [X.cells, vrs]
    exact ⟨h, trivial⟩
  | vp cs =>
    have hc : v.cells = #[v] := by simp only [X.vr] at h; obtain ⟨a, rfl, _⟩ := h; rfl
    refine .inl ?_
    rw [hc]
    simp only [X.cells, vrs]
    exact ⟨h, trivial⟩
  | clo f caps =>
    have hc : v.cells = #[v] := by simp only [X.vr] at h; obtain ⟨vs, rfl, _⟩ := h; rfl
    refine .inl ?_
    rw [hc]
    simp only [X.cells, vrs]
    exact ⟨h, trivial⟩
theorem takeL_tup {h : Heap} {cs : List X} : takeL h (X.tup cs).cells = none := by simp [X.cells, takeL, takeX]

theorem valss_one (gs : List G) : valss [gs] = vals gs := by simp [valss]
theorem blss_one (gs : List G) : blss [gs] = bls gs := by simp [blss]
theorem erss_one (gs : List G) : erss [gs] = [ers gs] := by simp [erss]
theorem vals_length (gs : List G) : (vals gs).length = gs.length := by simp [vals]

/-- A new row out of rows that have been taken, in a new block. -/
theorem made (R : Rep c st U γ S a w) {h1 : Heap} {γ1 : Gm} (m : Mm h1 γ1 S w) (hmono : ∀ id, st.heap id = none → h1 id = none) (hsame : ∀ id p, Same γ γ1 id p) (hsub : Sub γ1 γ) {is : List GId} {gs : List G} (hf : fls γ1 h1 is gs)
    {els : List (List G)} (hgs : ∀ el ∈ els, ∀ g ∈ el, g ∈ gs) (hbl : (blss els).Perm (bls gs)) {sz cap : Nat} (hsz : ∀ el ∈ els, el.length = sz) (hle : els.length ≤ cap) (hmax : cap ≤ maxLen) {cur : Array Value} {e : TypeId} (hcur : cur.size = cap * sz) (htake : cur.toList.take (els.length * sz) = valss els)
    {n : Nat} (hn : ∀ t x, st.env t = some x → x.allp (fun id _ => id ≠ (st.fr, n))) {U' : Nat → Prop} (hU : ∀ k, U k → U' k) (hn' : U' n) :
    ∃ γ', Rep c (st.with (upd h1 (st.fr, n) (some (.s sz (erss els))))) U' γ' S a (w.alloc (.cells cur e)) ∧ γ' (.inl (st.fr, n)) = some (.s sz (some (w.heap.size, cap)) els) := by
  have hold : ∀ k, k < w.heap.size → (w.alloc (.cells cur e)).heap[k]? = w.heap[k]? := fun k hk => Below.heap_alloc w _ k hk
  have hSw : ∀ k, S k → S k ∧ (w.alloc (.cells cur e)).heap[k]? = w.heap[k]? := fun k hk => ⟨hk, hold k (m.sd k hk).1⟩
  have hlt : ∀ i g, γ1 i = some g → ∀ k ∈ g.bl, k < w.heap.size := fun i g hg => G.ok_lt g (m.ok i g hg)
  have hmemg : ∀ g ∈ gs, ∀ k ∈ g.bl, k < w.heap.size := fun g hg k hk => by
    obtain ⟨i, _, hi⟩ := fls_mem hf g hg
    exact hlt i g hi k hk
  have hblk : ∀ k ∈ blss els, k < w.heap.size := fun k hk => by
    obtain ⟨g, h1, h2⟩ := mem_bls.1 (hbl.mem_iff.1 hk)
    exact hmemg g h1 k h2
  have hG : (G.s sz (some (w.heap.size, cap)) els).ok (w.alloc (.cells cur e)) S := by
    simp only [G.ok]
    refine ⟨⟨hle, hmax, cur, e, heap_alloc_new w _, hcur, htake⟩, hsz, ?_⟩
    rw [okss_iff]
    intro el hel g hg
    exact G.ok_congr hSw g (fun k hk => hold k (hmemg g (hgs el hel g hg) k hk)) (fls_ok m hf g (hgs el hel g hg))
  have hM := m.regroup (S' := S) (w' := w.alloc (.cells cur e)) is (fun i hi => (fls_flo hf i hi).1) hG (by
      simp only [G.bl, List.singleton_append, List.nodup_cons]
      exact ⟨fun hk => by have := hblk _ hk; omega, hbl.nodup_iff.2 (fls_nodup m hf)⟩) (fun k hk => by
      simp only [G.bl, List.singleton_append, List.mem_cons] at hk
      rcases hk with rfl | hk
      · exact .inr (Nat.le_refl _)
      · obtain ⟨g, h3, h4⟩ := mem_bls.1 (hbl.mem_iff.1 hk)
        obtain ⟨i, h5, h6⟩ := fls_mem hf g h3
        exact .inl ⟨i, h5, g, h6, h4⟩) (fun i g hi _ k hk => hold k (hlt i g hi k hk)) hSw (fun k hk => ⟨by have := (m.sd k hk).1; simp; omega, fun hk' => by
      simp only [G.bl, List.singleton_append, List.mem_cons] at hk'
      rcases hk' with rfl | hk'
      · have := (m.sd _ hk).1; omega
      · obtain ⟨g, h3, h4⟩ := mem_bls.1 (hbl.mem_iff.1 hk')
        obtain ⟨i, h5, h6⟩ := fls_mem hf g h3
        exact (m.sd k hk).2 i g h6 h4, fun i g hi _ => (m.sd k hk).2 i g hi⟩) (st.fr, n)
  refine ⟨upd (rem γ1 is) (.inl (st.fr, n)) (some (.s sz (some (w.heap.size, cap)) els)), ?_, by simp [upd]⟩
  have hR := R.change (U' := U') (h' := upd h1 (st.fr, n) (some (G.s sz (some (w.heap.size, cap)) els).er)) hM rfl rfl rfl (by simp) (fun k hk _ => hold k hk) (fun k ⟨i, g, h3, h4⟩ => ?_) (fun t x hx => ?_) (fun id hid => ?_) (fun k h => h) (fun k h => .inl h) (fun id d hd => ?_) hU (fun id hid h0 => by
      have hne : id ≠ (st.fr, n) := fun e => by rw [e] at hid; simp at hid
      simp only [upd, hne, if_false]; exact hmono id h0)
  · simp only [G.er] at hR
    exact hR
  · unfold upd at h3
    split at h3
    · simp only [Option.some.injEq] at h3
      subst h3
      simp only [G.bl, List.singleton_append, List.mem_cons] at h4
      rcases h4 with rfl | h4
      · exact .inr (Nat.le_refl _)
      · obtain ⟨g, h5, h6⟩ := mem_bls.1 (hbl.mem_iff.1 h4)
        obtain ⟨i, _, h7⟩ := fls_mem hf g h5
        exact .inl (hsub i g h7 k h6)
    · rw [rem_some] at h3
      exact .inl (hsub i g h3.2 k h4)
  · exact allp_mono (fun id p h => (hsame id p).trans (Same.regroup id p h)) x (hn t x hx)
  · have : id ≠ (st.fr, n) := fun e => by rw [e] at hid; simp at hid
    exact (hsame id []).trans (Same.regroup id [] this)
  · unfold upd at hd
    split at hd
    · rename_i e
      subst e
      exact .inr ⟨rfl, hn'⟩
    · have hne : st.heap id ≠ none := fun h0 => by
        rw [hmono id h0] at hd
        simp at hd
      obtain ⟨d0, hd0⟩ := Option.ne_none_iff_exists'.1 hne
      exact (R.hid id d0 hd0).imp (fun h => h) (fun h => ⟨h.1, hU _ h.2⟩)

theorem ids_ne (R : Rep c st U γ S a w) {n : Nat} (hn : ¬ U n) : ∀ t x, st.env t = some x → x.allp (fun id _ => id ≠ (st.fr, n)) := fun t x hx =>
  allp_mono (fun id _ h e => by subst e; exact h.elim (fun h => by simp at h) (fun h => hn h.2)) x (R.ids t x hx)

theorem op_box (R : Rep c st U γ S a w) (hd : ∀ k, o.dst = some k → k < c.nt) {t : TypeId} {y : Operand} {x : O} {n : Nat} (ho : o.op = .box t y) (hx : eqO y x = true) {k : Nat} (hk : ¬ U k) {U' : Nat → Prop} (hU : ∀ k, U k → U' k) (hk' : U' k) (hs : opS C st o.dst k (.box n x) = some st') : Runs c o a w st' U' := by
  simp only [opS, bind_some_iff] at hs
  obtain ⟨z, h1, ⟨ds, h2⟩, h3, h4⟩ := hs
  split at h4
  · rename_i hl
    simp only [Option.some.injEq] at h4
    subst h4
    obtain ⟨h5, h6⟩ := eqO_ok R hx h1
    rcases vr_cells h5 with h7 | ⟨cs, rfl⟩
    · obtain ⟨γ1, is, gs, t1, e1, e2⟩ := takeL_ok R.mm h7 h3
      subst e1
      rw [ers_length] at hl
      have hvl : (a.eval y).cells.size = n := by
        have := congrArg List.length e2
        rw [vals_length] at this
        simp at this
        omega
      obtain ⟨γ', hR, hat⟩ := made (n := k) (U' := U') R t1.mm t1.mono t1.same t1.sub t1.fl (els := [gs]) (by simp) (by rw [blss_one]) (sz := n) (cap := 1) (by simp [hl]) (by simp) (by simp [maxLen]) (cur := (a.eval y).cells) (e := t) (by simp [hvl]) (by
        rw [valss_one, e2]
        apply List.take_of_length_le
        simp [hvl]) (ids_ne R hk) hU hk'
      rw [erss_one] at hR
      refine .value (.pointer (some ⟨w.heap.size, 0, none⟩)) (w.alloc (.cells (a.eval y).cells t)) ?_ (ok_put hR hd ?_ ?_)
      · simp [execOp, ho, Instr.box, newVar, newRow]
      · simp only [X.vr]
        refine ⟨_, rfl, fun sz b cap els hnav => ?_⟩
        simp only [Gm.nav, hat, Option.bind_some, G.nav, Option.some.injEq, G.s.injEq, Prod.mk.injEq] at hnav
        obtain ⟨_, ⟨rfl, _⟩, _⟩ := hnav
        simp
      · simp only [X.allp]
        exact .inr ⟨rfl, hk'⟩
    · rw [takeL_tup] at h3
      simp at h3
  · simp at h4

/-- A type's zero value, as cells. -/
def zEq : List Value → List D → Bool
  | [], [] => true
  | v :: vs, .v x :: ds => vEq v x && zEq vs ds
  | .slice none 0 0 :: vs, .s _ [] :: ds => zEq vs ds
  | _, _ => false
theorem zEq_ok : ∀ {vs : List Value} {ds : List D}, zEq vs ds = true → ∃ gs, ers gs = ds ∧ vals gs = vs ∧ bls gs = [] ∧ ∀ (w : World) (S : Nat → Prop), ∀ g ∈ gs, g.ok w S
  | [], [], _ => ⟨[], by simp [ers], by simp [vals], by simp [bls], by simp⟩
  | v :: vs, .v x :: ds, h => by
    simp only [zEq, Bool.and_eq_true] at h
    obtain ⟨h1, h2⟩ := vEq_ok h.1
    obtain ⟨gs, e1, e2, e3, e4⟩ := zEq_ok h.2
    refine ⟨.l (.v x) v :: gs, by simp [ers, G.er, e1], by simp [vals, G.val]; exact e2, by simp [bls, G.bl, e3], fun w S g hg => ?_⟩
    rcases List.mem_cons.1 hg with rfl | hg
    · simp only [G.ok, D.rd]
      exact ⟨rfl, h1, by rw [← h1]; exact h2⟩
    · exact e4 w S g hg
  | v :: vs, .s sz [] :: ds, h => by
    unfold zEq at h
    split at h
    · simp_all
    · simp_all
    · rename_i vs' sz' ds' he1 he2
      simp only [List.cons.injEq] at he1 he2
      obtain ⟨rfl, rfl⟩ := he1
      obtain ⟨_, rfl⟩ := he2
      obtain ⟨gs, e1, e2, e3, e4⟩ := zEq_ok h
      refine ⟨.s sz none [] :: gs, by simp [ers, G.er, erss, e1], by simp [vals, G.val]; exact e2, by simp [bls, G.bl, blss, e3], fun w S g hg => ?_⟩
      rcases List.mem_cons.1 hg with rfl | hg
      · simp [G.ok, okss]
      · exact e4 w S g hg
    · simp at h
  | v :: vs, .s sz (e :: es) :: ds, h => by
    simp [zEq] at h
  | v :: vs, .r _ :: ds, h => by
    simp [zEq] at h
  | v :: vs, .u :: ds, h => by
    simp [zEq] at h
  | [], _ :: _, h => by simp [zEq] at h
  | _ :: _, [], h => by simp [zEq] at h

/-- A new row of cells that lead nowhere. -/
theorem made0 (R : Rep c st U γ S a w) {els : List (List G)} (hok : ∀ (w : World) (S : Nat → Prop), okss w S els) (hbl : blss els = []) {sz cap : Nat} (hsz : ∀ el ∈ els, el.length = sz) (hle : els.length ≤ cap) (hmax : cap ≤ maxLen) {cur : Array Value} {e : TypeId} (hcur : cur.size = cap * sz) (htake : cur.toList.take (els.length * sz) = valss els)
    {n : Nat} (hn : ¬ U n) {U' : Nat → Prop} (hU : ∀ k, U k → U' k) (hn' : U' n) :
    ∃ γ', Rep c (st.with (upd st.heap (st.fr, n) (some (.s sz (erss els))))) U' γ' S a (w.alloc (.cells cur e)) ∧ γ' (.inl (st.fr, n)) = some (.s sz (some (w.heap.size, cap)) els) := by
  have hold : ∀ k, k < w.heap.size → (w.alloc (.cells cur e)).heap[k]? = w.heap[k]? := fun k hk => Below.heap_alloc w _ k hk
  have hSw : ∀ k, S k → S k ∧ (w.alloc (.cells cur e)).heap[k]? = w.heap[k]? := fun k hk => ⟨hk, hold k (R.mm.sd k hk).1⟩
  have hlt : ∀ i g, γ i = some g → ∀ k ∈ g.bl, k < w.heap.size := fun i g hg => G.ok_lt g (R.mm.ok i g hg)
  have hG : (G.s sz (some (w.heap.size, cap)) els).ok (w.alloc (.cells cur e)) S := by
    simp only [G.ok]
    exact ⟨⟨hle, hmax, cur, e, heap_alloc_new w _, hcur, htake⟩, hsz, hok _ _⟩
  have hbl' : (G.s sz (some (w.heap.size, cap)) els).bl = [w.heap.size] := by simp [G.bl, hbl]
  have hM := R.mm.regroup (S' := S) (w' := w.alloc (.cells cur e)) [] (by simp) hG (by rw [hbl']; simp) (fun k hk => by
      rw [hbl', List.mem_singleton] at hk
      exact .inr (by omega)) (fun i g hi _ k hk => hold k (hlt i g hi k hk)) hSw (fun k hk => ⟨by have := (R.mm.sd k hk).1; simp; omega, fun hk' => by
      rw [hbl', List.mem_singleton] at hk'
      have := (R.mm.sd _ hk).1; omega, fun i g hi _ => (R.mm.sd k hk).2 i g hi⟩) (st.fr, n)
  refine ⟨upd (rem γ []) (.inl (st.fr, n)) (some (.s sz (some (w.heap.size, cap)) els)), ?_, by simp [upd]⟩
  have hR := R.change (U' := U') (h' := upd st.heap (st.fr, n) (some (G.s sz (some (w.heap.size, cap)) els).er)) hM rfl rfl rfl (by simp) (fun k hk _ => hold k hk) (fun k ⟨i, g, h3, h4⟩ => ?_) (fun t x hx => ?_) (fun id hid => ?_) (fun k h => h) (fun k h => .inl h) (fun id d hd => ?_) hU (fun id hid h0 => by
      have hne : id ≠ (st.fr, n) := fun e => by rw [e] at hid; simp at hid
      simp only [upd, hne, if_false]; exact h0)
  · simp only [G.er] at hR
    exact hR
  · unfold upd at h3
    split at h3
    · simp only [Option.some.injEq] at h3
      subst h3
      rw [hbl', List.mem_singleton] at h4
      exact .inr (by omega)
    · rw [rem_some] at h3
      exact .inl ⟨i, g, h3.2, h4⟩
  · exact allp_mono (fun id p h => Same.regroup id p h) x (ids_ne R hn t x hx)
  · have : id ≠ (st.fr, n) := fun e => by rw [e] at hid; simp at hid
    exact Same.regroup id [] this
  · unfold upd at hd
    split at hd
    · rename_i e
      subst e
      exact .inr ⟨rfl, hn'⟩
    · exact (R.hid id d hd).imp (fun h => h) (fun h => ⟨h.1, hU _ h.2⟩)
/-- A place for what was made: its address. -/
theorem vr_new {γ' : Gm} {w' : World} {n sz b cap : Nat} {els : List (List G)} (hat : γ' (.inl (st.fr, n)) = some (.s sz (some (b, cap)) els)) :
    (X.ptr (st.fr, n) [] 0 0).vr γ' w' S (.pointer (some ⟨b, 0, none⟩)) ∧ (X.ref (st.fr, n) []).vr γ' w' S (.slice (some ⟨b, 0, none⟩) els.length cap) := by
  constructor
  · simp only [X.vr]
    refine ⟨_, rfl, fun sz' b' cap' els' hnav => ?_⟩
    simp only [Gm.nav, hat, Option.bind_some, G.nav, Option.some.injEq, G.s.injEq, Prod.mk.injEq] at hnav
    obtain ⟨_, ⟨rfl, _⟩, _⟩ := hnav
    simp
  · simp only [X.vr]
    refine ⟨rfl, fun g hg => ?_⟩
    simp only [Gm.nav, hat, Option.bind_some, G.nav, Option.some.injEq] at hg
    subst hg
    exact ⟨rfl, rfl⟩
def zeroT (P : Program) (t : TypeId) : Option (List Value) := (P.info? t).bind fun i => i.zero.map fun z => z.cells.toList
theorem run_zeroValue {P : Program} {t : TypeId} {vs : List Value} (h : zeroT P t = some vs) (w : World) : ∃ z, (zeroValue t).run P w = .ok z w ∧ z.cells.toList = vs ∧ ∃ i, P.info? t = some i ∧ i.zero = some z := by
  unfold zeroT at h
  rw [bind_some_iff] at h
  obtain ⟨i, hi, h⟩ := h
  rw [map_some_iff] at h
  obtain ⟨z, hz, h⟩ := h
  exact ⟨z, by simp [zeroValue, typeInfo, hi, hz], h, i, hi, hz⟩
theorem op_alloc (R : Rep c st U γ S a w) (hd : ∀ k, o.dst = some k → k < c.nt) {t : TypeId} {zs : List D} (ho : o.op = .alloc t) {vs : List Value} (ht : zeroT c.P t = some vs) (hz : zEq vs zs = true) {k : Nat} (hk : ¬ U k) {U' : Nat → Prop} (hU : ∀ k, U k → U' k) (hk' : U' k) (hs : opS C st o.dst k (.alloc zs) = some st') : Runs c o a w st' U' := by
  simp only [opS, Option.some.injEq] at hs
  subst hs
  obtain ⟨z, h1, h2, _⟩ := run_zeroValue ht w
  obtain ⟨gs, e1, e2, e3, e4⟩ := zEq_ok hz
  have hlen : gs.length = zs.length := by rw [← e1, ers_length]
  have hvl : z.cells.size = zs.length := by
    have := congrArg List.length e2
    rw [vals_length, ← h2] at this
    simp at this
    omega
  obtain ⟨γ', hR, hat⟩ := made0 (n := k) (U' := U') R (els := [gs]) (fun w S => by
    simp only [okss]
    exact ⟨oks_iff.2 (e4 w S), trivial⟩) (by rw [blss_one, e3]) (sz := zs.length) (cap := 1) (by simp [hlen]) (by simp) (by simp [maxLen]) (cur := z.cells) (e := t) (by simp [hvl]) (by
      rw [valss_one, e2, ← h2]
      apply List.take_of_length_le
      simp [hvl]) hk hU hk'
  rw [erss_one, e1] at hR
  refine .value (.pointer (some ⟨w.heap.size, 0, none⟩)) (w.alloc (.cells z.cells t)) ?_ (ok_put hR hd (vr_new hat).1 ?_)
  · simp [execOp, ho, Instr.alloc, h1, newVar, newRow]
  · simp only [X.allp]
    exact .inr ⟨rfl, hk'⟩

end
end Go.Ev
