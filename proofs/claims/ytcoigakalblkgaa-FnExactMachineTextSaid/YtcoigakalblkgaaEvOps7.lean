/- A string of a row of bytes. -/
import Derived.Test.YtcoigakalblkgaaEvOps6
import Derived.Laws.BytesString
import Derived.Laws.StructEq
import Derived.Laws.Small
set_option linter.all false
namespace Go.Ev
open Go.RowKit

section
variable {c : Ctx} {st st' : St} {U : Nat → Prop} {γ : Gm} {S : Nat → Prop} {a : Act} {w : World} {C : Cl} {o : Oper} {id : Nat}

theorem bytesL_get : ∀ {els : List (List D)} {ns : List Int}, bytesL els = some ns → ns.length = els.length ∧ ∀ (j : Nat) (n : Int), ns[j]? = some n → els[j]? = some [.v (.int .u8 n)]
  | [], ns, h => by
    simp only [bytesL, Option.some.injEq] at h
    subst h
    exact ⟨rfl, fun j n h => by simp at h⟩
  | el :: els, ns, h => by
    unfold bytesL at h
    split at h
    · rename_i hh
      simp at hh
    · rename_i n els' hh
      simp only [List.cons.injEq] at hh
      obtain ⟨rfl, rfl⟩ := hh
      rw [map_some_iff] at h
      obtain ⟨ms, h1, rfl⟩ := h
      obtain ⟨h2, h3⟩ := bytesL_get h1
      refine ⟨by simp [h2], fun j m hj => ?_⟩
      cases j with
      | zero =>
        simp only [List.getElem?_cons_zero, Option.some.injEq] at hj ⊢
        subst hj
        rfl
      | succ j => simpa using h3 j m (by simpa using hj)
    · simp at h

theorem op_sob (R : Rep c st U γ S a w) (hd : ∀ k, o.dst = some k → k < c.nt) {t1 t2 e : TypeId} {y1 : Operand} {x1 : O} (ho : o.op = .convert t1 t2 y1) (h1 : eqO y1 x1 = true) (ht1 : sliceE c.P t1 = some e) (he : intK c.P e = some .u8) (ht2 : isStr c.P t2 = true) (hs : opS C st o.dst id (.sob x1) = some st') : Runs c o a w st' U := by
  simp only [opS, bind_some_iff] at hs
  obtain ⟨x, h2, ns, h3, h4⟩ := hs
  split at h4
  · simp at h4
  · rename_i hne
    simp only [Option.some.injEq] at h4
    subst h4
    have h5 := (eqO_ok R h1 h2).1
    unfold bytesX at h3
    split at h3
    · rename_i id' p
      rw [bind_some_iff] at h3
      obtain ⟨r, h6, h7⟩ := h3
      split at h7
      · rename_i hr1
        obtain ⟨b, els, h8, h9⟩ := R.mm.row h6
        simp only [X.vr] at h5
        have hv := (h5.2 _ h8).1
        have hrow := R.mm.nav_ok h8
        obtain ⟨hlen, hget⟩ := bytesL_get h7
        rw [← h9, erss_length] at hlen
        have hnn : ns ≠ [] := fun e => hne (by rw [e]; rfl)
        cases b with
        | none =>
          simp only [G.ok] at hrow
          rw [hrow.1] at hlen
          exact absurd (List.eq_nil_of_length_eq_zero (by simpa using hlen)) hnn
        | some b =>
          obtain ⟨b, cap⟩ := b
          simp only [G.val] at hv
          have hcells : ∀ (j : Nat) (u : Value), (ns.map (Value.int .u8))[j]? = some u → w.cell? ((⟨b, 0, none⟩ : Addr).add j) = some u := fun j u hj => by
            rw [List.getElem?_map, map_some_iff] at hj
            obtain ⟨n, h10, rfl⟩ := hj
            have h11 := hget j n h10
            rw [← h9, erss_map, List.getElem?_map, map_some_iff] at h11
            obtain ⟨gs, h12, h13⟩ := h11
            have hgl : gs.length = 1 := by
              have := congrArg List.length h13
              simpa using this
            obtain ⟨g, rfl⟩ := List.length_eq_one_iff.1 hgl
            simp only [List.map_cons, List.map_nil, List.cons.injEq, and_true] at h13
            have hnav : γ.nav id' (p ++ [(j, 0)]) = some g := by
              unfold Gm.nav at h8 ⊢
              rw [bind_some_iff] at h8 ⊢
              obtain ⟨g0, e1, e2⟩ := h8
              exact ⟨g0, e1, by rw [nav_append, e2]; simp [G.nav, h12]⟩
            have hg := R.mm.nav_ok hnav
            have hc := cell_at hrow h12 (i := 0) (c := g) rfl
            rw [hr1] at hc
            cases g with
            | l d v =>
              simp only [G.er] at h13
              subst h13
              simp only [G.ok, D.rd] at hg
              rw [hg.2.1] at hc
              simp only [G.val] at hc
              rw [Addr.add_lit]
              simpa using hc
            | s sz bb els2 => simp [G.er] at h13
          have hl := run_loadCells_list (P := c.P) w ⟨b, 0, none⟩ (ns.map (Value.int .u8)) hcells
          rw [List.length_map] at hl
          unfold sliceE at ht1
          split at ht1
          · rename_i e' hu
            simp only [Option.some.injEq] at ht1
            subst ht1
            unfold intK at he
            split at he
            · rename_i k hk
              simp only [Option.some.injEq] at he
              subst he
              unfold isStr at ht2
              split at ht2
              · rename_i hu2
                refine .value (.string (strB ns)) w ?_ (ok_lit R hd rfl)
                have hrun : (convert t1 t2 (a.eval y1)).run c.P w = .ok (.string (strB ns)) w := by
                  rw [← hv, run_convert_bytes_string w t1 t2 e' _ _ _ hu hk hu2, ← hlen, run_bytesToString w _ _ _ ns hl]
                  rfl
                simp [execOp, ho, hrun]
              · simp at ht2
            · simp at he
          · simp at ht1
      · simp at h7
    · simp at h3
/-- A box that is only read from then on: its block is one of those that do not turn. -/
theorem op_vbox (R : Rep c st U γ S a w) (hd : ∀ k, o.dst = some k → k < c.nt) {t : TypeId} {y : Operand} {x : O} {n : Nat} (ho : o.op = .box t y) (hx : eqO y x = true) {k : Nat} (hs : opS C st o.dst k (.vbox n x) = some st') : Runs c o a w st' U := by
  simp only [opS, bind_some_iff] at hs
  obtain ⟨z, h1, cs, h2, h3⟩ := hs
  split at h3
  · rename_i hl
    simp only [Option.some.injEq] at h3
    subst h3
    obtain ⟨h4, h5⟩ := eqO_ok R hx h1
    obtain ⟨h6, h7, h8⟩ := cellsV_ok h4 h2
    have hk0 : ∀ k, k < w.heap.size → (w.alloc (.cells (a.eval y).cells t)).heap[k]? = w.heap[k]? := fun k hk => by
      show (w.heap.push _)[k]? = _
      rw [Array.getElem?_push, if_neg (by omega)]
    have hnew : (w.alloc (.cells (a.eval y).cells t)).heap[w.heap.size]? = some (.cells (a.eval y).cells t (0, 0)) := by
      show (w.heap.push _)[w.heap.size]? = _
      rw [Array.getElem?_push, if_pos rfl]
    have hsz : (w.alloc (.cells (a.eval y).cells t)).heap.size = w.heap.size + 1 := by
      show (w.heap.push _).size = _
      rw [Array.size_push]
    have hM : Mm st.heap γ (fun k => S k ∨ k = w.heap.size) (w.alloc (.cells (a.eval y).cells t)) := R.mm.world (fun k hk => ⟨.inl hk, hk0 k (R.mm.sd k hk).1⟩) (fun i g hg k hk => hk0 k (G.ok_lt g (R.mm.ok i g hg) k hk)) (fun k hk => by
      rw [hsz]
      rcases hk with hk | rfl
      · exact ⟨by have := (R.mm.sd k hk).1; omega, (R.mm.sd k hk).2⟩
      · exact ⟨by omega, fun i g hg hk => by have := G.ok_lt g (R.mm.ok i g hg) _ hk; omega⟩)
    have hR := R.change (U' := U) (h' := st.heap) hM rfl rfl rfl (by rw [hsz]; omega) (fun k hk _ => hk0 k hk) (fun k h => .inl h) (fun t x _ => allp_all (fun id p => Same.refl γ id p) x) (fun id _ => Same.refl γ id []) (fun k h => .inl h) (fun k h => h.imp (fun h => h) (fun h => by omega)) R.hid (fun _ h => h) (fun _ _ h => h)
    refine .value (.pointer (some ⟨w.heap.size, 0, none⟩)) (w.alloc (.cells (a.eval y).cells t)) ?_ (ok_put (st := { st with heap := st.heap }) hR hd ?_ ?_)
    · simp [execOp, ho, Instr.box, newVar, newRow]
    · simp only [X.vr]
      refine ⟨_, rfl, (a.eval y).cells.toList, vrs_same (fun k hk => ⟨.inl hk, hk0 k (R.mm.sd k hk).1⟩) cs _ (allps_all (fun id p => Same.refl γ id p) cs) h6, h8, fun i u hu => ?_⟩
      rw [Addr.add_lit, Nat.zero_add]
      exact ⟨by rw [cell_of_row _ _ _ _ _ _ hnew]; simpa using hu, .inr rfl⟩
    · simp only [X.allp]
      exact h7 _ h5
  · simp at h3
/-- The greater, or the less, of two numbers. -/
theorem op_mm (R : Rep c st U γ S a w) (hd : ∀ k, o.dst = some k → k < c.nt) {mx : Bool} {y1 y2 : Operand} {ts : Array TypeId} {x1 x2 : O} (ho : o.op = .call { callee := .builtin (if mx then .max else .min), args := #[y1, y2], argTypes := ts }) (h1 : eqO y1 x1 = true) (h2 : eqO y2 x2 = true) (hs : opS C st o.dst id (.mm mx x1 x2) = some st') : Runs c o a w st' U := by
  simp only [opS, bind_some_iff] at hs
  obtain ⟨m, h3, n, h4, h5⟩ := hs
  split at h5
  · rename_i hk
    simp only [Option.some.injEq] at h5
    subst h5
    have e1 := rdI_ok R h1 h3
    have e2 := rdI_ok R h2 h4
    cases mx with
    | false =>
      refine .value _ w ?_ (ok_lit R hd rfl)
      simp [execOp, ho, resolve, invoke, e1, e2, builtin, run_min_int2]
    | true =>
      refine .value _ w ?_ (ok_lit R hd rfl)
      simp [execOp, ho, resolve, invoke, e1, e2, builtin, run_max_int2]
  · simp at h5
/-- A type of structs of numbers. -/
def intsF (P : Program) : Nat → List Field → Bool
  | _, [] => true
  | off, f :: fs => !(f.name == "_") && decide (f.offset = off) && (match P.underlying f.type with | some (.int _) => true | _ => false) && intsF P (off + 1) fs
def intsT (P : Program) (n : Nat) (t : TypeId) : Bool := (match P.underlying t with | some (.struct fs) => intsF P 0 fs.toList && decide (fs.size = n) | _ => false) && !P.stoodInHeld t && !P.eqGuardType P.depth t
theorem eqF_run {P : Program} {γ : Gm} {w : World} {S : Nat → Prop} {xs ys : List Value} (d : Nat) : ∀ (fs : List Field) (off : Nat) (cs ds : List X) (z : Bool), intsF P off fs = true → eqAgg cs ds = some z → vrs γ w S cs (xs.drop off) → vrs γ w S ds (ys.drop off) → fs.length = cs.length → (Op.eqFields (d + 1) xs.toArray ys.toArray fs).run P w = .ok z w
  | [], off, cs, ds, z, _, hz, hx, hy, he => by
    have : cs = [] := List.length_eq_zero_iff.1 he.symm
    subst this
    cases ds with
    | nil => simp only [eqAgg, Option.some.injEq] at hz; subst hz; simp [Op.eqFields]
    | cons y ds => simp [eqAgg] at hz
  | f :: fs, off, cs, ds, z, hf, hz, hx, hy, he => by
    cases cs with
    | nil => simp at he
    | cons c1 cs =>
      unfold eqAgg at hz
      split at hz
      · rename_i e; simp at e
      · rename_i k m cs' k' n ds' e1
        simp only [List.cons.injEq] at e1
        obtain ⟨rfl, rfl⟩ := e1
        split at hz
        · rename_i hk
          subst hk
          rw [map_some_iff] at hz
          obtain ⟨z', hz', rfl⟩ := hz
          simp only [intsF, Bool.and_eq_true, Bool.not_eq_true', beq_eq_false_iff_ne, ne_eq, decide_eq_true_eq] at hf
          obtain ⟨⟨⟨hn, ho⟩, hu⟩, hr⟩ := hf
          split at hu
          · rename_i kk hu'
            cases hxs : xs.drop off with
            | nil => rw [hxs] at hx; simp [vrs] at hx
            | cons u us =>
              cases hys : ys.drop off with
              | nil => rw [hys] at hy; simp [vrs] at hy
              | cons v vs =>
                rw [hxs] at hx
                rw [hys] at hy
                simp only [vrs, X.vr] at hx hy
                have hu1 : xs[off]? = some u := by rw [← List.head?_drop, hxs]; rfl
                have hv1 : ys[off]? = some v := by rw [← List.head?_drop, hys]; rfl
                have ih := eqF_run d fs (off + 1) cs ds' z' hr hz' (by rw [← List.tail_drop, hxs]; exact hx.2) (by rw [← List.tail_drop, hys]; exact hy.2) (by simpa using he)
                have hag : (isAgg f.type).run P w = .ok false w := by simp [isAgg, run_underlying hu']
                have hp1 : (part f.type xs.toArray f.offset).run P w = .ok u w := by simp [part, hag, ho, hu1]
                have hp2 : (part f.type ys.toArray f.offset).run P w = .ok v w := by simp [part, hag, ho, hv1]
                have heq := run_equalIn_int (P := P) w d f.type k kk m n hu'
                rw [hx.1.1] at hp1
                rw [hy.1.1] at hp2
                simp only [Op.eqFields, ne_eq, hn, not_false_eq_true, if_true, Sem.run_bind, hp1, hp2, Result.andThen_ok, heq, Sem.run_ite]
                by_cases hmn : m = n
                · subst hmn
                  simp [ih]
                · have : (m == n) = false := by simpa using hmn
                  simp [this, hmn]
          · simp at hu
        · simp at hz
      · simp at hz
theorem aggOf_some {x : X} {cs : List X} (h : x.aggOf = some cs) : x = .agg cs := by
  unfold X.aggOf at h
  split at h
  · simp only [Option.some.injEq] at h; subst h; rfl
  · simp at h
/-- Two structs of numbers, the same or not. -/
theorem op_eqa (R : Rep c st U γ S a w) (hd : ∀ k, o.dst = some k → k < c.nt) {ng : Bool} {n : Nat} {t t2 : TypeId} {y1 y2 : Operand} {x1 x2 : O} (ho : o.op = .binOp (if ng then .neq else .eql) t y1 y2 t2) (h1 : eqO y1 x1 = true) (h2 : eqO y2 x2 = true) (h3 : intsT c.P n t = true) (hs : opS C st o.dst id (.eqa ng n x1 x2) = some st') : Runs c o a w st' U := by
  simp only [opS, bind_some_iff] at hs
  obtain ⟨m, e1, k, e2, cs, e3, ds, e4, z, e5, e6⟩ := hs
  split at e6
  case isFalse => simp at e6
  rename_i el
  simp only [Option.some.injEq] at e6
  subst e6
  cases aggOf_some e3
  cases aggOf_some e4
  have v1 := (eqO_ok R h1 e1).1
  have v2 := (eqO_ok R h2 e2).1
  simp only [intsT, Bool.and_eq_true, Bool.not_eq_true'] at h3
  obtain ⟨⟨hf, hp⟩, hm⟩ := h3
  split at hf
  · rename_i fs hu
    simp only [Bool.and_eq_true, decide_eq_true_eq] at hf
    obtain ⟨hf, hn⟩ := hf
    simp only [X.vr] at v1 v2
    obtain ⟨xs, hx, gx, _⟩ := v1
    obtain ⟨ys, hy, gy, _⟩ := v2
    have hfo : Program.fieldsOf c.P t = fs := by simp [Program.fieldsOf, hu]
    have hq : (Op.equalIn 10000 t (.agg xs.toArray) (.agg ys.toArray)).run c.P w = .ok z w := by
      have h := run_equalIn_struct (P := c.P) w 9999 t xs.toArray ys.toArray (by rw [hfo]; exact hu) hp
      rw [hfo] at h
      exact h.trans (eqF_run 9998 fs.toList 0 cs ds z hf e5 gx gy (by rw [Array.length_toList, hn, el]))
    cases ng with
    | false =>
      refine .value (.bool z) w ?_ (ok_lit R hd rfl)
      simp [execOp, ho, hx, hy, run_eqGuard_agg, hm, run_eql_struct, hq]
    | true =>
      refine .value (.bool (!z)) w ?_ (ok_lit R hd rfl)
      simp [execOp, ho, hx, hy, run_eqGuard_agg, hm, run_neq_struct, hq]
  · simp at hf
end
end Go.Ev
