/- Slices that are made, literals, structs that are built: each is sound for the machine. -/
import Derived.Test.YtcoigakalblkgaaEvOps3
set_option linter.all false
namespace Go.Ev
open Go.RowKit

section
variable {c : Ctx} {st st' : St} {U : Nat → Prop} {γ : Gm} {S : Nat → Prop} {a : Act} {w : World} {C : Cl} {o : Oper} {id : Nat}

theorem replicate_valss {gs : List G} {sz : Nat} (h : gs.length = sz) (n : Nat) : (valss (List.replicate n gs)).length = n * sz := by
  have := valss_length (sz := sz) (els := List.replicate n gs) (fun el hel => by rw [List.eq_of_mem_replicate hel]; exact h)
  simpa using this
theorem madeCells_toList {z : Array Value} {gs : List G} (hz : vals gs = z.toList) (n : Nat) (hpos : 0 < gs.length) : (madeCells z (n * gs.length)).toList = valss (List.replicate n gs) := by
  have hlen := replicate_valss (gs := gs) rfl n
  have hzs : z.size = gs.length := by
    have := congrArg List.length hz
    rw [vals_length] at this
    simpa using this.symm
  apply List.ext_getElem?
  intro k
  by_cases hk : k < n * gs.length
  · have hj : k / gs.length < n := Nat.div_lt_of_lt_mul (by rw [Nat.mul_comm]; exact hk)
    have hi : k % gs.length < gs.length := Nat.mod_lt _ hpos
    have h1 : (List.replicate n gs)[k / gs.length]? = some gs := by rw [List.getElem?_replicate, if_pos hj]
    have h2 := valss_get (sz := gs.length) (fun el hel => by rw [List.eq_of_mem_replicate hel]) h1 (List.getElem?_eq_getElem hi)
    rw [Nat.mul_comm, Nat.div_add_mod] at h2
    rw [h2]
    have h3 : z.toList[k % gs.length]? = some (gs[k % gs.length]).val := by rw [← hz]; simp [vals, List.getElem?_map, List.getElem?_eq_getElem hi]
    unfold madeCells
    simp only [Array.toList_map, Array.toList_range, List.getElem?_map, hzs]
    rw [List.getElem?_range hk]
    simp only [Option.map_some, Option.some.injEq]
    rw [Array.getElem?_toList] at h3
    simp [getElem!_def, h3]
  · rw [List.getElem?_eq_none (by simp [madeCells]; omega), List.getElem?_eq_none (by rw [hlen]; omega)]
theorem replicate_bls {gs : List G} (h : bls gs = []) : ∀ n, blss (List.replicate n gs) = []
  | 0 => by simp [blss]
  | n + 1 => by simp [List.replicate_succ, blss, h, replicate_bls h n]
theorem replicate_erss (gs : List G) (n : Nat) : erss (List.replicate n gs) = List.replicate n (ers gs) := by simp [erss_map, ers_map]

theorem op_mk (R : Rep c st U γ S a w) (hd : ∀ k, o.dst = some k → k < c.nt) {t e : TypeId} {y1 y2 : Operand} {x1 : O} {sz bytes : Nat} {zs : List D} (ho : o.op = .makeSlice t y1 y2) (h1 : eqO y1 x1 = true) (h2 : eqO y2 x1 = true) (ht : sliceE c.P t = some e) {vs : List Value} (hz : zeroT c.P e = some vs) (hzz : zEq vs zs = true)
    (hsz : ∀ i, c.P.info? e = some i → i.size = sz ∧ i.bytes = bytes) (hpos : 0 < sz) (hbpos : 0 < bytes) {k : Nat} (hk : ¬ U k) {U' : Nat → Prop} (hU : ∀ k, U k → U' k) (hk' : U' k) (hs : opS C st o.dst k (.mk sz bytes zs x1) = some st') : Runs c o a w st' U' := by
  simp only [opS, bind_some_iff] at hs
  obtain ⟨⟨kd, n⟩, h4, h5⟩ := hs
  have e1 := rdI_ok R h1 h4
  have e2 := rdI_ok R h2 h4
  simp only at e1 e2 h5
  split at h5
  · rename_i hb
    obtain ⟨⟨b1, b2⟩, b3⟩ := hb
    simp only [Option.some.injEq] at h5
    subst h5
    obtain ⟨z, h6, h7, i, hi, hiz⟩ := run_zeroValue hz w
    obtain ⟨hsi, hbi⟩ := hsz i hi
    obtain ⟨gs, e3, e4, e5, e6⟩ := zEq_ok hzz
    have hlen : gs.length = sz := by rw [← b3, ← e3, ers_length]
    have hn63 : n ≤ 9223372036854775807 := by
      have h1 : (1 : Int) ≤ bytes := by omega
      have h2 : n ≤ bytes * n := by
        have := Int.mul_le_mul_of_nonneg_right h1 b1
        omega
      omega
    unfold sliceE at ht
    split at ht
    · rename_i e' hu
      simp only [Option.some.injEq] at ht
      subst ht
      have hmc := madeCells_toList (z := z.cells) (gs := gs) (by rw [e4, h7]) n.toNat (by omega)
      rw [hlen] at hmc
      obtain ⟨γ', hR, hat⟩ := made0 (n := k) (U' := U') R (els := List.replicate n.toNat gs) (fun w S => by
        rw [okss_iff]
        intro el hel g hg
        rw [List.eq_of_mem_replicate hel] at hg
        exact e6 w S g hg) (replicate_bls e5 _) (sz := sz) (cap := n.toNat) (fun el hel => by rw [List.eq_of_mem_replicate hel]; exact hlen) (by simp) (by simp only [maxLen]; omega) (cur := madeCells z.cells (n.toNat * sz)) (e := e') (by simp [madeCells]) (by
        rw [hmc]
        apply List.take_of_length_le
        rw [replicate_valss hlen]
        simp) hk hU hk'
      rw [replicate_erss, e3] at hR
      refine .value (.slice (some ⟨w.heap.size, 0, none⟩) n.toNat n.toNat) (w.alloc (.cells (madeCells z.cells (n.toNat * sz)) e')) ?_ (ok_put hR hd ?_ ?_)
      · have := run_make (P := c.P) w t e' i z hu hi hiz kd kd n n b1 (Int.le_refl _) (by rw [hbi]; exact b2) hn63
        rw [hsi] at this
        simp [execOp, ho, e1, e2, this]
      · have := (vr_new (S := S) (st := st) (w' := w.alloc (.cells (madeCells z.cells (n.toNat * sz)) e')) hat).2
        simpa using this
      · simp only [X.allp]
        exact .inr ⟨rfl, hk'⟩
    · simp at ht
  · simp at h5

/-- The elements of a literal. -/
theorem takeEls_ok (R : Rep c st U γ S a w) {sz : Nat} : ∀ {ys : List Operand} {os : List O} {h h' : Heap} {γ0 : Gm}, Mm h γ0 S w → (∀ id p, Same γ γ0 id p) → eqOs ys os = true → ∀ {els : List (List D)}, takeEls st sz h os = some (els, h') →
    ∃ γ' is gs ges, TookL h h' γ0 γ' S w is gs ∧ erss ges = els ∧ ges.flatten = gs ∧ (∀ el ∈ ges, el.length = sz) ∧ valss ges = (ys.map fun y => (a.eval y).cells.toList).flatten ∧ ges.length = ys.length ∧ ∀ y ∈ ys, (a.eval y).cells.size = sz
  | [], [], h, h', γ0, m, _, _, els, ht => by
    simp only [takeEls, Option.some.injEq, Prod.mk.injEq] at ht
    obtain ⟨rfl, rfl⟩ := ht
    exact ⟨γ0, [], [], [], ⟨m, by simp [fls], fun j _ _ => ⟨by simp, rfl⟩, fun _ h => h, fun id p => Same.refl γ0 id p, Sub.refl γ0⟩, by simp [erss], rfl, by simp, by simp [valss], rfl, by simp⟩
  | y :: ys, o :: os, h, h', γ0, m, hsm, he, els, ht => by
    simp only [takeEls, bind_some_iff] at ht
    obtain ⟨x, h1, ⟨ds, h2⟩, h3, h4⟩ := ht
    split at h4
    · rename_i hl
      rw [map_some_iff] at h4
      obtain ⟨⟨els', h5⟩, h6, h7⟩ := h4
      simp only [Prod.mk.injEq] at h7
      obtain ⟨rfl, rfl⟩ := h7
      simp only [eqOs, Bool.and_eq_true] at he
      obtain ⟨h8, h9⟩ := eqO_ok R he.1 h1
      have h8' := vr_same (S' := S) (w' := w) (fun k hk => ⟨hk, rfl⟩) x _ (allp_all hsm x) h8
      rcases vr_cells h8' with h10 | ⟨cs, rfl⟩
      · obtain ⟨γ1, is, gs, t1, e1, e2⟩ := takeL_ok m h10 h3
        obtain ⟨γ2, is2, gs2, ges2, t2, e3, e4, e5, e6, e7, e8⟩ := takeEls_ok R t1.mm (fun id p => (hsm id p).trans (t1.same id p)) he.2 h6
        have hgl : gs.length = sz := by rw [← ers_length, e1]; exact hl
        refine ⟨γ2, is ++ is2, gs ++ gs2, gs :: ges2, ⟨t2.mm, ?_, fun j hj hs => ?_, fun id hid => t2.mono id (t1.mono id hid), fun id p => (t1.same id p).trans (t2.same id p), t2.sub.trans t1.sub⟩, by simp [erss, e1, e3], by simp [e4], fun el hel => ?_, ?_, by simp [e7], fun y' hy' => ?_⟩
        · have := t1.fl
          clear e1 e2 hgl
          revert this
          have hnew := t2.new
          have hmono := t2.mono
          have hfl := t2.fl
          clear t1
          induction is generalizing gs with
          | nil =>
            intro hf
            cases gs with
            | nil => simpa using hfl
            | cons g gs => simp [fls] at hf
          | cons i is ih =>
            intro hf
            cases gs with
            | nil => simp [fls] at hf
            | cons g gs =>
              simp only [fls] at hf
              obtain ⟨f1, f2, f3, f4⟩ := hf
              obtain ⟨f5, f6⟩ := hnew i f2 (by rw [f1]; rfl)
              simp only [List.cons_append, fls]
              exact ⟨f6.trans f1, fun id e => hmono id (f2 id e), by simp [f3, f5], ih gs f4⟩
        · obtain ⟨a1, a2⟩ := t1.new j hj hs
          obtain ⟨a3, a4⟩ := t2.new j (fun id e => t1.mono id (hj id e)) (by rw [a2]; exact hs)
          exact ⟨by simp [a1, a3], a4.trans a2⟩
        · rcases List.mem_cons.1 hel with rfl | hel
          · exact hgl
          · exact e5 el hel
        · simp only [valss, List.map_cons, List.flatten_cons, e6]
          rw [e2]
        · rcases List.mem_cons.1 hy' with rfl | hy'
          · have := congrArg List.length e2
            rw [vals_length, hgl] at this
            simpa using this.symm
          · exact e8 y' hy'
      · rw [takeL_tup] at h3
        simp at h3
    · simp at h4
  | [], _ :: _, _, _, _, _, _, h, _, _ => by simp [eqOs] at h
  | _ :: _, [], _, _, _, _, _, h, _, _ => by simp [eqOs] at h

theorem blss_flatten : ∀ els : List (List G), blss els = bls els.flatten
  | [] => by simp [blss, bls]
  | el :: els => by
    have : ∀ (a b : List G), bls (a ++ b) = bls a ++ bls b := fun a b => by
      induction a with
      | nil => simp [bls]
      | cons x a ih => simp [bls, ih]
    simp [blss, blss_flatten els, this]

theorem flatten_get {α : Type} {s : Nat} : ∀ {L : List (List α)}, (∀ l ∈ L, l.length = s) → ∀ (j i : Nat), i < s → L.flatten[j * s + i]? = (L[j]?).bind fun l => l[i]?
  | [], _, j, i, _ => by simp
  | l :: L, h, 0, i, hi => by
    simp only [Nat.zero_mul, Nat.zero_add, List.flatten_cons, List.getElem?_cons_zero, Option.bind_some]
    rw [List.getElem?_append_left (by rw [h l (by simp)]; exact hi)]
  | l :: L, h, j + 1, i, hi => by
    simp only [List.flatten_cons, List.getElem?_cons_succ]
    rw [List.getElem?_append_right (by rw [h l (by simp), Nat.add_mul]; omega), h l (by simp)]
    rw [show (j + 1) * s + i - s = j * s + i by rw [Nat.add_mul]; omega]
    exact flatten_get (fun l hl => h l (by simp [hl])) j i hi
/-- What a literal's parts are laid as. -/
theorem fill_lit {s : Nat} (hs : 0 < s) (vs : List Value) (hv : ∀ v ∈ vs, v.cells.size = s) (z : Array Value) : ∃ r, Instr.fill (fun i => some (i * s, s)) ((Array.range (vs.length * s)).map (z[· % z.size]!)) ((vs.zipIdx 0).map fun x => (x.2, x.1)) = some r ∧ r.toList = (vs.map fun v => v.cells.toList).flatten := by
  obtain ⟨r, h1, h2, h3⟩ := Go.Great.fill_dense hs vs 0 ((Array.range (vs.length * s)).map (z[· % z.size]!)) hv (by simp)
  refine ⟨r, h1, ?_⟩
  have hlen : ∀ l ∈ vs.map (fun v => v.cells.toList), l.length = s := fun l hl => by
    obtain ⟨v, h4, rfl⟩ := List.mem_map.1 hl
    simpa using hv v h4
  apply List.ext_getElem?
  intro k
  rw [Array.getElem?_toList, h3 k, Nat.zero_mul, Nat.zero_add]
  have hk := flatten_get hlen (k / s) (k % s) (Nat.mod_lt _ hs)
  rw [Nat.mul_comm, Nat.div_add_mod] at hk
  rw [hk]
  split
  · simp only [Nat.sub_zero, List.getElem?_map]
    cases vs[k / s]? <;> simp
  · rename_i hlt
    have h5 : vs.length * s ≤ k := by omega
    have h6 : vs[k / s]? = none := List.getElem?_eq_none (by rw [Nat.le_div_iff_mul_le hs]; exact h5)
    rw [List.getElem?_map, h6]
    simp only [Option.map_none, Option.bind_none]
    rw [Array.getElem?_eq_none (by simp; omega)]

theorem op_lit (R : Rep c st U γ S a w) (hd : ∀ k, o.dst = some k → k < c.nt) {t e : TypeId} {len : Nat} {parts : Array (Nat × Operand)} {ys : List Operand} {os : List O} {sz : Nat} (ho : o.op = .buildSlice t len parts) (hp : parts.toList = (ys.zipIdx 0).map fun x => (x.2, x.1)) (hl : ys.length = len) (he : eqOs ys os = true) (ht : sliceE c.P t = some e)
    {i : TypeInfo} (hi : c.P.info? e = some i) (hsz : i.size = sz) (hpos : 0 < sz) (hz : i.zero.isSome = true) (hsmall : len * sz ≤ 16777216) {k : Nat} (hk : ¬ U k) {U' : Nat → Prop} (hU : ∀ k, U k → U' k) (hk' : U' k) (hs : opS C st o.dst k (.lit sz os) = some st') : Runs c o a w st' U' := by
  simp only [opS, map_some_iff] at hs
  obtain ⟨⟨els, h1⟩, h2, rfl⟩ := hs
  obtain ⟨γ1, is, gs, ges, t1, e1, e2, e3, e4, e5, e6⟩ := takeEls_ok R R.mm (fun id p => Same.refl γ id p) he h2
  obtain ⟨z, hz⟩ := Option.isSome_iff_exists.1 hz
  unfold sliceE at ht
  split at ht
  · rename_i e' hu
    simp only [Option.some.injEq] at ht
    subst ht
    obtain ⟨r, h3, h4⟩ := fill_lit hpos (ys.map a.eval) (fun v hv => by
      obtain ⟨y, hy, rfl⟩ := List.mem_map.1 hv
      exact e6 y hy) (if len * sz = 0 then #[] else z.cells)
    have hrs : r.size = len * sz := by
      have := congrArg List.length h4
      rw [List.map_map] at this
      rw [show (ys.map ((fun v => v.cells.toList) ∘ a.eval)).flatten = valss ges by rw [e4]; rfl, valss_length e3, e5, hl] at this
      simpa using this
    obtain ⟨γ', hR, hat⟩ := made (n := k) (U' := U') R t1.mm t1.mono t1.same t1.sub t1.fl (els := ges) (fun el hel g hg => by rw [← e2]; exact List.mem_flatten.2 ⟨el, hel, hg⟩) (by rw [blss_flatten, e2]) (sz := sz) (cap := len) e3 (by omega) (by simp only [maxLen]; have : len ≤ len * sz := Nat.le_mul_of_pos_right _ hpos; omega) (cur := r) (e := e') hrs (by
      rw [h4, List.map_map, e4]
      apply List.take_of_length_le
      rw [show ((fun v : Value => v.cells.toList) ∘ a.eval) = fun y => (a.eval y).cells.toList from rfl, ← e4, valss_length e3]
      omega) (ids_ne R hk) hU hk'
    rw [e1] at hR
    refine .value (.slice (some ⟨w.heap.size, 0, none⟩) len len) (w.alloc (.cells r e')) ?_ (ok_put hR hd ?_ ?_)
    · have hparts : parts.toList.map (fun x => (x.1, a.eval x.2)) = ((ys.map a.eval).zipIdx 0).map fun x => (x.2, x.1) := by
        rw [hp, List.map_map, List.zipIdx_map, List.map_map]
        rfl
      have hlen : (ys.map a.eval).length = len := by simpa using hl
      rw [hlen] at h3
      have hgt : ¬ 16777216 < len * sz := by omega
      by_cases h0 : len * sz = 0
      · have hl0 : len = 0 := (Nat.mul_eq_zero.1 h0).resolve_right (by omega)
        subst hl0
        have hys : ys = [] := List.eq_nil_of_length_eq_zero hl
        subst hys
        have hpa : parts = #[] := by simpa using hp
        have hr : r = #[] := by simpa using h4
        subst hpa
        subst hr
        simp [execOp, ho, Instr.buildSlice, run_underlying hu, sizeOf, typeInfo, hi, Instr.fill, newRow, show Array.range 0 = #[] from rfl]
      · rw [if_neg h0] at h3
        simp only [execOp, ho, Instr.buildSlice, Sem.run_bind, run_underlying hu, sizeOf, typeInfo, run_program, Result.andThen_ok, hi, Sem.run_pure, hsz, hgt, if_false, zeroValue, hz, h0]
        rw [show ((parts.map fun x => (x.1, a.eval x.2)).toList) = ((ys.map a.eval).zipIdx 0).map fun x => (x.2, x.1) by rw [Array.toList_map]; exact hparts]
        rw [h3]
        simp [newRow]
    · have := (vr_new (S := S) (st := st) (w' := w.alloc (.cells r e')) hat).2
      rw [e5, hl] at this
      exact this
    · simp only [X.allp]
      exact .inr ⟨rfl, hk'⟩
  · simp at ht

end
end Go.Ev
