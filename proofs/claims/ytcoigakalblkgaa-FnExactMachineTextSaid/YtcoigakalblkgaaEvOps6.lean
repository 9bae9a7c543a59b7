/- Appends, and structs that are built: each is sound for the machine. -/
import Derived.Test.YtcoigakalblkgaaEvOps5
import Derived.Maps.AppendAt
import Derived.Laws.Tables
set_option linter.all false
namespace Go.Ev
open Go.RowKit

section
variable {P : Program} (w : World)
theorem run_append_room' (t ty e e2 : TypeId) (i : TypeInfo) (ht : P.underlying t = some (.slice e)) (hi : P.info? e = some i)
    (g sLen sCap : Nat) (cur : Array Value) (hg : w.heap[g]? = some (.cells cur e2 (0, 0)))
    (a : Addr) (m c : Nat) (news : List Value) (hl : news.length = m * i.size) (hnews : ∀ (j : Nat) (u : Value), news[j]? = some u → w.cell? (a.add j) = some u) (h1 : ∀ u ∈ news, u.oneCell' = true)
    (hroom : sLen + m ≤ sCap) (hfit : sLen * i.size + news.length ≤ cur.size) :
    (Builtin.append_ #[t, t] ty #[.slice (some ⟨g, 0, none⟩) sLen sCap, .slice (some a) m c]).run P w =
      .ok (.slice (some ⟨g, 0, none⟩) (sLen + m) sCap) (w.setRow g (cur.toList.take (sLen * i.size) ++ news ++ cur.toList.drop (sLen * i.size + news.length)).toArray) := by
  have hf := run_firstCells_some (P := P) w i.size m a m c news hl hnews
  have hst := run_storeCells_at P g (sLen * i.size) e2 news 0 cur w hg (by simpa using hfit) h1
  simp only [Nat.add_zero] at hst
  simp [Builtin.append_, run_underlying ht, sizeOf, typeInfo, hi, Builtin.lenOf, hroom, hf, Addr.add_lit, hst]

/-- What an append leaves. -/
structure Appended (w w' : World) (v' : Value) (b0 : Option (Nat × Nat)) (b' cap' sz k : Nat) (vals : List Value) : Prop where
  val : v' = .slice (some ⟨b', 0, none⟩) k cap'
  row : ∃ cur e, w'.heap[b']? = some (.cells cur e (0, 0)) ∧ cur.size = cap' * sz ∧ cur.toList.take (k * sz) = vals
  le : k ≤ cap'
  max : cap' ≤ maxLen
  at_ : (∃ c0, b0 = some (b', c0)) ∨ b' = w.heap.size
  os : w'.os = w.os
  tape : w'.tape = w.tape
  output : w'.output = w.output
  size : w.heap.size ≤ w'.heap.size
  lt : b' < w'.heap.size
  keep : ∀ k, k < w.heap.size → k ≠ b' → w'.heap[k]? = w.heap[k]?

theorem append_run {S : Nat → Prop} {sz : Nat} {b0 : Option (Nat × Nat)} {els0 : List (List G)} (hok : (G.s sz b0 els0).ok w S) (t ty e : TypeId) (i : TypeInfo) (z : Value) (ht : P.underlying t = some (.slice e)) (hi : P.info? e = some i) (hz : i.zero = some z) (hsz : i.size = sz) (hzs : z.cells.size = sz) (hpos : 0 < sz)
    (A : Option Addr) (m c : Nat) (news : List Value) (hl : news.length = m * sz) (hnews : ∀ (j : Nat) (u : Value), news[j]? = some u → ∃ a, A = some a ∧ w.cell? (a.add j) = some u) (h1 : ∀ u ∈ news, u.oneCell' = true)
    (h63 : els0.length + m ≤ maxLen) (hbytes : (els0.length + m) * i.bytes ≤ 140737488355328) :
    (m = 0 ∧ (Builtin.append_ #[t, t] ty #[(G.s sz b0 els0).val, .slice A m c]).run P w = .ok (G.s sz b0 els0).val w) ∨
    (0 < m ∧ ∃ v' w' b' cap', (Builtin.append_ #[t, t] ty #[(G.s sz b0 els0).val, .slice A m c]).run P w = .ok v' w' ∧ Appended w w' v' b0 b' cap' sz (els0.length + m) (valss els0 ++ news)) := by
  subst hsz
  simp only [G.ok] at hok
  obtain ⟨h2, h3, _⟩ := hok
  have hvl := valss_length h3
  by_cases hm : m = 0
  · left
    refine ⟨hm, ?_⟩
    subst hm
    have hf : (Builtin.firstCells i.size 0 (.slice A 0 c)).run P w = .ok #[] w := by
      cases A with
      | none => exact run_firstCells_none w i.size 0 0 c
      | some a =>
        have := run_firstCells_some (P := P) w i.size 0 a 0 c [] (by simp) (by simp)
        simpa using this
    cases b0 with
    | none =>
      simp only at h2
      subst h2
      simp [G.val, Builtin.append_, run_underlying ht, sizeOf, typeInfo, hi, Builtin.lenOf, hf]
    | some b0 =>
      obtain ⟨h4, _⟩ := h2
      simp [G.val, Builtin.append_, run_underlying ht, sizeOf, typeInfo, hi, Builtin.lenOf, hf, h4, storeCells]
  · right
    refine ⟨by omega, ?_⟩
    have hne : 0 < news.length := by rw [hl]; exact Nat.mul_pos (by omega) hpos
    obtain ⟨a, rfl, _⟩ := hnews 0 _ (List.getElem?_eq_getElem hne)
    have hnews' : ∀ (j : Nat) (u : Value), news[j]? = some u → w.cell? (a.add j) = some u := fun j u hu => by
      obtain ⟨a', h4, h5⟩ := hnews j u hu
      simp only [Option.some.injEq] at h4
      subst h4
      exact h5
    have h63' : ((els0.length + m : Nat) : Int) ≤ 9223372036854775807 := by simp only [maxLen] at h63; omega
    cases b0 with
    | none =>
      simp only at h2
      subst h2
      simp only [List.length_nil, Nat.zero_add] at hbytes h63 h63'
      have hrun := run_append_nil (P := P) w t ty e i z ht hi hz a m c news hl hnews' (by omega) h63' (by omega)
      have hge := grownCap_ge w m 0 e
      refine ⟨_, _, w.heap.size, grownCap w m 0 e, hrun, ⟨by simp, ⟨_, e, heap_alloc_new w.drew _, ?_, ?_⟩, by simpa using hge, grownCap_le_maxLen w m 0 e h63, .inr rfl, rfl, rfl, rfl, by simp, by simp, fun k hk _ => Below.heap_alloc w.drew _ k hk⟩⟩
      · simp only [Array.size_append, List.size_toArray, size_zeroCells, hzs, hl, ← Nat.add_mul]
        congr 1
        omega
      · simp only [List.length_nil, Nat.zero_add, valss, List.nil_append, Array.toList_append]
        rw [← hl]
        exact List.take_left
    | some b0 =>
      obtain ⟨b, cap⟩ := b0
      obtain ⟨h4, h5, cur, e2, h6, h7, h8⟩ := h2
      by_cases hroom : els0.length + m ≤ cap
      · have hmul : (els0.length + m) * i.size ≤ cap * i.size := Nat.mul_le_mul_right _ hroom
        rw [Nat.add_mul] at hmul
        have hrun := run_append_room' (P := P) w t ty e e2 i ht hi b els0.length cap cur h6 a m c news hl hnews' h1 hroom (by rw [hl, h7]; exact hmul)
        refine ⟨_, _, b, cap, hrun, ⟨rfl, ⟨_, e2, setRow_heap w b cur _ e2 (0, 0) h6, ?_, ?_⟩, hroom, h5, .inl ⟨cap, rfl⟩, rfl, rfl, rfl, by simp, by simp only [size_setRow]; exact (Array.getElem?_eq_some_iff.1 h6).1, fun k _ hk => setRow_other w b k _ hk⟩⟩
        · simp only [List.size_toArray, List.length_append, List.length_take, List.length_drop, Array.length_toList, h7, hl]
          omega
        · simp only
          rw [h8, List.append_assoc, ← List.append_assoc, List.take_left' (by rw [List.length_append, hvl, hl, Nat.add_mul])]
      · have holds : ∀ (j : Nat) (v : Value), (valss els0)[j]? = some v → w.cell? ((⟨b, 0, none⟩ : Addr).add j) = some v := fun j v hv => by
          rw [← h8, List.getElem?_take] at hv
          split at hv
          · rw [Addr.add_lit, Nat.zero_add, cell_of_row w b j cur e2 (0, 0) h6]
            simpa using hv
          · simp at hv
        have hrun := run_append_grow (P := P) w t ty e i z ht hi hz ⟨b, 0, none⟩ els0.length cap (valss els0) hvl holds a m c news hl hnews' (by omega) h63' (growslice_fits (by omega) hbytes)
        have hge := grownCap_ge w (els0.length + m) cap e
        refine ⟨_, _, w.heap.size, grownCap w (els0.length + m) cap e, hrun, ⟨rfl, ⟨_, e, heap_alloc_new w.drew _, ?_, ?_⟩, hge, grownCap_le_maxLen w _ cap e h63, .inr rfl, rfl, rfl, rfl, by simp, by simp, fun k hk _ => Below.heap_alloc w.drew _ k hk⟩⟩
        · simp only [Array.size_append, List.size_toArray, size_zeroCells, hzs, hl, hvl, ← Nat.add_mul]
          congr 1
          omega
        · simp only [Array.toList_append]
          rw [List.take_left' (by simp [hvl, hl, Nat.add_mul])]

end

section
variable {c : Ctx} {st st' : St} {U : Nat → Prop} {γ : Gm} {S : Nat → Prop} {a : Act} {w : World} {C : Cl} {o : Oper} {id : Nat}

/-- What is copied out of memory that is only read, as ghosts. -/
theorem toR_ghost {d : D} {u : Value} (h : d.rd w S u) : (G.l d.toR u).ok w S ∧ (G.l d.toR u).er = d.toR := by
  refine ⟨?_, by simp [G.er]⟩
  simp only [G.ok]
  cases d with
  | v x => exact ⟨rfl, h⟩
  | s sz els => simp only [D.rd] at h; exact ⟨rfl, by simp only [D.toR, D.rd]; exact h⟩
  | r els => exact ⟨rfl, h⟩
  | u => exact ⟨rfl, h⟩
theorem rds_ghosts : ∀ (cs : List D) (ad : Addr) (n : Nat), rds w S ad n cs → ∃ gs : List G, ers gs = cs.map D.toR ∧ bls gs = [] ∧ oks w S gs ∧ gs.length = cs.length ∧ ∀ (j : Nat) (u : Value), (vals gs)[j]? = some u → w.cell? (ad.add (n + j)) = some u
  | [], ad, n, _ => ⟨[], by simp [ers], by simp [bls], by simp [oks], rfl, by simp [vals]⟩
  | d :: cs, ad, n, h => by
    simp only [rds] at h
    obtain ⟨⟨u, h1, _, h2⟩, h3⟩ := h
    obtain ⟨gs, e1, e2, e3, e4, e5⟩ := rds_ghosts cs ad (n + 1) h3
    obtain ⟨h4, h5⟩ := toR_ghost h2
    refine ⟨.l d.toR u :: gs, by simp [ers, h5, e1], by simp [bls, G.bl, e2], by simp only [oks]; exact ⟨h4, e3⟩, by simp [e4], fun j v hj => ?_⟩
    cases j with
    | zero =>
      simp only [vals, List.map_cons, List.getElem?_cons_zero, Option.some.injEq, G.val] at hj
      subst hj
      exact h1
    | succ j =>
      simp only [vals, List.map_cons, List.getElem?_cons_succ] at hj
      have := e5 j v hj
      rwa [show n + 1 + j = n + (j + 1) by omega] at this
theorem rdss_ghosts {sz : Nat} : ∀ (els : List (List D)) (A : Option Addr) (n : Nat), (∀ el ∈ els, el.length = sz) → rdss w S A n els → ∃ ges : List (List G), erss ges = els.map (fun el => el.map D.toR) ∧ blss ges = [] ∧ okss w S ges ∧ ges.length = els.length ∧ (∀ el ∈ ges, el.length = sz) ∧
    ∀ (j : Nat) (u : Value), (valss ges)[j]? = some u → ∃ ad, A = some ad ∧ w.cell? (ad.add (n + j)) = some u
  | [], A, n, _, _ => ⟨[], by simp [erss], by simp [blss], by simp [okss], rfl, by simp, by simp [valss]⟩
  | el :: els, A, n, hl, h => by
    simp only [rdss] at h
    obtain ⟨⟨ad, rfl, h1⟩, h2⟩ := h
    obtain ⟨gs, e1, e2, e3, e4, e5⟩ := rds_ghosts el ad n h1
    obtain ⟨ges, f1, f2, f3, f4, f5, f6⟩ := rdss_ghosts els (some ad) _ (fun x hx => hl x (by simp [hx])) h2
    have hel := hl el (by simp)
    refine ⟨gs :: ges, by simp [erss, e1, f1], by simp [blss, e2, f2], by simp only [okss]; exact ⟨e3, f3⟩, by simp [f4], fun x hx => ?_, fun j u hj => ?_⟩
    · rcases List.mem_cons.1 hx with rfl | hx
      · omega
      · exact f5 x hx
    · simp only [valss] at hj
      by_cases hlt : j < (vals gs).length
      · rw [List.getElem?_append_left hlt] at hj
        exact ⟨ad, rfl, e5 j u hj⟩
      · rw [List.getElem?_append_right (by omega)] at hj
        obtain ⟨ad', h6, h7⟩ := f6 _ _ hj
        refine ⟨ad', h6, ?_⟩
        rw [vals_length] at h7 hlt
        rwa [show n + el.length + (j - gs.length) = n + j by omega] at h7

theorem took_same {h h' : Heap} {γ γ' : Gm} {i : GId} {g : G} (t : Took h h' γ γ' S w i g) (x : X) (v : Value) (hx : x.vr γ w S v) : x.vr γ' w S v :=
  vr_same (fun k hk => ⟨hk, rfl⟩) x v (allp_all t.same x) hx

/-- The base of an append, as a ghost that no place has. -/
theorem base_ok {h h' : Heap} (m : Mm h γ S w) {sz : Nat} {x : X} {v : Value} (hx : x.vr γ w S v) {els : List (List D)} (hb : baseEls h sz x = some (els, h')) :
    ∃ γ' i b ges, Took h h' γ γ' S w i (.s sz b ges) ∧ erss ges = els ∧ (G.s sz b ges).val = v := by
  unfold baseEls at hb
  split at hb
  · simp only [Option.some.injEq, Prod.mk.injEq] at hb
    obtain ⟨rfl, rfl⟩ := hb
    simp only [X.vr] at hx
    obtain ⟨γ', i, ht⟩ := took_leaf m (g := .s sz none []) (by simp [G.ok, okss]) (by simp [G.bl, blss])
    exact ⟨γ', i, none, [], ht, by simp [erss], by simp [G.val, hx]⟩
  · rename_i id p
    simp only [bind_some_iff] at hb
    obtain ⟨⟨d, h1⟩, h2, r, h3, h4⟩ := hb
    split at h4
    · rename_i hsz
      simp only [Option.some.injEq, Prod.mk.injEq] at h4
      obtain ⟨rfl, rfl⟩ := h4
      simp only [X.vr] at hx
      obtain ⟨γ', i, g, t1, e1, e2, sz', b, ges, rfl⟩ := took_row m h2 (fun g hg => (hx.2 g hg).1)
      subst e1
      simp only [G.er, D.rowOf, Option.some.injEq] at h3
      subst h3
      simp only at hsz
      subst hsz
      exact ⟨γ', i, b, ges, t1, rfl, e2⟩
    · simp at h4
  · simp at hb

def bAddr : Option (Nat × Nat) → Option Addr
  | none => none
  | some b => some ⟨b.1, 0, none⟩
def bCap : Option (Nat × Nat) → Nat
  | none => 0
  | some b => b.2
/-- The source of an append. -/
theorem src_ok {h h' : Heap} (m : Mm h γ S w) {x : X} {v : Value} (hx : x.vr γ w S v) {els : List (List D)} (hb : srcEls h x = some (els, h')) {sz : Nat} (hsz : ∀ el ∈ els, el.length = sz) :
    ∃ γ' A m c ges, v = .slice A m c ∧ ges.length = m ∧ erss ges = els ∧ (∀ el ∈ ges, el.length = sz) ∧ okss w S ges ∧ (∀ (j : Nat) (u : Value), (valss ges)[j]? = some u → ∃ ad, A = some ad ∧ w.cell? (ad.add j) = some u) ∧ (∀ id p, Same γ γ' id p) ∧ Sub γ' γ ∧ (∀ id, h id = none → h' id = none) ∧ Mm h' γ' S w ∧
      (∀ j, Flo h j → (γ j).isSome = true → γ' j = γ j) ∧ (blss ges).Nodup ∧ ((blss ges = []) ∨ ∃ i g, γ' i = some g ∧ Flo h' i ∧ (∀ k ∈ blss ges, k ∈ g.bl) ∧ ∀ j, Flo h j → (γ j).isSome = true → j ≠ i) := by
  unfold srcEls at hb
  split at hb
  · simp only [Option.some.injEq, Prod.mk.injEq] at hb
    obtain ⟨rfl, rfl⟩ := hb
    simp only [X.vr] at hx
    exact ⟨γ, none, 0, 0, [], hx.2, rfl, by simp [erss], by simp, by simp [okss], by simp [valss], fun id p => Same.refl γ id p, Sub.refl γ, fun _ h => h, m, fun _ _ _ => rfl, by simp [blss], .inl (by simp [blss])⟩
  · rename_i els0
    simp only [Option.some.injEq, Prod.mk.injEq] at hb
    obtain ⟨rfl, rfl⟩ := hb
    simp only [X.vr, D.rd] at hx
    obtain ⟨A, cap, h1, h2, h3, ⟨sz', h4⟩, h5⟩ := hx
    have hsz' : ∀ el ∈ els0, el.length = sz := fun el hel => by
      have := hsz (el.map D.toR) (List.mem_map.2 ⟨el, hel, rfl⟩)
      simpa using this
    obtain ⟨ges, e1, e2, e3, e4, e5, e6⟩ := rdss_ghosts els0 A 0 hsz' h5
    exact ⟨γ, A, els0.length, cap, ges, h1, e4, e1, e5, e3, fun j u hj => by simpa using e6 j u hj, fun id p => Same.refl γ id p, Sub.refl γ, fun _ h => h, m, fun _ _ _ => rfl, by rw [e2]; simp, .inl e2⟩
  · rename_i id p
    simp only [bind_some_iff, map_some_iff] at hb
    obtain ⟨⟨d, h1⟩, h2, r, h3, h4⟩ := hb
    simp only [Prod.mk.injEq] at h4
    obtain ⟨rfl, rfl⟩ := h4
    simp only [X.vr] at hx
    obtain ⟨γ', i, g, t1, e1, e2, sz', b, ges, rfl⟩ := took_row m h2 (fun g hg => (hx.2 g hg).1)
    subst e1
    simp only [G.er, D.rowOf, Option.some.injEq] at h3
    subst h3
    have hok := t1.mm.ok _ _ t1.at_
    have hnd := t1.mm.nd _ _ t1.at_
    have hszg : ∀ el ∈ ges, el.length = sz := fun el hel => by
      have := hsz (ers el) (by simp only [erss_map]; exact List.mem_map.2 ⟨el, hel, by rw [ers_map]⟩)
      rwa [ers_length] at this
    refine ⟨γ', bAddr b, ges.length, bCap b, ges, ?_, rfl, rfl, hszg, ?_, fun j u hj => ?_, t1.same, t1.sub, t1.mono, t1.mm, fun j hj hs => (t1.new j hj hs).2, ?_, .inr ⟨i, _, t1.at_, t1.flo, fun k hk => ?_, fun j hj hs => (t1.new j hj hs).1⟩⟩
    · rw [← e2]
      cases b with
      | none =>
        simp only [G.ok] at hok
        rw [hok.1]
        rfl
      | some b => rfl
    · simp only [G.ok] at hok
      exact hok.2.2
    · cases b with
      | none =>
        simp only [G.ok] at hok
        rw [hok.1] at hj
        simp [valss] at hj
      | some b =>
        refine ⟨_, rfl, ?_⟩
        simp only [G.ok] at hok
        obtain ⟨⟨_, _, cur, e, h6, h7, h8⟩, h9, _⟩ := hok
        rw [← h8, List.getElem?_take] at hj
        split at hj
        · rw [Addr.add_lit, Nat.zero_add, cell_of_row w b.1 j cur e (0, 0) h6]
          simpa using hj
        · simp at hj
    · rw [G.bl_s] at hnd
      exact (List.nodup_append.1 hnd).2.1
    · rw [G.bl_s]
      exact List.mem_append_right _ hk
  · simp at hb

theorem blss_append (a b : List (List G)) : blss (a ++ b) = blss a ++ blss b := by
  induction a with
  | nil => simp [blss]
  | cons x a ih => simp [blss, ih]
theorem erss_append (a b : List (List G)) : erss (a ++ b) = erss a ++ erss b := by simp [erss_map]

theorem op_app (R : Rep c st U γ S a w) (hd : ∀ k, o.dst = some k → k < c.nt) {t e : TypeId} {y1 y2 : Operand} {x1 x2 : O} {sz bytes : Nat} (ho : o.op = .call { callee := .builtin .append, args := #[y1, y2], argTypes := #[t, t] }) (h1 : eqO y1 x1 = true) (h2 : eqO y2 x2 = true) (ht : sliceE c.P t = some e)
    {i : TypeInfo} (hi : c.P.info? e = some i) (hsz : i.size = sz) (hby : i.bytes = bytes) (hpos : 0 < sz) {vz : List Value} (hz : zeroT c.P e = some vz) (hzl : vz.length = sz) {k : Nat} (hk : ¬ U k) {U' : Nat → Prop} (hU : ∀ k, U k → U' k) (hk' : U' k)
    (hs : opS C st o.dst k (.app sz bytes x1 x2) = some st') : Runs c o a w st' U' := by
  simp only [opS, bind_some_iff] at hs
  obtain ⟨x, h3, y, h4, ⟨els1, hp1⟩, h5, ⟨els2, hp2⟩, h6, h7⟩ := hs
  split at h7
  · rename_i hb
    obtain ⟨⟨b1, b2⟩, b3⟩ := hb
    simp only at b1 b2
    simp only [Option.some.injEq] at h7
    subst h7
    obtain ⟨h8, h9⟩ := eqO_ok R h1 h3
    obtain ⟨h10, h11⟩ := eqO_ok R h2 h4
    obtain ⟨γ1, i1, bb, ges1, t1, e1, e2⟩ := base_ok R.mm h8 h5
    have hszs : ∀ el ∈ els2, el.length = sz := fun el hel => by
      have := List.all_eq_true.1 b3 el hel
      simpa using this
    obtain ⟨γ2, A, m, cc, ges2, f1, f2, f3, f4, f5, f6, f7, f8, f9, f10, f11, f12, f13⟩ := src_ok t1.mm (took_same t1 y _ h10) h6 hszs
    have hat1 : γ2 i1 = some (.s sz bb ges1) := (f11 i1 t1.flo (by rw [t1.at_]; rfl)).trans t1.at_
    have hl1 : ges1.length = els1.length := by rw [← e1, erss_length]
    have hl2 : ges2.length = els2.length := by rw [← f3, erss_length]
    have hok1 := f10.ok _ _ hat1
    obtain ⟨z, hz1, hz2, iz, hiz, hiz2⟩ := run_zeroValue hz w
    rw [hi] at hiz
    simp only [Option.some.injEq] at hiz
    subst hiz
    unfold sliceE at ht
    split at ht
    · rename_i e' hu
      simp only [Option.some.injEq] at ht
      subst ht
      have hone : ∀ u ∈ valss ges2, u.oneCell' = true := fun u hu' => by
        obtain ⟨j, hj⟩ := List.getElem?_of_mem hu'
        have : ∀ (ges : List (List G)), okss w S ges → ∀ u ∈ valss ges, u.oneCell' = true := fun ges => by
          induction ges with
          | nil => intro _ u hu; simp [valss] at hu
          | cons el ges ih =>
            intro hok u hu
            simp only [okss] at hok
            simp only [valss, List.mem_append] at hu
            rcases hu with hu | hu
            · simp only [vals, List.mem_map] at hu
              obtain ⟨g, hg, rfl⟩ := hu
              exact gval_one (oks_iff.1 hok.1 g hg)
            · exact ih hok.2 u hu
        exact this ges2 f5 u hu'
      have hrun := append_run (P := c.P) w hok1 t o.type e' i z hu hi hiz2 hsz (by
        have := congrArg List.length hz2
        rw [hzl] at this
        simpa using this) hpos A m cc (valss ges2) (by rw [valss_length f4, f2]) f6 hone (by rw [hl1, ← f2, hl2]; simp only [maxLen]; omega) (by rw [hl1, ← f2, hl2, hby]; exact b1)
      rw [e2, ← f1] at hrun
      have hrunE : ∀ v' w', (Builtin.append_ #[t, t] o.type #[a.eval y1, a.eval y2]).run c.P w = .ok v' w' → (execOp a.eval o).run c.P w = .ok (.value v') w' := fun v' w' hr => by
        simp [execOp, ho, resolve, invoke, builtin, hr]
      have hsame : ∀ id p, Same γ γ2 id p := fun id p => (t1.same id p).trans (f7 id p)
      have hsub : Sub γ2 γ := f8.trans t1.sub
      have hmono : ∀ id, st.heap id = none → hp2 id = none := fun id h0 => f9 id (t1.mono id h0)
      have hflo1 : Flo hp2 i1 := fun id e => f9 id (t1.flo id e)
      have hlt : ∀ i g, γ2 i = some g → ∀ k ∈ g.bl, k < w.heap.size := fun i g hg => G.ok_lt g (f10.ok i g hg)
      have hnd1 := f10.nd _ _ hat1
      rw [G.bl_s] at hnd1
      have hndd := List.nodup_append.1 hnd1
      have hids := ids_ne R hk
      -- the floats that go into the new row
      obtain ⟨is, his, hfl, hbl2⟩ : ∃ is : List GId, i1 ∈ is ∧ (∀ j ∈ is, Flo hp2 j) ∧ (∀ k ∈ blss ges2, ∃ j ∈ is, j ≠ i1 ∧ ∃ g, γ2 j = some g ∧ k ∈ g.bl) := by
        rcases f13 with h0 | ⟨j, g, g1, g2, g3, g4⟩
        · exact ⟨[i1], by simp, by simpa using hflo1, by rw [h0]; simp⟩
        · exact ⟨[i1, j], by simp, by simp; exact ⟨hflo1, g2⟩, fun k hk => ⟨j, by simp, (g4 i1 t1.flo (by rw [t1.at_]; rfl)).symm, g, g1, g3 k hk⟩⟩
      have hcross : ∀ k ∈ (G.s sz bb ges1).bl, k ∉ blss ges2 := fun k hk1 hk2 => by
        obtain ⟨j, _, hj, g, hg, hkg⟩ := hbl2 k hk2
        exact f10.dj _ _ _ _ hat1 hg (Ne.symm hj) k hk1 hkg
      rcases hrun with ⟨hm0, hrun⟩ | ⟨hm0, v', w', b', cap', hrun, hA⟩
      · -- nothing is put behind
        have hg2 : ges2 = [] := List.eq_nil_of_length_eq_zero (by omega)
        subst hg2
        have hM := f10.regroup (S' := S) (w' := w) [i1] (by simpa using hflo1) (G0 := .s sz bb ges1) hok1 (f10.nd _ _ hat1) (fun k hk => .inl ⟨i1, by simp, _, hat1, hk⟩) (fun _ _ _ _ _ _ => rfl) (fun k hk => ⟨hk, rfl⟩) (fun k hk => ⟨(f10.sd k hk).1, (f10.sd k hk).2 _ _ hat1, fun i g hi _ => (f10.sd k hk).2 i g hi⟩) (st.fr, k)
        have hR := R.change (U' := U') hM rfl rfl rfl (Nat.le_refl _) (fun _ _ _ => rfl) (fun q ⟨i, g, g1, g2⟩ => ?_) (fun t x hx => allp_mono (fun id p h => (hsame id p).trans (Same.regroup id p h)) x (hids t x hx)) (fun id hid => ?_) (fun k h => h) (fun k h => .inl h) (fun id d hd => ?_) hU (fun id hid h0 => by
          have : id ≠ (st.fr, k) := fun e => by rw [e] at hid; simp at hid
          simp only [upd, this, if_false]; exact hmono id h0)
        · have hE : els1 ++ els2 = erss ges1 := by rw [← f3, ← e1]; simp [erss]
          refine .value _ w (hrunE _ _ hrun) ⟨upd (rem γ2 [i1]) (.inl (st.fr, k)) (some (.s sz bb ges1)), S, ?_⟩
          have := hR.put (d := o.dst) hd (x := .ref (st.fr, k) []) (v := a.eval y1) ?_ ?_
          · simp only [G.er] at this
            rw [← hE] at this
            exact this
          · simp only [X.vr]
            refine ⟨by rw [← e2]; exact gval_one hok1, fun g hg => ?_⟩
            simp only [Gm.nav, upd, if_true, Option.bind_some, G.nav, Option.some.injEq] at hg
            subst hg
            exact ⟨e2, rfl⟩
          · simp only [X.allp]
            exact .inr ⟨rfl, hk'⟩
        · unfold upd at g1
          split at g1
          · simp only [Option.some.injEq] at g1
            subst g1
            exact .inl (hsub _ _ hat1 q g2)
          · rw [rem_some] at g1
            exact .inl (hsub i g g1.2 q g2)
        · have : id ≠ (st.fr, k) := fun e => by rw [e] at hid; simp at hid
          exact (hsame id []).trans (Same.regroup id [] this)
        · unfold upd at hd
          split at hd
          · rename_i e
            subst e
            exact .inr ⟨rfl, hk'⟩
          · have hne : st.heap id ≠ none := fun h0 => by rw [hmono id h0] at hd; simp at hd
            obtain ⟨d0, hd0⟩ := Option.ne_none_iff_exists'.1 hne
            exact (R.hid id d0 hd0).imp (fun h => h) (fun h => ⟨h.1, hU _ h.2⟩)
      · obtain ⟨cur, ecur, hc1, hc2, hc3⟩ := hA.row
        have hb'cases : (b' ∈ (G.s sz bb ges1).bl) ∨ b' = w.heap.size := by
          rcases hA.at_ with ⟨c0, rfl⟩ | h
          · exact .inl (by simp [G.bl])
          · exact .inr h
        have hb'1 : b' ∉ blss ges1 := fun hk1 => by
          rcases hA.at_ with ⟨c0, rfl⟩ | h
          · exact hndd.2.2 b' (by simp [G.top]) b' hk1 rfl
          · have := hlt _ _ hat1 b' (by rw [G.bl_s]; exact List.mem_append_right _ hk1)
            omega
        have hb'2 : b' ∉ blss ges2 := fun hk2 => by
          rcases hb'cases with h | h
          · exact hcross b' h hk2
          · obtain ⟨j, _, _, g, hg, hkg⟩ := hbl2 b' hk2
            have := hlt j g hg b' hkg
            omega
        have hother : ∀ i g, γ2 i = some g → i ≠ i1 → ∀ k ∈ g.bl, w'.heap[k]? = w.heap[k]? := fun i g hg hne k hk => by
          refine hA.keep k (hlt i g hg k hk) fun e => ?_
          subst e
          rcases hb'cases with h | h
          · exact f10.dj _ _ _ _ hat1 hg (Ne.symm hne) k h hk
          · have := hlt i g hg k hk
            omega
        have hSw : ∀ q, S q → S q ∧ w'.heap[q]? = w.heap[q]? := fun q hq => ⟨hq, hA.keep q (f10.sd q hq).1 fun e => by
          subst e
          rcases hb'cases with h | h
          · exact (f10.sd q hq).2 _ _ hat1 h
          · have := (f10.sd q hq).1
            omega⟩
        have hok' : ∀ ges, okss w S ges → (∀ k ∈ blss ges, k < w.heap.size ∧ k ≠ b') → okss w' S ges := fun ges h hh => okss_congr hSw ges (fun k hk => hA.keep k (hh k hk).1 (hh k hk).2) h
        have hblt2 : ∀ k ∈ blss ges2, k < w.heap.size := fun k hk => by
          obtain ⟨j, _, _, g, hg, hkg⟩ := hbl2 k hk
          exact hlt j g hg k hkg
        have hblt1 : ∀ k ∈ blss ges1, k < w.heap.size := fun k hk => hlt _ _ hat1 k (by rw [G.bl_s]; exact List.mem_append_right _ hk)
        have hG : (G.s sz (some (b', cap')) (ges1 ++ ges2)).ok w' S := by
          simp only [G.ok] at hok1 ⊢
          refine ⟨⟨by rw [List.length_append, f2]; exact hA.le, hA.max, cur, ecur, hc1, hc2, by rw [List.length_append, f2, hc3, valss_append]⟩, fun el hel => ?_, ?_⟩
          · rcases List.mem_append.1 hel with hel | hel
            · exact hok1.2.1 el hel
            · exact f4 el hel
          · have a1 := hok' ges1 hok1.2.2 (fun k hk => ⟨hblt1 k hk, fun e => hb'1 (e ▸ hk)⟩)
            have a2 := hok' ges2 f5 (fun k hk => ⟨hblt2 k hk, fun e => hb'2 (e ▸ hk)⟩)
            rw [okss_iff] at a1 a2 ⊢
            intro el hel g hg
            rcases List.mem_append.1 hel with hel | hel
            · exact a1 el hel g hg
            · exact a2 el hel g hg
        have hGbl : (G.s sz (some (b', cap')) (ges1 ++ ges2)).bl = b' :: (blss ges1 ++ blss ges2) := by simp [G.bl, blss_append]
        have hM := f10.regroup (S' := S) (w' := w') is hfl hG (by
            rw [hGbl, List.nodup_cons]
            refine ⟨by simp [hb'1, hb'2], List.nodup_append.2 ⟨hndd.2.1, f12, fun x hx y hy e => ?_⟩⟩
            subst e
            exact hcross x (by rw [G.bl_s]; exact List.mem_append_right _ hx) hy) (fun q hq => by
            rw [hGbl, List.mem_cons, List.mem_append] at hq
            rcases hq with rfl | hq | hq
            · rcases hb'cases with h | h
              · exact .inl ⟨i1, his, _, hat1, h⟩
              · exact .inr (by omega)
            · exact .inl ⟨i1, his, _, hat1, by rw [G.bl_s]; exact List.mem_append_right _ hq⟩
            · obtain ⟨j, hj, _, g, hg, hkg⟩ := hbl2 q hq
              exact .inl ⟨j, hj, g, hg, hkg⟩) (fun i g hg hni q hq => hother i g hg (fun e => hni (e ▸ his)) q hq) hSw (fun q hq => ⟨by have := (f10.sd q hq).1; have := hA.size; omega, fun hq' => by
            rw [hGbl, List.mem_cons, List.mem_append] at hq'
            rcases hq' with rfl | hq' | hq'
            · rcases hb'cases with h | h
              · exact (f10.sd q hq).2 _ _ hat1 h
              · have := (f10.sd q hq).1; omega
            · exact (f10.sd q hq).2 _ _ hat1 (by rw [G.bl_s]; exact List.mem_append_right _ hq')
            · obtain ⟨j, _, _, g, hg, hkg⟩ := hbl2 q hq'
              exact (f10.sd q hq).2 j g hg hkg, fun i g hg _ => (f10.sd q hq).2 i g hg⟩) (st.fr, k)
        have hR := R.change (U' := U') hM hA.os hA.tape hA.output hA.size (fun q hq hnb => ?_) (fun q ⟨i, g, g1, g2⟩ => ?_) (fun t x hx => allp_mono (fun id p h => (hsame id p).trans (Same.regroup id p h)) x (hids t x hx)) (fun id hid => ?_) (fun k h => h) (fun k h => .inl h) (fun id d hd => ?_) hU (fun id hid h0 => by
          have : id ≠ (st.fr, k) := fun e => by rw [e] at hid; simp at hid
          simp only [upd, this, if_false]; exact hmono id h0)
        · have hE : els1 ++ els2 = erss (ges1 ++ ges2) := by rw [← f3, ← e1, erss_append]
          refine .value _ w' (hrunE _ _ hrun) ⟨upd (rem γ2 is) (.inl (st.fr, k)) (some (.s sz (some (b', cap')) (ges1 ++ ges2))), S, ?_⟩
          have := hR.put (d := o.dst) hd (x := .ref (st.fr, k) []) (v := v') ?_ ?_
          · simp only [G.er] at this
            rw [← hE] at this
            exact this
          · simp only [X.vr]
            refine ⟨by rw [hA.val]; rfl, fun g hg => ?_⟩
            simp only [Gm.nav, upd, if_true, Option.bind_some, G.nav, Option.some.injEq] at hg
            subst hg
            exact ⟨by rw [hA.val]; simp [G.val, f2], rfl⟩
          · simp only [X.allp]
            exact .inr ⟨rfl, hk'⟩
        · refine hA.keep q hq fun e => ?_
          subst e
          rcases hb'cases with h | h
          · exact hnb (hsub _ _ hat1 q h)
          · omega
        · unfold upd at g1
          split at g1
          · simp only [Option.some.injEq] at g1
            subst g1
            rw [hGbl, List.mem_cons, List.mem_append] at g2
            rcases g2 with rfl | g2 | g2
            · rcases hb'cases with h | h
              · exact .inl (hsub _ _ hat1 q h)
              · exact .inr (by omega)
            · exact .inl (hsub _ _ hat1 q (by rw [G.bl_s]; exact List.mem_append_right _ g2))
            · obtain ⟨j, _, _, g, hg, hkg⟩ := hbl2 q g2
              exact .inl (hsub j g hg q hkg)
          · rw [rem_some] at g1
            exact .inl (hsub i g g1.2 q g2)
        · have : id ≠ (st.fr, k) := fun e => by rw [e] at hid; simp at hid
          exact (hsame id []).trans (Same.regroup id [] this)
        · unfold upd at hd
          split at hd
          · rename_i e
            subst e
            exact .inr ⟨rfl, hk'⟩
          · have hne : st.heap id ≠ none := fun h0 => by rw [hmono id h0] at hd; simp at hd
            obtain ⟨d0, hd0⟩ := Option.ne_none_iff_exists'.1 hne
            exact (R.hid id d0 hd0).imp (fun h => h) (fun h => ⟨h.1, hU _ h.2⟩)
    · simp at ht
  · simp at h7

/-! ### A struct that is built -/
theorem vrs_set {γ : Gm} {w : World} {S : Nat → Prop} : ∀ {xs : List X} {vs : List Value} (i : Nat) {x : X} {v : Value}, vrs γ w S xs vs → x.vr γ w S v → vrs γ w S (xs.set i x) (vs.set i v)
  | [], [], i, _, _, h, _ => by simpa using h
  | x :: xs, v :: vs, 0, _, _, h, hx => by simp only [vrs, List.set_cons_zero] at h ⊢; exact ⟨hx, h.2⟩
  | x :: xs, v :: vs, i + 1, _, _, h, hx => by simp only [vrs, List.set_cons_succ] at h ⊢; exact ⟨h.1, vrs_set i h.2 hx⟩
  | [], _ :: _, _, _, _, h, _ => by simp [vrs] at h
  | _ :: _, [], _, _, _, h, _ => by simp [vrs] at h
def setV (vs : List Value) (i : Nat) : List Value → List Value
  | [] => vs
  | u :: us => setV (vs.set i u) (i + 1) us
theorem setX_vrs {γ : Gm} {w : World} {S : Nat → Prop} : ∀ {us : List X} {ws : List Value} {xs : List X} {vs : List Value} (i : Nat), vrs γ w S xs vs → vrs γ w S us ws → vrs γ w S (setX xs i us) (setV vs i ws)
  | [], [], _, _, _, h, _ => h
  | u :: us, z :: ws, xs, vs, i, h, h' => by
    simp only [vrs] at h'
    simp only [setX, setV]
    exact setX_vrs (i + 1) (vrs_set i h h'.1) h'.2
  | [], _ :: _, _, _, _, _, h => by simp [vrs] at h
  | _ :: _, [], _, _, _, _, h => by simp [vrs] at h
theorem setV_length : ∀ (us vs : List Value) (i : Nat), (setV vs i us).length = vs.length
  | [], vs, i => rfl
  | u :: us, vs, i => by simp only [setV]; rw [setV_length us]; simp
theorem setV_mem : ∀ (us vs : List Value) (i : Nat) (x : Value), x ∈ setV vs i us → x ∈ vs ∨ x ∈ us
  | [], vs, i, x, h => .inl h
  | u :: us, vs, i, x, h => by
    simp only [setV] at h
    rcases setV_mem us _ _ x h with h | h
    · exact (List.mem_or_eq_of_mem_set h).imp (fun h => h) (fun h => by simp [h])
    · exact .inr (by simp [h])
theorem foldl_setV : ∀ (l : List Value) (s off : Nat) (cs : Array Value), ((l.zipIdx s).foldl (fun cs (x : Value × Nat) => cs.setIfInBounds (off + x.2) x.1) cs).toList = setV cs.toList (off + s) l
  | [], s, off, cs => by simp [setV]
  | v :: l, s, off, cs => by
    simp only [List.zipIdx_cons, List.foldl_cons, setV]
    rw [foldl_setV l (s + 1) off, Array.toList_setIfInBounds, Nat.add_assoc]
theorem fill_step (place : Nat → Option (Nat × Nat)) (cells : Array Value) (i off size : Nat) (v : Value) (rest : List (Nat × Value)) (hp : place i = some (off, size)) (hs : v.cells.size = size) (hle : off + size ≤ cells.size) :
    Instr.fill place cells ((i, v) :: rest) = Instr.fill place (setV cells.toList off v.cells.toList).toArray rest := by
  simp only [Instr.fill, hp]
  rw [if_neg (by simp [hs]; omega)]
  congr 1
  have := foldl_setV v.cells.toList 0 off cells
  rw [Nat.add_zero] at this
  rw [← this, Array.toArray_toList, ← Array.foldl_toList, Array.toList_zipIdx]
def placesOf (P : Program) (t : TypeId) : Option (List (Nat × Nat)) := match P.underlying t with
  | some (.struct fs) => fs.toList.mapM fun f => (P.info? f.type).map fun i => (f.offset, i.size)
  | _ => none
def bldEq (places : List (Nat × Nat)) : List (Nat × Operand) → List (Nat × Nat × O) → Bool
  | [], [] => true
  | (i, y) :: ys, (off, n, o) :: os => (places[i]? == some (off, n)) && eqO y o && bldEq places ys os
  | _, _ => false
theorem cellsV_ok {γ : Gm} {w : World} {S : Nat → Prop} {x : X} {v : Value} (h : x.vr γ w S v) {us : List X} (hu : x.cellsV = some us) : vrs γ w S us v.cells.toList ∧ (∀ φ : Id → Path → Prop, x.allp φ → allps φ us) ∧ ∀ u ∈ v.cells.toList, u.oneCell' = true := by
  rcases vr_cells h with h1 | ⟨cs, rfl⟩
  · cases x with
    | tup cs => simp [X.cellsV] at hu
    | agg cs =>
      simp only [X.cellsV, Option.some.injEq] at hu
      subst hu
      simp only [X.vr] at h
      obtain ⟨vs, rfl, h2, h3⟩ := h
      exact ⟨by simpa [X.cells] using h1, fun φ hφ => by simpa only [X.allp] using hφ, by simpa [Value.cells] using h3⟩
    | d x =>
      simp only [X.cellsV, Option.some.injEq] at hu
      subst hu
      refine ⟨by simpa [X.cells] using h1, fun φ hφ => by simp only [allps]; exact ⟨hφ, trivial⟩, fun u hu => ?_⟩
      have hone : v.oneCell' = true := by
        cases x with
        | v x => simp only [X.vr] at h; rw [h.1]; exact h.2
        | r els => simp only [X.vr] at h; exact rd_one h
        | s sz els => simp only [X.vr] at h; rw [h.2]; rfl
        | u => simpa only [X.vr] using h
      have : v.cells = #[v] := by cases v <;> first | rfl | simp [Value.oneCell'] at hone
      rw [this] at hu
      simp only [List.mem_singleton] at hu
      subst hu
      exact hone
    | ref id p =>
      simp only [X.cellsV, Option.some.injEq] at hu
      subst hu
      simp only [X.vr] at h
      have : v.cells = #[v] := by cases v <;> first | rfl | simp [Value.oneCell'] at h
      refine ⟨by simpa [X.cells] using h1, fun φ hφ => by simp only [allps]; exact ⟨hφ, trivial⟩, fun u hu => ?_⟩
      rw [this] at hu
      simp only [List.mem_singleton] at hu
      subst hu
      exact h.1
    | ptr id q j i =>
      simp only [X.cellsV, Option.some.injEq] at hu
      subst hu
      simp only [X.vr] at h
      obtain ⟨ad, rfl, _⟩ := h
      exact ⟨by simpa [X.cells] using h1, fun φ hφ => by simp only [allps]; exact ⟨hφ, trivial⟩, fun u hu => by simp only [Value.cells, List.mem_singleton] at hu; subst hu; rfl⟩
    | rop cs =>
      simp only [X.cellsV, Option.some.injEq] at hu
      subst hu
      simp only [X.vr] at h
      obtain ⟨ad, rfl, _⟩ := h
      exact ⟨by simpa [X.cells] using h1, fun φ hφ => by simp only [allps]; exact ⟨hφ, trivial⟩, fun u hu => by simp only [Value.cells, List.mem_singleton] at hu; subst hu; rfl⟩
    | vp cs =>
      simp only [X.cellsV, Option.some.injEq] at hu
      subst hu
      simp only [X.vr] at h
      obtain ⟨ad, rfl, _⟩ := h
      exact ⟨by simpa [X.cells] using h1, fun φ hφ => by simp only [allps]; exact ⟨hφ, trivial⟩, fun u hu => by simp only [Value.cells, List.mem_singleton] at hu; subst hu; rfl⟩
    | clo f caps =>
      simp only [X.cellsV, Option.some.injEq] at hu
      subst hu
      simp only [X.vr] at h
      obtain ⟨vs, rfl, _⟩ := h
      exact ⟨by simpa [X.cells] using h1, fun φ hφ => by simp only [allps]; exact ⟨hφ, trivial⟩, fun u hu => by simp only [Value.cells, List.mem_singleton] at hu; subst hu; rfl⟩
  · simp [X.cellsV] at hu
theorem fillX_ok (R : Rep c st U γ S a w) {places : List (Nat × Nat)} : ∀ {ys : List (Nat × Operand)} {ps : List (Nat × Nat × O)} {cs : List X} {vs : List Value}, bldEq places ys ps = true → vrs γ w S cs vs → allps (fun id _ => IdIn c.A st.fr U id) cs → (∀ u ∈ vs, u.oneCell' = true) → ∀ {xs : List X}, fillX st cs ps = some xs →
    ∃ us : List Value, Instr.fill (fun i => places[i]?) vs.toArray (ys.map fun x => (x.1, a.eval x.2)) = some us.toArray ∧ vrs γ w S xs us ∧ allps (fun id _ => IdIn c.A st.fr U id) xs ∧ ∀ u ∈ us, u.oneCell' = true
  | [], [], cs, vs, _, hv, hi, h1, xs, h => by
    simp only [fillX, Option.some.injEq] at h
    subst h
    exact ⟨vs, by simp [Instr.fill], hv, hi, h1⟩
  | (i, y) :: ys, (off, n, o) :: ps, cs, vs, he, hv, hi, h1, xs, h => by
    simp only [bldEq, Bool.and_eq_true, beq_iff_eq] at he
    obtain ⟨⟨he1, he2⟩, he3⟩ := he
    simp only [fillX, bind_some_iff] at h
    obtain ⟨x, h2, us, h3, h4⟩ := h
    split at h4
    · rename_i hb
      obtain ⟨h5, h6⟩ := eqO_ok R he2 h2
      obtain ⟨h7, h8, h9⟩ := cellsV_ok h5 h3
      have hlen := vrs_length h7
      have hlen2 := vrs_length hv
      have hsz : (a.eval y).cells.size = n := by
        have := hb.1
        simp at hlen
        omega
      have hall : allps (fun id _ => IdIn c.A st.fr U id) (setX cs off us) := by
        have : ∀ (us cs : List X) (off : Nat), allps (fun id _ => IdIn c.A st.fr U id) cs → allps (fun id _ => IdIn c.A st.fr U id) us → allps (fun id _ => IdIn c.A st.fr U id) (setX cs off us) := by
          intro us
          induction us with
          | nil => intro cs off h _; exact h
          | cons u us ih =>
            intro cs off h hu
            simp only [allps] at hu
            simp only [setX]
            refine ih _ _ (allps_iff.2 fun x hx => ?_) hu.2
            rcases List.mem_or_eq_of_mem_set hx with hx | hx
            · exact allps_iff.1 h x hx
            · subst hx; exact hu.1
        exact this us cs off hi (h8 _ h6)
      obtain ⟨zs, g1, g2, g3, g4⟩ := fillX_ok R he3 (setX_vrs off hv h7) hall (fun u hu => (setV_mem _ _ _ u hu).elim (h1 u) (h9 u)) h4
      refine ⟨zs, ?_, g2, g3, g4⟩
      rw [List.map_cons, fill_step _ _ i off n _ _ he1 hsz (by simp; omega)]
      exact g1
    · simp at h4
  | [], _ :: _, _, _, h, _, _, _, _, _ => by simp [bldEq] at h
  | _ :: _, [], _, _, h, _, _, _, _, _ => by simp [bldEq] at h

theorem zX_ok {γ : Gm} {w : World} {S : Nat → Prop} : ∀ {vs : List Value} {zs : List D}, zEq vs zs = true → vrs γ w S (zs.map .d) vs ∧ (∀ φ, allps φ (zs.map .d)) ∧ ∀ u ∈ vs, u.oneCell' = true := fun {vs zs} h => by
  obtain ⟨gs, e1, e2, e3, e4⟩ := zEq_ok h
  subst e1; subst e2
  have h4 := e4 w S
  clear e4
  induction gs with
  | nil => exact ⟨by simp [ers, vals, vrs], fun φ => by simp [ers, allps], by simp [vals]⟩
  | cons g gs ih =>
    have hz : ∃ d v, (g = .l (.v d) v) ∨ ∃ sz, g = .s sz none [] := by
      cases g with
      | l d v =>
        cases d with
        | v x => exact ⟨x, v, .inl rfl⟩
        | s sz els => have := h4 _ (List.mem_cons_self); simp [G.ok, D.leaf] at this
        | r els => cases hv : v <;> simp [ers, G.er, vals, G.val, zEq, hv] at h
        | u => cases hv : v <;> simp [ers, G.er, vals, G.val, zEq, hv] at h
      | s sz b els =>
        cases b with
        | none =>
          have := h4 _ (List.mem_cons_self)
          simp only [G.ok] at this
          exact ⟨.nilFunc, .nilFunc, .inr ⟨sz, by rw [this.1]⟩⟩
        | some b => simp [bls, G.bl] at e3
    have htl : zEq (vals gs) (ers gs) = true ∧ bls gs = [] := by
      refine ⟨?_, by simp only [bls, List.append_eq_nil_iff] at e3; exact e3.2⟩
      rcases hz with ⟨d, v, rfl | ⟨sz, rfl⟩⟩
      · simp only [vals, List.map_cons, ers, G.er, G.val, zEq, Bool.and_eq_true] at h
        exact h.2
      · simpa [vals, ers, G.er, G.val, zEq, erss] using h
    obtain ⟨i1, i2, i3⟩ := ih htl.2 htl.1 (fun g hg => h4 g (by simp [hg]))
    rcases hz with ⟨d, v, rfl | ⟨sz, rfl⟩⟩
    · have hd := h4 _ (List.mem_cons_self)
      simp only [G.ok, D.rd] at hd
      refine ⟨?_, fun φ => ?_, fun u hu => ?_⟩
      · simp only [ers, G.er, List.map_cons, vals, G.val, vrs, X.vr]
        exact ⟨hd.2, i1⟩
      · simp only [ers, G.er, List.map_cons, allps, X.allp]
        exact ⟨trivial, i2 φ⟩
      · simp only [vals, List.map_cons, List.mem_cons, G.val] at hu
        rcases hu with rfl | hu
        · rw [hd.2.1]; exact hd.2.2
        · exact i3 u hu
    · refine ⟨?_, fun φ => ?_, fun u hu => ?_⟩
      · simp only [ers, G.er, erss, List.map_cons, vals, G.val, vrs, X.vr]
        exact ⟨by simp, i1⟩
      · simp only [ers, G.er, erss, List.map_cons, allps, X.allp]
        exact ⟨trivial, i2 φ⟩
      · simp only [vals, List.map_cons, List.mem_cons, G.val] at hu
        rcases hu with rfl | hu
        · rfl
        · exact i3 u hu

theorem op_build (R : Rep c st U γ S a w) (hd : ∀ k, o.dst = some k → k < c.nt) {t : TypeId} {parts : Array (Nat × Operand)} {zs : List D} {ps : List (Nat × Nat × O)} (ho : o.op = .build t parts) {places : List (Nat × Nat)} (hp : placesOf c.P t = some places) (he : bldEq places parts.toList ps = true) {vz : List Value} (hz : zeroT c.P t = some vz) (hzz : zEq vz zs = true)
    (hs : opS C st o.dst id (.build zs ps) = some st') : Runs c o a w st' U := by
  simp only [opS, map_some_iff] at hs
  obtain ⟨xs, h1, rfl⟩ := hs
  obtain ⟨z1, z2, z3⟩ := zX_ok (γ := γ) (w := w) (S := S) hzz
  obtain ⟨us, g1, g2, g3, g4⟩ := fillX_ok R he z1 (z2 _) z3 h1
  obtain ⟨z, hz1, hz2, iz, hiz, hiz2⟩ := run_zeroValue hz w
  refine .value (.agg us.toArray) w ?_ (ok_put R hd (by simp only [X.vr]; exact ⟨us, rfl, g2, g4⟩) (by simp only [X.allp]; exact g3))
  have hb : c.P.built t (parts.map fun x => (x.1, a.eval x.2)).toList = some us.toArray := by
    unfold placesOf at hp
    split at hp
    · rename_i fs hu
      simp only [Program.built, hiz, hu, hiz2, hp, Array.toList_map]
      rw [← hz2, Array.toArray_toList] at g1
      simpa using g1
    · simp at hp
  simp [execOp, ho, run_build (P := c.P) w t _ _ hb]

end
end Go.Ev
