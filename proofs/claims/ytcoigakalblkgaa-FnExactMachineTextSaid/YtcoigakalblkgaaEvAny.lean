/- A region whose order is drawn: any order gives what the text's order gives. -/
import Derived.Test.YtcoigakalblkgaaEvReg
set_option linter.all false
namespace Go.Ev

/-! ### What stands ahead of what -/
def mask (acc : List Nat) : List Edge → Nat
  | [] => 0
  | e :: es => if Region.binds .any e then (mask acc es ||| 2 ^ e.on) ||| acc.getD e.on 0 else mask acc es
def befs : List Oper → List Nat → List Nat
  | [], acc => acc
  | o :: os, acc => befs os (acc ++ [mask acc o.after.toList])
def Closed (ops : Array Oper) (D : Nat → Prop) : Prop := ∀ j o, ops[j]? = some o → D j → ∀ e ∈ o.after, Region.binds .any e = true → D e.on
theorem mask_bit {acc : List Nat} {i : Nat} : ∀ {es : List Edge}, (mask acc es).testBit i = true → ∃ e ∈ es, Region.binds .any e = true ∧ (e.on = i ∨ (acc.getD e.on 0).testBit i = true)
  | [], h => by simp [mask] at h
  | e :: es, h => by
    simp only [mask] at h
    split at h
    · rename_i hb
      rw [Nat.testBit_or, Nat.testBit_or, Bool.or_eq_true, Bool.or_eq_true, Nat.testBit_two_pow] at h
      rcases h with (h | h) | h
      · obtain ⟨e', h1, h2⟩ := mask_bit h
        exact ⟨e', List.mem_cons_of_mem _ h1, h2⟩
      · exact ⟨e, by simp, hb, .inl (by simpa using h)⟩
      · exact ⟨e, by simp, hb, .inr h⟩
    · obtain ⟨e', h1, h2⟩ := mask_bit h
      exact ⟨e', List.mem_cons_of_mem _ h1, h2⟩
theorem befs_ok {ops : Array Oper} {D : Nat → Prop} (hD : Closed ops D) : ∀ (os : List Oper) (acc : List Nat), (∀ k, ops[acc.length + k]? = os[k]?) → (∀ j i, (acc.getD j 0).testBit i = true → D j → D i) → ∀ j i, ((befs os acc).getD j 0).testBit i = true → D j → D i
  | [], acc, _, ha, j, i, h, hj => ha j i h hj
  | o :: os, acc, ho, ha, j, i, h, hj => by
    simp only [befs] at h
    refine befs_ok hD os (acc ++ [mask acc o.after.toList]) (fun k => ?_) (fun j i h hj => ?_) j i h hj
    · have := ho (k + 1)
      simpa [Nat.add_assoc, Nat.add_comm 1] using this
    · rw [List.getD_eq_getElem?_getD, List.getElem?_append] at h
      split at h
      · exact ha j i (by rw [List.getD_eq_getElem?_getD]; exact h) hj
      · rename_i hlt
        by_cases he : j = acc.length
        · subst he
          simp only [Nat.sub_self, List.getElem?_cons_zero, Option.getD_some] at h
          obtain ⟨e, h1, h2, h3⟩ := mask_bit h
          have h4 : ops[acc.length]? = some o := by simpa using ho 0
          have h5 := hD _ o h4 hj e (by simpa using h1) h2
          rcases h3 with rfl | h3
          · exact h5
          · exact ha _ _ h3 h5
        · rw [List.getElem?_eq_none (by simp; omega)] at h
          simp at h

def SItem.rds (it : SItem) : List Nat := (match it.g with | some (s, _) => [s] | none => []) ++ it.o.rds
/-- The two must keep their order. -/
def SItem.tied (x y : SItem) : Bool := !x.o.quiet || !y.o.quiet || (match x.d with | some d => y.rds.contains d | none => false) || (match y.d with | some d => x.rds.contains d | none => false)
def SItem.unlike (x y : SItem) : Bool := match x.d, y.d with
  | some d, some e => d != e
  | _, _ => true
/-- Each item against those ahead of it. -/
def chkTies (bf : List Nat) : Nat → List SItem → List SItem → Bool
  | _, _, [] => true
  | j, pre, it :: l => (pre.zipIdx.all fun p => it.unlike p.1 && (!p.1.tied it || (bf.getD j 0).testBit p.2)) && chkTies bf (j + 1) (pre ++ [it]) l
def chkEdges : Nat → List Oper → Bool
  | _, [] => true
  | j, o :: os => (o.after.toList.all fun e => !Region.binds .any e || decide (e.on < j)) && chkEdges (j + 1) os
def chkAny (P : Program) (nt : Nat) (ops : Array Oper) (l : List SItem) : Bool :=
  P.follows .mixedOrders && chkItems P nt ops ops.toList l && chkEdges 0 ops.toList && chkTies (befs ops.toList []) 0 [] l

theorem chkItems_len {P : Program} {nt : Nat} {ops : Array Oper} : ∀ {os : List Oper} {l : List SItem}, chkItems P nt ops os l = true → l.length = os.length ∧ ∀ (k : Nat) (o : Oper) (it : SItem), os[k]? = some o → l[k]? = some it → it.chk P nt ops o = true
  | [], [], _ => ⟨rfl, fun k o it h => by simp at h⟩
  | o :: os, it :: l, h => by
    simp only [chkItems, Bool.and_eq_true] at h
    obtain ⟨h1, h2⟩ := chkItems_len h.2
    refine ⟨by simp [h1], fun k o' it' ho hit => ?_⟩
    cases k with
    | zero =>
      simp only [List.getElem?_cons_zero, Option.some.injEq] at ho hit
      subst ho; subst hit
      exact h.1
    | succ k => exact h2 k o' it' (by simpa using ho) (by simpa using hit)
  | [], _ :: _, h => by simp [chkItems] at h
  | _ :: _, [], h => by simp [chkItems] at h
theorem chkEdges_ok : ∀ {os : List Oper} {j : Nat}, chkEdges j os = true → ∀ (k : Nat) (o : Oper), os[k]? = some o → ∀ e ∈ o.after, Region.binds .any e = true → e.on < j + k
  | [], j, _, k, o, h => by simp at h
  | o' :: os, j, h, k, o, ho => by
    simp only [chkEdges, Bool.and_eq_true] at h
    intro e he hb
    cases k with
    | zero =>
      simp only [List.getElem?_cons_zero, Option.some.injEq] at ho
      subst ho
      have := List.all_eq_true.1 h.1 e (by simpa using he)
      simp only [hb, Bool.not_true, Bool.false_or, decide_eq_true_eq] at this
      omega
    | succ k =>
      have := chkEdges_ok h.2 k o (by simpa using ho) e he hb
      omega
theorem chkTies_ok {bf : List Nat} : ∀ {l pre : List SItem}, chkTies bf pre.length pre l = true → ∀ (i j : Nat) (x y : SItem), i < j → pre.length ≤ j → (pre ++ l)[i]? = some x → (pre ++ l)[j]? = some y →
    y.unlike x = true ∧ (x.tied y = true → (bf.getD j 0).testBit i = true)
  | [], pre, _, i, j, x, y, _, h1, _, hy => by
    rw [List.append_nil, List.getElem?_eq_none h1] at hy
    simp at hy
  | it :: l, pre, h, i, j, x, y, hij, hj, hx, hy => by
    simp only [chkTies, Bool.and_eq_true] at h
    by_cases he : j = pre.length
    · subst he
      rw [List.getElem?_append_right (Nat.le_refl _), Nat.sub_self, List.getElem?_cons_zero, Option.some.injEq] at hy
      subst hy
      rw [List.getElem?_append_left hij] at hx
      have := List.all_eq_true.1 h.1 (x, i) (by
        rw [List.mem_iff_getElem?]
        exact ⟨i, by simp [List.getElem?_zipIdx, hx]⟩)
      simp only [Bool.and_eq_true, Bool.or_eq_true, Bool.not_eq_true'] at this
      exact ⟨this.1, fun ht => this.2.resolve_left (by simp [ht])⟩
    · have h2 := h.2
      rw [show pre.length + 1 = (pre ++ [it]).length by simp] at h2
      refine chkTies_ok (pre := pre ++ [it]) h2 i j x y hij (by simp; omega) ?_ ?_
      · simpa using hx
      · simpa using hy

section
variable {C : Cl}
/-- The states of the text's order. -/
theorem opsS_states : ∀ {l : List SItem} {m : Nat} {s s' : St}, opsS C s m l = some s' → ∃ T : Nat → St, T 0 = s ∧ (∀ k it, l[k]? = some it → itS C (T k) (s.next + m + 32 * k) it = some (T (k + 1))) ∧ s' = { T l.length with next := s.next + m + 32 * l.length }
  | [], m, s, s', h => by
    simp only [opsS, Option.some.injEq] at h
    exact ⟨fun _ => s, rfl, fun k it h => by simp at h, h.symm⟩
  | it :: l, m, s, s', h => by
    simp only [opsS, bind_some_iff] at h
    obtain ⟨s1, h1, h2⟩ := h
    obtain ⟨T, h3, h4, h5⟩ := opsS_states h2
    obtain ⟨hn, _⟩ := itS_next h1
    refine ⟨fun k => match k with | 0 => s | k + 1 => T k, rfl, fun k it' hk => ?_, ?_⟩
    · cases k with
      | zero =>
        simp only [List.getElem?_cons_zero, Option.some.injEq] at hk
        subst hk
        simp only [h3]
        exact h1
      | succ k =>
        have := h4 k it' (by simpa using hk)
        rw [hn] at this
        rw [show s.next + m + 32 * (k + 1) = s.next + (m + 32) + 32 * k by omega]
        exact this
    · rw [h5, hn]
      simp only [List.length_cons]
      congr 1
      omega

def St.putO (st : St) (d : Option Nat) : Option X → St
  | some x => st.put d x
  | none => st.lose d
theorem putO_heap (st : St) (d : Option Nat) (x : Option X) : (st.putO d x).heap = st.heap ∧ (st.putO d x).fr = st.fr ∧ (st.putO d x).next = st.next := by
  cases x
  · exact ⟨st_lose_heap .., st_lose_fr .., st_lose_next ..⟩
  · exact ⟨st_put_heap .., st_put_fr .., st_put_next ..⟩
theorem putO_env (st : St) (d : Option Nat) (x : Option X) (t : Nat) : (st.putO d x).env t = if d = some t then x else st.env t := by
  cases d with
  | none => cases x <;> simp [St.putO, St.put, St.lose]
  | some d =>
    cases x <;> simp only [St.putO, St.put, St.lose, upd, Option.some.injEq] <;> by_cases h : d = t
    · subst h; simp
    · simp [h, Ne.symm h]
    · subst h; simp
    · simp [h, Ne.symm h]
theorem itS_quiet {s s' : St} {id : Nat} {it : SItem} (hq : it.o.quiet = true) (hs : itS C s id it = some s') : ∃ x : Option X, s' = s.putO it.d x ∧ ∀ s2 id2, Agree it.rds s s2 → itS C s2 id2 it = some (s2.putO it.d x) := by
  unfold itS at hs
  split at hs
  · rename_i hg
    obtain ⟨x, rfl, h2⟩ := opS_quiet hq hs
    refine ⟨some x, rfl, fun s2 id2 h => ?_⟩
    unfold itS
    rw [hg]
    exact h2 s2 id2 ⟨h.1, fun t ht => h.2 t (by simp [SItem.rds, ht])⟩
  · rename_i g b hg
    rw [bind_some_iff] at hs
    obtain ⟨t, h1, h2⟩ := hs
    have hen : ∀ s2, Agree it.rds s s2 → s2.env g = s.env g := fun s2 h => h.2 g (by simp [SItem.rds, hg])
    split at h2
    · rename_i e
      obtain ⟨x, rfl, h3⟩ := opS_quiet hq h2
      refine ⟨some x, rfl, fun s2 id2 h => ?_⟩
      unfold itS
      rw [hg]
      simp only [hen s2 h, h1, Option.bind_some, if_pos e]
      exact h3 s2 id2 ⟨h.1, fun t ht => h.2 t (by simp [SItem.rds, ht])⟩
    · rename_i e
      simp only [Option.some.injEq] at h2
      subst h2
      refine ⟨some (.tup []), rfl, fun s2 id2 h => ?_⟩
      unfold itS
      rw [hg]
      simp only [hen s2 h, h1, Option.bind_some, if_neg e]
      rfl
end

section
variable {c : Ctx} {C : Cl} {ops : Array Oper} {l : List SItem} {T : Nat → St}

/-- Where the run stands: barriers ahead of p are done, of those from p on no barrier is. -/
structure Mid (l : List SItem) (T : Nat → St) (D : Nat → Prop) (p : Nat) (s : St) : Prop where
  pre : ∀ j, j < p → D j
  bar : ∀ j it, l[j]? = some it → p ≤ j → D j → it.o.quiet = true
  heap : s.heap = (T p).heap
  fr : s.fr = (T p).fr
  nx : s.next = (T p).next
  dn : ∀ j it t, l[j]? = some it → p ≤ j → D j → it.d = some t → s.env t = (T (j + 1)).env t
  old : ∀ t, (∀ j it, l[j]? = some it → p ≤ j → D j → it.d ≠ some t) → s.env t = (T p).env t

theorem Mid.unique {D D' : Nat → Prop} {p : Nat} {s s' : St} (h : Mid l T D p s) (h' : Mid l T D' p s') (hD : ∀ j, j < l.length → (D j ↔ D' j)) : s = s' := by
  have he : s.env = s'.env := funext fun t => by
    by_cases hx : ∃ j it, l[j]? = some it ∧ p ≤ j ∧ D j ∧ it.d = some t
    · obtain ⟨j, it, h1, h2, h3, h4⟩ := hx
      have hlt := (List.getElem?_eq_some_iff.1 h1).1
      rw [h.dn j it t h1 h2 h3 h4, h'.dn j it t h1 h2 ((hD j hlt).1 h3) h4]
    · rw [h.old t (fun j it h1 h2 h3 h4 => hx ⟨j, it, h1, h2, h3, h4⟩), h'.old t (fun j it h1 h2 h3 h4 => hx ⟨j, it, h1, h2, (hD j (List.getElem?_eq_some_iff.1 h1).1).2 h3, h4⟩)]
  have h1 := h.heap.trans h'.heap.symm
  have h2 := h.fr.trans h'.fr.symm
  have h3 := h.nx.trans h'.nx.symm
  cases s; cases s'
  simp only at he h1 h2 h3
  subst he; subst h1; subst h2; subst h3
  rfl

theorem Mid.refl (p : Nat) : Mid l T (· < p) p (T p) :=
  ⟨fun _ h => h, fun j it _ h1 h2 => by omega, rfl, rfl, rfl, fun j it t _ h1 h2 => by omega, fun t _ => rfl⟩

variable (hT : ∀ k it, l[k]? = some it → ∃ n, itS C (T k) n it = some (T (k + 1))) (hun : ∀ (i j : Nat) (x y : SItem), i < j → l[i]? = some x → l[j]? = some y → y.unlike x = true)
include hun
/-- One more quiet item. -/
theorem Mid.step {D : Nat → Prop} {p : Nat} {s : St} (h : Mid l T D p s) {i : Nat} {it : SItem} (hi : l[i]? = some it) (hp : p ≤ i) (hq : it.o.quiet = true) {x : Option X} (hx : T (i + 1) = (T i).putO it.d x) {D' : Nat → Prop} (hD' : ∀ j, D' j ↔ D j ∨ j = i) :
    Mid l T D' p (s.putO it.d x) := by
  have hput := putO_heap s it.d x
  refine ⟨fun j hj => (hD' j).2 (.inl (h.pre j hj)), fun j it' h1 h2 h3 => ?_, by rw [hput.1, h.heap], by rw [hput.2.1, h.fr], by rw [hput.2.2, h.nx], fun j it' t h1 h2 h3 h4 => ?_, fun t ht => ?_⟩
  · rcases (hD' j).1 h3 with h4 | rfl
    · exact h.bar j it' h1 h2 h4
    · rw [hi] at h1
      simp only [Option.some.injEq] at h1
      subst h1
      exact hq
  · rw [putO_env]
    by_cases e : j = i
    · subst e
      rw [hi] at h1
      simp only [Option.some.injEq] at h1
      subst h1
      rw [if_pos h4, hx, putO_env, if_pos h4]
    · have hne : it.d ≠ some t := fun h5 => by
        rcases Nat.lt_or_ge i j with hlt | hge
        · have := hun i j it it' hlt hi h1
          simp [SItem.unlike, h4, h5] at this
        · have := hun j i it' it (by omega) h1 hi
          simp [SItem.unlike, h4, h5] at this
      rw [if_neg hne]
      exact h.dn j it' t h1 h2 (((hD' j).1 h3).resolve_right e) h4
  · rw [putO_env, if_neg (ht i it hi hp ((hD' i).2 (.inr rfl)))]
    exact h.old t (fun j it' h1 h2 h3 => ht j it' h1 h2 ((hD' j).2 (.inl h3)))
include hT
/-- The text's states: up to the next barrier. -/
theorem Mid.text {p : Nat} : ∀ {i : Nat}, p ≤ i → i ≤ l.length → (∀ j it, l[j]? = some it → p ≤ j → j < i → it.o.quiet = true) → Mid l T (· < i) p (T i)
  | 0, hp, _, _ => by
    have : p = 0 := by omega
    subst this
    exact Mid.refl 0
  | i + 1, hp, hi, hq => by
    by_cases e : p = i + 1
    · subst e; exact Mid.refl _
    · have ih := Mid.text (i := i) (by omega) (by omega) (fun j it h1 h2 h3 => hq j it h1 h2 (by omega))
      obtain ⟨it, hit⟩ : ∃ it, l[i]? = some it := ⟨l[i], List.getElem?_eq_getElem (by omega)⟩
      obtain ⟨n, hn⟩ := hT i it hit
      obtain ⟨x, hx, _⟩ := itS_quiet (hq i it hit (by omega) (by omega)) hn
      have := Mid.step hun ih hit (by omega) (hq i it hit (by omega) (by omega)) hx (D' := (· < i + 1)) (fun j => by omega)
      rw [← hx] at this
      exact this
end

section
variable {c : Ctx} {C : Cl} {ops : Array Oper} {l : List SItem} {T : Nat → St}
theorem any_ok (hC : CallOk c.P C) {Q : Exit → Act → World → Prop} {nx : Nat}
    (hT : ∀ k it, l[k]? = some it → itS C (T k) (nx + 32 * k) it = some (T (k + 1)))
    (hun : ∀ (i j : Nat) (x y : SItem), i < j → l[i]? = some x → l[j]? = some y → y.unlike x = true)
    (hlen : l.length = ops.size)
    (hchk : ∀ (k : Nat) (o : Oper) (it : SItem), ops[k]? = some o → l[k]? = some it → it.chk c.P c.nt ops o = true)
    (hedge : ∀ (k : Nat) (o : Oper), ops[k]? = some o → ∀ e ∈ o.after, Region.binds .any e = true → e.on < k)
    (htie : ∀ (i j : Nat) (x y : SItem), i < j → l[i]? = some x → l[j]? = some y → x.tied y = true → ∀ D, Closed ops D → D j → D i)
    (hQ : ∀ a w, Ok c (T l.length) (fun k => k < nx + 32 * l.length) a w → Q .normal a w) :
    ∀ (fuel : Nat) (listed : Array Bool) (rem : List Nat) (p : Nat) (s : St) (a : Act) (w : World), listed.size = ops.size → rem.Nodup → (∀ j, j < ops.size → (listed.getD j true = false ↔ j ∈ rem)) → rem.length ≤ fuel →
      Closed ops (fun j => listed.getD j false = true) → p ≤ l.length → Mid l T (fun j => listed.getD j false = true) p s → Ok c s (fun k => k < nx + 32 * p) a w → wpAny c.P .any ops Q fuel listed a w := by
  have hT' : ∀ k it, l[k]? = some it → ∃ n, itS C (T k) n it = some (T (k + 1)) := fun k it h => ⟨_, hT k it h⟩
  intro fuel
  have hdone : ∀ (listed : Array Bool) (p : Nat) (s : St) (a : Act) (w : World), listed.size = ops.size → (∀ j, j < ops.size → listed.getD j false = true) → p ≤ l.length → Mid l T (fun j => listed.getD j false = true) p s → Ok c s (fun k => k < nx + 32 * p) a w → Q .normal a w := by
    intro listed p s a w hsz hall hp hm ⟨γ, S, R⟩
    have h1 := Mid.text (C := C) hT' hun hp (Nat.le_refl _) (fun j it h1 h2 h3 => hm.bar j it h1 h2 (hall j (by omega)))
    have h2 := hm.unique h1 (fun j hj => ⟨fun _ => hj, fun _ => hall j (by omega)⟩)
    subst h2
    exact hQ a w ⟨γ, S, R.mono (fun k hk => by have : k < nx + 32 * p := hk; omega)⟩
  have hready : ∀ (listed : Array Bool), listed.size = ops.size → Region.ready .any ops listed = [] → ∀ j, j < ops.size → listed.getD j false = true := by
    intro listed hsz hr j
    induction j using Nat.strongRecOn with
    | _ j ih =>
      intro hj
      refine Classical.byContradiction fun hne => ?_
      have hf : listed.getD j true = false := by
        rw [Array.getD_eq_getD_getElem?, Array.getElem?_eq_getElem (by omega), Option.getD_some] at hne ⊢
        simpa using hne
      have hmem : j ∈ Region.ready .any ops listed := by
        rw [mem_ready]
        refine ⟨hf, ops[j], Array.getElem?_eq_getElem hj, fun e he hb => ?_⟩
        have := hedge j ops[j] (Array.getElem?_eq_getElem hj) e he hb
        exact ih _ this (by omega)
      rw [hr] at hmem
      simp at hmem
  induction fuel with
  | zero =>
    intro listed rem p s a w hsz hnd hrem hfu hcl hp hm hok
    have hnil : rem = [] := by cases rem with
      | nil => rfl
      | cons => simp at hfu
    subst hnil
    have hall : ∀ j, j < ops.size → listed.getD j false = true := fun j hj => by
      have := (hrem j hj)
      rw [Array.getD_eq_getD_getElem?, Array.getElem?_eq_getElem (by omega), Option.getD_some] at this ⊢
      simpa using this
    refine ⟨?_, hdone listed p s a w hsz hall hp hm hok⟩
    cases hr : Region.ready .any ops listed with
    | nil => rfl
    | cons x xs =>
      have hx : x ∈ Region.ready .any ops listed := by rw [hr]; simp
      obtain ⟨h1, o, ho, _⟩ := mem_ready.1 hx
      have := (hrem x (Array.getElem?_eq_some_iff.1 ho).1).1 h1
      simp at this
  | succ fuel ih =>
    intro listed rem p s a w hsz hnd hrem hfu hcl hp hm hok
    refine ⟨fun hr => hdone listed p s a w hsz (hready listed hsz hr) hp hm hok, fun i hi => ?_⟩
    obtain ⟨h1, o, ho, h2⟩ := mem_ready.1 hi
    have hisz := (Array.getElem?_eq_some_iff.1 ho).1
    obtain ⟨it, hit⟩ : ∃ it, l[i]? = some it := ⟨l[i]'(by omega), List.getElem?_eq_getElem (by omega)⟩
    have hir := (hrem i hisz).1 h1
    have hund : ¬ listed.getD i false = true := by
      rw [Array.getD_eq_getD_getElem?, Array.getElem?_eq_getElem (by omega), Option.getD_some] at h1 ⊢
      simp [h1]
    have hpi : p ≤ i := Nat.le_of_not_lt fun hlt => hund (hm.pre i hlt)
    -- the new set
    have hget : ∀ j, (listed.setIfInBounds i true).getD j false = true ↔ listed.getD j false = true ∨ j = i := fun j => by
      by_cases e : i = j
      · subst e
        simp [hsz, hisz]
      · rw [getD_set_ne false e]
        simp [Ne.symm e]
    have hcl' : Closed ops (fun j => (listed.setIfInBounds i true).getD j false = true) := fun j oj hj hd e he hb => by
      rcases (hget j).1 hd with h3 | rfl
      · exact (hget _).2 (.inl (hcl j oj hj h3 e he hb))
      · rw [ho] at hj
        simp only [Option.some.injEq] at hj
        subst hj
        exact (hget _).2 (.inl (h2 e he hb))
    have hdn : ∀ j, j < ops.size → (∀ D, Closed ops D → D i → D j) → j ≠ i → listed.getD j false = true := fun j _ h3 hne => ((hget j).1 (h3 _ hcl' ((hget i).2 (.inr rfl)))).resolve_right hne
    have hnot : ∀ j, (∀ D, Closed ops D → D j → D i) → ¬ listed.getD j false = true := fun j h3 h4 => hund (h3 _ hcl h4)
    have hrem' : ∀ j, j < ops.size → ((listed.setIfInBounds i true).getD j true = false ↔ j ∈ rem.erase i) := fun j hj => by
      rw [hnd.mem_erase_iff]
      by_cases e : i = j
      · subst e
        simp [hsz, hisz]
      · rw [getD_set_ne true e, hrem j hj]
        simp [Ne.symm e]
    have hfu' : (rem.erase i).length ≤ fuel := by
      rw [List.length_erase_of_mem hir]
      omega
    obtain ⟨γ, S, R⟩ := hok
    have hstep := hT i it hit
    have hbetween : ∀ j jt, l[j]? = some jt → p ≤ j → j < i → jt.o.quiet = true := fun j jt h3 h4 h5 => by
      cases hq : jt.o.quiet with
      | true => rfl
      | false =>
        have hd : listed.getD j false = true := hdn j (by omega) (htie j i jt it h5 h3 hit (by simp [SItem.tied, hq])) (by omega)
        rw [hm.bar j jt h3 h4 hd] at hq
        simp at hq
    have htext := Mid.text (C := C) hT' hun hpi (by omega) hbetween
    cases hq : it.o.quiet with
    | true =>
      obtain ⟨x, hx, hx2⟩ := itS_quiet hq hstep
      have hag : Agree it.rds (T i) s := by
        refine ⟨hm.heap.trans htext.heap.symm, fun t ht => ?_⟩
        by_cases hw : ∃ j jt, l[j]? = some jt ∧ p ≤ j ∧ j ≠ i ∧ jt.d = some t
        · obtain ⟨j, jt, h3, h4, h5, h6⟩ := hw
          rcases Nat.lt_or_ge j i with hlt | hge
          · have hd : listed.getD j false = true := hdn j (by omega) (htie j i jt it hlt h3 hit (by simp [SItem.tied, h6, ht])) h5
            rw [hm.dn j jt t h3 h4 hd h6, htext.dn j jt t h3 h4 hlt h6]
          · have hlt : i < j := by omega
            have hd : ¬ listed.getD j false = true := hnot j (htie i j it jt hlt hit h3 (by simp [SItem.tied, h6, ht]))
            have huniq : ∀ k kt, l[k]? = some kt → kt.d = some t → k = j := fun k kt h7 h8 => by
              rcases Nat.lt_trichotomy k j with h9 | h9 | h9
              · have := hun k j kt jt h9 h7 h3
                simp [SItem.unlike, h6, h8] at this
              · exact h9
              · have := hun j k jt kt h9 h3 h7
                simp [SItem.unlike, h6, h8] at this
            rw [hm.old t (fun k kt h7 _ h9 h10 => by rw [huniq k kt h7 h10] at h9; exact hd h9), htext.old t (fun k kt h7 _ h9 h10 => by rw [huniq k kt h7 h10] at h9; omega)]
        · rw [hm.old t (fun k kt h7 h8 h9 h10 => hw ⟨k, kt, h7, h8, fun e => by subst e; exact hund h9, h10⟩), htext.old t (fun k kt h7 h8 h9 h10 => hw ⟨k, kt, h7, h8, by omega, h10⟩)]
      have hrun := hx2 s (nx + 32 * i) hag
      refine item_ok R (hchk i o it ho hit) hC (U' := fun k => k < nx + 32 * p) (fun h => by rw [hq] at h; simp at h) (fun k h => h) (fun h => by rw [hq] at h; simp at h) hrun ho ?_
      intro a' w' hok'
      exact ih _ (rem.erase i) p _ a' w' (by simp [hsz]) (hnd.erase i) hrem' hfu' hcl' hp (Mid.step hun hm hit hpi hq hx hget) hok'
    | false =>
      have hbefore : ∀ j, j < i → listed.getD j false = true := fun j hj => by
        obtain ⟨jt, hjt⟩ : ∃ jt, l[j]? = some jt := ⟨l[j]'(by omega), List.getElem?_eq_getElem (by omega)⟩
        exact hdn j (by omega) (htie j i jt it hj hjt hit (by simp [SItem.tied, hq])) (by omega)
      have hafter : ∀ j, i < j → j < l.length → ¬ listed.getD j false = true := fun j hj hjl => by
        obtain ⟨jt, hjt⟩ : ∃ jt, l[j]? = some jt := ⟨l[j], List.getElem?_eq_getElem hjl⟩
        exact hnot j (htie i j it jt hj hit hjt (by simp [SItem.tied, hq]))
      have hs : s = T i := hm.unique htext (fun j hj => ⟨fun h3 => by
        rcases Nat.lt_trichotomy j i with h4 | h4 | h4
        · exact h4
        · subst h4; exact absurd h3 hund
        · exact absurd h3 (hafter j h4 hj), fun h3 => hbefore j h3⟩)
      subst hs
      refine item_ok R (hchk i o it ho hit) hC (U' := fun k => k < nx + 32 * (i + 1)) (fun _ k h3 h4 => by omega) (fun k h => by omega) (fun _ k h3 h4 => by omega) hstep ho ?_
      intro a' w' hok'
      refine ih _ (rem.erase i) (i + 1) _ a' w' (by simp [hsz]) (hnd.erase i) hrem' hfu' hcl' (by omega) ?_ hok'
      refine ⟨fun j hj => (hget j).2 ?_, fun j jt h3 h4 h5 => ?_, rfl, rfl, rfl, fun j jt t h3 h4 h5 => ?_, fun t _ => rfl⟩
      · rcases Nat.lt_or_ge j i with h | h
        · exact .inl (hbefore j h)
        · exact .inr (by omega)
      · rcases (hget j).1 h5 with h6 | h6
        · exact absurd h6 (hafter j (by omega) (List.getElem?_eq_some_iff.1 h3).1)
        · omega
      · rcases (hget j).1 h5 with h6 | h6
        · exact absurd h6 (hafter j (by omega) (List.getElem?_eq_some_iff.1 h3).1)
        · omega

theorem region_any {st st' : St} {a : Act} {w : World} (hC : CallOk c.P C) (hc : chkAny c.P c.nt ops l = true) (hs : opsS C st 0 l = some st') (hok : Okn c st a w) {Q : Exit → Act → World → Prop} (hQ : ∀ a' w', Okn c st' a' w' → Q .normal a' w') {rid : Nat} :
    (Code.region rid ops true).wp c.P Q a w := by
  unfold chkAny at hc
  simp only [Bool.and_eq_true] at hc
  obtain ⟨⟨⟨h1, h2⟩, h3⟩, h4⟩ := hc
  obtain ⟨hlen, hchk⟩ := chkItems_len h2
  simp only [Array.length_toList] at hlen
  have hgl : ∀ k : Nat, ops.toList[k]? = ops[k]? := fun k => Array.getElem?_toList
  obtain ⟨T, hT0, hT, hst⟩ := opsS_states hs
  have hties := chkTies_ok (pre := []) h4
  simp only [List.nil_append, List.length_nil, Nat.zero_le, forall_const] at hties
  refine wp_region_any h1 ?_
  obtain ⟨γ, S, R⟩ := hok
  refine any_ok (T := T) (nx := st.next) (l := l) hC (fun k it hk => by simpa using hT k it hk) (fun i j x y hij hx hy => (hties i j x y hij hx hy).1) hlen (fun k o it ho hit => hchk k o it (by rw [hgl]; exact ho) hit)
    (fun k o ho e he hb => by simpa using chkEdges_ok h3 k o (by rw [hgl]; exact ho) e he hb) (fun i j x y hij hx hy ht D hD hj => ?_) (fun a' w' hok' => ?_)
    ops.size (Array.replicate ops.size false) (List.range ops.size) 0 st a _ (by simp) List.nodup_range (fun j hj => by simp [hj]) (by simp) (fun j o hj h => ?_) (Nat.zero_le _) ?_ ⟨γ, S, (R.drew).mono (fun k hk => by simpa using hk)⟩
  · exact befs_ok hD ops.toList [] (fun k => by simp) (fun j i h => by simp at h) j i ((hties i j x y hij hx hy).2 ht) hj
  · refine hQ a' w' ?_
    rw [hst]
    obtain ⟨γ', S', R'⟩ := hok'
    exact ⟨γ', S', ⟨R'.mm, R'.os, R'.tape, R'.output, R'.size, R'.keep, R'.own, R'.hd, R'.sg, R'.s0, R'.s00, R'.env, fun t x h => by simpa using R'.ids t x h, fun id d h => by simpa using R'.hid id d h, R'.dom, R'.df, R'.sz⟩⟩
  · by_cases h5 : j < ops.size <;> simp [h5] at h
  · rw [← hT0]
    refine ⟨fun j h => by omega, fun j it hj _ h => ?_, rfl, rfl, rfl, fun j it t hj _ h => ?_, fun t _ => rfl⟩
    · by_cases h5 : j < ops.size <;> simp [h5] at h
    · by_cases h5 : j < ops.size <;> simp [h5] at h
end
end Go.Ev
