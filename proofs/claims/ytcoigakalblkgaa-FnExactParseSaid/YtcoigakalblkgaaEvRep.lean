/- What the evaluator's values mean in the model's memory: ghosts (rows with their blocks), and how they move. -/
import Derived.Test.YtcoigakalblkgaaEvLim
import Derived.Laws.AppendOwn
import Derived.Laws.NewBlocks
import Derived.Laws.Rows
import Derived.Below
set_option linter.all false
namespace Go.Ev

inductive G where
  | l (d : D) (v : Value)
  | s (sz : Nat) (b : Option (Nat × Nat)) (els : List (List G))

mutual
def G.er : G → D
  | .l d _ => d
  | .s sz _ els => .s sz (erss els)
def erss : List (List G) → List (List D)
  | [] => []
  | el :: els => ers el :: erss els
def ers : List G → List D
  | [] => []
  | g :: gs => g.er :: ers gs
end
mutual
def G.bl : G → List Nat
  | .l _ _ => []
  | .s _ b els => (match b with | some b => [b.1] | none => []) ++ blss els
def blss : List (List G) → List Nat
  | [] => []
  | el :: els => bls el ++ blss els
def bls : List G → List Nat
  | [] => []
  | g :: gs => g.bl ++ bls gs
end
def G.val : G → Value
  | .l _ v => v
  | .s _ none _ => .slice none 0 0
  | .s _ (some b) els => .slice (some ⟨b.1, 0, none⟩) els.length b.2
def vals (gs : List G) : List Value := gs.map G.val
def valss : List (List G) → List Value
  | [] => []
  | el :: els => vals el ++ valss els

mutual
/-- What is only read: the value reads so, over blocks of S alone. -/
def D.rd (w : World) (S : Nat → Prop) : D → Value → Prop
  | .v x, v => v = x ∧ x.oneCell' = true
  | .s _ els, v => ∃ A c, v = .slice A els.length c ∧ els.length ≤ c ∧ c ≤ maxLen ∧ (∃ sz, ∀ el ∈ els, el.length = sz) ∧ rdss w S A 0 els
  | .r els, v => ∃ A c, v = .slice A els.length c ∧ els.length ≤ c ∧ c ≤ maxLen ∧ (∃ sz, ∀ el ∈ els, el.length = sz) ∧ rdss w S A 0 els
  | .u, v => v.oneCell' = true
def rdss (w : World) (S : Nat → Prop) : Option Addr → Nat → List (List D) → Prop
  | _, _, [] => True
  | A, off, el :: els => (∃ a, A = some a ∧ rds w S a off el) ∧ rdss w S A (off + el.length) els
def rds (w : World) (S : Nat → Prop) : Addr → Nat → List D → Prop
  | _, _, [] => True
  | a, off, c :: cs => (∃ u, w.cell? (a.add off) = some u ∧ S a.block ∧ c.rd w S u) ∧ rds w S a (off + 1) cs
end
def D.leaf : D → Bool
  | .s _ _ => false
  | _ => true
mutual
def G.ok (w : World) (S : Nat → Prop) : G → Prop
  | .l d v => d.leaf = true ∧ d.rd w S v
  | .s sz b els => (match b with
      | none => els = []
      | some b => els.length ≤ b.2 ∧ b.2 ≤ maxLen ∧ ∃ cur e, w.heap[b.1]? = some (.cells cur e (0, 0)) ∧ cur.size = b.2 * sz ∧ cur.toList.take (els.length * sz) = valss els) ∧
      (∀ el ∈ els, el.length = sz) ∧ okss w S els
def okss (w : World) (S : Nat → Prop) : List (List G) → Prop
  | [] => True
  | el :: els => oks w S el ∧ okss w S els
def oks (w : World) (S : Nat → Prop) : List G → Prop
  | [] => True
  | g :: gs => g.ok w S ∧ oks w S gs
end

/-! ### Lists -/
theorem ers_map : ∀ gs : List G, ers gs = gs.map G.er
  | [] => by simp [ers]
  | g :: gs => by simp [ers, ers_map gs]
theorem erss_map : ∀ els : List (List G), erss els = els.map fun el => el.map G.er
  | [] => by simp [erss]
  | el :: els => by simp [erss, erss_map els, ers_map]
theorem erss_length (els : List (List G)) : (erss els).length = els.length := by simp [erss_map]
theorem ers_length (gs : List G) : (ers gs).length = gs.length := by simp [ers_map]
theorem oks_iff {w : World} {S : Nat → Prop} : ∀ {gs : List G}, oks w S gs ↔ ∀ g ∈ gs, g.ok w S
  | [] => by simp [oks]
  | g :: gs => by simp [oks, oks_iff (gs := gs)]
theorem okss_iff {w : World} {S : Nat → Prop} : ∀ {els : List (List G)}, okss w S els ↔ ∀ el ∈ els, ∀ g ∈ el, g.ok w S
  | [] => by simp [okss]
  | el :: els => by simp [okss, okss_iff (els := els), oks_iff]
theorem mem_bls {k : Nat} : ∀ {gs : List G}, k ∈ bls gs ↔ ∃ g ∈ gs, k ∈ g.bl
  | [] => by simp [bls]
  | g :: gs => by simp [bls, mem_bls (gs := gs)]
theorem mem_blss {k : Nat} : ∀ {els : List (List G)}, k ∈ blss els ↔ ∃ el ∈ els, ∃ g ∈ el, k ∈ g.bl
  | [] => by simp [blss]
  | el :: els => by simp [blss, mem_blss (els := els), mem_bls]
theorem valss_length {sz : Nat} : ∀ {els : List (List G)}, (∀ el ∈ els, el.length = sz) → (valss els).length = els.length * sz
  | [], _ => by simp [valss]
  | el :: els, h => by
    have h1 := h el (by simp)
    have h2 := valss_length (els := els) (fun e he => h e (by simp [he]))
    simp only [valss, List.length_append, vals, List.length_map, h1, h2, List.length_cons, Nat.add_mul, Nat.one_mul]
    omega
theorem valss_get {sz : Nat} : ∀ {els : List (List G)}, (∀ el ∈ els, el.length = sz) → ∀ {j i : Nat} {el : List G} {g : G}, els[j]? = some el → el[i]? = some g → (valss els)[j * sz + i]? = some g.val
  | [], _, j, i, el, g, h1, _ => by simp at h1
  | e :: els, h, j, i, el, g, h1, h2 => by
    have he := h e (by simp)
    have hi : i < sz := by
      have := h el (by
        have := List.mem_of_getElem? h1
        exact this)
      have h3 := (List.getElem?_eq_some_iff.1 h2).1
      omega
    cases j with
    | zero =>
      simp only [List.getElem?_cons_zero, Option.some.injEq] at h1
      subst h1
      simp only [valss, Nat.zero_mul, Nat.zero_add]
      rw [List.getElem?_append_left (by simp [vals]; omega)]
      simp [vals, h2]
    | succ j =>
      simp only [List.getElem?_cons_succ] at h1
      have := valss_get (els := els) (fun e he => h e (by simp [he])) h1 h2
      simp only [valss]
      rw [List.getElem?_append_right (by simp [vals, he, Nat.add_mul]; omega)]
      rw [← this]
      congr 1
      simp only [vals, List.length_map, he, Nat.add_mul, Nat.one_mul]
      omega
theorem vals_set (el : List G) (i : Nat) (c : G) : vals (el.set i c) = (vals el).set i c.val := by simp [vals, List.map_set]
theorem valss_set {sz : Nat} : ∀ {els : List (List G)}, (∀ el ∈ els, el.length = sz) → ∀ {j i : Nat} {el : List G} {c : G}, els[j]? = some el → i < sz → valss (els.set j (el.set i c)) = (valss els).set (j * sz + i) c.val
  | [], _, j, i, el, c, h1, _ => by simp at h1
  | e :: els, h, j, i, el, c, h1, hi => by
    have he := h e (by simp)
    cases j with
    | zero =>
      simp only [List.getElem?_cons_zero, Option.some.injEq] at h1
      subst h1
      simp only [List.set_cons_zero, valss, Nat.zero_mul, Nat.zero_add, vals_set]
      rw [List.set_append_left _ _ (by simp [vals]; omega)]
    | succ j =>
      simp only [List.getElem?_cons_succ] at h1
      have := valss_set (els := els) (fun e he => h e (by simp [he])) (c := c) h1 hi
      simp only [List.set_cons_succ, valss, this]
      rw [List.set_append_right _ _ (by simp [vals, he, Nat.add_mul]; omega)]
      congr 2
      simp only [vals, List.length_map, he, Nat.add_mul, Nat.one_mul]
      omega
theorem valss_append : ∀ a b : List (List G), valss (a ++ b) = valss a ++ valss b
  | [], b => by simp [valss]
  | e :: a, b => by simp [valss, valss_append a b]

/-! ### Memory stays -/
theorem World.cell_congr {w w' : World} {a : Addr} (h : w'.heap[a.block]? = w.heap[a.block]?) : w'.cell? a = w.cell? a := World.cell?_of_block h
theorem Addr.add_block (a : Addr) (n : Nat) : (a.add n).block = a.block := by unfold Addr.add; split <;> rfl
theorem Addr.add_add (a : Addr) (m n : Nat) : (a.add m).add n = a.add (m + n) := by
  unfold Addr.add
  by_cases h1 : m = 0
  · subst h1; simp
  · by_cases h2 : n = 0
    · subst h2; simp
    · simp [h1, h2, Nat.add_assoc]
mutual
theorem D.rd_congr {w w' : World} {S S' : Nat → Prop} (hS : ∀ k, S k → S' k ∧ w'.heap[k]? = w.heap[k]?) : ∀ (d : D) (v : Value), d.rd w S v → d.rd w' S' v
  | .v x, v, h => by simpa only [D.rd] using h
  | .s sz els, v, h => by
    simp only [D.rd] at h ⊢
    obtain ⟨A, c, h1, h2, h3, h4, h5⟩ := h
    exact ⟨A, c, h1, h2, h3, h4, rdss_congr hS els A 0 h5⟩
  | .r els, v, h => by
    simp only [D.rd] at h ⊢
    obtain ⟨A, c, h1, h2, h3, h4, h5⟩ := h
    exact ⟨A, c, h1, h2, h3, h4, rdss_congr hS els A 0 h5⟩
  | .u, v, h => by simpa only [D.rd] using h
theorem rdss_congr {w w' : World} {S S' : Nat → Prop} (hS : ∀ k, S k → S' k ∧ w'.heap[k]? = w.heap[k]?) : ∀ (els : List (List D)) (A : Option Addr) (off : Nat), rdss w S A off els → rdss w' S' A off els
  | [], A, off, h => by simp only [rdss]
  | el :: els, A, off, h => by
    simp only [rdss] at h ⊢
    obtain ⟨⟨a, ha, h1⟩, h2⟩ := h
    exact ⟨⟨a, ha, rds_congr hS el a off h1⟩, rdss_congr hS els A _ h2⟩
theorem rds_congr {w w' : World} {S S' : Nat → Prop} (hS : ∀ k, S k → S' k ∧ w'.heap[k]? = w.heap[k]?) : ∀ (cs : List D) (a : Addr) (off : Nat), rds w S a off cs → rds w' S' a off cs
  | [], a, off, h => by simp only [rds]
  | c :: cs, a, off, h => by
    simp only [rds] at h ⊢
    obtain ⟨⟨u, h1, h2, h3⟩, h4⟩ := h
    refine ⟨⟨u, ?_, (hS _ h2).1, D.rd_congr hS c u h3⟩, rds_congr hS cs a _ h4⟩
    rw [World.cell_congr (w := w) (by rw [Addr.add_block]; exact (hS _ h2).2)]
    exact h1
end
mutual
theorem G.ok_congr {w w' : World} {S S' : Nat → Prop} (hS : ∀ k, S k → S' k ∧ w'.heap[k]? = w.heap[k]?) : ∀ (g : G), (∀ k ∈ g.bl, w'.heap[k]? = w.heap[k]?) → g.ok w S → g.ok w' S'
  | .l d v, _, h => by
    simp only [G.ok] at h ⊢
    exact ⟨h.1, D.rd_congr hS d v h.2⟩
  | .s sz b els, hb, h => by
    simp only [G.ok] at h ⊢
    simp only [G.bl] at hb
    obtain ⟨h1, h2, h3⟩ := h
    refine ⟨?_, h2, okss_congr hS els (fun k hk => hb k (List.mem_append_right _ hk)) h3⟩
    cases b with
    | none => exact h1
    | some b =>
      obtain ⟨h4, h5, cur, e, h6, h7⟩ := h1
      exact ⟨h4, h5, cur, e, (hb b.1 (by simp)).trans h6, h7⟩
theorem okss_congr {w w' : World} {S S' : Nat → Prop} (hS : ∀ k, S k → S' k ∧ w'.heap[k]? = w.heap[k]?) : ∀ (els : List (List G)), (∀ k ∈ blss els, w'.heap[k]? = w.heap[k]?) → okss w S els → okss w' S' els
  | [], _, h => by simp only [okss]
  | el :: els, hb, h => by
    simp only [okss, blss] at h hb ⊢
    exact ⟨oks_congr hS el (fun k hk => hb k (List.mem_append_left _ hk)) h.1, okss_congr hS els (fun k hk => hb k (List.mem_append_right _ hk)) h.2⟩
theorem oks_congr {w w' : World} {S S' : Nat → Prop} (hS : ∀ k, S k → S' k ∧ w'.heap[k]? = w.heap[k]?) : ∀ (gs : List G), (∀ k ∈ bls gs, w'.heap[k]? = w.heap[k]?) → oks w S gs → oks w' S' gs
  | [], _, h => by simp only [oks]
  | g :: gs, hb, h => by
    simp only [oks, bls] at h hb ⊢
    exact ⟨G.ok_congr hS g (fun k hk => hb k (List.mem_append_left _ hk)) h.1, oks_congr hS gs (fun k hk => hb k (List.mem_append_right _ hk)) h.2⟩
end
/-- A row's blocks lie in memory. -/
theorem G.ok_lt {w : World} {S : Nat → Prop} : ∀ (g : G), g.ok w S → ∀ k ∈ g.bl, k < w.heap.size := by
  intro g
  refine G.rec (motive_1 := fun g => g.ok w S → ∀ k ∈ g.bl, k < w.heap.size) (motive_2 := fun els => okss w S els → ∀ k ∈ blss els, k < w.heap.size) (motive_3 := fun gs => oks w S gs → ∀ k ∈ bls gs, k < w.heap.size) ?_ ?_ ?_ ?_ ?_ ?_ g
  · intro d v _ k hk
    simp [G.bl] at hk
  · intro sz b els ih h k hk
    simp only [G.ok] at h
    simp only [G.bl, List.mem_append] at hk
    rcases hk with hk | hk
    · cases b with
      | none => simp at hk
      | some b =>
        obtain ⟨h1, h2, cur, e, h3, h4⟩ := h.1
        simp only [List.mem_singleton] at hk
        subst hk
        exact (Array.getElem?_eq_some_iff.1 h3).1
    · exact ih h.2.2 k hk
  · intro _ k hk
    simp [blss] at hk
  · intro el els h1 h2 h k hk
    simp only [okss] at h
    simp only [blss, List.mem_append] at hk
    exact hk.elim (h1 h.1 k) (h2 h.2 k)
  · intro _ k hk
    simp [bls] at hk
  · intro g gs h1 h2 h k hk
    simp only [oks] at h
    simp only [bls, List.mem_append] at hk
    exact hk.elim (h1 h.1 k) (h2 h.2 k)

/-! ### Places -/
def G.nav : G → Path → Option G
  | g, [] => some g
  | g, (j, i) :: p => match g with
    | .s _ _ els => (els[j]?).bind fun el => (el[i]?).bind fun c => c.nav p
    | _ => none
def G.put : G → Path → G → Option G
  | _, [], x => some x
  | g, (j, i) :: p, x => match g with
    | .s sz b els => (els[j]?).bind fun el => (el[i]?).bind fun c => (c.put p x).map fun c' => .s sz b (els.set j (el.set i c'))
    | _ => none
theorem G.nav_er : ∀ (p : Path) (g : G), (∀ d v, g = .l d v → d.leaf = true) → True := fun _ _ _ => trivial
theorem nav_er {w : World} {S : Nat → Prop} : ∀ (p : Path) (g : G), g.ok w S → g.er.nav p = (g.nav p).map G.er
  | [], g, _ => by simp [D.nav, G.nav]
  | (j, i) :: p, .l d v, h => by
    simp only [G.ok] at h
    cases d <;> simp_all [D.leaf, D.nav, G.nav, G.er]
  | (j, i) :: p, .s sz b els, h => by
    simp only [G.ok] at h
    simp only [G.er, D.nav, G.nav, erss_map, List.getElem?_map]
    cases h1 : els[j]? with
    | none => simp
    | some el =>
      simp only [Option.map_some, Option.bind_some, List.getElem?_map]
      cases h2 : el[i]? with
      | none => simp
      | some c =>
        simp only [Option.map_some, Option.bind_some]
        exact nav_er p c (okss_iff.1 h.2.2 el (List.mem_of_getElem? h1) c (List.mem_of_getElem? h2))
theorem put_er {w : World} {S : Nat → Prop} : ∀ (p : Path) (g x : G), g.ok w S → g.er.put p x.er = (g.put p x).map G.er
  | [], g, x, _ => by simp [D.put, G.put]
  | (j, i) :: p, .l d v, x, h => by
    simp only [G.ok] at h
    cases d <;> simp_all [D.leaf, D.put, G.put, G.er]
  | (j, i) :: p, .s sz b els, x, h => by
    simp only [G.ok] at h
    simp only [G.er, D.put, G.put, erss_map, List.getElem?_map]
    cases h1 : els[j]? with
    | none => simp
    | some el =>
      simp only [Option.map_some, Option.bind_some, List.getElem?_map]
      cases h2 : el[i]? with
      | none => simp
      | some c =>
        simp only [Option.map_some, Option.bind_some]
        rw [put_er p c x (okss_iff.1 h.2.2 el (List.mem_of_getElem? h1) c (List.mem_of_getElem? h2))]
        cases c.put p x with
        | none => simp
        | some c' => simp [G.er, erss_map, List.map_set]
theorem nav_ok {w : World} {S : Nat → Prop} : ∀ (p : Path) (g g' : G), g.ok w S → g.nav p = some g' → g'.ok w S
  | [], g, g', h, hn => by
    simp only [G.nav, Option.some.injEq] at hn
    subst hn
    exact h
  | (j, i) :: p, .l d v, g', h, hn => by simp [G.nav] at hn
  | (j, i) :: p, .s sz b els, g', h, hn => by
    simp only [G.nav, bind_some_iff] at hn
    obtain ⟨el, h1, c, h2, h3⟩ := hn
    simp only [G.ok] at h
    exact nav_ok p c g' (okss_iff.1 h.2.2 el (List.mem_of_getElem? h1) c (List.mem_of_getElem? h2)) h3
theorem nav_bl : ∀ (p : Path) (g g' : G), g.nav p = some g' → ∀ k ∈ g'.bl, k ∈ g.bl
  | [], g, g', hn, k, hk => by
    simp only [G.nav, Option.some.injEq] at hn
    subst hn
    exact hk
  | (j, i) :: p, .l d v, g', hn, k, hk => by simp [G.nav] at hn
  | (j, i) :: p, .s sz b els, g', hn, k, hk => by
    simp only [G.nav, bind_some_iff] at hn
    obtain ⟨el, h1, c, h2, h3⟩ := hn
    simp only [G.bl, List.mem_append]
    exact .inr (mem_blss.2 ⟨el, List.mem_of_getElem? h1, c, List.mem_of_getElem? h2, nav_bl p c g' h3 k hk⟩)
theorem nav_append : ∀ (p q : Path) (g : G), g.nav (p ++ q) = (g.nav p).bind fun g' => g'.nav q
  | [], q, g => by simp [G.nav]
  | (j, i) :: p, q, .l d v => by simp [G.nav]
  | (j, i) :: p, q, .s sz b els => by
    simp only [List.cons_append, G.nav]
    cases els[j]? with
    | none => simp
    | some el =>
      simp only [Option.bind_some]
      cases el[i]? with
      | none => simp
      | some c => simp [nav_append p q c]

end Go.Ev
