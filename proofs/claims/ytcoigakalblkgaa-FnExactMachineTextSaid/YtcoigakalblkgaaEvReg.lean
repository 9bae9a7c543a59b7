/- Regions: in the text's order; in any order. -/
import Derived.Test.YtcoigakalblkgaaEvKeep
set_option linter.all false
namespace Go.Ev

section
variable {c : Ctx} {st st' : St} {U : Nat → Prop} {γ : Gm} {S : Nat → Prop} {a : Act} {w : World} {C : Cl} {o : Oper} {n : Nat}

def SItem.chk (P : Program) (nt : Nat) (ops : Array Oper) (o : Oper) (it : SItem) : Bool :=
  decide (o.dst = it.d) && (match o.dst with | some k => decide (k < nt) | none => true) && chkOp P o it.o && (match o.guard, it.g with
   | none, none => true
   | some (j, b), some (s, b') => decide (b = b') && (match ops[j]? with | some oj => decide (oj.dst = some s) | none => false)
   | _, _ => false)

theorem gX_of {x : X} {t : Option Bool} (h : gX x = some t) : (∃ b, x = .d (.v (.bool b)) ∧ t = some b) ∨ (x = .tup [] ∧ t = none) := by
  unfold gX at h
  split at h
  · simp only [Option.some.injEq] at h; exact .inl ⟨_, rfl, h.symm⟩
  · simp only [Option.some.injEq] at h; exact .inr ⟨rfl, h.symm⟩
  · simp at h
theorem item_ok (R : Rep c st U γ S a w) {ops : Array Oper} {it : SItem} (hc : it.chk c.P c.nt ops o = true) (hC : CallOk c.P C) (hn : it.o.quiet = false → ∀ k, n ≤ k → k < n + 32 → ¬ U k) {U' : Nat → Prop} (hU0 : ∀ k, U k → U' k) (hU : it.o.quiet = false → ∀ k, n ≤ k → k < n + 32 → U' k)
    (hs : itS C st n it = some st') {i : Nat} (hi : ops[i]? = some o) {K : Act → World → Prop} {Q : Exit → Act → World → Prop} (hK : ∀ a' w', Ok c st' U' a' w' → K a' w') : wpOp c.P ops Q i K a w := by
  unfold SItem.chk at hc
  simp only [Bool.and_eq_true, decide_eq_true_eq] at hc
  obtain ⟨⟨⟨h1, h2⟩, h3⟩, h4⟩ := hc
  have hd : ∀ k, o.dst = some k → k < c.nt := fun k hk => by rw [hk] at h2; simpa using h2
  unfold wpOp
  rw [hi]
  simp only
  have hrun : opS C st it.d n it.o = some st' → o.wp c.P a w K Q := fun h => (chkOp_ok R hd h3 hC hn hU0 hU (by rw [h1]; exact h)).wp hK
  unfold itS at hs
  split at hs
  · rename_i hg
    have hw : Region.wanted o (yielded ops a.tmps) = true := by
      unfold Region.wanted
      rw [hg] at h4
      cases hog : o.guard with
      | none => rfl
      | some x => rw [hog] at h4; simp at h4
    rw [if_pos hw]
    exact .inl (hrun hs)
  · rename_i s b hg
    rw [bind_some_iff] at hs
    obtain ⟨t, h5, h6⟩ := hs
    rw [bind_some_iff] at h5
    obtain ⟨x, h7, h8⟩ := h5
    have hv := R.env s x h7
    rw [hg] at h4
    cases hog : o.guard with
    | none => rw [hog] at h4; simp at h4
    | some y =>
      obtain ⟨j, b2⟩ := y
      rw [hog] at h4
      simp only [Bool.and_eq_true, decide_eq_true_eq] at h4
      obtain ⟨rfl, h9⟩ := h4
      have hyld : yielded ops a.tmps j = t := by
        unfold yielded
        cases hoj : ops[j]? with
        | none => rw [hoj] at h9; simp at h9
        | some oj =>
          rw [hoj] at h9
          simp only [decide_eq_true_eq] at h9
          simp only [Option.bind_some, h9]
          rcases gX_of h8 with ⟨b3, rfl, rfl⟩ | ⟨rfl, rfl⟩
          · simp only [X.vr] at hv
            have h10 := hv.1
            cases hsz : a.tmps[s]? with
            | none =>
              simp only [Array.getD_eq_getD_getElem?, hsz, Option.getD_none] at h10
              simp [undef] at h10
            | some u =>
              simp only [Array.getD_eq_getD_getElem?, hsz, Option.getD_some] at h10
              subst h10
              rfl
          · simp only [X.vr] at hv
            obtain ⟨vs, h10, _⟩ := hv
            cases hsz : a.tmps[s]? with
            | none => rfl
            | some u =>
              simp only [Array.getD_eq_getD_getElem?, hsz, Option.getD_some] at h10
              subst h10
              rfl
      have hw : Region.wanted o (yielded ops a.tmps) = decide (t = some b2) := by
        unfold Region.wanted
        rw [hog]
        simp only [hyld]
        cases t with
        | none => rfl
        | some t => cases t <;> cases b2 <;> rfl
      rw [hw]
      split at h6
      · rename_i e
        rw [if_pos (by simpa using e)]
        exact .inl (hrun h6)
      · rename_i e
        rw [if_neg (by simpa using e)]
        simp only [Option.some.injEq] at h6
        subst h6
        refine hK _ _ ?_
        rw [← h1]
        exact ⟨γ, S, (R.put hd (x := .tup []) (v := undef) (by simp only [X.vr]; exact ⟨[], rfl, by simp only [vrs]⟩) (by simp only [X.allp, allps])).mono hU0⟩

theorem storeL_next {st st' : St} {n : Nat} {x : X} {cs : List X} (h : storeL st n x cs = some st') : st'.next = st.next ∧ st'.fr = st.fr := by
  unfold storeL at h
  split at h
  · rw [bind_some_iff] at h
    obtain ⟨b, _, h⟩ := h
    split at h
    · simp only [bind_some_iff] at h
      obtain ⟨r, _, el, _, h⟩ := h
      split at h
      · rw [map_some_iff] at h
        obtain ⟨h', _, rfl⟩ := h
        exact ⟨rfl, rfl⟩
      · simp at h
    · simp at h
  · simp at h
theorem landed_next {st st' : St} {d : Option Nat} {id : Nat} {x : X} {h : Heap} (hl : landed st d id x h = some st') : st'.next = st.next ∧ st'.fr = st.fr := by
  unfold landed at hl
  split at hl
  · simp only [Option.some.injEq] at hl
    subst hl
    rw [st_put_next, st_put_fr]
    exact ⟨rfl, rfl⟩
  · simp at hl

/-! ### What a quiet operation reads -/
def O.rd : O → List Nat
  | .t n => [n]
  | _ => []
def rdOo : Option O → List Nat
  | some o => o.rd
  | none => []
def rdsO : List O → List Nat
  | [] => []
  | x :: xs => x.rd ++ rdsO xs
def SOp.rds : SOp → List Nat
  | .mov x => x.rd
  | .pick c a b => c.rd ++ a.rd ++ b.rd
  | .ari _ x y => x.rd ++ y.rd
  | .cmp _ x y => x.rd ++ y.rd
  | .cmpb _ x y => x.rd ++ y.rd
  | .cat x y => x.rd ++ y.rd
  | .neg x => x.rd
  | .not x => x.rd
  | .conv _ x => x.rd
  | .rune x => x.rd
  | .sob x => x.rd
  | .fld _ _ x => x.rd
  | .faddr _ x => x.rd
  | .ixa _ x i => x.rd ++ i.rd
  | .ixs x i => x.rd ++ i.rd
  | .load _ x => x.rd
  | .store _ x y => x.rd ++ y.rd
  | .box _ x => x.rd
  | .mm _ x y => x.rd ++ y.rd
  | .eqa _ _ x y => x.rd ++ y.rd
  | .vbox _ x => x.rd
  | .alloc _ => []
  | .build _ ps => rdsO (ps.map fun p => p.2.2)
  | .lit _ ps => rdsO ps
  | .mk _ _ _ n => n.rd
  | .cutr _ x lo hi => x.rd ++ rdOo lo ++ rdOo hi
  | .cutS x lo hi => x.rd ++ rdOo lo ++ rdOo hi
  | .len x => x.rd
  | .slen x => x.rd
  | .app _ _ x y => x.rd ++ y.rd
  | .fn _ caps => rdsO caps
  | .callr _ xs => rdsO xs
  | .call _ xs => rdsO xs
  | .calli f xs => f.rd ++ rdsO xs
  | .callb _ xs _ => rdsO xs
  | .ext x _ => x.rd
  | .nck x => x.rd

def Agree (l : List Nat) (s s2 : St) : Prop := s2.heap = s.heap ∧ ∀ t ∈ l, s2.env t = s.env t
section
variable {s s2 : St}
theorem rdO_ag {x : O} {l : List Nat} (h : Agree l s s2) (hl : ∀ t ∈ x.rd, t ∈ l) : rdO s2 x = rdO s x := by
  cases x with
  | t n => simp only [rdO]; exact h.2 n (hl n (by simp [O.rd]))
  | _ => rfl
theorem rdI_ag {x : O} {l : List Nat} (h : Agree l s s2) (hl : ∀ t ∈ x.rd, t ∈ l) : rdI s2 x = rdI s x := by unfold rdI; rw [rdO_ag h hl]
theorem rdB_ag {x : O} {l : List Nat} (h : Agree l s s2) (hl : ∀ t ∈ x.rd, t ∈ l) : rdB s2 x = rdB s x := by unfold rdB; rw [rdO_ag h hl]
theorem rdS_ag {x : O} {l : List Nat} (h : Agree l s s2) (hl : ∀ t ∈ x.rd, t ∈ l) : rdS s2 x = rdS s x := by unfold rdS; rw [rdO_ag h hl]
theorem rdOs_ag {l : List Nat} (h : Agree l s s2) : ∀ {xs : List O}, (∀ t ∈ rdsO xs, t ∈ l) → rdOs s2 xs = rdOs s xs
  | [], _ => rfl
  | x :: xs, hl => by
    simp only [rdOs, rdO_ag h (x := x) (fun t ht => hl t (by simp [rdsO, ht])), rdOs_ag h (xs := xs) (fun t ht => hl t (by simp [rdsO, ht]))]
theorem fillX_ag {l : List Nat} (h : Agree l s s2) : ∀ {ps : List (Nat × Nat × O)} {cs : List X}, (∀ t ∈ rdsO (ps.map fun p => p.2.2), t ∈ l) → fillX s2 cs ps = fillX s cs ps
  | [], cs, _ => rfl
  | (off, n, o) :: ps, cs, hl => by
    simp only [fillX, rdO_ag h (x := o) (fun t ht => hl t (by simp [rdsO, ht]))]
    congr 1; funext x; congr 1; funext us
    split
    · exact fillX_ag h (fun t ht => hl t (by simp only [List.map_cons, rdsO, List.mem_append]; exact .inr ht))
    · rfl
theorem bound_ag {l : List Nat} (h : Agree l s s2) {d : Int} {x : Option O} (hl : ∀ t ∈ rdOo x, t ∈ l) : bound s2 d x = bound s d x := by
  cases x with
  | none => rfl
  | some x => simp only [bound, rdI_ag h (x := x) (fun t ht => hl t ht)]
end

theorem opS_quiet {s s' : St} {d : Option Nat} {id : Nat} {o : SOp} (hq : o.quiet = true) (hs : opS C s d id o = some s') : ∃ x, s' = s.put d x ∧ ∀ s2 id2, Agree o.rds s s2 → opS C s2 d id2 o = some (s2.put d x) := by
  cases o with
  | mov x =>
    simp only [opS, map_some_iff] at hs
    obtain ⟨y, h1, rfl⟩ := hs
    exact ⟨y, rfl, fun s2 id2 h => by simp only [opS, rdO_ag h (x := x) (fun t ht => ht), h1, Option.map_some]⟩
  | pick x1 x2 x3 =>
    simp only [opS, bind_some_iff] at hs
    obtain ⟨b, h1, h2⟩ := hs
    split at h2
    · rename_i hb
      rw [map_some_iff] at h2
      obtain ⟨y, h3, rfl⟩ := h2
      exact ⟨y, rfl, fun s2 id2 h => by simp only [opS, rdB_ag h (x := x1) (fun t ht => by simp [SOp.rds, ht]), rdO_ag h (x := x2) (fun t ht => by simp [SOp.rds, ht]), h1, h3, Option.map_some, Option.bind_some, if_pos hb]⟩
    · rename_i hb
      rw [map_some_iff] at h2
      obtain ⟨y, h3, rfl⟩ := h2
      exact ⟨y, rfl, fun s2 id2 h => by simp only [opS, rdB_ag h (x := x1) (fun t ht => by simp [SOp.rds, ht]), rdO_ag h (x := x3) (fun t ht => by simp [SOp.rds, ht]), h1, h3, Option.map_some, Option.bind_some, if_neg hb]⟩
  | ari b x y =>
    simp only [opS, bind_some_iff] at hs
    obtain ⟨m, h1, k, h2, h3⟩ := hs
    split at h3
    · rename_i e
      rw [map_some_iff] at h3
      obtain ⟨z, h4, rfl⟩ := h3
      exact ⟨_, rfl, fun s2 id2 h => by simp only [opS, rdI_ag h (x := x) (fun t ht => by simp [SOp.rds, ht]), rdI_ag h (x := y) (fun t ht => by simp [SOp.rds, ht]), h1, h2, Option.bind_some, if_pos e, h4, Option.map_some]⟩
    · simp at h3
  | cmp b x y =>
    simp only [opS, bind_some_iff, map_some_iff] at hs
    obtain ⟨m, h1, k, h2, z, h3, rfl⟩ := hs
    exact ⟨_, rfl, fun s2 id2 h => by simp only [opS, rdO_ag h (x := x) (fun t ht => by simp [SOp.rds, ht]), rdO_ag h (x := y) (fun t ht => by simp [SOp.rds, ht]), h1, h2, h3, Option.bind_some, Option.map_some]⟩
  | cmpb b x y =>
    simp only [opS, bind_some_iff, map_some_iff] at hs
    obtain ⟨m, h1, k, h2, z, h3, rfl⟩ := hs
    exact ⟨_, rfl, fun s2 id2 h => by simp only [opS, rdB_ag h (x := x) (fun t ht => by simp [SOp.rds, ht]), rdB_ag h (x := y) (fun t ht => by simp [SOp.rds, ht]), h1, h2, h3, Option.bind_some, Option.map_some]⟩
  | cat x y =>
    simp only [opS, bind_some_iff] at hs
    obtain ⟨m, h1, k, h2, h3⟩ := hs
    split at h3
    · rename_i e
      simp only [Option.some.injEq] at h3
      subst h3
      exact ⟨_, rfl, fun s2 id2 h => by simp only [opS, rdS_ag h (x := x) (fun t ht => by simp [SOp.rds, ht]), rdS_ag h (x := y) (fun t ht => by simp [SOp.rds, ht]), h1, h2, Option.bind_some, if_pos e]⟩
    · simp at h3
  | neg x =>
    simp only [opS, map_some_iff] at hs
    obtain ⟨y, h1, rfl⟩ := hs
    exact ⟨_, rfl, fun s2 id2 h => by simp only [opS, rdI_ag h (x := x) (fun t ht => ht), h1, Option.map_some]⟩
  | not x =>
    simp only [opS, map_some_iff] at hs
    obtain ⟨y, h1, rfl⟩ := hs
    exact ⟨_, rfl, fun s2 id2 h => by simp only [opS, rdB_ag h (x := x) (fun t ht => ht), h1, Option.map_some]⟩
  | conv k x =>
    simp only [opS, map_some_iff] at hs
    obtain ⟨y, h1, rfl⟩ := hs
    exact ⟨_, rfl, fun s2 id2 h => by simp only [opS, rdI_ag h (x := x) (fun t ht => ht), h1, Option.map_some]⟩
  | rune x =>
    simp only [opS, map_some_iff] at hs
    obtain ⟨y, h1, rfl⟩ := hs
    exact ⟨_, rfl, fun s2 id2 h => by simp only [opS, rdI_ag h (x := x) (fun t ht => ht), h1, Option.map_some]⟩
  | sob x =>
    simp only [opS, bind_some_iff] at hs
    obtain ⟨y, h1, ns, h2, h3⟩ := hs
    split at h3
    · simp at h3
    · rename_i e
      simp only [Option.some.injEq] at h3
      subst h3
      exact ⟨_, rfl, fun s2 id2 h => by simp only [opS, rdO_ag h (x := x) (fun t ht => ht), h.1, h1, h2, Option.bind_some, if_neg e]⟩
  | fld off k x =>
    simp only [opS, bind_some_iff] at hs
    obtain ⟨y, h1, h2⟩ := hs
    split at h2
    · rw [map_some_iff] at h2
      obtain ⟨z, h3, rfl⟩ := h2
      exact ⟨_, rfl, fun s2 id2 h => by simp only [opS, rdO_ag h (x := x) (fun t ht => ht), h1, Option.bind_some, h3, Option.map_some]⟩
    · simp at h2
  | faddr off x =>
    simp only [opS, bind_some_iff, map_some_iff] at hs
    obtain ⟨y, h1, z, h2, rfl⟩ := hs
    exact ⟨_, rfl, fun s2 id2 h => by simp only [opS, rdO_ag h (x := x) (fun t ht => ht), h1, Option.bind_some, h2, Option.map_some]⟩
  | ixa sz x i =>
    simp only [opS, bind_some_iff, map_some_iff] at hs
    obtain ⟨y, h1, m, h2, z, h3, rfl⟩ := hs
    exact ⟨_, rfl, fun s2 id2 h => by simp only [opS, rdO_ag h (x := x) (fun t ht => by simp [SOp.rds, ht]), rdI_ag h (x := i) (fun t ht => by simp [SOp.rds, ht]), h.1, h1, h2, h3, Option.bind_some, Option.map_some]⟩
  | ixs x i =>
    simp only [opS, bind_some_iff] at hs
    obtain ⟨y, h1, m, h2, h3⟩ := hs
    split at h3
    · rename_i e
      rw [map_some_iff] at h3
      obtain ⟨z, h4, rfl⟩ := h3
      exact ⟨_, rfl, fun s2 id2 h => by simp only [opS, rdS_ag h (x := x) (fun t ht => by simp [SOp.rds, ht]), rdI_ag h (x := i) (fun t ht => by simp [SOp.rds, ht]), h1, h2, Option.bind_some, if_pos e, h4, Option.map_some]⟩
    · simp at h3
  | load k x =>
    simp only [opS, bind_some_iff, map_some_iff] at hs
    obtain ⟨y, h1, cs, h2, z, h3, rfl⟩ := hs
    exact ⟨_, rfl, fun s2 id2 h => by simp only [opS, rdO_ag h (x := x) (fun t ht => ht), h.1, h1, h2, h3, Option.bind_some, Option.map_some]⟩
  | store => simp [SOp.quiet] at hq
  | box => simp [SOp.quiet] at hq
  | mm mx x y =>
    simp only [opS, bind_some_iff] at hs
    obtain ⟨m, h1, k, h2, h3⟩ := hs
    split at h3
    · rename_i e
      simp only [Option.some.injEq] at h3
      subst h3
      exact ⟨_, rfl, fun s2 id2 h => by simp only [opS, rdI_ag h (x := x) (fun t ht => by simp [SOp.rds, ht]), rdI_ag h (x := y) (fun t ht => by simp [SOp.rds, ht]), h1, h2, Option.bind_some, if_pos e]⟩
    · simp at h3
  | eqa ng n x y =>
    simp only [opS, bind_some_iff] at hs
    obtain ⟨m, h1, k, h2, cs, h3, ds, h4, z, h5, h6⟩ := hs
    split at h6
    case isFalse => simp at h6
    rename_i e
    simp only [Option.some.injEq] at h6
    subst h6
    exact ⟨_, rfl, fun s2 id2 h => by simp only [opS, rdO_ag h (x := x) (fun t ht => by simp [SOp.rds, ht]), rdO_ag h (x := y) (fun t ht => by simp [SOp.rds, ht]), h1, h2, h3, h4, h5, Option.bind_some, if_pos e]⟩
  | vbox k x =>
    simp only [opS, bind_some_iff] at hs
    obtain ⟨y, h1, cs, h2, h3⟩ := hs
    split at h3
    · rename_i e
      simp only [Option.some.injEq] at h3
      subst h3
      exact ⟨_, rfl, fun s2 id2 h => by simp only [opS, rdO_ag h (x := x) (fun t ht => ht), h1, h2, Option.bind_some, if_pos e]⟩
    · simp at h3
  | alloc => simp [SOp.quiet] at hq
  | build zs ps =>
    simp only [opS, map_some_iff] at hs
    obtain ⟨cs, h1, rfl⟩ := hs
    exact ⟨_, rfl, fun s2 id2 h => by simp only [opS, fillX_ag h (fun t ht => ht), h1, Option.map_some]⟩
  | lit => simp [SOp.quiet] at hq
  | mk => simp [SOp.quiet] at hq
  | cutr sz x lo hi =>
    simp only [opS, bind_some_iff] at hs
    obtain ⟨y, h1, h2⟩ := hs
    split at h2
    · simp only [bind_some_iff] at h2
      obtain ⟨l, h3, k, h4, h5⟩ := h2
      split at h5
      · rename_i e
        simp only [Option.some.injEq] at h5
        subst h5
        exact ⟨_, rfl, fun s2 id2 h => by simp only [opS, rdO_ag h (x := x) (fun t ht => by simp [SOp.rds, ht]), bound_ag h (x := lo) (fun t ht => by simp [SOp.rds, ht]), bound_ag h (x := hi) (fun t ht => by simp [SOp.rds, ht]), h1, h3, h4, Option.bind_some, if_pos e]⟩
      · simp at h5
    · simp at h2
  | cutS x lo hi =>
    simp only [opS, bind_some_iff] at hs
    obtain ⟨y, h1, l, h3, k, h4, h5⟩ := hs
    split at h5
    · rename_i e
      simp only [Option.some.injEq] at h5
      subst h5
      exact ⟨_, rfl, fun s2 id2 h => by simp only [opS, rdS_ag h (x := x) (fun t ht => by simp [SOp.rds, ht]), bound_ag h (x := lo) (fun t ht => by simp [SOp.rds, ht]), bound_ag h (x := hi) (fun t ht => by simp [SOp.rds, ht]), h1, h3, h4, Option.bind_some, if_pos e]⟩
    · simp at h5
  | len x =>
    simp only [opS, bind_some_iff, map_some_iff] at hs
    obtain ⟨y, h1, m, h2, rfl⟩ := hs
    exact ⟨_, rfl, fun s2 id2 h => by simp only [opS, rdO_ag h (x := x) (fun t ht => ht), h.1, h1, h2, Option.bind_some, Option.map_some]⟩
  | slen x =>
    simp only [opS, map_some_iff] at hs
    obtain ⟨y, h1, rfl⟩ := hs
    exact ⟨_, rfl, fun s2 id2 h => by simp only [opS, rdS_ag h (x := x) (fun t ht => ht), h1, Option.map_some]⟩
  | app => simp [SOp.quiet] at hq
  | fn f caps =>
    simp only [opS, map_some_iff] at hs
    obtain ⟨y, h1, rfl⟩ := hs
    exact ⟨_, rfl, fun s2 id2 h => by simp only [opS, rdOs_ag h (xs := caps) (fun t ht => ht), h1, Option.map_some]⟩
  | callr f xs =>
    simp only [opS, bind_some_iff] at hs
    obtain ⟨as, h1, bs, h2, r, h3, h4⟩ := hs
    split at h4
    · rename_i e
      simp only [Option.some.injEq] at h4
      subst h4
      exact ⟨_, rfl, fun s2 id2 h => by simp only [opS, rdOs_ag h (xs := xs) (fun t ht => ht), h.1, h1, h2, h3, Option.bind_some, if_pos e]⟩
    · simp at h4
  | call => simp [SOp.quiet] at hq
  | calli => simp [SOp.quiet] at hq
  | callb => simp [SOp.quiet] at hq
  | ext x i =>
    simp only [opS, bind_some_iff] at hs
    obtain ⟨y, h1, h2⟩ := hs
    split at h2
    · rw [map_some_iff] at h2
      obtain ⟨z, h3, rfl⟩ := h2
      exact ⟨_, rfl, fun s2 id2 h => by simp only [opS, rdO_ag h (x := x) (fun t ht => ht), h1, Option.bind_some, h3, Option.map_some]⟩
    · simp at h2
  | nck x =>
    simp only [opS, bind_some_iff, map_some_iff] at hs
    obtain ⟨y, h1, z, h2, rfl⟩ := hs
    exact ⟨_, rfl, fun s2 id2 h => by simp only [opS, rdO_ag h (x := x) (fun t ht => ht), h1, h2, Option.bind_some, Option.map_some]⟩

theorem opS_next {s s' : St} {d : Option Nat} {id : Nat} {o : SOp} (hs : opS C s d id o = some s') : s'.next = s.next ∧ s'.fr = s.fr := by
  by_cases hq : o.quiet = true
  · obtain ⟨x, rfl, _⟩ := opS_quiet hq hs
    exact ⟨st_put_next .., st_put_fr ..⟩
  · cases o with
    | store k x y =>
      simp only [opS, bind_some_iff, map_some_iff] at hs
      obtain ⟨p, _, q, _, s1, h3, rfl⟩ := hs
      rw [st_lose_next, st_lose_fr]
      exact storeL_next h3
    | box k x =>
      simp only [opS, bind_some_iff] at hs
      obtain ⟨p, _, q, _, h3⟩ := hs
      split at h3
      · simp only [Option.some.injEq] at h3
        subst h3
        rw [st_put_next, st_put_fr]; exact ⟨rfl, rfl⟩
      · simp at h3
    | alloc zs =>
      simp only [opS, Option.some.injEq] at hs
      subst hs
      rw [st_put_next, st_put_fr]; exact ⟨rfl, rfl⟩
    | lit sz ps =>
      simp only [opS, map_some_iff] at hs
      obtain ⟨p, _, rfl⟩ := hs
      rw [st_put_next, st_put_fr]; exact ⟨rfl, rfl⟩
    | mk sz bytes zs m =>
      simp only [opS, bind_some_iff] at hs
      obtain ⟨p, _, h3⟩ := hs
      split at h3
      · simp only [Option.some.injEq] at h3
        subst h3
        rw [st_put_next, st_put_fr]; exact ⟨rfl, rfl⟩
      · simp at h3
    | app sz bytes x y =>
      simp only [opS, bind_some_iff] at hs
      obtain ⟨p, _, q, _, l, _, m, _, h3⟩ := hs
      split at h3
      · simp only [Option.some.injEq] at h3
        subst h3
        rw [st_put_next, st_put_fr]; exact ⟨rfl, rfl⟩
      · simp at h3
    | call f xs =>
      simp only [opS, bind_some_iff] at hs
      obtain ⟨p, _, q, _, l, _, h3⟩ := hs
      split at h3
      · exact landed_next h3
      · simp at h3
    | calli f xs =>
      simp only [opS, bind_some_iff] at hs
      obtain ⟨p, _, q, _, l, _, m, _, h3⟩ := hs
      exact landed_next (st := { s with env := purgeN s.env }) h3
    | callb f xs bs =>
      simp only [opS, bind_some_iff] at hs
      obtain ⟨p, _, q, _, l, _, m, _, h3⟩ := hs
      split at h3
      · rw [bind_some_iff] at h3
        obtain ⟨h2, _, h4⟩ := h3
        exact landed_next (st := { s with env := purgeL q.2.2 s.env }) h4
      · simp at h3
    | _ => exact absurd rfl hq

theorem itS_next {s s' : St} {id : Nat} {it : SItem} (hs : itS C s id it = some s') : s'.next = s.next ∧ s'.fr = s.fr := by
  unfold itS at hs
  split at hs
  · exact opS_next hs
  · rw [bind_some_iff] at hs
    obtain ⟨t, _, h2⟩ := hs
    split at h2
    · exact opS_next h2
    · simp only [Option.some.injEq] at h2
      subst h2
      exact ⟨st_put_next .., st_put_fr ..⟩

/-! ### In the text's order -/
def chkItems (P : Program) (nt : Nat) (ops : Array Oper) : List Oper → List SItem → Bool
  | [], [] => true
  | o :: os, it :: l => it.chk P nt ops o && chkItems P nt ops os l
  | _, _ => false
abbrev Okn (c : Ctx) (st : St) (a : Act) (w : World) : Prop := Ok c st (fun k => k < st.next) a w

theorem text_ok (hC : CallOk c.P C) {ops : Array Oper} {Q : Exit → Act → World → Prop} : ∀ (os : List Oper) (l : List SItem) (ix m : Nat) (st : St) (a : Act) (w : World), (∀ k, ops[ix + k]? = os[k]?) → chkItems c.P c.nt ops os l = true →
    opsS C st m l = some st' → Ok c st (fun k => k < st.next + m) a w → (∀ a' w', Okn c st' a' w' → Q .normal a' w') → wpOps c.P ops Q (List.range' ix os.length) a w
  | [], [], ix, m, st, a, w, hi, hc, hs, hok, hQ => by
    simp only [opsS, Option.some.injEq] at hs
    subst hs
    simp only [List.length_nil, List.range'_zero, wpOps]
    obtain ⟨γ, S, R⟩ := hok
    exact hQ _ _ ⟨γ, S, ⟨R.mm, R.os, R.tape, R.output, R.size, R.keep, R.own, R.hd, R.sg, R.s0, R.s00, R.env, R.ids, R.hid, R.dom, R.df, R.sz⟩⟩
  | o :: os, it :: l, ix, m, st, a, w, hi, hc, hs, ⟨γ, S, R⟩, hQ => by
    simp only [chkItems, Bool.and_eq_true] at hc
    simp only [opsS, bind_some_iff] at hs
    obtain ⟨s1, h1, h2⟩ := hs
    have h0 : ops[ix]? = some o := by simpa using hi 0
    simp only [List.length_cons, List.range'_succ]
    rw [wpOps_cons]
    obtain ⟨hn1, _⟩ := itS_next h1
    refine item_ok R hc.1 hC (U' := fun k => k < st.next + (m + 32)) (fun _ k h3 h4 => by omega) (fun k h => by omega) (fun _ k h3 h4 => by omega) h1 h0 ?_
    intro a' w' hok
    refine text_ok hC os l (ix + 1) (m + 32) s1 a' w' (fun k => ?_) hc.2 h2 (by rw [hn1]; exact hok) hQ
    have := hi (k + 1)
    simpa [Nat.add_assoc, Nat.add_comm 1] using this
  | [], _ :: _, ix, m, st, a, w, hi, hc, hs, _, hQ => by simp [chkItems] at hc
  | _ :: _, [], ix, m, st, a, w, hi, hc, hs, _, hQ => by simp [chkItems] at hc

end
end Go.Ev
