/- A row of which nothing else speaks changes nothing of what is done beside it. -/
import Derived.Test.YtcoigakalblkgaaEvAny
set_option linter.all false
namespace Go.Ev

def Fr (J : Id) (x : X) : Prop := x.allp fun id _ => id ≠ J
def Frs (J : Id) (xs : List X) : Prop := allps (fun id _ => id ≠ J) xs
theorem upd_sw {κ α : Type} [DecidableEq κ] (f : κ → Option α) {i j : κ} (x y : Option α) (h : i ≠ j) : upd (upd f i x) j y = upd (upd f j y) i x := by
  funext k
  simp only [upd]
  split
  · rename_i e; subst e; rw [if_neg (Ne.symm h)]
  · rfl
section
variable {h : Heap} {J id : Id} {r : D} {p : Path}
abbrev pl (J : Id) (r : D) (h : Heap) : Heap := upd h J (some r)
theorem nav_pl (hi : id ≠ J) : (pl J r h).nav id p = h.nav id p := by simp only [pl, Heap.nav, upd, if_neg hi]
theorem row_pl (hi : id ≠ J) : (pl J r h).row id p = h.row id p := by simp only [Heap.row, nav_pl hi]
theorem put_pl (hi : id ≠ J) {x : D} : (pl J r h).put id p x = (h.put id p x).map (pl J r) := by
  simp only [pl, Heap.put, upd_apply, if_neg hi]
  cases h id with
  | none => rfl
  | some d =>
    simp only [Option.bind_some, Option.map_map]
    cases d.put p x with
    | none => rfl
    | some d' => simp only [Option.map_some, Function.comp, upd_sw h _ _ hi]
def plA {α : Type} (J : Id) (r : D) (a : α × Heap) : α × Heap := (a.1, pl J r a.2)
theorem take_pl (hi : id ≠ J) : (pl J r h).take id p = (h.take id p).map (plA J r) := by
  cases p with
  | nil =>
    simp only [Heap.take, row_pl hi, Option.map_map]
    cases h.row id [] with
    | none => rfl
    | some x => simp only [Option.map_some, Function.comp, plA, pl, upd_sw h _ _ hi]
  | cons c p =>
    simp only [Heap.take, row_pl hi, put_pl hi]
    cases h.row id (c :: p) with
    | none => rfl
    | some x =>
      simp only [Option.bind_some, Option.map_map]
      cases h.put id (c :: p) .u <;> rfl
theorem takeX_pl {x : X} (hx : Fr J x) : takeX (pl J r h) x = (takeX h x).map (plA J r) := by
  unfold takeX
  split <;> first | rfl | exact take_pl hx
theorem takeL_pl : ∀ {xs : List X} {h : Heap}, Frs J xs → takeL (pl J r h) xs = (takeL h xs).map (plA J r)
  | [], _, _ => rfl
  | x :: xs, h, hx => by
    simp only [takeL, takeX_pl hx.1]
    cases takeX h x with
    | none => rfl
    | some a =>
      simp only [Option.map_some, Option.bind_some, plA, takeL_pl (xs := xs) hx.2, Option.map_map]
      cases takeL a.2 xs <;> rfl
theorem cells_fr {x : X} (hx : Fr J x) : Frs J x.cells := by
  unfold X.cells
  split
  · exact hx
  · exact ⟨hx, trivial⟩
theorem snapC_pl {x : X} (hx : Fr J x) : snapC (pl J r h) x = snapC h x := by
  unfold snapC
  split <;> first | rfl | rw [row_pl hx]
theorem snapL_pl : ∀ {xs : List X}, Frs J xs → snapL (pl J r h) xs = snapL h xs
  | [], _ => rfl
  | x :: xs, hx => by simp only [snapL, snapC_pl hx.1, snapL_pl (xs := xs) hx.2]
theorem snap_pl {x : X} (hx : Fr J x) : snap (pl J r h) x = snap h x := by
  unfold snap
  split
  · rw [snapL_pl hx]
  · exact snapC_pl hx
theorem snaps_pl : ∀ {xs : List X}, Frs J xs → snaps (pl J r h) xs = snaps h xs
  | [], _ => rfl
  | x :: xs, hx => by simp only [snaps, snap_pl hx.1, snaps_pl (xs := xs) hx.2]
theorem lenX_pl {x : X} (hx : Fr J x) : lenX (pl J r h) x = lenX h x := by
  unfold lenX
  split <;> first | rfl | rw [row_pl hx]
theorem ixaX_pl {x : X} {sz : Nat} {n : Int} (hx : Fr J x) : ixaX (pl J r h) sz n x = ixaX h sz n x := by
  unfold ixaX
  split <;> first | rfl | rw [row_pl hx]
theorem bytesX_pl {x : X} (hx : Fr J x) : bytesX (pl J r h) x = bytesX h x := by
  unfold bytesX
  split <;> first | rfl | rw [row_pl hx]
theorem loadL_pl {x : X} {n : Nat} (hx : Fr J x) : loadL (pl J r h) n x = loadL h n x := by
  unfold loadL
  split <;> first | rfl | rw [row_pl hx]
theorem srcEls_pl {x : X} (hx : Fr J x) : srcEls (pl J r h) x = (srcEls h x).map (plA J r) := by
  unfold srcEls
  split
  · rfl
  · rfl
  · rename_i id p
    rw [take_pl hx]
    cases h.take id p with
    | none => rfl
    | some a =>
      simp only [Option.map_some, Option.bind_some, plA]
      cases a.1.rowOf <;> rfl
  · rfl
theorem baseEls_pl {x : X} {sz : Nat} (hx : Fr J x) : baseEls (pl J r h) sz x = (baseEls h sz x).map (plA J r) := by
  unfold baseEls
  split
  · rfl
  · rename_i id p
    rw [take_pl hx]
    cases h.take id p with
    | none => rfl
    | some a =>
      simp only [Option.map_some, Option.bind_some, plA]
      cases a.1.rowOf with
      | none => rfl
      | some b =>
        simp only [Option.bind_some]
        split <;> rfl
  · rfl
theorem impC_pl {x : X} (hi : id ≠ J) : impC (pl J r h) id x = plA J r (impC h id x) := by
  unfold impC
  split
  · simp only [plA, pl, upd_sw h _ _ hi]
  · rfl
theorem impL_pl : ∀ {xs : List X} {h : Heap} {id : Id}, (∀ k, k < xs.length → (id.1, id.2 + k) ≠ J) → impL (pl J r h) id xs = plA J r (impL h id xs)
  | [], _, _, _ => rfl
  | x :: xs, h, id, hi => by
    have h0 : id ≠ J := hi 0 (by simp)
    have h1 := fun h => impL_pl (xs := xs) (h := h) (id := (id.1, id.2 + 1)) (fun k hk => by have := hi (k + 1) (by simp; omega); rwa [Nat.add_comm k 1, ← Nat.add_assoc] at this)
    simp only [impL, impC_pl h0, plA, h1]
theorem impV_pl {x : X} (hi : ∀ k, k < x.cells.length → (id.1, id.2 + k) ≠ J) : impV (pl J r h) id x = plA J r (impV h id x) := by
  unfold impV
  split
  · rename_i cs
    rw [impL_pl (xs := cs) (fun k hk => hi k hk)]; rfl
  · rename_i hx
    refine impC_pl (hi 0 ?_)
    unfold X.cells
    split
    · rename_i cs; exact absurd rfl (hx cs)
    · simp
theorem impT_pl : ∀ {xs : List X} {h : Heap} {id : Id}, (∀ k, k < (xs.map fun x => x.cells.length).sum → (id.1, id.2 + k) ≠ J) → impT (pl J r h) id xs = plA J r (impT h id xs)
  | [], _, _, _ => rfl
  | x :: xs, h, id, hi => by
    simp only [List.map_cons, List.sum_cons] at hi
    have h1 := fun h => impT_pl (xs := xs) (h := h) (id := (id.1, id.2 + x.cells.length)) (fun k hk => by have := hi (x.cells.length + k) (by omega); rwa [← Nat.add_assoc] at this)
    simp only [impT, impV_pl (x := x) (h := h) (id := id) (fun k hk => hi k (by omega)), plA, h1]
theorem impR_pl {x : X} (hi : ∀ k, k < x.ncells → (id.1, id.2 + k) ≠ J) : impR (pl J r h) id x = plA J r (impR h id x) := by
  unfold impR
  unfold X.ncells at hi
  split
  · rename_i cs
    rw [impT_pl (xs := cs) (fun k hk => hi k hk)]; rfl
  · rename_i hx
    split at hi
    · rename_i cs; exact absurd rfl (hx cs)
    · exact impV_pl hi
end

/-! ### A state, and a row and a slot more -/
def St.plus (s : St) (J : Id) (r : D) (e : Nat) (v : X) : St := { s with heap := pl J r s.heap, env := upd s.env e (some v) }
section
variable {C : Cl} {s s' : St} {J : Id} {r : D} {e : Nat} {v : X} {d : Option Nat} {id : Nat}
theorem put_plus {x : X} (hd : d ≠ some e) : (s.plus J r e v).put d x = (s.put d x).plus J r e v := by
  cases d with
  | none => rfl
  | some d => simp only [St.put, St.plus, upd_sw s.env (i := e) (j := d) _ _ (fun h => hd (by rw [h]))]
theorem with_plus {h : Heap} : (s.plus J r e v).with (pl J r h) = (s.with h).plus J r e v := rfl
theorem rdO_plus {x : O} (he : e ∉ x.rd) : rdO (s.plus J r e v) x = rdO s x := by
  cases x with
  | t n =>
    have : n ≠ e := fun h => he (by simp [O.rd, h])
    simp only [rdO, St.plus, upd, if_neg this]
  | _ => rfl
theorem rdI_plus {x : O} (he : e ∉ x.rd) : rdI (s.plus J r e v) x = rdI s x := by unfold rdI; rw [rdO_plus he]
theorem rdB_plus {x : O} (he : e ∉ x.rd) : rdB (s.plus J r e v) x = rdB s x := by unfold rdB; rw [rdO_plus he]
theorem rdS_plus {x : O} (he : e ∉ x.rd) : rdS (s.plus J r e v) x = rdS s x := by unfold rdS; rw [rdO_plus he]
theorem rdOs_plus : ∀ {xs : List O}, e ∉ rdsO xs → rdOs (s.plus J r e v) xs = rdOs s xs
  | [], _ => rfl
  | x :: xs, he => by
    simp only [rdsO, List.mem_append, not_or] at he
    simp only [rdOs, rdO_plus he.1, rdOs_plus (xs := xs) he.2]
theorem fillX_plus : ∀ {ps : List (Nat × Nat × O)} {cs : List X}, e ∉ rdsO (ps.map fun p => p.2.2) → fillX (s.plus J r e v) cs ps = fillX s cs ps
  | [], _, _ => rfl
  | (off, n, o) :: ps, cs, he => by
    simp only [List.map_cons, rdsO, List.mem_append, not_or] at he
    simp only [fillX, rdO_plus he.1, fillX_plus (ps := ps) he.2]
theorem bound_plus {k : Int} {x : Option O} (he : e ∉ rdOo x) : bound (s.plus J r e v) k x = bound s k x := by
  cases x with
  | none => rfl
  | some x => simp only [bound, rdI_plus (x := x) he]
abbrev Free0 (J : Id) (s : St) : Prop := ∀ t x, s.env t = some x → Fr J x
theorem rdO_fr (hF : Free0 J s) {o : O} {x : X} (h : rdO s o = some x) : Fr J x := by
  cases o with
  | t n => exact hF n x h
  | _ => simp only [rdO, Option.some.injEq] at h; subst h; trivial
theorem rdOs_fr (hF : Free0 J s) : ∀ {os : List O} {xs : List X}, rdOs s os = some xs → Frs J xs
  | [], xs, h => by simp only [rdOs, Option.some.injEq] at h; subst h; trivial
  | o :: os, xs, h => by
    simp only [rdOs, bind_some_iff, map_some_iff] at h
    obtain ⟨a, h1, as, h2, rfl⟩ := h
    exact ⟨rdO_fr hF h1, rdOs_fr hF h2⟩
theorem takeEls_plus (hF : Free0 J s) {sz : Nat} : ∀ {os : List O} {m : Heap}, e ∉ rdsO os → takeEls (s.plus J r e v) sz (pl J r m) os = (takeEls s sz m os).map (plA J r)
  | [], _, _ => rfl
  | o :: os, m, he => by
    simp only [rdsO, List.mem_append, not_or] at he
    simp only [takeEls, rdO_plus he.1]
    cases hx : rdO s o with
    | none => rfl
    | some x =>
      simp only [Option.bind_some, takeL_pl (cells_fr (rdO_fr hF hx))]
      cases takeL m x.cells with
      | none => rfl
      | some a =>
        simp only [Option.map_some, Option.bind_some, plA]
        split
        · rw [takeEls_plus hF he.2]
          cases takeEls s sz a.2 os <;> rfl
        · rfl
/-- What may be done ahead of or behind a row that is new. -/
def SOp.calm : SOp → Bool
  | .store .. => false
  | .calli .. => false
  | .callb .. => false
  | _ => true
theorem opS_plus {o : SOp} (hk : o.calm = true) (hF : Free0 J s) (he : e ∉ o.rds) (hd : d ≠ some e) (hJ : ∀ k, k < 32 → (s.fr, id + k) ≠ J) (hs : opS C s d id o = some s') : opS C (s.plus J r e v) d id o = some (s'.plus J r e v) := by
  have hJ0 : (s.fr, id) ≠ J := hJ 0 (by omega)
  cases o <;> simp only [SOp.rds, List.mem_append, not_or] at he <;> try (simp only [SOp.calm, Bool.false_eq_true] at hk)
  case mov x =>
    have E : opS C (s.plus J r e v) d id (.mov x) = (opS C s d id (.mov x)).map (fun t => t.plus J r e v) := by
      simp only [opS, rdO_plus he, Option.map_bind, Option.map_map, Function.comp_def, put_plus hd]
      repeat' (first | rfl | exact put_plus hd | exact congrArg some (put_plus hd) | (congr 1; funext _) | split | simp only [Option.map_map, Option.map_bind, Function.comp_def, put_plus hd, Option.map_some, Option.map_none])
    rw [E, hs]; rfl
  case pick c a b =>
    have E : opS C (s.plus J r e v) d id (.pick c a b) = (opS C s d id (.pick c a b)).map (fun t => t.plus J r e v) := by
      simp only [opS, rdB_plus he.1.1, rdO_plus he.1.2, rdO_plus he.2, Option.map_bind, Option.map_map, Function.comp_def, put_plus hd]
      repeat' (first | rfl | exact put_plus hd | exact congrArg some (put_plus hd) | (congr 1; funext _) | split | simp only [Option.map_map, Option.map_bind, Function.comp_def, put_plus hd, Option.map_some, Option.map_none])
    rw [E, hs]; rfl
  case ari b x y =>
    have E : opS C (s.plus J r e v) d id (.ari b x y) = (opS C s d id (.ari b x y)).map (fun t => t.plus J r e v) := by
      simp only [opS, rdI_plus he.1, rdI_plus he.2, Option.map_bind, Option.map_map, Function.comp_def, put_plus hd]
      repeat' (first | rfl | exact put_plus hd | exact congrArg some (put_plus hd) | (congr 1; funext _) | split | simp only [Option.map_map, Option.map_bind, Function.comp_def, put_plus hd, Option.map_some, Option.map_none])
    rw [E, hs]; rfl
  case cmp b x y =>
    have E : opS C (s.plus J r e v) d id (.cmp b x y) = (opS C s d id (.cmp b x y)).map (fun t => t.plus J r e v) := by
      simp only [opS, rdO_plus he.1, rdO_plus he.2, Option.map_bind, Option.map_map, Function.comp_def, put_plus hd]
      repeat' (first | rfl | exact put_plus hd | exact congrArg some (put_plus hd) | (congr 1; funext _) | split | simp only [Option.map_map, Option.map_bind, Function.comp_def, put_plus hd, Option.map_some, Option.map_none])
    rw [E, hs]; rfl
  case cmpb b x y =>
    have E : opS C (s.plus J r e v) d id (.cmpb b x y) = (opS C s d id (.cmpb b x y)).map (fun t => t.plus J r e v) := by
      simp only [opS, rdB_plus he.1, rdB_plus he.2, Option.map_bind, Option.map_map, Function.comp_def, put_plus hd]
      repeat' (first | rfl | exact put_plus hd | exact congrArg some (put_plus hd) | (congr 1; funext _) | split | simp only [Option.map_map, Option.map_bind, Function.comp_def, put_plus hd, Option.map_some, Option.map_none])
    rw [E, hs]; rfl
  case cat x y =>
    have E : opS C (s.plus J r e v) d id (.cat x y) = (opS C s d id (.cat x y)).map (fun t => t.plus J r e v) := by
      simp only [opS, rdS_plus he.1, rdS_plus he.2, Option.map_bind, Option.map_map, Function.comp_def, put_plus hd]
      repeat' (first | rfl | exact put_plus hd | exact congrArg some (put_plus hd) | (congr 1; funext _) | split | simp only [Option.map_map, Option.map_bind, Function.comp_def, put_plus hd, Option.map_some, Option.map_none])
    rw [E, hs]; rfl
  case neg x =>
    have E : opS C (s.plus J r e v) d id (.neg x) = (opS C s d id (.neg x)).map (fun t => t.plus J r e v) := by
      simp only [opS, rdI_plus he, Option.map_bind, Option.map_map, Function.comp_def, put_plus hd]
      repeat' (first | rfl | exact put_plus hd | exact congrArg some (put_plus hd) | (congr 1; funext _) | split | simp only [Option.map_map, Option.map_bind, Function.comp_def, put_plus hd, Option.map_some, Option.map_none])
    rw [E, hs]; rfl
  case not x =>
    have E : opS C (s.plus J r e v) d id (.not x) = (opS C s d id (.not x)).map (fun t => t.plus J r e v) := by
      simp only [opS, rdB_plus he, Option.map_bind, Option.map_map, Function.comp_def, put_plus hd]
      repeat' (first | rfl | exact put_plus hd | exact congrArg some (put_plus hd) | (congr 1; funext _) | split | simp only [Option.map_map, Option.map_bind, Function.comp_def, put_plus hd, Option.map_some, Option.map_none])
    rw [E, hs]; rfl
  case conv k x =>
    have E : opS C (s.plus J r e v) d id (.conv k x) = (opS C s d id (.conv k x)).map (fun t => t.plus J r e v) := by
      simp only [opS, rdI_plus he, Option.map_bind, Option.map_map, Function.comp_def, put_plus hd]
      repeat' (first | rfl | exact put_plus hd | exact congrArg some (put_plus hd) | (congr 1; funext _) | split | simp only [Option.map_map, Option.map_bind, Function.comp_def, put_plus hd, Option.map_some, Option.map_none])
    rw [E, hs]; rfl
  case rune x =>
    have E : opS C (s.plus J r e v) d id (.rune x) = (opS C s d id (.rune x)).map (fun t => t.plus J r e v) := by
      simp only [opS, rdI_plus he, Option.map_bind, Option.map_map, Function.comp_def, put_plus hd]
      repeat' (first | rfl | exact put_plus hd | exact congrArg some (put_plus hd) | (congr 1; funext _) | split | simp only [Option.map_map, Option.map_bind, Function.comp_def, put_plus hd, Option.map_some, Option.map_none])
    rw [E, hs]; rfl
  case bos x =>
    have E : opS C (s.plus J r e v) d id (.bos x) = (opS C s d id (.bos x)).map (fun t => t.plus J r e v) := by
      simp only [opS, rdS_plus he, Option.map_bind, Option.map_map, Function.comp_def, put_plus hd]
      repeat' (first | rfl | exact put_plus hd | exact congrArg some (put_plus hd) | (congr 1; funext _) | split | simp only [Option.map_map, Option.map_bind, Function.comp_def, put_plus hd, Option.map_some, Option.map_none])
    rw [E, hs]; rfl
  case idxb f x y =>
    have E : opS C (s.plus J r e v) d id (.idxb f x y) = (opS C s d id (.idxb f x y)).map (fun t => t.plus J r e v) := by
      simp only [opS, rdS_plus he.1, rdI_plus he.2, Option.map_bind, Option.map_map, Function.comp_def, put_plus hd]
      repeat' (first | rfl | exact put_plus hd | exact congrArg some (put_plus hd) | (congr 1; funext _) | split | simp only [Option.map_map, Option.map_bind, Function.comp_def, put_plus hd, Option.map_some, Option.map_none])
    rw [E, hs]; rfl
  case fld off n x =>
    have E : opS C (s.plus J r e v) d id (.fld off n x) = (opS C s d id (.fld off n x)).map (fun t => t.plus J r e v) := by
      simp only [opS, rdO_plus he, Option.map_bind, Option.map_map, Function.comp_def, put_plus hd]
      repeat' (first | rfl | exact put_plus hd | exact congrArg some (put_plus hd) | (congr 1; funext _) | split | simp only [Option.map_map, Option.map_bind, Function.comp_def, put_plus hd, Option.map_some, Option.map_none])
    rw [E, hs]; rfl
  case faddr off x =>
    have E : opS C (s.plus J r e v) d id (.faddr off x) = (opS C s d id (.faddr off x)).map (fun t => t.plus J r e v) := by
      simp only [opS, rdO_plus he, Option.map_bind, Option.map_map, Function.comp_def, put_plus hd]
      repeat' (first | rfl | exact put_plus hd | exact congrArg some (put_plus hd) | (congr 1; funext _) | split | simp only [Option.map_map, Option.map_bind, Function.comp_def, put_plus hd, Option.map_some, Option.map_none])
    rw [E, hs]; rfl
  case ixs x i =>
    have E : opS C (s.plus J r e v) d id (.ixs x i) = (opS C s d id (.ixs x i)).map (fun t => t.plus J r e v) := by
      simp only [opS, rdS_plus he.1, rdI_plus he.2, Option.map_bind, Option.map_map, Function.comp_def, put_plus hd]
      repeat' (first | rfl | exact put_plus hd | exact congrArg some (put_plus hd) | (congr 1; funext _) | split | simp only [Option.map_map, Option.map_bind, Function.comp_def, put_plus hd, Option.map_some, Option.map_none])
    rw [E, hs]; rfl
  case mm mx x y =>
    have E : opS C (s.plus J r e v) d id (.mm mx x y) = (opS C s d id (.mm mx x y)).map (fun t => t.plus J r e v) := by
      simp only [opS, rdI_plus he.1, rdI_plus he.2, Option.map_bind, Option.map_map, Function.comp_def, put_plus hd]
      repeat' (first | rfl | exact put_plus hd | exact congrArg some (put_plus hd) | (congr 1; funext _) | split | simp only [Option.map_map, Option.map_bind, Function.comp_def, put_plus hd, Option.map_some, Option.map_none])
    rw [E, hs]; rfl
  case eqa ng k x y =>
    have E : opS C (s.plus J r e v) d id (.eqa ng k x y) = (opS C s d id (.eqa ng k x y)).map (fun t => t.plus J r e v) := by
      simp only [opS, rdO_plus he.1, rdO_plus he.2, Option.map_bind, Option.map_map, Function.comp_def, put_plus hd]
      repeat' (first | rfl | exact put_plus hd | exact congrArg some (put_plus hd) | (congr 1; funext _) | split | simp only [Option.map_map, Option.map_bind, Function.comp_def, put_plus hd, Option.map_some, Option.map_none])
    rw [E, hs]; rfl
  case vbox n x =>
    have E : opS C (s.plus J r e v) d id (.vbox n x) = (opS C s d id (.vbox n x)).map (fun t => t.plus J r e v) := by
      simp only [opS, rdO_plus he, Option.map_bind, Option.map_map, Function.comp_def, put_plus hd]
      repeat' (first | rfl | exact put_plus hd | exact congrArg some (put_plus hd) | (congr 1; funext _) | split | simp only [Option.map_map, Option.map_bind, Function.comp_def, put_plus hd, Option.map_some, Option.map_none])
    rw [E, hs]; rfl
  case build zs ps =>
    have E : opS C (s.plus J r e v) d id (.build zs ps) = (opS C s d id (.build zs ps)).map (fun t => t.plus J r e v) := by
      simp only [opS, fillX_plus he, Option.map_bind, Option.map_map, Function.comp_def, put_plus hd]
      repeat' (first | rfl | exact put_plus hd | exact congrArg some (put_plus hd) | (congr 1; funext _) | split | simp only [Option.map_map, Option.map_bind, Function.comp_def, put_plus hd, Option.map_some, Option.map_none])
    rw [E, hs]; rfl
  case cutr sz x lo hi =>
    have E : opS C (s.plus J r e v) d id (.cutr sz x lo hi) = (opS C s d id (.cutr sz x lo hi)).map (fun t => t.plus J r e v) := by
      simp only [opS, rdO_plus he.1.1, bound_plus he.1.2, bound_plus he.2, Option.map_bind, Option.map_map, Function.comp_def, put_plus hd]
      repeat' (first | rfl | exact put_plus hd | exact congrArg some (put_plus hd) | (congr 1; funext _) | split | simp only [Option.map_map, Option.map_bind, Function.comp_def, put_plus hd, Option.map_some, Option.map_none])
    rw [E, hs]; rfl
  case cutS x lo hi =>
    have E : opS C (s.plus J r e v) d id (.cutS x lo hi) = (opS C s d id (.cutS x lo hi)).map (fun t => t.plus J r e v) := by
      simp only [opS, rdS_plus he.1.1, bound_plus he.1.2, bound_plus he.2, Option.map_bind, Option.map_map, Function.comp_def, put_plus hd]
      repeat' (first | rfl | exact put_plus hd | exact congrArg some (put_plus hd) | (congr 1; funext _) | split | simp only [Option.map_map, Option.map_bind, Function.comp_def, put_plus hd, Option.map_some, Option.map_none])
    rw [E, hs]; rfl
  case slen x =>
    have E : opS C (s.plus J r e v) d id (.slen x) = (opS C s d id (.slen x)).map (fun t => t.plus J r e v) := by
      simp only [opS, rdS_plus he, Option.map_bind, Option.map_map, Function.comp_def, put_plus hd]
      repeat' (first | rfl | exact put_plus hd | exact congrArg some (put_plus hd) | (congr 1; funext _) | split | simp only [Option.map_map, Option.map_bind, Function.comp_def, put_plus hd, Option.map_some, Option.map_none])
    rw [E, hs]; rfl
  case fn f xs =>
    have E : opS C (s.plus J r e v) d id (.fn f xs) = (opS C s d id (.fn f xs)).map (fun t => t.plus J r e v) := by
      simp only [opS, rdOs_plus he, Option.map_bind, Option.map_map, Function.comp_def, put_plus hd]
      repeat' (first | rfl | exact put_plus hd | exact congrArg some (put_plus hd) | (congr 1; funext _) | split | simp only [Option.map_map, Option.map_bind, Function.comp_def, put_plus hd, Option.map_some, Option.map_none])
    rw [E, hs]; rfl
  case ext x i =>
    have E : opS C (s.plus J r e v) d id (.ext x i) = (opS C s d id (.ext x i)).map (fun t => t.plus J r e v) := by
      simp only [opS, rdO_plus he, Option.map_bind, Option.map_map, Function.comp_def, put_plus hd]
      repeat' (first | rfl | exact put_plus hd | exact congrArg some (put_plus hd) | (congr 1; funext _) | split | simp only [Option.map_map, Option.map_bind, Function.comp_def, put_plus hd, Option.map_some, Option.map_none])
    rw [E, hs]; rfl
  case nck x =>
    have E : opS C (s.plus J r e v) d id (.nck x) = (opS C s d id (.nck x)).map (fun t => t.plus J r e v) := by
      simp only [opS, rdO_plus he, Option.map_bind, Option.map_map, Function.comp_def, put_plus hd]
      repeat' (first | rfl | exact put_plus hd | exact congrArg some (put_plus hd) | (congr 1; funext _) | split | simp only [Option.map_map, Option.map_bind, Function.comp_def, put_plus hd, Option.map_some, Option.map_none])
    rw [E, hs]; rfl
  case alloc zs => simp only [opS, Option.some.injEq] at hs ⊢; subst hs; rw [← put_plus hd, ← with_plus]; simp only [St.plus, pl, upd_sw s.heap _ _ hJ0]
  case sob x =>
    simp only [opS, bind_some_iff] at hs
    obtain ⟨y, h1, ns, h2, h3⟩ := hs
    split at h3
    · simp at h3
    · rename_i hn
      simp only [Option.some.injEq] at h3
      subst h3
      simp only [opS, rdO_plus he, h1, Option.bind_some]
      rw [show (s.plus J r e v).heap = pl J r s.heap from rfl, bytesX_pl (rdO_fr hF h1), h2, Option.bind_some, if_neg hn, put_plus hd]
  case ixa sz x i =>
    simp only [opS, bind_some_iff, map_some_iff] at hs
    obtain ⟨y, h1, m, h2, z, h3, rfl⟩ := hs
    simp only [opS, rdO_plus he.1, rdI_plus he.2, h1, h2, Option.bind_some]
    rw [show (s.plus J r e v).heap = pl J r s.heap from rfl, ixaX_pl (rdO_fr hF h1), h3, Option.map_some, put_plus hd]
  case load n x =>
    simp only [opS, bind_some_iff, map_some_iff] at hs
    obtain ⟨y, h1, cs, h2, z, h3, rfl⟩ := hs
    simp only [opS, rdO_plus he, h1, Option.bind_some]
    rw [show (s.plus J r e v).heap = pl J r s.heap from rfl, loadL_pl (rdO_fr hF h1), h2, Option.bind_some, h3, Option.map_some, put_plus hd]
  case len x =>
    simp only [opS, bind_some_iff, map_some_iff] at hs
    obtain ⟨y, h1, z, h3, rfl⟩ := hs
    simp only [opS, rdO_plus he, h1, Option.bind_some]
    rw [show (s.plus J r e v).heap = pl J r s.heap from rfl, lenX_pl (rdO_fr hF h1), h3, Option.map_some, put_plus hd]
  case box n x =>
    simp only [opS, bind_some_iff] at hs
    obtain ⟨y, h1, b, h2, h3⟩ := hs
    split at h3
    · rename_i hn
      simp only [Option.some.injEq] at h3
      subst h3
      simp only [opS, rdO_plus he, h1, Option.bind_some]
      rw [show (s.plus J r e v).heap = pl J r s.heap from rfl, takeL_pl (cells_fr (rdO_fr hF h1)), h2, Option.map_some, Option.bind_some]
      simp only [plA]
      rw [← put_plus hd, ← with_plus]
      simp only [St.plus, pl, upd_sw b.2 _ _ hJ0]
      exact if_pos hn
    · simp at h3
  case lit sz ps =>
    simp only [opS, map_some_iff] at hs
    obtain ⟨b, h1, rfl⟩ := hs
    simp only [opS]
    rw [show (s.plus J r e v).heap = pl J r s.heap from rfl, takeEls_plus hF he, h1, Option.map_some, Option.map_some]
    rw [← put_plus hd, ← with_plus]
    simp only [plA, St.plus, pl, upd_sw b.2 _ _ hJ0]
  case mk sz bytes zs n =>
    simp only [opS, bind_some_iff] at hs
    obtain ⟨m, h1, h3⟩ := hs
    split at h3
    · rename_i hn
      simp only [Option.some.injEq] at h3
      subst h3
      simp only [opS, rdI_plus he, h1, Option.bind_some, if_pos hn]
      rw [← put_plus hd, ← with_plus]
      simp only [St.plus, pl, upd_sw s.heap _ _ hJ0]
    · simp at h3
  case app sz bytes x y =>
    simp only [opS, bind_some_iff] at hs
    obtain ⟨a, h1, b, h2, l, h3, m, h4, h5⟩ := hs
    split at h5
    · rename_i hn
      simp only [Option.some.injEq] at h5
      subst h5
      simp only [opS, rdO_plus he.1, rdO_plus he.2, h1, h2, Option.bind_some]
      rw [show (s.plus J r e v).heap = pl J r s.heap from rfl, baseEls_pl (rdO_fr hF h1), h3, Option.map_some, Option.bind_some]
      simp only [plA]
      rw [srcEls_pl (rdO_fr hF h2), h4, Option.map_some, Option.bind_some]
      simp only [plA]
      rw [← put_plus hd, ← with_plus]
      simp only [St.plus, pl, upd_sw m.2 _ _ hJ0]
      exact if_pos hn
    · simp at h5
  case callr f xs =>
    simp only [opS, bind_some_iff] at hs
    obtain ⟨as, h1, bs, h2, q, h3, h4⟩ := hs
    split at h4
    · rename_i hn
      simp only [Option.some.injEq] at h4
      subst h4
      simp only [opS, rdOs_plus he, h1, Option.bind_some]
      rw [show (s.plus J r e v).heap = pl J r s.heap from rfl, snaps_pl (rdOs_fr hF h1), h2, Option.bind_some, h3, Option.bind_some, if_pos hn, put_plus hd]
    · simp at h4
  case call f xs =>
    simp only [opS, bind_some_iff] at hs
    obtain ⟨as, h1, bs, h2, q, h3, h4⟩ := hs
    split at h4
    · rename_i hn
      simp only [opS, rdOs_plus he, h1, Option.bind_some]
      rw [show (s.plus J r e v).heap = pl J r s.heap from rfl, snaps_pl (rdOs_fr hF h1), h2, Option.bind_some, h3, Option.bind_some, if_pos hn]
      unfold landed at h4 ⊢
      split at h4
      · rename_i hc
        simp only [Option.some.injEq] at h4
        subst h4
        rw [if_pos hc, show (s.plus J r e v).fr = s.fr from rfl, impR_pl (fun k hk => hJ k (by omega)), ← put_plus hd]
        rfl
      · simp at h4
    · simp at h4
theorem itS_plus {it : SItem} (hk : it.o.calm = true) (hF : Free0 J s) (he : e ∉ it.rds) (hd : it.d ≠ some e) (hJ : ∀ k, k < 32 → (s.fr, id + k) ≠ J) (hs : itS C s id it = some s') : itS C (s.plus J r e v) id it = some (s'.plus J r e v) := by
  unfold itS at hs ⊢
  unfold SItem.rds at he
  split at hs
  · rename_i hg
    simp only [hg, List.nil_append] at he
    exact opS_plus hk hF he hd hJ hs
  · rename_i g b hg
    simp only [hg, List.cons_append, List.nil_append, List.mem_cons, not_or] at he
    rw [show (s.plus J r e v).env g = s.env g by simp only [St.plus, upd, if_neg (Ne.symm he.1)]]
    rw [bind_some_iff] at hs
    obtain ⟨t, h1, h2⟩ := hs
    simp only [h1, Option.bind_some]
    split at h2
    · rename_i c
      rw [if_pos c]
      exact opS_plus hk hF he.2 hd hJ h2
    · rename_i c
      simp only [Option.some.injEq] at h2
      subst h2
      rw [if_neg c, put_plus hd]
/-- Other slots stay. -/
theorem opS_back {o : SOp} (hk : o.calm = true) (hs : opS C s d id o = some s') : s'.fr = s.fr ∧ ∀ t, d ≠ some t → s'.env t = s.env t := by
  by_cases hq : o.quiet = true
  · obtain ⟨x, rfl, _⟩ := opS_quiet hq hs
    cases d with
    | none => exact ⟨rfl, fun _ _ => rfl⟩
    | some d => exact ⟨rfl, fun t ht => by simp only [St.put, upd, if_neg (fun h : t = d => ht (by rw [h]))]⟩
  · have hp : ∀ (u : St) (x : X), u.fr = s.fr → u.env = s.env → (u.put d x).fr = s.fr ∧ ∀ t, d ≠ some t → (u.put d x).env t = s.env t := fun u x h1 h2 => by
      cases d with
      | none => exact ⟨h1, fun _ _ => by rw [← h2]; rfl⟩
      | some d => exact ⟨h1, fun t ht => by simp only [St.put, upd, if_neg (fun h : t = d => ht (by rw [h])), h2]⟩
    cases o <;> first | (exact absurd rfl hq) | (simp only [SOp.calm, Bool.false_eq_true] at hk; done) | skip
    case box n x =>
      simp only [opS, bind_some_iff] at hs
      obtain ⟨y, h1, b, h2, h3⟩ := hs
      split at h3
      · simp only [Option.some.injEq] at h3; subst h3; exact hp _ _ rfl rfl
      · simp at h3
    case alloc zs => simp only [opS, Option.some.injEq] at hs; subst hs; exact hp _ _ rfl rfl
    case lit sz ps =>
      simp only [opS, map_some_iff] at hs
      obtain ⟨b, h1, rfl⟩ := hs
      exact hp _ _ rfl rfl
    case mk sz bytes zs n =>
      simp only [opS, bind_some_iff] at hs
      obtain ⟨m, h1, h3⟩ := hs
      split at h3
      · simp only [Option.some.injEq] at h3; subst h3; exact hp _ _ rfl rfl
      · simp at h3
    case app sz bytes x y =>
      simp only [opS, bind_some_iff] at hs
      obtain ⟨a, h1, b, h2, l, h3, m, h4, h5⟩ := hs
      split at h5
      · simp only [Option.some.injEq] at h5; subst h5; exact hp _ _ rfl rfl
      · simp at h5
    case call f xs =>
      simp only [opS, bind_some_iff] at hs
      obtain ⟨as, h1, bs, h2, q, h3, h4⟩ := hs
      split at h4
      · unfold landed at h4
        split at h4
        · simp only [Option.some.injEq] at h4; subst h4; exact hp _ _ rfl rfl
        · simp at h4
      · simp at h4
theorem itS_back {it : SItem} (hk : it.o.calm = true) (hs : itS C s id it = some s') : s'.fr = s.fr ∧ ∀ t, it.d ≠ some t → s'.env t = s.env t := by
  unfold itS at hs
  split at hs
  · exact opS_back hk hs
  · rw [bind_some_iff] at hs
    obtain ⟨c, h1, h2⟩ := hs
    split at h2
    · exact opS_back hk h2
    · simp only [Option.some.injEq] at h2
      subst h2
      cases hd : it.d with
      | none => exact ⟨rfl, fun _ _ => rfl⟩
      | some d => exact ⟨rfl, fun t ht => by simp only [St.put, upd, if_neg (fun h : t = d => ht (by rw [h]))]⟩
/-! ### What adds a row -/
def SItem.adder (it : SItem) : Option (Nat × List Nat) := match it.g, it.d, it.o with
  | none, some e, .alloc _ => some (e, [])
  | none, some e, .mk _ _ _ n => some (e, n.rd)
  | _, _, _ => none
theorem adder_ok {it : SItem} {l : List Nat} (ha : it.adder = some (e, l)) (hs : itS C s id it = some s') : it.d = some e ∧ it.rds = l ∧ ∃ r v, s' = s.plus (s.fr, id) r e v ∧ ∀ s2, s2.fr = s.fr → (∀ t ∈ l, s2.env t = s.env t) → itS C s2 id it = some (s2.plus (s.fr, id) r e v) := by
  obtain ⟨d0, g0, o0⟩ := it
  simp only [SItem.adder] at ha
  split at ha
  · simp only [Option.some.injEq, Prod.mk.injEq] at ha
    obtain ⟨rfl, rfl⟩ := ha
    refine ⟨rfl, by simp [SItem.rds, SOp.rds], ?_⟩
    simp only [itS, opS, Option.some.injEq] at hs ⊢
    subst hs
    exact ⟨_, _, rfl, fun s2 h1 _ => by rw [h1]; rfl⟩
  · rename_i n
    simp only [Option.some.injEq, Prod.mk.injEq] at ha
    obtain ⟨rfl, rfl⟩ := ha
    refine ⟨rfl, by simp [SItem.rds, SOp.rds], ?_⟩
    simp only [itS, opS, bind_some_iff] at hs
    obtain ⟨m, h1, h2⟩ := hs
    split at h2
    · rename_i hm
      simp only [Option.some.injEq] at h2
      subst h2
      refine ⟨_, _, rfl, fun s2 h3 h4 => ?_⟩
      have h5 : rdI s2 n = rdI s n := by
        unfold rdI
        cases n with
        | t k => simp only [rdO]; rw [h4 k (by simp [O.rd])]
        | _ => rfl
      simp only [itS, opS, h5, h1, Option.bind_some, if_pos hm, h3]
      rfl
    · simp at h2
  · simp at ha
end
/-! ### What is put speaks of nothing new but its own row -/
theorem frs_iff {J : Id} : ∀ {xs : List X}, Frs J xs ↔ ∀ x ∈ xs, Fr J x
  | [] => by simp [Frs, allps]
  | x :: xs => by
    have := frs_iff (J := J) (xs := xs)
    simp only [Frs, allps, Fr, List.mem_cons, forall_eq_or_imp] at this ⊢
    rw [this]
theorem roL_fr {J : Id} : ∀ {cs : List D} {xs : List X}, roL cs = some xs → Frs J xs
  | [], xs, h => by simp only [roL, Option.some.injEq] at h; subst h; trivial
  | c :: cs, xs, h => by
    simp only [roL, bind_some_iff, map_some_iff] at h
    obtain ⟨x, h1, ys, h2, rfl⟩ := h
    refine ⟨?_, roL_fr h2⟩
    unfold D.ro at h1
    split at h1 <;> simp only [Option.some.injEq, reduceCtorEq] at h1 <;> subst h1 <;> trivial
theorem ownL_fr {J id : Id} {q : Path} {j : Nat} (hi : id ≠ J) : ∀ {cs : List D} {i : Nat} {xs : List X}, ownL id q j i cs = some xs → Frs J xs
  | [], i, xs, h => by simp only [ownL, Option.some.injEq] at h; subst h; trivial
  | c :: cs, i, xs, h => by
    simp only [ownL, bind_some_iff, map_some_iff] at h
    obtain ⟨x, h1, ys, h2, rfl⟩ := h
    refine ⟨?_, ownL_fr hi h2⟩
    unfold D.own at h1
    split at h1 <;> simp only [Option.some.injEq, reduceCtorEq] at h1 <;> subst h1 <;> first | trivial | exact hi
theorem loadL_fr {J : Id} {h : Heap} {n : Nat} {x : X} {cs : List X} (hx : Fr J x) (hs : loadL h n x = some cs) : Frs J cs := by
  unfold loadL at hs
  split at hs
  · split at hs
    · exact roL_fr hs
    · simp at hs
  · split at hs
    · simp only [Option.some.injEq] at hs
      subst hs
      exact frs_iff.2 (fun y hy => frs_iff.1 hx y (List.mem_of_mem_take hy))
    · simp at hs
  · simp only [bind_some_iff] at hs
    obtain ⟨r, _, el, _, hs⟩ := hs
    split at hs
    · exact ownL_fr hx hs
    · simp at hs
  · simp at hs
theorem cellsV_fr {J : Id} {x : X} {us : List X} (hx : Fr J x) (h : x.cellsV = some us) : Frs J us := by
  unfold X.cellsV at h
  split at h <;> simp only [Option.some.injEq, reduceCtorEq] at h <;> subst h
  · exact hx
  · exact ⟨hx, trivial⟩
theorem setX_fr {J : Id} : ∀ {us cs : List X} {i : Nat}, Frs J cs → Frs J us → Frs J (setX cs i us)
  | [], cs, i, h, _ => h
  | u :: us, cs, i, h, hu => setX_fr (us := us) (frs_iff.2 (fun y hy => (List.mem_or_eq_of_mem_set hy).elim (frs_iff.1 h y) (fun e => by rw [e]; exact hu.1))) hu.2
section
variable {C : Cl} {s s' : St} {J : Id} {d : Option Nat} {id : Nat}
theorem fillX_fr (hF : Free0 J s) : ∀ {ps : List (Nat × Nat × O)} {cs xs : List X}, Frs J cs → fillX s cs ps = some xs → Frs J xs
  | [], cs, xs, hc, h => by simp only [fillX, Option.some.injEq] at h; subst h; exact hc
  | (off, n, o) :: ps, cs, xs, hc, h => by
    simp only [fillX, bind_some_iff] at h
    obtain ⟨x, h1, us, h2, h3⟩ := h
    split at h3
    · exact fillX_fr hF (setX_fr hc (cellsV_fr (rdO_fr hF h1) h2)) h3
    · simp at h3
theorem put_free {u : St} {x : X} (hF : Free0 J s) (he : u.env = s.env) (hx : Fr J x) : Free0 J (u.put d x) := by
  intro t y hy
  cases d with
  | none => exact hF t y (by rw [← he]; exact hy)
  | some d =>
    simp only [St.put, upd] at hy
    split at hy
    · simp only [Option.some.injEq] at hy; subst hy; exact hx
    · exact hF t y (by rw [← he]; exact hy)
def SOp.still : SOp → Bool
  | .store .. => false
  | .calli .. => false
  | .callb .. => false
  | .call .. => false
  | .callr .. => false
  | _ => true
theorem still_calm {o : SOp} (h : o.still = true) : o.calm = true := by cases o <;> first | rfl | simp [SOp.still] at h
theorem opS_free {o : SOp} (hk : o.still = true) (hF : Free0 J s) (hJ : (s.fr, id) ≠ J) (hs : opS C s d id o = some s') : Free0 J s' := by
  cases o <;> try (simp only [SOp.still, Bool.false_eq_true] at hk; done)
  case mov x =>
    simp only [opS, bind_some_iff, map_some_iff] at hs
    obtain ⟨y, h1, rfl⟩ := hs
    exact put_free hF rfl (rdO_fr hF h1)
  case pick c a b =>
    simp only [opS, bind_some_iff] at hs
    obtain ⟨m, h1, h2⟩ := hs
    split at h2 <;> (rw [map_some_iff] at h2; obtain ⟨y, h3, rfl⟩ := h2; exact put_free hF rfl (rdO_fr hF h3))
  case ari b x y =>
    simp only [opS, bind_some_iff] at hs
    obtain ⟨m, h1, k, h2, h3⟩ := hs
    split at h3
    · rw [map_some_iff] at h3; obtain ⟨z, h4, rfl⟩ := h3; exact put_free hF rfl trivial
    · simp at h3
  case cmp b x y =>
    simp only [opS, bind_some_iff, map_some_iff] at hs
    obtain ⟨m, h1, k, h2, z, h3, rfl⟩ := hs
    exact put_free hF rfl trivial
  case cmpb b x y =>
    simp only [opS, bind_some_iff, map_some_iff] at hs
    obtain ⟨m, h1, k, h2, z, h3, rfl⟩ := hs
    exact put_free hF rfl trivial
  case cat x y =>
    simp only [opS, bind_some_iff] at hs
    obtain ⟨m, h1, k, h2, h9⟩ := hs
    split at h9 <;> first | (simp only [Option.some.injEq] at h9; subst h9; exact put_free hF rfl trivial) | (rw [map_some_iff] at h9; obtain ⟨z, _, rfl⟩ := h9; exact put_free hF rfl trivial) | simp at h9
  case neg x =>
    simp only [opS, bind_some_iff, map_some_iff] at hs
    obtain ⟨y, h1, rfl⟩ := hs
    exact put_free hF rfl trivial
  case not x =>
    simp only [opS, bind_some_iff, map_some_iff] at hs
    obtain ⟨y, h1, rfl⟩ := hs
    exact put_free hF rfl trivial
  case conv k x =>
    simp only [opS, bind_some_iff, map_some_iff] at hs
    obtain ⟨y, h1, rfl⟩ := hs
    exact put_free hF rfl trivial
  case rune x =>
    simp only [opS, bind_some_iff, map_some_iff] at hs
    obtain ⟨y, h1, rfl⟩ := hs
    exact put_free hF rfl trivial
  case slen x =>
    simp only [opS, bind_some_iff, map_some_iff] at hs
    obtain ⟨y, h1, rfl⟩ := hs
    exact put_free hF rfl trivial
  case bos x =>
    simp only [opS, bind_some_iff] at hs
    obtain ⟨y, h1, h9⟩ := hs
    split at h9 <;> first | (simp only [Option.some.injEq] at h9; subst h9; exact put_free hF rfl trivial) | (rw [map_some_iff] at h9; obtain ⟨z, _, rfl⟩ := h9; exact put_free hF rfl trivial) | simp at h9
  case idxb f x y =>
    simp only [opS, bind_some_iff] at hs
    obtain ⟨m, h1, k, h2, h9⟩ := hs
    split at h9 <;> first | (simp only [Option.some.injEq] at h9; subst h9; exact put_free hF rfl trivial) | (rw [map_some_iff] at h9; obtain ⟨z, _, rfl⟩ := h9; exact put_free hF rfl trivial) | simp at h9
  case sob x =>
    simp only [opS, bind_some_iff] at hs
    obtain ⟨y, h1, ns, h2, h3⟩ := hs
    split at h3
    · simp at h3
    · simp only [Option.some.injEq] at h3; subst h3; exact put_free hF rfl trivial
  case fld off n x =>
    simp only [opS, bind_some_iff] at hs
    obtain ⟨y, h1, h2⟩ := hs
    have hy := rdO_fr hF h1
    split at h2
    · rename_i cs
      rw [map_some_iff] at h2
      obtain ⟨z, h3, rfl⟩ := h2
      refine put_free hF rfl ?_
      have hc := frs_iff.1 (show Frs J cs from hy)
      cases n with
      | none => exact hc z (List.mem_of_getElem? h3)
      | some n =>
        simp only [fldX] at h3
        split at h3
        · simp only [Option.some.injEq] at h3; subst h3
          exact frs_iff.2 (fun y hy => hc y (List.mem_of_mem_drop (List.mem_of_mem_take hy)))
        · simp at h3
    · simp at h2
  case faddr off x =>
    simp only [opS, bind_some_iff, map_some_iff] at hs
    obtain ⟨y, h1, z, h2, rfl⟩ := hs
    have hy := rdO_fr hF h1
    refine put_free hF rfl ?_
    unfold faddrX at h2
    split at h2 <;> simp only [Option.some.injEq, reduceCtorEq] at h2 <;> subst h2
    · exact hy
    · trivial
    · exact frs_iff.2 (fun y hy' => frs_iff.1 hy y (List.mem_of_mem_drop hy'))
  case ixa sz x i =>
    simp only [opS, bind_some_iff, map_some_iff] at hs
    obtain ⟨y, h1, m, h2, z, h3, rfl⟩ := hs
    have hy := rdO_fr hF h1
    refine put_free hF rfl ?_
    unfold ixaX at h3
    split at h3
    · split at h3
      · simp only [bind_some_iff] at h3
        obtain ⟨el, _, h3⟩ := h3
        split at h3
        · simp only [Option.some.injEq] at h3; subst h3; trivial
        · simp at h3
      · simp at h3
    · simp only [bind_some_iff] at h3
      obtain ⟨r, _, h3⟩ := h3
      split at h3
      · simp only [Option.some.injEq] at h3; subst h3; exact hy
      · simp at h3
    · simp at h3
  case ixs x i =>
    simp only [opS, bind_some_iff] at hs
    obtain ⟨m, h1, k, h2, h9⟩ := hs
    split at h9 <;> first | (simp only [Option.some.injEq] at h9; subst h9; exact put_free hF rfl trivial) | (rw [map_some_iff] at h9; obtain ⟨z, _, rfl⟩ := h9; exact put_free hF rfl trivial) | simp at h9
  case load n x =>
    simp only [opS, bind_some_iff, map_some_iff] at hs
    obtain ⟨y, h1, cs, h2, z, h3, rfl⟩ := hs
    have hy := loadL_fr (rdO_fr hF h1) h2
    refine put_free hF rfl ?_
    unfold loadV at h3
    split at h3
    · unfold one at h3
      split at h3
      · simp only [Option.some.injEq] at h3; subst h3; exact hy.1
      · simp at h3
    · simp only [Option.some.injEq] at h3; subst h3; exact hy
  case mm mx x y =>
    simp only [opS, bind_some_iff] at hs
    obtain ⟨m, h1, k, h2, h9⟩ := hs
    split at h9 <;> first | (simp only [Option.some.injEq] at h9; subst h9; exact put_free hF rfl trivial) | (rw [map_some_iff] at h9; obtain ⟨z, _, rfl⟩ := h9; exact put_free hF rfl trivial) | simp at h9
  case eqa ng k x y =>
    simp only [opS, bind_some_iff] at hs
    obtain ⟨a, h1, b, h2, cs, h3, ds, h4, z, h5, h9⟩ := hs
    split at h9 <;> first | (simp only [Option.some.injEq] at h9; subst h9; exact put_free hF rfl trivial) | (rw [map_some_iff] at h9; obtain ⟨z, _, rfl⟩ := h9; exact put_free hF rfl trivial) | simp at h9
  case vbox n x =>
    simp only [opS, bind_some_iff] at hs
    obtain ⟨y, h1, cs, h2, h3⟩ := hs
    split at h3
    · simp only [Option.some.injEq] at h3; subst h3; exact put_free hF rfl (show Frs J cs from cellsV_fr (rdO_fr hF h1) h2)
    · simp at h3
  case build zs ps =>
    simp only [opS, map_some_iff] at hs
    obtain ⟨cs, h1, rfl⟩ := hs
    refine put_free hF rfl (show Frs J cs from fillX_fr hF (frs_iff.2 (fun y hy => ?_)) h1)
    obtain ⟨z, _, rfl⟩ := List.mem_map.1 hy
    trivial
  case cutr sz x lo hi =>
    simp only [opS, bind_some_iff] at hs
    obtain ⟨y, h1, h2⟩ := hs
    split at h2
    · simp only [bind_some_iff] at h2
      obtain ⟨l, _, k, _, h9⟩ := h2
      split at h9
      · simp only [Option.some.injEq] at h9; subst h9; exact put_free hF rfl trivial
      · simp at h9
    · simp at h2
  case cutS x lo hi =>
    simp only [opS, bind_some_iff] at hs
    obtain ⟨y, h1, l, h2, k, h3, h9⟩ := hs
    split at h9 <;> first | (simp only [Option.some.injEq] at h9; subst h9; exact put_free hF rfl trivial) | (rw [map_some_iff] at h9; obtain ⟨z, _, rfl⟩ := h9; exact put_free hF rfl trivial) | simp at h9
  case len x =>
    simp only [opS, bind_some_iff, map_some_iff] at hs
    obtain ⟨y, h1, z, h3, rfl⟩ := hs
    exact put_free hF rfl trivial
  case fn f xs =>
    simp only [opS, map_some_iff] at hs
    obtain ⟨as, h1, rfl⟩ := hs
    refine put_free hF rfl ?_
    split
    · trivial
    · exact rdOs_fr hF h1
  case ext x i =>
    simp only [opS, bind_some_iff] at hs
    obtain ⟨y, h1, h2⟩ := hs
    have hy := rdO_fr hF h1
    split at h2
    · rw [map_some_iff] at h2
      obtain ⟨z, h3, rfl⟩ := h2
      exact put_free hF rfl (frs_iff.1 hy z (List.mem_of_getElem? h3))
    · simp at h2
  case nck x =>
    simp only [opS, bind_some_iff, map_some_iff] at hs
    obtain ⟨y, h1, z, h2, rfl⟩ := hs
    have hy := rdO_fr hF h1
    refine put_free hF rfl ?_
    unfold nonnil at h2
    split at h2 <;> simp only [Option.some.injEq, reduceCtorEq] at h2 <;> subst h2 <;> exact hy
  case box n x =>
    simp only [opS, bind_some_iff] at hs
    obtain ⟨y, h1, b, h2, h3⟩ := hs
    split at h3
    · simp only [Option.some.injEq] at h3; subst h3; exact put_free hF rfl (show (s.fr, id) ≠ J from hJ)
    · simp at h3
  case alloc zs => simp only [opS, Option.some.injEq] at hs; subst hs; exact put_free hF rfl (show (s.fr, id) ≠ J from hJ)
  case lit sz ps =>
    simp only [opS, map_some_iff] at hs
    obtain ⟨b, h1, rfl⟩ := hs
    exact put_free hF rfl (show (s.fr, id) ≠ J from hJ)
  case mk sz bytes zs n =>
    simp only [opS, bind_some_iff] at hs
    obtain ⟨m, h1, h3⟩ := hs
    split at h3
    · simp only [Option.some.injEq] at h3; subst h3; exact put_free hF rfl (show (s.fr, id) ≠ J from hJ)
    · simp at h3
  case app sz bytes x y =>
    simp only [opS, bind_some_iff] at hs
    obtain ⟨a, h1, b, h2, l, h3, m, h4, h5⟩ := hs
    split at h5
    · simp only [Option.some.injEq] at h5; subst h5; exact put_free hF rfl (show (s.fr, id) ≠ J from hJ)
    · simp at h5
theorem itS_free {it : SItem} (hk : it.o.still = true) (hF : Free0 J s) (hJ : (s.fr, id) ≠ J) (hs : itS C s id it = some s') : Free0 J s' := by
  unfold itS at hs
  split at hs
  · exact opS_free hk hF hJ hs
  · rw [bind_some_iff] at hs
    obtain ⟨c, h1, h2⟩ := hs
    split at h2
    · exact opS_free hk hF hJ h2
    · simp only [Option.some.injEq] at h2
      subst h2
      exact put_free hF rfl trivial
end
end Go.Ev
