/- Code: each operation checked against the machine's, regions, code, functions. -/
import Derived.Test.YtcoigakalblkgaaEvBor3
import Derived.Test.YtcoigakalblkgaaEvOps7
set_option linter.all false
namespace Go.Ev
open Go.RowKit

def chkOp (P : Program) (o : Oper) : SOp → Bool
  | .mov x => match o.op with
    | .move y => eqO y x
    | .assign y => eqO y x
    | _ => false
  | .pick x1 x2 x3 => match o.op with
    | .pick y1 y2 y3 => eqO y1 x1 && eqO y2 x2 && eqO y3 x3
    | _ => false
  | .ari b x1 x2 => match o.op with
    | .binOp b' _ y1 y2 _ => decide (b' = b) && eqO y1 x1 && eqO y2 x2
    | _ => false
  | .cmp b x1 x2 => match o.op with
    | .binOp b' _ y1 y2 _ => decide (b' = b) && eqO y1 x1 && eqO y2 x2
    | _ => false
  | .cmpb b x1 x2 => match o.op with
    | .binOp b' t y1 y2 _ => decide (b' = b) && eqO y1 x1 && eqO y2 x2 && isBool P t
    | _ => false
  | .cat x1 x2 => match o.op with
    | .binOp b' _ y1 y2 _ => decide (b' = .add) && eqO y1 x1 && eqO y2 x2
    | _ => false
  | .neg x => match o.op with
    | .unOp b _ y => decide (b = .neg) && eqO y x
    | _ => false
  | .not x => match o.op with
    | .unOp b _ y => decide (b = .not) && eqO y x
    | _ => false
  | .conv k x => match o.op with
    | .convert t1 t2 y => eqO y x && (P.underlying t1).isSome && decide (intK P t2 = some k)
    | _ => false
  | .rune x => match o.op with
    | .convert t1 t2 y => eqO y x && (P.underlying t1).isSome && isStr P t2
    | _ => false
  | .sob x => match o.op with
    | .convert t1 t2 y => eqO y x && isStr P t2 && (match sliceE P t1 with | some e => decide (intK P e = some .u8) | none => false)
    | _ => false
  | .fld off n x => match o.op with
    | .field t y f => eqO y x && match fieldT P t f with
      | some (off', ft) => decide (off' = off) && decide (aggOf P ft = some n)
      | none => false
    | _ => false
  | .faddr off x => match o.op with
    | .fieldAddr t y f => eqO y x && match fieldT P t f with
      | some (off', ft) => decide (off' = off) && match sizeT P ft with
        | some m => decide (m ≠ 0)
        | none => false
      | none => false
    | _ => false
  | .ixa sz x1 x2 => match o.op with
    | .indexAddr t y1 y2 => eqO y1 x1 && eqO y2 x2 && match sliceE P t with
      | some e => decide (sizeT P e = some sz)
      | none => false
    | _ => false
  | .ixs x1 x2 => match o.op with
    | .index t y1 y2 => eqO y1 x1 && eqO y2 x2 && isStr P t
    | _ => false
  | .load n x => match o.op with
    | .load t y => eqO y x && decide (aggOf P t = some n)
    | _ => false
  | .store n x1 x2 => match o.op with
    | .store t y1 y2 => eqO y1 x1 && eqO y2 x2 && decide (sizeT P t = some n) && decide (0 < n)
    | _ => false
  | .box _ x => match o.op with
    | .box _ y => eqO y x
    | _ => false
  | .mm mx x1 x2 => match o.op with
    | .call r => match r.callee, r.args.toList with
      | .builtin b, [y1, y2] => decide (b = (if mx then .max else .min)) && eqO y1 x1 && eqO y2 x2
      | _, _ => false
    | _ => false
  | .eqa ng n x1 x2 => match o.op with
    | .binOp b' t y1 y2 _ => decide (b' = (if ng then .neq else .eql)) && eqO y1 x1 && eqO y2 x2 && intsT P n t
    | _ => false
  | .vbox _ x => match o.op with
    | .box _ y => eqO y x
    | _ => false
  | .alloc zs => match o.op with
    | .alloc t => match zeroT P t with
      | some vs => zEq vs zs
      | none => false
    | _ => false
  | .build zs ps => match o.op with
    | .build t parts => match placesOf P t, zeroT P t with
      | some places, some vz => bldEq places parts.toList ps && zEq vz zs
      | _, _ => false
    | _ => false
  | .lit sz os => match o.op with
    | .buildSlice t len parts => decide (parts.toList.map (fun x => x.1) = List.range len) && eqOs (parts.toList.map fun x => x.2) os && match sliceE P t with
      | some e => match P.info? e with
        | some i => decide (i.size = sz) && decide (0 < sz) && i.zero.isSome && decide (len * sz ≤ 16777216)
        | none => false
      | none => false
    | _ => false
  | .mk sz bytes zs n => match o.op with
    | .makeSlice t y1 y2 => eqO y1 n && eqO y2 n && match sliceE P t with
      | some e => match P.info? e, zeroT P e with
        | some i, some vs => decide (i.size = sz) && decide (i.bytes = bytes) && decide (0 < sz) && decide (0 < bytes) && zEq vs zs
        | _, _ => false
      | none => false
    | _ => false
  | .cutr sz x lo hi => match o.op with
    | .slice t y l h m => eqO y x && eqOo l lo && eqOo h hi && m.isNone && match sliceE P t with
      | some e => decide (sizeT P e = some sz)
      | none => false
    | _ => false
  | .cutS x lo hi => match o.op with
    | .slice t y l h m => eqO y x && eqOo l lo && eqOo h hi && m.isNone && isStr P t
    | _ => false
  | .len x => match o.op with
    | .call r => match r.callee, r.args.toList, r.argTypes.toList with
      | .builtin b, [y], [t] => decide (b = .len) && eqO y x && (sliceE P t).isSome
      | _, _, _ => false
    | _ => false
  | .slen x => match o.op with
    | .call r => match r.callee, r.args.toList, r.argTypes.toList with
      | .builtin b, [y], [t] => decide (b = .len) && eqO y x && isStr P t
      | _, _, _ => false
    | _ => false
  | .app sz bytes x1 x2 => match o.op with
    | .call r => match r.callee, r.args.toList, r.argTypes.toList with
      | .builtin b, [y1, y2], [t, t2] => decide (b = .append) && decide (t2 = t) && eqO y1 x1 && eqO y2 x2 && match sliceE P t with
        | some e => match P.info? e, zeroT P e with
          | some i, some vs => decide (i.size = sz) && decide (i.bytes = bytes) && decide (0 < sz) && decide (vs.length = sz)
          | _, _ => false
        | none => false
      | _, _, _ => false
    | _ => false
  | .fn f caps => match o.op with
    | .makeFunc (.func f') first ys => decide (f' = f) && decide (first.size = 0) && eqOs ys.toList caps
    | _ => false
  | .call f xs => match o.op with
    | .call r => match r.callee with
      | .value y => eqO y (.f f) && eqOs r.args.toList xs
      | _ => false
    | _ => false
  | .callr f xs => match o.op with
    | .call r => match r.callee with
      | .value y => eqO y (.f f) && eqOs r.args.toList xs
      | _ => false
    | _ => false
  | .calli f xs => match o.op with
    | .call r => match r.callee with
      | .value y => eqO y f && eqOs r.args.toList xs
      | _ => false
    | _ => false
  | .callb f xs _ => match o.op with
    | .call r => match r.callee with
      | .value y => eqO y (.f f) && eqOs r.args.toList xs
      | _ => false
    | _ => false
  | .ext x i => match o.op with
    | .extract y i' => eqO y x && decide (i' = i)
    | _ => false
  | .nck x => match o.op with
    | .nilCheck y => eqO y x
    | _ => false

section
variable {c : Ctx} {st st' : St} {U : Nat → Prop} {γ : Gm} {S : Nat → Prop} {a : Act} {w : World} {C : Cl} {o : Oper} {id : Nat}

theorem Ok.mono {U' : Nat → Prop} (h : Ok c st U a w) (hU : ∀ k, U k → U' k) : Ok c st U' a w := by
  obtain ⟨γ, S, R⟩ := h
  exact ⟨γ, S, R.mono hU⟩
theorem Runs.mono {U' : Nat → Prop} (h : Runs c o a w st' U) (hU : ∀ k, U k → U' k) : Runs c o a w st' U' := by
  cases h with
  | value v w' h k => exact .value v w' h (k.mono hU)
  | skip w' h k => exact .skip w' h (k.mono hU)
  | enter f args w1 h k => exact .enter f args w1 h (k.mono fun e w' ⟨v, h1, h2⟩ => ⟨v, h1, h2.mono hU⟩)

theorem array_of_toList {α : Type} {xs : Array α} {l : List α} (h : xs.toList = l) : xs = l.toArray := by
  cases xs; simp_all
theorem call_eq {r : Call} {k : Callee} {ys : List Operand} {ts : List TypeId} (h1 : r.callee = k) (h2 : r.args.toList = ys) (h3 : r.argTypes.toList = ts) : r = { callee := k, args := ys.toArray, argTypes := ts.toArray } := by
  cases r
  simp only at h1 h2 h3
  subst h1
  rw [array_of_toList h2, array_of_toList h3]

/-- Such an operation leaves memory as it is. -/
def SOp.quiet : SOp → Bool
  | .box .. => false
  | .alloc .. => false
  | .lit .. => false
  | .mk .. => false
  | .app .. => false
  | .store .. => false
  | .call .. => false
  | .calli .. => false
  | .callb .. => false
  | _ => true

theorem chkOp_ok (R : Rep c st U γ S a w) (hd : ∀ k, o.dst = some k → k < c.nt) {s : SOp} (hc : chkOp c.P o s = true) (hC : CallOk c.P C) {n : Nat} (hn' : s.quiet = false → ∀ k, n ≤ k → k < n + 32 → ¬ U k) {U' : Nat → Prop} (hU0 : ∀ k, U k → U' k) (hU' : s.quiet = false → ∀ k, n ≤ k → k < n + 32 → U' k)
    (hs : opS C st o.dst n s = some st') : Runs c o a w st' U' := by
  cases s with
  | mov x =>
    simp only [chkOp] at hc
    split at hc
    · exact (op_mov R hd (.inl ‹_›) hc hs).mono hU0
    · exact (op_mov R hd (.inr ‹_›) hc hs).mono hU0
    · simp at hc
  | pick x1 x2 x3 =>
    simp only [chkOp] at hc
    split at hc
    · simp only [Bool.and_eq_true] at hc
      exact (op_pick R hd ‹_› hc.1.1 hc.1.2 hc.2 hs).mono hU0
    · simp at hc
  | ari b x1 x2 =>
    simp only [chkOp] at hc
    split at hc
    · simp only [Bool.and_eq_true, decide_eq_true_eq] at hc
      obtain ⟨⟨rfl, h1⟩, h2⟩ := hc
      exact (op_ari R hd ‹_› h1 h2 hs).mono hU0
    · simp at hc
  | cmp b x1 x2 =>
    simp only [chkOp] at hc
    split at hc
    · simp only [Bool.and_eq_true, decide_eq_true_eq] at hc
      obtain ⟨⟨rfl, h1⟩, h2⟩ := hc
      exact (op_cmp R hd ‹_› h1 h2 hs).mono hU0
    · simp at hc
  | cmpb b x1 x2 =>
    simp only [chkOp] at hc
    split at hc
    · simp only [Bool.and_eq_true, decide_eq_true_eq] at hc
      obtain ⟨⟨⟨rfl, h1⟩, h2⟩, h3⟩ := hc
      exact (op_cmpb R hd ‹_› h1 h2 h3 hs).mono hU0
    · simp at hc
  | cat x1 x2 =>
    simp only [chkOp] at hc
    split at hc
    · simp only [Bool.and_eq_true, decide_eq_true_eq] at hc
      obtain ⟨⟨rfl, h1⟩, h2⟩ := hc
      exact (op_cat R hd ‹_› h1 h2 hs).mono hU0
    · simp at hc
  | neg x =>
    simp only [chkOp] at hc
    split at hc
    · simp only [Bool.and_eq_true, decide_eq_true_eq] at hc
      obtain ⟨rfl, h1⟩ := hc
      exact (op_neg R hd ‹_› h1 hs).mono hU0
    · simp at hc
  | not x =>
    simp only [chkOp] at hc
    split at hc
    · simp only [Bool.and_eq_true, decide_eq_true_eq] at hc
      obtain ⟨rfl, h1⟩ := hc
      exact (op_not R hd ‹_› h1 hs).mono hU0
    · simp at hc
  | conv k x =>
    simp only [chkOp] at hc
    split at hc
    · simp only [Bool.and_eq_true, decide_eq_true_eq] at hc
      exact (op_conv R hd ‹_› hc.1.1 hc.1.2 hc.2 hs).mono hU0
    · simp at hc
  | rune x =>
    simp only [chkOp] at hc
    split at hc
    · simp only [Bool.and_eq_true] at hc
      exact (op_rune R hd ‹_› hc.1.1 hc.1.2 hc.2 hs).mono hU0
    · simp at hc
  | sob x =>
    simp only [chkOp] at hc
    split at hc
    · simp only [Bool.and_eq_true] at hc
      obtain ⟨⟨h1, h2⟩, h3⟩ := hc
      split at h3
      · simp only [decide_eq_true_eq] at h3
        exact (op_sob R hd ‹_› h1 ‹_› h3 h2 hs).mono hU0
      · simp at h3
    · simp at hc
  | fld off k x =>
    simp only [chkOp] at hc
    split at hc
    · simp only [Bool.and_eq_true] at hc
      obtain ⟨h1, h2⟩ := hc
      split at h2
      · rename_i h3
        simp only [Bool.and_eq_true, decide_eq_true_eq] at h2
        obtain ⟨rfl, h4⟩ := h2
        exact (op_fld R hd ‹_› h1 h3 h4 hs).mono hU0
      · simp at h2
    · simp at hc
  | faddr off x =>
    simp only [chkOp] at hc
    split at hc
    · simp only [Bool.and_eq_true] at hc
      obtain ⟨h1, h2⟩ := hc
      split at h2
      · rename_i h3
        simp only [Bool.and_eq_true, decide_eq_true_eq] at h2
        obtain ⟨rfl, h4⟩ := h2
        split at h4
        · rename_i h5
          simp only [decide_eq_true_eq] at h4
          exact (op_faddr R hd ‹_› h1 h3 h5 h4 hs).mono hU0
        · simp at h4
      · simp at h2
    · simp at hc
  | ixa sz x1 x2 =>
    simp only [chkOp] at hc
    split at hc
    · simp only [Bool.and_eq_true] at hc
      obtain ⟨⟨h1, h2⟩, h3⟩ := hc
      split at h3
      · rename_i h4
        simp only [decide_eq_true_eq] at h3
        exact (op_ixa R hd ‹_› h1 h2 h4 h3 hs).mono hU0
      · simp at h3
    · simp at hc
  | ixs x1 x2 =>
    simp only [chkOp] at hc
    split at hc
    · simp only [Bool.and_eq_true] at hc
      exact (op_ixs R hd ‹_› hc.1.1 hc.1.2 hc.2 hs).mono hU0
    · simp at hc
  | load k x =>
    simp only [chkOp] at hc
    split at hc
    · simp only [Bool.and_eq_true, decide_eq_true_eq] at hc
      exact (op_load R hd ‹_› hc.1 hc.2 hs).mono hU0
    · simp at hc
  | store k x1 x2 =>
    simp only [chkOp] at hc
    split at hc
    · simp only [Bool.and_eq_true, decide_eq_true_eq] at hc
      exact (op_store R ‹_› hc.1.1.1 hc.1.1.2 hc.1.2 hc.2 hs).mono hU0
    · simp at hc
  | box k x =>
    have hn := hn' rfl
    have hn0 : ¬ U n := hn n (Nat.le_refl _) (by omega)
    have hU1 : U' n := hU' rfl n (Nat.le_refl _) (by omega)
    simp only [chkOp] at hc
    split at hc
    · exact op_box R hd ‹_› hc hn0 hU0 hU1 hs
    · simp at hc
  | mm mx x1 x2 =>
    simp only [chkOp] at hc
    split at hc
    · rename_i r ho
      split at hc
      · rename_i b y1 y2 h1 h2
        simp only [Bool.and_eq_true, decide_eq_true_eq] at hc
        obtain ⟨⟨rfl, h3⟩, h4⟩ := hc
        rw [call_eq h1 h2 rfl] at ho
        exact (op_mm R hd ho h3 h4 hs).mono hU0
      · simp at hc
    · simp at hc
  | eqa ng n x1 x2 =>
    simp only [chkOp] at hc
    split at hc
    · simp only [Bool.and_eq_true, decide_eq_true_eq] at hc
      obtain ⟨⟨⟨rfl, h1⟩, h2⟩, h3⟩ := hc
      exact (op_eqa R hd ‹_› h1 h2 h3 hs).mono hU0
    · simp at hc
  | vbox k x =>
    simp only [chkOp] at hc
    split at hc
    · exact (op_vbox R hd ‹_› hc hs).mono hU0
    · simp at hc
  | alloc zs =>
    have hn := hn' rfl
    have hn0 : ¬ U n := hn n (Nat.le_refl _) (by omega)
    have hU1 : U' n := hU' rfl n (Nat.le_refl _) (by omega)
    simp only [chkOp] at hc
    split at hc
    · split at hc
      · exact op_alloc R hd ‹_› ‹_› hc hn0 hU0 hU1 hs
      · simp at hc
    · simp at hc
  | build zs ps =>
    simp only [chkOp] at hc
    split at hc
    · split at hc
      · simp only [Bool.and_eq_true] at hc
        exact (op_build R hd ‹_› ‹_› hc.1 ‹_› hc.2 hs).mono hU0
      · simp at hc
    · simp at hc
  | lit sz os =>
    have hn := hn' rfl
    have hn0 : ¬ U n := hn n (Nat.le_refl _) (by omega)
    have hU1 : U' n := hU' rfl n (Nat.le_refl _) (by omega)
    simp only [chkOp] at hc
    split at hc
    · rename_i t len parts ho
      simp only [Bool.and_eq_true, decide_eq_true_eq] at hc
      obtain ⟨⟨h1, h2⟩, h3⟩ := hc
      split at h3
      · rename_i e h4
        split at h3
        · rename_i i h5
          simp only [Bool.and_eq_true, decide_eq_true_eq] at h3
          obtain ⟨⟨⟨h6, h7⟩, h8⟩, h9⟩ := h3
          have hlen : parts.toList.length = len := by
            have := congrArg List.length h1
            simpa using this
          have hp : parts.toList = ((parts.toList.map fun x => x.2).zipIdx 0).map fun x => (x.2, x.1) := by
            apply List.ext_getElem?
            intro q
            simp only [List.getElem?_map, List.getElem?_zipIdx, Nat.zero_add, Option.map_map]
            have hq := congrArg (fun l => l[q]?) h1
            simp only [List.getElem?_map] at hq
            cases hx : parts.toList[q]? with
            | none => simp
            | some x =>
              rw [hx] at hq
              have hlt : q < len := by
                have := (List.getElem?_eq_some_iff.1 hx).1
                omega
              rw [List.getElem?_range hlt] at hq
              simp only [Option.map_some, Option.some.injEq] at hq
              simp only [Option.map_some, Option.some.injEq, Function.comp]
              rw [← hq]
          exact op_lit R hd ho hp (by simpa using hlen) h2 h4 h5 h6 h7 h8 h9 hn0 hU0 hU1 hs
        · simp at h3
      · simp at h3
    · simp at hc
  | mk sz bytes zs m =>
    have hn := hn' rfl
    have hn0 : ¬ U n := hn n (Nat.le_refl _) (by omega)
    have hU1 : U' n := hU' rfl n (Nat.le_refl _) (by omega)
    simp only [chkOp] at hc
    split at hc
    · simp only [Bool.and_eq_true] at hc
      obtain ⟨⟨h1, h2⟩, h3⟩ := hc
      split at h3
      · rename_i e h4
        split at h3
        · rename_i i vs h5 h6
          simp only [Bool.and_eq_true, decide_eq_true_eq] at h3
          obtain ⟨⟨⟨⟨h7, h8⟩, h9⟩, h10⟩, h11⟩ := h3
          exact op_mk R hd ‹_› h1 h2 h4 h6 h11 (fun i' hi' => by rw [h5] at hi'; simp only [Option.some.injEq] at hi'; subst hi'; exact ⟨h7, h8⟩) h9 h10 hn0 hU0 hU1 hs
        · simp at h3
      · simp at h3
    · simp at hc
  | cutr sz x lo hi =>
    simp only [chkOp] at hc
    split at hc
    · rename_i t y l h m ho
      simp only [Bool.and_eq_true, Option.isNone_iff_eq_none] at hc
      obtain ⟨⟨⟨⟨h1, h2⟩, h3⟩, rfl⟩, h4⟩ := hc
      split at h4
      · simp only [decide_eq_true_eq] at h4
        exact (op_cutr R hd ho h1 h2 h3 ‹_› h4 hs).mono hU0
      · simp at h4
    · simp at hc
  | cutS x lo hi =>
    simp only [chkOp] at hc
    split at hc
    · rename_i t y l h m ho
      simp only [Bool.and_eq_true, Option.isNone_iff_eq_none] at hc
      obtain ⟨⟨⟨⟨h1, h2⟩, h3⟩, rfl⟩, h4⟩ := hc
      exact (op_cutS R hd ho h1 h2 h3 h4 hs).mono hU0
    · simp at hc
  | len x =>
    simp only [chkOp] at hc
    split at hc
    · rename_i r ho
      split at hc
      · rename_i b y t h1 h2 h3
        simp only [Bool.and_eq_true, decide_eq_true_eq] at hc
        obtain ⟨⟨rfl, h4⟩, h5⟩ := hc
        obtain ⟨e, he⟩ := Option.isSome_iff_exists.1 h5
        rw [call_eq h1 h2 h3] at ho
        exact (op_len R hd ho h4 he hs).mono hU0
      · simp at hc
    · simp at hc
  | slen x =>
    simp only [chkOp] at hc
    split at hc
    · rename_i r ho
      split at hc
      · rename_i b y t h1 h2 h3
        simp only [Bool.and_eq_true, decide_eq_true_eq] at hc
        obtain ⟨⟨rfl, h4⟩, h5⟩ := hc
        rw [call_eq h1 h2 h3] at ho
        exact (op_slen R hd ho h4 h5 hs).mono hU0
      · simp at hc
    · simp at hc
  | app sz bytes x1 x2 =>
    have hn := hn' rfl
    have hn0 : ¬ U n := hn n (Nat.le_refl _) (by omega)
    have hU1 : U' n := hU' rfl n (Nat.le_refl _) (by omega)
    simp only [chkOp] at hc
    split at hc
    · rename_i r ho
      split at hc
      · rename_i b y1 y2 t t2 h1 h2 h3
        simp only [Bool.and_eq_true, decide_eq_true_eq] at hc
        obtain ⟨⟨⟨⟨rfl, rfl⟩, h4⟩, h5⟩, h6⟩ := hc
        split at h6
        · rename_i e h7
          split at h6
          · rename_i i vs h8 h9
            simp only [Bool.and_eq_true, decide_eq_true_eq] at h6
            obtain ⟨⟨⟨h10, h11⟩, h12⟩, h13⟩ := h6
            rw [call_eq h1 h2 h3] at ho
            exact op_app R hd ho h4 h5 h7 h8 h10 h11 h12 h9 h13 hn0 hU0 hU1 hs
          · simp at h6
        · simp at h6
      · simp at hc
    · simp at hc
  | fn f caps =>
    simp only [chkOp] at hc
    split at hc
    · rename_i f' first ys ho
      simp only [Bool.and_eq_true, decide_eq_true_eq] at hc
      obtain ⟨⟨rfl, h1⟩, h2⟩ := hc
      rw [Array.eq_empty_of_size_eq_zero h1] at ho
      exact (op_fn R hd ho h2 hs).mono hU0
    · simp at hc
  | call f xs =>
    have hn := hn' rfl
    have hU : ∀ k, UB U n 32 k → U' k := fun k h => h.elim (hU0 k) fun h => hU' rfl k h.1 h.2
    simp only [chkOp] at hc
    split at hc
    · rename_i r ho
      split at hc
      · rename_i y h1
        simp only [Bool.and_eq_true] at hc
        rw [call_eq h1 rfl rfl] at ho
        exact op_call R hd ho hc.1 (by simpa using hc.2) hC hn hU hs
      · simp at hc
    · simp at hc
  | callr f xs =>
    simp only [chkOp] at hc
    split at hc
    · rename_i r ho
      split at hc
      · rename_i y h1
        simp only [Bool.and_eq_true] at hc
        rw [call_eq h1 rfl rfl] at ho
        exact (op_callr R hd ho hc.1 (by simpa using hc.2) hC hs).mono hU0
      · simp at hc
    · simp at hc
  | calli f xs =>
    have hn := hn' rfl
    have hU : ∀ k, UB U n 32 k → U' k := fun k h => h.elim (hU0 k) fun h => hU' rfl k h.1 h.2
    simp only [chkOp] at hc
    split at hc
    · rename_i r ho
      split at hc
      · rename_i y h1
        simp only [Bool.and_eq_true] at hc
        rw [call_eq h1 rfl rfl] at ho
        exact op_calli R hd ho hc.1 (by simpa using hc.2) hC hn hU hs
      · simp at hc
    · simp at hc
  | callb f xs bs =>
    have hn := hn' rfl
    have hU : ∀ k, UB U n 32 k → U' k := fun k h => h.elim (hU0 k) fun h => hU' rfl k h.1 h.2
    simp only [chkOp] at hc
    split at hc
    · rename_i r ho
      split at hc
      · rename_i y h1
        simp only [Bool.and_eq_true] at hc
        rw [call_eq h1 rfl rfl] at ho
        exact op_callb R hd ho hc.1 (by simpa using hc.2) hC hn hU hs
      · simp at hc
    · simp at hc
  | ext x i =>
    simp only [chkOp] at hc
    split at hc
    · simp only [Bool.and_eq_true, decide_eq_true_eq] at hc
      obtain ⟨h1, rfl⟩ := hc
      exact (op_ext R hd ‹_› h1 hs).mono hU0
    · simp at hc
  | nck x =>
    simp only [chkOp] at hc
    split at hc
    · exact (op_nck R hd ‹_› hc hs).mono hU0
    · simp at hc

end
end Go.Ev
