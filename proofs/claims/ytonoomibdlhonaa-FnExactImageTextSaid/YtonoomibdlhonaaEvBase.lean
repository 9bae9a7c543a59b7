/- What the pure proofs share: short names, whole numbers in range, memory. -/
import Derived.Test.YtonoomibdlhonaaEvRow
set_option linter.all false
namespace Go.Ev

abbrev I (n : Int) : X := .d (.v (.int .i64 n))
abbrev B (n : Bool) : X := .d (.v (.bool n))
abbrev Str (n : ByteArray) : X := .d (.v (.string n))
abbrev DI (n : Int) : D := .v (.int .i64 n)
abbrev DB (n : Bool) : D := .v (.bool n)
abbrev DS (n : ByteArray) : D := .v (.string n)

/-- What a function hands back out of its last state: with memory; alone. -/
def fini (res : List SRes) (fr : Nat) : Ex × St → Option (X × Heap)
  | (.ext _, _) => none
  | (.nor, s) => (rdRes s res).bind fun xs => (fins fr s.heap xs).map fun b => (packed b.1, dropF fr b.2)
  | (.ret, s) => (rdRes s res).bind fun xs => (fins fr s.heap xs).map fun b => (packed b.1, dropF fr b.2)
def finX (res : List SRes) : Ex × St → Option X
  | (.ext _, _) => none
  | (.nor, s) => (rdRes s res).bind fun xs => (fins 0 s.heap xs).map fun b => packed b.1
  | (.ret, s) => (rdRes s res).bind fun xs => (fins 0 s.heap xs).map fun b => packed b.1
theorem call_of {Φ : Nat → Option SFn} {f np nt : Nat} {code : SCode} {res : List SRes} (h : Φ f = some ⟨np, nt, code, res⟩) (args : List X) (hl : args.length = np) : call Φ f args = (evW Φ code { env := initE 0 args, heap := emp, fr := 0, next := 0 }).bind (finX res) := by
  unfold call
  rw [evCW_eq, h]
  simp only [Option.bind_some, hl, if_true]
  cases evW Φ code { env := initE 0 args, heap := emp, fr := 0, next := 0 } with
  | none => rfl
  | some r =>
    obtain ⟨e, s⟩ := r
    cases e <;> simp only [Option.bind_some, back, finX, Option.map_none]
    · cases rdRes s res with
      | none => rfl
      | some xs => simp only [Option.bind_some]; cases fins 0 s.heap xs <;> rfl
    · cases rdRes s res with
      | none => rfl
      | some xs => simp only [Option.bind_some]; cases fins 0 s.heap xs <;> rfl
theorem evCW_of {Φ : Nat → Option SFn} {f np nt : Nat} {code : SCode} {res : List SRes} (h : Φ f = some ⟨np, nt, code, res⟩) (args : List X) (m : Heap) (fr : Nat) (hl : args.length = np) : evCW Φ f args m fr = (evW Φ code { env := initE 0 args, heap := m, fr := fr, next := 0 }).bind (fini res fr) := by
  rw [evCW_eq, h]
  simp only [Option.bind_some, hl, if_true]
  congr 1

abbrev i64 (n : Int) : Prop := -9223372036854775808 ≤ n ∧ n ≤ 9223372036854775807
theorem w64 {n : Int} (h : i64 n) : IntKind.wrap .i64 n = n := by
  obtain ⟨h1, h2⟩ := h
  simp only [IntKind.wrap, IntKind.signed, IntKind.bits, Bool.true_and, decide_eq_true_eq, ge_iff_le, Nat.reduceSub, Int.reducePow]
  by_cases h : 2 ^ 63 ≤ n % 2 ^ 64
  · simp only [Int.reducePow] at h
    rw [if_pos h]; omega
  · simp only [Int.reducePow] at h
    rw [if_neg h]; omega
theorem wf64 {n : Int} (h : (Lit.int .i64 n).wf = true) : i64 n := by
  simp [Lit.wf, IntKind.min, IntKind.max, IntKind.signed, IntKind.bits] at h
  omega
theorem w32 {n : Int} (h : -2147483648 ≤ n ∧ n ≤ 2147483647) : IntKind.wrap .i32 n = n := by
  obtain ⟨h1, h2⟩ := h
  simp only [IntKind.wrap, IntKind.signed, IntKind.bits, Bool.true_and, decide_eq_true_eq, ge_iff_le, Nat.reduceSub, Int.reducePow]
  by_cases h : 2 ^ 31 ≤ n % 2 ^ 32
  · simp only [Int.reducePow] at h
    rw [if_pos h]; omega
  · simp only [Int.reducePow] at h
    rw [if_neg h]; omega
theorem wu8 {n : Int} (h : 0 ≤ n ∧ n ≤ 255) : IntKind.wrap .u8 n = n := by
  obtain ⟨h1, h2⟩ := h
  simp only [IntKind.wrap, IntKind.signed, IntKind.bits]
  simp
  omega
theorem dropF_emp (fr : Nat) : dropF fr emp = emp := by
  funext id
  simp [dropF, emp]
theorem dropF_same (fr k : Nat) (h : Heap) (x : Option D) : dropF fr (upd h (fr, k) x) = dropF fr h := by
  funext id
  simp only [dropF, upd]
  split
  · rfl
  · split
    · rename_i h1 h2
      subst h2
      exact absurd rfl h1
    · rfl
theorem upd_upd {κ α : Type} [DecidableEq κ] (f : κ → Option α) (k : κ) (x y : Option α) : upd (upd f k x) k y = upd f k y := by
  funext j
  simp only [upd]
  split <;> rfl

/-! ### Steps that wait for what they need -/
def runI (C : Cl) (i : Nat) (l : List SItem) (st : St) : Option St := opsS C st i l
def guardK (C : Cl) (st : St) (id : Nat) (d : Option Nat) (o : SOp) (b : Bool) (c : Bool) : Option St := if c = b then opS C st d id o else some (st.lose d)
theorem runI_nil (C : Cl) (i : Nat) (st : St) : runI C i [] st = some { st with next := st.next + i } := rfl
theorem runI_cons (C : Cl) (i : Nat) (d : Option Nat) (o : SOp) (l : List SItem) (st : St) : runI C i (⟨d, none, o⟩ :: l) st = (opS C st d (st.next + i) o).bind (runI C (i + 32) l) := rfl
theorem runI_guard (C : Cl) (i : Nat) (d : Option Nat) (s : Nat) (b : Bool) (o : SOp) (l : List SItem) (st : St) : runI C i (⟨d, some (s, b), o⟩ :: l) st = (((st.env s).bind X.bool).bind (guardK C st (st.next + i) d o b)).bind (runI C (i + 32) l) := rfl
theorem guardK_tt (C : Cl) (st : St) (id : Nat) (d : Option Nat) (o : SOp) : guardK C st id d o true true = opS C st d id o := rfl
theorem guardK_ff (C : Cl) (st : St) (id : Nat) (d : Option Nat) (o : SOp) : guardK C st id d o false false = opS C st d id o := rfl
theorem guardK_tf (C : Cl) (st : St) (id : Nat) (d : Option Nat) (o : SOp) : guardK C st id d o true false = some (st.lose d) := rfl
theorem guardK_ft (C : Cl) (st : St) (id : Nat) (d : Option Nat) (o : SOp) : guardK C st id d o false true = some (st.lose d) := rfl
noncomputable def condK (Φ : Nat → Option SFn) (a b : SCode) (st : St) : Bool → Option (Ex × St)
  | true => evW Φ a st
  | false => evW Φ b st
theorem condK_t (Φ : Nat → Option SFn) (a b : SCode) (st : St) : condK Φ a b st true = evW Φ a st := rfl
theorem condK_f (Φ : Nat → Option SFn) (a b : SCode) (st : St) : condK Φ a b st false = evW Φ b st := rfl
def nor (s : St) : Ex × St := (.nor, s)
theorem evW_ops' {Φ : Nat → Option SFn} (l : List SItem) (st : St) : evW Φ (.ops l) st = (runI (evCW Φ) 0 l st).map nor := evW_ops l st
theorem evW_cond' {Φ : Nat → Option SFn} (o : O) (a b : SCode) (st : St) : evW Φ (.cond o a b) st = (rdB st o).bind (condK Φ a b st) := by
  rw [evW_cond]
  congr 1
  funext t
  cases t <;> rfl
end Go.Ev
namespace Go.Ev
attribute [go_sem] evW_seq evW_cond' evW_block evW_skip evW_ret evW_exit evW_keep evW_ops' evW_loop evW_stuck nor next outOf runI_nil runI_cons runI_guard guardK_tt guardK_ff guardK_tf guardK_ft condK_t condK_f opS rdO rdOs rdI rdB rdS X.int X.bool X.str cmpX cmpI cmpS cmpB ariV St.put St.lose St.with upd_apply emp_apply initE fini finX rdRes fins finV finC finL packed keepS keepM keepE keepH addN X.keeps X.flat X.offs X.offC offL X.ren X.renC kid dropF_emp dropF_same takeEls takeL takeX X.cells Heap.take Heap.row Heap.nav Heap.put D.nav D.put D.rowOf bytesX bytesL loadL loadV ownL D.own D.ro roL one storeL setCells fldX faddrX ixaX lenX nonnil landed impR impV impC impT impL X.ncells snaps snap snapC snapL roArgs X.roV X.roC roAll X.noR X.noRV X.noRC D.noR X.frz X.frzV X.frzC frzT frzL iso_call calleeX fnOf bound fillX setX X.cellsV baseEls srcEls upd_upd plainL
attribute [go_sem] Int.cast_ofNat_Int List.size_toArray Option.bind_some Option.map_some Option.bind_none Option.map_none Option.getD_some Option.getD_none Option.isSome_some Option.isSome_none List.find?_nil List.find?_cons List.length_cons List.length_nil List.all_cons List.all_nil List.map_cons List.map_nil List.append_nil List.nil_append List.cons_append List.isEmpty_cons List.isEmpty_nil Bool.and_true Bool.true_and Bool.and_false Bool.false_and Bool.or_true Bool.true_or Bool.or_false Bool.false_or Bool.not_true Bool.not_false and_true true_and and_self and_false false_and or_true true_or or_false false_or not_true_eq_false not_false_eq_true decide_true decide_false eq_self if_true if_false Bool.false_eq_true beq_self_eq_true Prod.mk.injEq Nat.zero_add Nat.add_zero List.drop_zero List.take_zero List.drop_succ_cons List.take_succ_cons List.take_nil List.drop_nil List.getElem?_cons_zero List.getElem?_cons_succ List.getElem?_nil List.set_cons_zero List.set_cons_succ Nat.le_refl ite_self ne_eq
theorem tdiv_nn {n : Int} (h : 0 ≤ n) (k : Nat) : n.tdiv k = ((n.natAbs / k : Nat) : Int) := by
  obtain ⟨m, rfl⟩ := Int.eq_ofNat_of_zero_le h
  simp [Int.tdiv]
theorem tmod_nn {n : Int} (h : 0 ≤ n) (k : Nat) : n.tmod k = ((n.natAbs % k : Nat) : Int) := by
  obtain ⟨m, rfl⟩ := Int.eq_ofNat_of_zero_le h
  simp [Int.tmod]
theorem tdiv_np {n : Int} (h : n ≤ 0) (k : Nat) : n.tdiv k = -((n.natAbs / k : Nat) : Int) := by
  obtain ⟨m, hm⟩ := Int.eq_ofNat_of_zero_le (show 0 ≤ -n by omega)
  obtain rfl : n = -(m : Int) := by omega
  rw [Int.neg_tdiv, tdiv_nn (by omega)]
  simp
theorem tmod_np {n : Int} (h : n ≤ 0) (k : Nat) : n.tmod k = -((n.natAbs % k : Nat) : Int) := by
  obtain ⟨m, hm⟩ := Int.eq_ofNat_of_zero_le (show 0 ≤ -n by omega)
  obtain rfl : n = -(m : Int) := by omega
  rw [Int.neg_tmod, tmod_nn (by omega)]
  simp
end Go.Ev
namespace Go.Ev
/-! ### Conditions that the discharger decides -/
theorem ltT {a b : Int} (h : a < b) : (a < b) = True := eq_true h
theorem ltF {a b : Int} (h : ¬ a < b) : (a < b) = False := eq_false h
theorem leT {a b : Int} (h : a ≤ b) : (a ≤ b) = True := eq_true h
theorem leF {a b : Int} (h : ¬ a ≤ b) : (a ≤ b) = False := eq_false h
theorem neF {a b : Int} (h : ¬ a = b) : (a = b) = False := eq_false h
theorem catT {a b : ByteArray} (h : catOk a b) : catOk a b = True := eq_true h
theorem mkT {a : Nat} {b : Int} (h : mkOk a b) : mkOk a b = True := eq_true h
theorem appT {a b c : Nat} (h : appOk a b c) : appOk a b c = True := eq_true h
theorem size_lit (l : List UInt8) : (⟨l.toArray⟩ : ByteArray).size = l.length := rfl
theorem fzl_idem_v : ∀ (l : List D), (∀ d ∈ l, ∃ x, d = .v x) → fzl l = l
  | [], _ => by simp [fzl]
  | d :: l, h => by
    obtain ⟨x, rfl⟩ := h d (by simp)
    simp only [fzl, D.fz, fzl_idem_v l (fun d hd => h d (by simp [hd]))]
theorem fzs_map {α : Type} (f : α → List D) (g : α → List D) (h : ∀ a, fzl (f a) = g a) : ∀ xs : List α, fzs (xs.map f) = xs.map g
  | [] => by simp [fzs]
  | x :: xs => by simp only [List.map_cons, fzs, h, fzs_map f g h xs]
theorem wrap_id {n : Int} (h : -9223372036854775808 ≤ n ∧ n ≤ 9223372036854775807) : IntKind.i64.wrap n = n := w64 h
attribute [go_sem] fzl D.fz
end Go.Ev
