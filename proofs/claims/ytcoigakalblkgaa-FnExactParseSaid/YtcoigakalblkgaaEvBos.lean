/- The bytes of a string, as a slice that is only read. -/
import Derived.Test.YtcoigakalblkgaaEvOps7
import Derived.Laws.IdiomStrings
import Derived.Laws.Externs
import Derived.KernelRfl
set_option linter.all false
namespace Go.Ev
open Go.RowKit

theorem ext_next {fn : Func} (h : fn.name = "internal/bytealg.IndexByteString") (h2 : fn.origin = "") : Extern.findNext fn = none := by
  unfold Extern.findNext
  rw [h, h2]
  have h1 : Extern.allNextRows.lookup "internal/bytealg.IndexByteString" = none := by kernel_rfl
  have h3 : Extern.allNextRows.lookup "" = none := by kernel_rfl
  simp only [h1, h3]
  rfl
theorem ext_find {fn : Func} (h : fn.name = "internal/bytealg.IndexByteString") : Extern.find fn = some Extern.BytealgIndexByte.indexByte := by
  unfold Extern.find
  rw [h]
  have h1 : Extern.allGenericRows.lookup "internal/bytealg.IndexByteString" = none := by kernel_rfl
  have h3 : Extern.allTypedRows.lookup "internal/bytealg.IndexByteString" = none := by kernel_rfl
  simp only [h1, h3, Option.map_none]
  rfl
section
variable {c : Ctx} {st st' : St} {U : Nat → Prop} {γ : Gm} {S : Nat → Prop} {a : Act} {w : World} {C : Cl} {o : Oper} {id : Nat}
theorem rdss_bytes {w : World} {S : Nat → Prop} {A : Addr} (hS : S A.block) : ∀ (bs : List UInt8) (off : Nat), (∀ (j : Nat) (b : UInt8), bs[j]? = some b → w.cell? (A.add (off + j)) = some (.int .u8 b.toNat)) → rdss w S (some A) off (bs.map fun b => [D.v (.int .u8 b.toNat)])
  | [], _, _ => by simp [rdss]
  | b :: bs, off, h => by
    simp only [List.map_cons, rdss, rds, D.rd, List.length_cons, List.length_nil, Nat.zero_add]
    refine ⟨⟨A, rfl, ⟨.int .u8 b.toNat, by simpa using h 0 b rfl, hS, rfl, rfl⟩, trivial⟩, ?_⟩
    exact rdss_bytes hS bs (off + 1) (fun j x hj => by have := h (j + 1) x (by simpa using hj); simpa [Nat.add_assoc, Nat.add_comm 1] using this)
theorem op_bos (R : Rep c st U γ S a w) (hd : ∀ k, o.dst = some k → k < c.nt) {t1 t2 e : TypeId} {y1 : Operand} {x1 : O} (ho : o.op = .convert t1 t2 y1) (h1 : eqO y1 x1 = true) (ht1 : isStr c.P t1 = true) (ht2 : sliceE c.P t2 = some e) (he : intK c.P e = some .u8) (hs : opS C st o.dst id (.bos x1) = some st') : Runs c o a w st' U := by
  simp only [opS, bind_some_iff] at hs
  obtain ⟨s, h2, h3⟩ := hs
  split at h3
  · rename_i hap
    simp only [Option.some.injEq] at h3
    subst h3
    have e1 := rdS_ok R h1 h2
    have u1 : c.P.underlying t1 = some .string := by
      unfold isStr at ht1
      split at ht1
      · assumption
      · simp at ht1
    have u2 : c.P.underlying t2 = some (.slice e) := by
      unfold sliceE at ht2
      split at ht2
      · rename_i e' hu
        simp only [Option.some.injEq] at ht2
        subst ht2; exact hu
      · simp at ht2
    have u3 : c.P.underlying e = some (.int .u8) := by
      unfold intK at he
      split at he
      · rename_i k hu
        simp only [Option.some.injEq] at he
        subst he; exact hu
      · simp at he
    have hrun := run_bytes_of_string (P := c.P) w t1 t2 e s u1 u2 u3
    have hge := grownCap_ge w s.size 0 e
    have hle := grownCap_le_maxLen w s.size 0 e (by have := hap.2; simp only [maxLen]; omega)
    generalize grownCap w s.size 0 e = cap at hrun hge hle
    generalize hk : (Obj.cells (bytesRow s cap) e ((bytesRow s cap).size, (bytesRow s cap).size + 1)) = ob at hrun
    have hnew : (w.drew.alloc ob).heap[w.heap.size]? = some ob := heap_alloc_new w.drew ob
    have hold : ∀ k, k < w.heap.size → (w.drew.alloc ob).heap[k]? = w.heap[k]? := fun k hk => Below.heap_alloc w.drew _ k hk
    have hsz : (w.drew.alloc ob).heap.size = w.heap.size + 1 := by show (w.heap.push ob).size = _; simp
    have hlt : ∀ i g, γ i = some g → ∀ k ∈ g.bl, k < w.heap.size := fun i g hg => G.ok_lt g (R.mm.ok i g hg)
    have R2 : Rep c { st with heap := st.heap } U γ (fun j => S j ∨ j = w.heap.size) a (w.drew.alloc ob) := R.change
      (R.mm.world (S' := fun j => S j ∨ j = w.heap.size) (fun k h => ⟨.inl h, hold k (R.mm.sd k h).1⟩) (fun i g hg k hkb => hold k (hlt i g hg k hkb)) (fun k h => by
        rcases h with h | rfl
        · exact ⟨by have := (R.mm.sd k h).1; omega, (R.mm.sd k h).2⟩
        · exact ⟨by omega, fun i g hg hkb => by have := hlt i g hg _ hkb; omega⟩))
      rfl rfl rfl (by omega) (fun k hk _ => hold k hk) (fun k h => .inl h) (fun t x _ => allp_all (fun id p => Same.refl γ id p) x) (fun id _ => Same.refl γ id []) (fun _ h => .inl h) (fun k h => by
        rcases h with h | rfl
        · exact .inl h
        · exact .inr (Nat.le_refl _)) R.hid (fun _ h => h) (fun _ _ h => h)
    refine .value (.slice (some ⟨w.heap.size, 0, none⟩) s.size cap) (w.drew.alloc ob) (by simp [execOp, ho, e1, hrun]) (ok_put R2 hd ?_ (by simp only [X.allp]))
    have hl : (bytesR s).length = s.size := by simp only [bytesR, List.length_map, Array.length_toList]; rfl
    simp only [X.vr, D.rd]
    refine ⟨some ⟨w.heap.size, 0, none⟩, cap, by rw [hl], by rw [hl]; exact hge, hle, ⟨1, fun el hel => ?_⟩, ?_⟩
    · simp only [bytesR, List.mem_map] at hel
      obtain ⟨b, _, rfl⟩ := hel
      rfl
    · refine rdss_bytes (.inr rfl) _ 0 (fun j b hj => ?_)
      have hj2 : j < s.data.size := by
        have := (List.getElem?_eq_some_iff.1 hj).1
        simpa using this
      have hadd : (⟨w.heap.size, 0, none⟩ : Addr).add (0 + j) = ⟨w.heap.size, j, none⟩ := by cases j <;> simp [Addr.add]
      rw [hadd]
      unfold World.cell?
      simp only
      rw [hnew, ← hk]
      simp only [Option.isSome_none, Bool.false_eq_true, if_false, bytesRow]
      rw [Array.getElem?_append_left (by simpa using hj2)]
      rw [Array.getElem?_map]
      have : s.data[j]? = some b := by rw [← Array.getElem?_toList]; exact hj
      rw [this]; rfl
  · simp at h3
theorem op_idxb (R : Rep c st U γ S a w) (hd : ∀ k, o.dst = some k → k < c.nt) {y y1 y2 : Operand} {ts : Array TypeId} {f : Nat} {fn : Func} {x1 x2 : O} (ho : o.op = .call { callee := .value y, args := #[y1, y2], argTypes := ts }) (hf : eqO y (.f f) = true) (h1 : eqO y1 x1 = true) (h2 : eqO y2 x2 = true)
    (hfn : c.P.funcs[f]? = some fn) (hb : fn.body.isNone = true) (hn : fn.name = "internal/bytealg.IndexByteString") (hor : fn.origin = "") (hs : opS C st o.dst id (.idxb f x1 x2) = some st') : Runs c o a w st' U := by
  simp only [opS, bind_some_iff] at hs
  obtain ⟨s, h3, ⟨k, n⟩, h4, h5⟩ := hs
  simp only at h5
  split at h5
  · rename_i hk
    subst hk
    simp only [Option.some.injEq] at h5
    subst h5
    have e1 := rdS_ok R h1 h3
    have e2 := rdI_ok R h2 h4
    have hy := (eqO_ok R hf (y := .d (.v (.func (.func f) #[] #[]))) rfl).1
    simp only [X.vr] at hy
    refine .value (.int .i64 (Lib.indexByte s.data.toList n.toNat.toUInt8)) w ?_ (ok_lit R hd rfl)
    have h6 := run_callFunc_extern (P := c.P) hfn (by rw [hn]; decide) hb (ext_next hn hor) (ext_find hn) #[.string s, .int .u8 n] w
    rw [Lib.run_indexByteString] at h6
    simp only [Result.andThen] at h6
    simp [execOp, ho, resolve, hy.1, Deferred.ofValue, invoke, e1, e2, h6]
  · simp at h5
end
end Go.Ev
