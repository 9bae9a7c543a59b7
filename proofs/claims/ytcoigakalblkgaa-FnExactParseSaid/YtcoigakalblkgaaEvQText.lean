/- The laws' own letter m and digits. -/
import Derived.Test.YtcoigakalblkgaaEvQInt
import Derived.Test.YtcoigakalblkgaaEvPWord
set_option linter.all false
namespace Go.Ev.G
set_option maxRecDepth 8000
set_option maxHeartbeats 4000000
def mtxt (k : Int) : ByteArray := ⟨#[109]⟩ ++ digN k.toNat
theorem laws_markText_l0 : ∀ (m n : Nat) (out : ByteArray), n = m → (n : Int) ≤ 9223372036854775807 → out.size + (dig0 n).size ≤ 100 →
    loopW tab [0, 3] b_laws_markText_0 { env := upd (upd emp 3 (some (Str out))) 0 (some (I (n : Int))), heap := emp, fr := 0, next := 0 } = some (.ext 0, { env := upd emp 3 (some (Str (dig0 n ++ out))), heap := emp, fr := 0, next := 0 }) := by
  intro m
  induction m using Nat.strongRecOn with
  | _ m ih =>
    intro n out hm hn hs
    unfold loopW
    conv => lhs; arg 1; unfold b_laws_markText_0
    by_cases h0 : n = 0
    · subst h0
      have h1 : (⟨#[]⟩ : ByteArray) ++ out = out := ByteArray.empty_append
      simp (maxSteps := 2000000) (implicitDefEqProofs := false) (disch := (first | omega | assumption | (refine ⟨?_, ?_⟩ <;> omega) | (unfold catOk; (try simp only [ByteArray.size_append, size_lit, List.length_cons, List.length_nil]); omega) | (unfold mkOk; omega) | (unfold appOk; (try simp only [List.length_map, List.length_append, List.length_cons, List.length_nil]); omega))) only [go_sem, Nat.reduceEqDiff, Nat.reduceBEq, Nat.reduceAdd, Nat.reduceSub, Nat.reduceMul, Nat.reduceLeDiff, Nat.reduceLT, ↓reduceIte, reduceCtorEq, Int.reduceEq, Int.reduceLE, Int.reduceLT, Int.reduceToNat, Int.reduceNeg, Int.reduceSub, Int.reduceAdd, Int.reduceMul, ltT, ltF, leT, leF, neF, catT, mkT, appT, wrap_id, List.length_map, Int.toNat_natCast, dig0, h1]
    · have hd := dig0_step h0
      rw [hd, ByteArray.size_append, size1] at hs
      have hc : ∀ b, catOk ⟨#[b]⟩ out := fun b => by show 1 + out.size ≤ _; omega
      have h1 : (n : Int).tmod 10 = ((n % 10 : Nat) : Int) := by
        have := tmod_nn (n := (n : Int)) (by omega) 10
        simpa using this
      have h2 : (n : Int).tdiv 10 = ((n / 10 : Nat) : Int) := by
        have := tdiv_nn (n := (n : Int)) (by omega) 10
        simpa using this
      have e2 : IntKind.i64.wrap ((n / 10 : Nat) : Int) = ((n / 10 : Nat) : Int) := w64 (by constructor <;> omega)
      have h3 := spec_digit n ((n : Int).tmod 10) h1
      rw [h1] at h3
      have ih' := ih (n / 10) (by omega) (n / 10) (⟨#[UInt8.ofNat (48 + n % 10)]⟩ ++ out) rfl (by omega) (by rw [ByteArray.size_append, size1]; omega)
      have hg : (0 : Int) < (n : Int) := by omega
      simp only [go_sem, Nat.reduceEqDiff, Nat.reduceBEq, Nat.reduceAdd, Nat.reduceSub, Nat.reduceMul, Nat.reduceLeDiff, Nat.reduceLT, ↓reduceIte, reduceCtorEq, Int.reduceEq, Int.reduceLE, Int.reduceLT, Int.reduceToNat, Int.reduceNeg, Int.reduceSub, Int.reduceAdd, Int.reduceMul, hg, h1, h2, e2, hc, strB, List.foldl_cons, List.foldl_nil, h3, size1]
      rw [ih', hd, ByteArray.append_assoc]
theorem laws_markText_ok (k : Int) (hk : 0 ≤ k ∧ k ≤ 4611686018427387904) : call tab laws_markText [I k] = some (Str (mtxt k)) := by
  rw [call_of t_laws_markText _ rfl, c_laws_markText]
  by_cases h0 : k ≤ 0
  · have : k = 0 := by omega
    subst this
    have h1 : mtxt 0 = ⟨#[109, 48]⟩ := by unfold mtxt digN; rfl
    simp (maxSteps := 2000000) (implicitDefEqProofs := false) (disch := (first | omega | assumption | (refine ⟨?_, ?_⟩ <;> omega) | (unfold catOk; (try simp only [ByteArray.size_append, size_lit, List.length_cons, List.length_nil]); omega) | (unfold mkOk; omega) | (unfold appOk; (try simp only [List.length_map, List.length_append, List.length_cons, List.length_nil]); omega))) only [go_sem, Nat.reduceEqDiff, Nat.reduceBEq, Nat.reduceAdd, Nat.reduceSub, Nat.reduceMul, Nat.reduceLeDiff, Nat.reduceLT, ↓reduceIte, reduceCtorEq, Int.reduceEq, Int.reduceLE, Int.reduceLT, Int.reduceToNat, Int.reduceNeg, Int.reduceSub, Int.reduceAdd, Int.reduceMul, ltT, ltF, leT, leF, neF, catT, mkT, appT, wrap_id, List.length_map, Int.toNat_natCast, h1]
  · have hsz := digN_size' (n := k.toNat) (by omega)
    have hd0 : dig0 k.toNat = digN k.toNat := by unfold dig0; rw [if_neg (by omega)]
    have hl := laws_markText_l0 k.toNat k.toNat ⟨#[]⟩ rfl (by omega) (by rw [hd0]; have : (⟨#[]⟩ : ByteArray).size = 0 := rfl; omega)
    rw [show ((k.toNat : Nat) : Int) = k by omega, hd0, show digN k.toNat ++ (⟨#[]⟩ : ByteArray) = digN k.toNat from ByteArray.append_empty] at hl
    have hc : catOk ⟨#[109]⟩ (digN k.toNat) := by show 1 + (digN k.toNat).size ≤ _; omega
    have h1 : mtxt k = ⟨#[109]⟩ ++ digN k.toNat := rfl
    simp (maxSteps := 2000000) (implicitDefEqProofs := false) (disch := (first | omega | assumption | (refine ⟨?_, ?_⟩ <;> omega) | (unfold catOk; (try simp only [ByteArray.size_append, size_lit, List.length_cons, List.length_nil]); omega) | (unfold mkOk; omega) | (unfold appOk; (try simp only [List.length_map, List.length_append, List.length_cons, List.length_nil]); omega))) only [go_sem, Nat.reduceEqDiff, Nat.reduceBEq, Nat.reduceAdd, Nat.reduceSub, Nat.reduceMul, Nat.reduceLeDiff, Nat.reduceLT, ↓reduceIte, reduceCtorEq, Int.reduceEq, Int.reduceLE, Int.reduceLT, Int.reduceToNat, Int.reduceNeg, Int.reduceSub, Int.reduceAdd, Int.reduceMul, ltT, ltF, leT, leF, neF, catT, mkT, appT, wrap_id, List.length_map, Int.toNat_natCast, h0, hl, hc, h1]
end Go.Ev.G
