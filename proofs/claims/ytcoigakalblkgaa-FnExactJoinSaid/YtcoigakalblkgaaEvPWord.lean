import Derived.Test.YtcoigakalblkgaaEvBase
import Derived.Test.YtcoigakalblkgaaEvTab
set_option linter.all false
namespace Go.Ev.G
set_option maxRecDepth 4000
set_option maxHeartbeats 2000000
theorem spec_l1In_ok (x lo hi : Int) : call tab spec_l1In [I x, I lo, I hi] = some (B (decide (lo ≤ x) && decide (x ≤ hi))) := by
  rw [call_of t_spec_l1In _ rfl, c_spec_l1In]
  by_cases h : lo ≤ x
  · simp only [go_sem, Nat.reduceEqDiff, Nat.reduceBEq, Nat.reduceAdd, Nat.reduceSub, Nat.reduceMul, Nat.reduceLeDiff, Nat.reduceLT, ↓reduceIte, reduceCtorEq, Int.reduceEq, Int.reduceLE, Int.reduceLT, Int.reduceToNat, Int.reduceNeg, Int.reduceSub, Int.reduceAdd, Int.reduceMul, h]
  · simp only [go_sem, Nat.reduceEqDiff, Nat.reduceBEq, Nat.reduceAdd, Nat.reduceSub, Nat.reduceMul, Nat.reduceLeDiff, Nat.reduceLT, ↓reduceIte, reduceCtorEq, Int.reduceEq, Int.reduceLE, Int.reduceLT, Int.reduceToNat, Int.reduceNeg, Int.reduceSub, Int.reduceAdd, Int.reduceMul, h]
theorem impl_within_ok (x lo hi : Int) : call tab impl_within [I x, I lo, I hi] = some (B (decide (lo ≤ x) && decide (x ≤ hi))) := by
  rw [call_of t_impl_within _ rfl, c_impl_within]
  by_cases h : lo ≤ x
  · simp only [go_sem, Nat.reduceEqDiff, Nat.reduceBEq, Nat.reduceAdd, Nat.reduceSub, Nat.reduceMul, Nat.reduceLeDiff, Nat.reduceLT, ↓reduceIte, reduceCtorEq, Int.reduceEq, Int.reduceLE, Int.reduceLT, Int.reduceToNat, Int.reduceNeg, Int.reduceSub, Int.reduceAdd, Int.reduceMul, h]
  · simp only [go_sem, Nat.reduceEqDiff, Nat.reduceBEq, Nat.reduceAdd, Nat.reduceSub, Nat.reduceMul, Nat.reduceLeDiff, Nat.reduceLT, ↓reduceIte, reduceCtorEq, Int.reduceEq, Int.reduceLE, Int.reduceLT, Int.reduceToNat, Int.reduceNeg, Int.reduceSub, Int.reduceAdd, Int.reduceMul, h]

def digN (n : Nat) : ByteArray := if n < 10 then ⟨#[UInt8.ofNat (48 + n)]⟩ else digN (n / 10) ++ ⟨#[UInt8.ofNat (48 + n % 10)]⟩
def dig0 (n : Nat) : ByteArray := if n = 0 then ⟨#[]⟩ else digN n
theorem digN_size : ∀ (k n : Nat), n < 10 ^ (k + 1) → (digN n).size ≤ k + 1 := by
  intro k
  induction k with
  | zero =>
    intro n h
    unfold digN
    rw [if_pos (by simpa using h)]
    simp [ByteArray.size]
  | succ k ih =>
    intro n h
    unfold digN
    split
    · simp [ByteArray.size]
    · rw [ByteArray.size_append]
      have := ih (n / 10) (by
        rw [Nat.div_lt_iff_lt_mul (by omega)]
        rw [Nat.pow_succ] at h
        exact h)
      have h1 : (⟨#[UInt8.ofNat (48 + n % 10)]⟩ : ByteArray).size = 1 := rfl
      omega
theorem digN_size' {n : Nat} (h : n ≤ 9223372036854775808) : (digN n).size ≤ 19 := digN_size 18 n (by omega)

theorem dig0_step {m : Nat} (h : m ≠ 0) : dig0 m = dig0 (m / 10) ++ ⟨#[UInt8.ofNat (48 + m % 10)]⟩ := by
  unfold dig0
  rw [if_neg h]
  rw [digN]
  split
  · rename_i h1
    rw [if_pos (by omega)]
    have : m % 10 = m := by omega
    rw [this]
    rfl
  · rename_i h1
    rw [if_neg (by omega)]

theorem spec_digit (m : Nat) (x : Int) (hx : x = ((m % 10 : Nat) : Int)) : ByteArray.empty.push (UInt8.ofNat (IntKind.u8.wrap (IntKind.i64.wrap (48 + x))).toNat) = ⟨#[UInt8.ofNat (48 + m % 10)]⟩ := by
  subst hx
  rw [w64 (by constructor <;> omega), wu8 (by omega)]
  have : (48 + ((m % 10 : Nat) : Int)).toNat = 48 + m % 10 := by omega
  rw [this]
  rfl
theorem size1 (b : UInt8) : (⟨#[b]⟩ : ByteArray).size = 1 := rfl
end Go.Ev.G
