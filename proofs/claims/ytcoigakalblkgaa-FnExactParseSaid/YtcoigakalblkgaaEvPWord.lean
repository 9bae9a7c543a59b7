import Derived.Test.YtcoigakalblkgaaEvBase
import Derived.Test.YtcoigakalblkgaaEvTab
set_option linter.all false
namespace Go.Ev.G
set_option maxRecDepth 4000
set_option maxHeartbeats 2000000
theorem spec_l1In_ok (x lo hi : Int) : call tab spec_l1In [I x, I lo, I hi] = some (B (decide (lo ≤ x) && decide (x ≤ hi))) := by
  rw [call_of t_spec_l1In _ rfl, c_spec_l1In]
  by_cases h : lo ≤ x
  · simp only [go_sem, Nat.reduceEqDiff, Nat.reduceBEq, Nat.reduceAdd, Nat.reduceSub, Nat.reduceMul, Nat.reduceLeDiff, Nat.reduceLT, ↓reduceIte, reduceCtorEq, Int.reduceEq, Int.reduceLE, Int.reduceLT, Int.reduceToNat, Int.reduceNeg, Int.reduceSub, Int.reduceAdd, Int.reduceMul, h]
  · simp only [go_sem, Nat.reduceEqDiff, Nat.reduceBEq, Nat.reduceAdd, Nat.reduceSub, Nat.reduceMul, Nat.reduceLeDiff, Nat.reduceLT, ↓reduceIte, reduceCtorEq, Int.reduceEq, Int.reduceLE, Int.reduceLT, Int.reduceToNat, Int.reduceNeg, Int.reduceSub, Int.reduceAdd, Int.reduceMul, h]
theorem impl_within_ok (x lo hi : Int) : call tab impl_within [I x, I lo, I hi] = some (B (decide (lo ≤ x) && decide (x ≤ hi))) := by
  rw [call_of t_impl_within _ rfl, c_impl_within]
  by_cases h : lo ≤ x
  · simp only [go_sem, Nat.reduceEqDiff, Nat.reduceBEq, Nat.reduceAdd, Nat.reduceSub, Nat.reduceMul, Nat.reduceLeDiff, Nat.reduceLT, ↓reduceIte, reduceCtorEq, Int.reduceEq, Int.reduceLE, Int.reduceLT, Int.reduceToNat, Int.reduceNeg, Int.reduceSub, Int.reduceAdd, Int.reduceMul, h]
  · simp only [go_sem, Nat.reduceEqDiff, Nat.reduceBEq, Nat.reduceAdd, Nat.reduceSub, Nat.reduceMul, Nat.reduceLeDiff, Nat.reduceLT, ↓reduceIte, reduceCtorEq, Int.reduceEq, Int.reduceLE, Int.reduceLT, Int.reduceToNat, Int.reduceNeg, Int.reduceSub, Int.reduceAdd, Int.reduceMul, h]

def digN (n : Nat) : ByteArray := if n < 10 then ⟨#[UInt8.ofNat (48 + n)]⟩ else digN (n / 10) ++ ⟨#[UInt8.ofNat (48 + n % 10)]⟩
def dig0 (n : Nat) : ByteArray := if n = 0 then ⟨#[]⟩ else digN n
def dig (n : Int) : ByteArray := if n < 0 then ⟨#[45]⟩ ++ digN n.natAbs else digN n.natAbs
theorem digN_size : ∀ (k n : Nat), n < 10 ^ (k + 1) → (digN n).size ≤ k + 1 := by
  intro k
  induction k with
  | zero =>
    intro n h
    unfold digN
    rw [if_pos (by simpa using h)]
    simp [ByteArray.size]
  | succ k ih =>
    intro n h
    unfold digN
    split
    · simp [ByteArray.size]
    · rw [ByteArray.size_append]
      have := ih (n / 10) (by
        rw [Nat.div_lt_iff_lt_mul (by omega)]
        rw [Nat.pow_succ] at h
        exact h)
      have h1 : (⟨#[UInt8.ofNat (48 + n % 10)]⟩ : ByteArray).size = 1 := rfl
      omega
theorem digN_size' {n : Nat} (h : n ≤ 9223372036854775808) : (digN n).size ≤ 19 := digN_size 18 n (by omega)

theorem dig0_step {m : Nat} (h : m ≠ 0) : dig0 m = dig0 (m / 10) ++ ⟨#[UInt8.ofNat (48 + m % 10)]⟩ := by
  unfold dig0
  rw [if_neg h]
  rw [digN]
  split
  · rename_i h1
    rw [if_pos (by omega)]
    have : m % 10 = m := by omega
    rw [this]
    rfl
  · rename_i h1
    rw [if_neg (by omega)]

theorem spec_digit (m : Nat) (x : Int) (hx : x = ((m % 10 : Nat) : Int)) : ByteArray.empty.push (UInt8.ofNat (IntKind.u8.wrap (IntKind.i64.wrap (48 + x))).toNat) = ⟨#[UInt8.ofNat (48 + m % 10)]⟩ := by
  subst hx
  rw [w64 (by constructor <;> omega), wu8 (by omega)]
  have : (48 + ((m % 10 : Nat) : Int)).toNat = 48 + m % 10 := by omega
  rw [this]
  rfl
theorem spec_Digits_l0 (b : Bool) : ∀ (k : Nat) (n : Int) (out : ByteArray), n.natAbs = k → i64 n → out.size + (dig0 n.natAbs).size ≤ 100 →
    loopW tab [0, 3, 4] b_spec_Digits_0 { env := upd (upd (upd emp 4 (some (Str out))) 3 (some (B b))) 0 (some (I n)), heap := emp, fr := 0, next := 0 } = some (.ext 0, { env := upd (upd emp 4 (some (Str (dig0 n.natAbs ++ out)))) 3 (some (B b)), heap := emp, fr := 0, next := 0 }) := by
  intro k
  induction k using Nat.strongRecOn with
  | _ k ih =>
    intro n out hk hn hs
    unfold loopW
    conv => lhs; arg 1; unfold b_spec_Digits_0
    by_cases h0 : n = 0
    · subst h0
      have : (⟨#[]⟩ : ByteArray) ++ out = out := ByteArray.empty_append
      simp only [go_sem, Nat.reduceEqDiff, Nat.reduceBEq, Nat.reduceAdd, Nat.reduceSub, Nat.reduceMul, Nat.reduceLeDiff, Nat.reduceLT, ↓reduceIte, reduceCtorEq, Int.reduceEq, Int.reduceLE, Int.reduceLT, Int.reduceToNat, Int.reduceNeg, Int.reduceSub, Int.reduceAdd, Int.reduceMul, dig0, this, Int.natAbs_zero]
    · have hd := dig0_step (m := n.natAbs) (by omega)
      rw [hd, ByteArray.size_append] at hs
      have h1s : (⟨#[UInt8.ofNat (48 + n.natAbs % 10)]⟩ : ByteArray).size = 1 := rfl
      rw [h1s] at hs
      have hc : ∀ b, catOk ⟨#[b]⟩ out := fun b => by show 1 + out.size ≤ _; omega
      by_cases h1 : n.tmod 10 < 0
      · have hneg : n ≤ 0 := by
          refine Int.not_lt.1 fun h => ?_
          have := tmod_nn (n := n) (by omega) 10
          simp only [Int.cast_ofNat_Int] at this
          omega
        have ht := tmod_np hneg 10
        have hq := tdiv_np hneg 10
        simp only [Int.cast_ofNat_Int] at ht hq
        have e1 : IntKind.i64.wrap (-n.tmod 10) = ((n.natAbs % 10 : Nat) : Int) := by rw [w64 (by constructor <;> omega)]; omega
        have e2 : IntKind.i64.wrap (n.tdiv 10) = n.tdiv 10 := w64 (by constructor <;> omega)
        simp only [go_sem, Nat.reduceEqDiff, Nat.reduceBEq, Nat.reduceAdd, Nat.reduceSub, Nat.reduceMul, Nat.reduceLeDiff, Nat.reduceLT, ↓reduceIte, reduceCtorEq, Int.reduceEq, Int.reduceLE, Int.reduceLT, Int.reduceToNat, Int.reduceNeg, Int.reduceSub, Int.reduceAdd, Int.reduceMul, h0, h1, hc, e1, e2, strB, List.foldl_cons, List.foldl_nil, spec_digit n.natAbs _ rfl, h1s, Int.zero_sub]
        rw [ih (n.natAbs / 10) (by omega) (n.tdiv 10) _ (by omega) (by constructor <;> omega) (by rw [ByteArray.size_append, h1s, show (n.tdiv 10).natAbs = n.natAbs / 10 by omega]; omega)]
        rw [show (n.tdiv 10).natAbs = n.natAbs / 10 by omega, hd, ByteArray.append_assoc]
      · have hpos : n.tmod 10 = ((n.natAbs % 10 : Nat) : Int) := by
          by_cases h : 0 ≤ n
          · simpa using tmod_nn h 10
          · have := tmod_np (n := n) (by omega) 10
            simp only [Int.cast_ofNat_Int] at this
            omega
        have hq : (n.tdiv 10).natAbs = n.natAbs / 10 := by
          by_cases h : 0 ≤ n
          · have := tdiv_nn h 10
            simp only [Int.cast_ofNat_Int] at this
            omega
          · have := tdiv_np (n := n) (by omega) 10
            simp only [Int.cast_ofNat_Int] at this
            omega
        have e2 : IntKind.i64.wrap (n.tdiv 10) = n.tdiv 10 := w64 (by constructor <;> omega)
        simp only [go_sem, Nat.reduceEqDiff, Nat.reduceBEq, Nat.reduceAdd, Nat.reduceSub, Nat.reduceMul, Nat.reduceLeDiff, Nat.reduceLT, ↓reduceIte, reduceCtorEq, Int.reduceEq, Int.reduceLE, Int.reduceLT, Int.reduceToNat, Int.reduceNeg, Int.reduceSub, Int.reduceAdd, Int.reduceMul, h0, h1, hc, e2, strB, List.foldl_cons, List.foldl_nil, spec_digit n.natAbs _ hpos, h1s]
        rw [ih (n.natAbs / 10) (by omega) (n.tdiv 10) _ (by omega) (by constructor <;> omega) (by rw [ByteArray.size_append, h1s, hq]; omega)]
        rw [hq, hd, ByteArray.append_assoc]
theorem spec_Digits_ok {n : Int} (hn : i64 n) : call tab spec_Digits [I n] = some (Str (dig n)) := by
  rw [call_of t_spec_Digits _ rfl, c_spec_Digits]
  by_cases h0 : n = 0
  · subst h0
    have : dig 0 = ⟨#[48]⟩ := by
      unfold dig digN
      rfl
    simp only [go_sem, Nat.reduceEqDiff, Nat.reduceBEq, Nat.reduceAdd, Nat.reduceSub, Nat.reduceMul, Nat.reduceLeDiff, Nat.reduceLT, ↓reduceIte, reduceCtorEq, Int.reduceEq, Int.reduceLE, Int.reduceLT, Int.reduceToNat, Int.reduceNeg, Int.reduceSub, Int.reduceAdd, Int.reduceMul, this]
  · have hsz := digN_size' (n := n.natAbs) (by omega)
    have hd0 : dig0 n.natAbs = digN n.natAbs := by unfold dig0; rw [if_neg (by omega)]
    have hl := fun b => spec_Digits_l0 b n.natAbs n ⟨#[]⟩ rfl hn (by rw [hd0]; have : (⟨#[]⟩ : ByteArray).size = 0 := rfl; omega)
    have hap : digN n.natAbs ++ (⟨#[]⟩ : ByteArray) = digN n.natAbs := ByteArray.append_empty
    by_cases h1 : n < 0
    · have hc : catOk ⟨#[45]⟩ (digN n.natAbs) := by show 1 + (digN n.natAbs).size ≤ _; omega
      simp only [go_sem, Nat.reduceEqDiff, Nat.reduceBEq, Nat.reduceAdd, Nat.reduceSub, Nat.reduceMul, Nat.reduceLeDiff, Nat.reduceLT, ↓reduceIte, reduceCtorEq, Int.reduceEq, Int.reduceLE, Int.reduceLT, Int.reduceToNat, Int.reduceNeg, Int.reduceSub, Int.reduceAdd, Int.reduceMul, h0, h1, hl, hd0, hap, dig, hc]
    · simp only [go_sem, Nat.reduceEqDiff, Nat.reduceBEq, Nat.reduceAdd, Nat.reduceSub, Nat.reduceMul, Nat.reduceLeDiff, Nat.reduceLT, ↓reduceIte, reduceCtorEq, Int.reduceEq, Int.reduceLE, Int.reduceLT, Int.reduceToNat, Int.reduceNeg, Int.reduceSub, Int.reduceAdd, Int.reduceMul, h0, h1, hl, hd0, hap, dig]

theorem enc_digit {d : Nat} (h : d < 10) : Utf8.encode (IntKind.i32.wrap (IntKind.i64.wrap (48 + (d : Int)))) = ⟨#[UInt8.ofNat (48 + d)]⟩ := by
  rw [w64 (by constructor <;> omega), w32 (by omega)]
  have : ∀ d : Nat, d < 10 → Utf8.encode (48 + (d : Int)) = ⟨#[UInt8.ofNat (48 + d)]⟩ := by
    intro d hd
    match d, hd with
    | 0, _ => rfl
    | 1, _ => rfl
    | 2, _ => rfl
    | 3, _ => rfl
    | 4, _ => rfl
    | 5, _ => rfl
    | 6, _ => rfl
    | 7, _ => rfl
    | 8, _ => rfl
    | 9, _ => rfl
  exact this d h
theorem digN_small {m : Nat} (h : m < 10) : digN m = ⟨#[UInt8.ofNat (48 + m)]⟩ := by rw [digN, if_pos h]
theorem digN_big {m : Nat} (h : 10 ≤ m) : digN m = digN (m / 10) ++ ⟨#[UInt8.ofNat (48 + m % 10)]⟩ := by rw [digN, if_neg (by omega)]
theorem dig_neg {n : Int} (h : n < 0) : dig n = ⟨#[45]⟩ ++ digN n.natAbs := by unfold dig; rw [if_pos h]
theorem dig_nn {n : Int} (h : 0 ≤ n) : dig n = digN n.natAbs := by unfold dig; rw [if_neg (by omega)]
theorem size1 (b : UInt8) : (⟨#[b]⟩ : ByteArray).size = 1 := rfl
theorem dig_size {n : Int} (h : i64 n) : (dig n).size ≤ 20 := by
  have := digN_size' (n := n.natAbs) (by omega)
  by_cases h0 : n < 0
  · rw [dig_neg h0, ByteArray.size_append, size1]; omega
  · rw [dig_nn (by omega)]; omega
theorem impl_Digits_ok' : ∀ (k : Nat) (n : Int), 2 * n.natAbs + (if n < 0 then 1 else 0) = k → i64 n → call tab impl_Digits [I n] = some (Str (dig n)) := by
  intro k
  induction k using Nat.strongRecOn with
  | _ k ih =>
    intro n hk hn
    rw [call_of t_impl_Digits _ rfl, c_impl_Digits]
    by_cases h0 : n < 0
    · rw [if_pos h0] at hk
      have hs := dig_size hn
      by_cases h1 : -10 < n
      · have e1 : IntKind.i64.wrap (0 - n) = -n := by rw [w64 (by constructor <;> omega)]; omega
        have hr := ih (2 * (-n).natAbs + 0) (by omega) (-n) (by rw [if_neg (by omega)]) (by constructor <;> omega)
        have e2 : dig n = ⟨#[45]⟩ ++ dig (-n) := by rw [dig_neg h0, dig_nn (n := -n) (by omega)]; congr 2; omega
        have hc : catOk ⟨#[45]⟩ (dig (-n)) := by
          show 1 + (dig (-n)).size ≤ _
          have := dig_size (n := -n) (by constructor <;> omega)
          omega
        simp only [go_sem, Nat.reduceEqDiff, Nat.reduceBEq, Nat.reduceAdd, Nat.reduceSub, Nat.reduceMul, Nat.reduceLeDiff, Nat.reduceLT, ↓reduceIte, reduceCtorEq, Int.reduceEq, Int.reduceLE, Int.reduceLT, Int.reduceToNat, Int.reduceNeg, Int.reduceSub, Int.reduceAdd, Int.reduceMul, h0, h1, e1, hr, hc, e2]
      · have ht := tmod_np (n := n) (by omega) 10
        have hq := tdiv_np (n := n) (by omega) 10
        simp only [Int.cast_ofNat_Int] at ht hq
        have e1 : IntKind.i64.wrap (n.tdiv 10) = n.tdiv 10 := w64 (by constructor <;> omega)
        have e2 : IntKind.i64.wrap (0 - n.tmod 10) = ((n.natAbs % 10 : Nat) : Int) := by rw [w64 (by constructor <;> omega)]; omega
        have hr := ih (2 * (n.tdiv 10).natAbs + 1) (by omega) (n.tdiv 10) (by rw [if_pos (by omega)]) (by constructor <;> omega)
        have hr2 := ih (2 * (n.natAbs % 10) + 0) (by omega) ((n.natAbs % 10 : Nat) : Int) (by rw [if_neg (by omega)]; omega) (by constructor <;> omega)
        have e3 : dig (n.tdiv 10) ++ dig ((n.natAbs % 10 : Nat) : Int) = dig n := by
          rw [dig_neg h0, dig_neg (n := n.tdiv 10) (by omega), dig_nn (n := ((n.natAbs % 10 : Nat) : Int)) (by omega), digN_big (m := n.natAbs) (by omega), ← digN_small (m := n.natAbs % 10) (by omega), show (n.tdiv 10).natAbs = n.natAbs / 10 by omega, Int.natAbs_natCast, ByteArray.append_assoc]
        have hc : catOk (dig (n.tdiv 10)) (dig ((n.natAbs % 10 : Nat) : Int)) := by
          unfold catOk
          rw [← ByteArray.size_append, e3]; omega
        simp only [go_sem, Nat.reduceEqDiff, Nat.reduceBEq, Nat.reduceAdd, Nat.reduceSub, Nat.reduceMul, Nat.reduceLeDiff, Nat.reduceLT, ↓reduceIte, reduceCtorEq, Int.reduceEq, Int.reduceLE, Int.reduceLT, Int.reduceToNat, Int.reduceNeg, Int.reduceSub, Int.reduceAdd, Int.reduceMul, h0, h1, e1, e2, hr, hr2, hc, e3]
    · rw [if_neg h0] at hk
      have ht := tmod_nn (n := n) (by omega) 10
      have hq := tdiv_nn (n := n) (by omega) 10
      simp only [Int.cast_ofNat_Int] at ht hq
      by_cases h1 : n < 10
      · have e1 := enc_digit (d := n.natAbs) (by omega)
        rw [show ((n.natAbs : Nat) : Int) = n by omega, ← digN_small (by omega), ← dig_nn (by omega)] at e1
        simp only [go_sem, Nat.reduceEqDiff, Nat.reduceBEq, Nat.reduceAdd, Nat.reduceSub, Nat.reduceMul, Nat.reduceLeDiff, Nat.reduceLT, ↓reduceIte, reduceCtorEq, Int.reduceEq, Int.reduceLE, Int.reduceLT, Int.reduceToNat, Int.reduceNeg, Int.reduceSub, Int.reduceAdd, Int.reduceMul, h0, h1, e1]
      · have e0 := enc_digit (d := n.natAbs % 10) (by omega)
        have e1 : IntKind.i64.wrap (n.tdiv 10) = n.tdiv 10 := w64 (by constructor <;> omega)
        have hr := ih (2 * (n.tdiv 10).natAbs + 0) (by omega) (n.tdiv 10) (by rw [if_neg (by omega)]) (by constructor <;> omega)
        rw [← ht] at e0
        have e3 : dig (n.tdiv 10) ++ ⟨#[UInt8.ofNat (48 + n.natAbs % 10)]⟩ = dig n := by
          rw [dig_nn (n := n) (by omega), dig_nn (n := n.tdiv 10) (by omega), digN_big (m := n.natAbs) (by omega), show (n.tdiv 10).natAbs = n.natAbs / 10 by omega]
        have hc : catOk (dig (n.tdiv 10)) ⟨#[UInt8.ofNat (48 + n.natAbs % 10)]⟩ := by
          show (dig (n.tdiv 10)).size + 1 ≤ _
          have := dig_size (n := n.tdiv 10) (by constructor <;> omega)
          omega
        simp only [go_sem, Nat.reduceEqDiff, Nat.reduceBEq, Nat.reduceAdd, Nat.reduceSub, Nat.reduceMul, Nat.reduceLeDiff, Nat.reduceLT, ↓reduceIte, reduceCtorEq, Int.reduceEq, Int.reduceLE, Int.reduceLT, Int.reduceToNat, Int.reduceNeg, Int.reduceSub, Int.reduceAdd, Int.reduceMul, h0, h1, e0, e1, hr, hc, e3]
theorem impl_Digits_ok {n : Int} (hn : i64 n) : call tab impl_Digits [I n] = some (Str (dig n)) := impl_Digits_ok' _ n rfl hn
end Go.Ev.G
