import Derived.Test.YtcoigakalblkgaaEvBase
import Derived.Test.YtcoigakalblkgaaEvTab
set_option linter.all false
namespace Go.Ev.G
set_option maxRecDepth 4000
set_option maxHeartbeats 2000000
theorem spec_l1In_ok (x lo hi : Int) : call tab spec_l1In [I x, I lo, I hi] = some (B (decide (lo ≤ x) && decide (x ≤ hi))) := by
  rw [call_of t_spec_l1In _ rfl, c_spec_l1In]
  by_cases h : lo ≤ x
  · simp only [go_sem, Nat.reduceEqDiff, Nat.reduceBEq, Nat.reduceAdd, Nat.reduceSub, Nat.reduceMul, Nat.reduceLeDiff, Nat.reduceLT, ↓reduceIte, reduceCtorEq, Int.reduceEq, Int.reduceLE, Int.reduceLT, Int.reduceToNat, Int.reduceNeg, Int.reduceSub, Int.reduceAdd, Int.reduceMul, h]
  · simp only [go_sem, Nat.reduceEqDiff, Nat.reduceBEq, Nat.reduceAdd, Nat.reduceSub, Nat.reduceMul, Nat.reduceLeDiff, Nat.reduceLT, ↓reduceIte, reduceCtorEq, Int.reduceEq, Int.reduceLE, Int.reduceLT, Int.reduceToNat, Int.reduceNeg, Int.reduceSub, Int.reduceAdd, Int.reduceMul, h]
theorem impl_within_ok (x lo hi : Int) : call tab impl_within [I x, I lo, I hi] = some (B (decide (lo ≤ x) && decide (x ≤ hi))) := by
  rw [call_of t_impl_within _ rfl, c_impl_within]
  by_cases h : lo ≤ x
  · simp only [go_sem, Nat.reduceEqDiff, Nat.reduceBEq, Nat.reduceAdd, Nat.reduceSub, Nat.reduceMul, Nat.reduceLeDiff, Nat.reduceLT, ↓reduceIte, reduceCtorEq, Int.reduceEq, Int.reduceLE, Int.reduceLT, Int.reduceToNat, Int.reduceNeg, Int.reduceSub, Int.reduceAdd, Int.reduceMul, h]
  · simp only [go_sem, Nat.reduceEqDiff, Nat.reduceBEq, Nat.reduceAdd, Nat.reduceSub, Nat.reduceMul, Nat.reduceLeDiff, Nat.reduceLT, ↓reduceIte, reduceCtorEq, Int.reduceEq, Int.reduceLE, Int.reduceLT, Int.reduceToNat, Int.reduceNeg, Int.reduceSub, Int.reduceAdd, Int.reduceMul, h]

end Go.Ev.G
