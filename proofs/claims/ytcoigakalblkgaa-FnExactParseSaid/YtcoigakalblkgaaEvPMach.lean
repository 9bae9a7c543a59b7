/- A machine that is right; a machine as text. -/
import Derived.Test.YtcoigakalblkgaaEvPInsOk
import Derived.Test.YtcoigakalblkgaaEvPSlIns
import Derived.Test.YtcoigakalblkgaaEvPSlMach
set_option linter.all false
namespace Go.Ev.G
set_option maxRecDepth 8000
set_option maxHeartbeats 4000000
def word (n : Int) : Bool := inB n (-2147483648) 2147483647
theorem spec_WordOk_w (n : Int) : call tab spec_WordOk [I n] = some (B (word n)) := spec_WordOk_ok n
theorem impl_WordOk_w (n : Int) : call tab impl_WordOk [I n] = some (B (word n)) := impl_WordOk_ok n
theorem dropF_s (fr k : Nat) (h : Heap) (x : Option D) : dropF (fr + 1) (upd h (0, k) x) = upd (dropF (fr + 1) h) (0, k) x := by
  funext id
  simp only [dropF, upd]
  by_cases e : id = (0, k)
  · subst e; simp
  · simp [e]
end Go.Ev.G
