/- A machine that is right; a machine as text. -/
import Derived.Test.YtcoigakalblkgaaEvPInsOk
import Derived.Test.YtcoigakalblkgaaEvPSlIns
import Derived.Test.YtcoigakalblkgaaEvPSlMach
set_option linter.all false
namespace Go.Ev.G
set_option maxRecDepth 8000
set_option maxHeartbeats 4000000
def word (n : Int) : Bool := inB n (-2147483648) 2147483647
theorem dropF_s (fr k : Nat) (h : Heap) (x : Option D) : dropF (fr + 1) (upd h (0, k) x) = upd (dropF (fr + 1) h) (0, k) x := by
  funext id
  simp only [dropF, upd]
  by_cases e : id = (0, k)
  · subst e; simp
  · simp [e]
def wordsB (l : List Int) : Bool := l.all word
theorem any_not {α : Type} (p : α → Bool) (l : List α) : (l.any fun x => !p x) = !l.all p := by
  induction l with
  | nil => rfl
  | cons x l ih => simp [List.any_cons, List.all_cons, ih, Bool.not_and]
def coreB (c : TCore) : Bool := word c.fPc && word c.fFp && decide (c.fRegs.length = 6) && wordsB c.fRegs
def noteB (n : TNote) : Bool := word n.fWho && word n.fWhat
def machB (m : TMachine) : Bool := inB m.fImage.length 1 3000 && inB m.fCores.length 1 8 && decide ((m.fMem.length : Int) ≤ 4000) && decide ((m.fOut.length : Int) ≤ 3000) && decide ((m.fNotes.length : Int) ≤ 3000) && wordsB m.fMem && wordsB m.fOut && word m.fCode && m.fImage.all insB && m.fCores.all coreB && m.fNotes.all noteB
end Go.Ev.G
