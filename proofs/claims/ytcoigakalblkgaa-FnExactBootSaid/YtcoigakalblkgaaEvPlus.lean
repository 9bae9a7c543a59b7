/- A row of which nothing else speaks changes nothing of what is done beside it. -/
import Derived.Test.YtcoigakalblkgaaEvAny
set_option linter.all false
namespace Go.Ev

section
variable {h : Heap} {J id : Id} {r : D} {p : Path}
/-! ### A state, and a row and a slot more -/
section
variable {C : Cl} {s s' : St} {J : Id} {r : D} {e : Nat} {v : X} {d : Option Nat} {id : Nat}
/-! ### What adds a row -/
/-! ### What is put speaks of nothing new but its own row -/
section
variable {C : Cl} {s s' : St} {J : Id} {d : Option Nat} {id : Nat}
end Go.Ev
