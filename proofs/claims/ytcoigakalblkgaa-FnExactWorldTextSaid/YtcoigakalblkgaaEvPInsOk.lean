/- InsOk: an instruction is right. -/
import Derived.Test.YtcoigakalblkgaaEvPPlace
import Derived.Test.YtcoigakalblkgaaEvPWord
set_option linter.all false
namespace Go.Ev.G
set_option maxRecDepth 8000
set_option maxHeartbeats 4000000
def hasL : List Int := [0, 9, 3, 7, 7, 7, 7, 7, 11, 14, 7, 8, 10, 24, 0, 2, 6, 6, 1, 2]
def hasN (op : Int) : Int := if 1 ≤ op ∧ op ≤ 19 then (hasL[op.toNat]?).getD 0 else 0
def inB (x lo hi : Int) : Bool := decide (lo ≤ x) && decide (x ≤ hi)
def fieldB (x most : Int) (h : Bool) : Bool := inB x 0 most && (h || decide (x = 0))
theorem ops19 {op : Int} (h : 1 ≤ op) (h2 : op ≤ 19) : op = 1 ∨ op = 2 ∨ op = 3 ∨ op = 4 ∨ op = 5 ∨ op = 6 ∨ op = 7 ∨ op = 8 ∨ op = 9 ∨ op = 10 ∨ op = 11 ∨ op = 12 ∨ op = 13 ∨ op = 14 ∨ op = 15 ∨ op = 16 ∨ op = 17 ∨ op = 18 ∨ op = 19 := by omega
def bitB (h m : Int) : Bool := !decide (bits .and .i64 h m = 0)
def insB (x : TIns) : Bool := inB x.fOp 1 19 && fieldB x.fR 5 (bitB (hasN x.fOp) 1) && fieldB x.fA (if x.fOp = 8 ∨ x.fOp = 9 then 6 else 5) (bitB (hasN x.fOp) 2) && fieldB x.fB 5 (bitB (hasN x.fOp) 4) && inB x.fN (-2147483648) 2147483647 && (bitB (hasN x.fOp) 8 || decide (x.fN = 0)) && fieldB x.fM 60 (bitB (hasN x.fOp) 16)
def hasF : List ByteArray := [noS, ⟨#[82, 78]⟩, ⟨#[82, 65]⟩, ⟨#[82, 65, 66]⟩, ⟨#[82, 65, 66]⟩, ⟨#[82, 65, 66]⟩, ⟨#[82, 65, 66]⟩, ⟨#[82, 65, 66]⟩, ⟨#[82, 65, 78]⟩, ⟨#[65, 66, 78]⟩, ⟨#[82, 65, 66]⟩, ⟨#[78]⟩, ⟨#[65, 78]⟩, ⟨#[78, 77]⟩, ⟨#[45]⟩, ⟨#[65]⟩, ⟨#[65, 66]⟩, ⟨#[65, 66]⟩, ⟨#[82]⟩, ⟨#[65]⟩]
def hasS (op : Int) : ByteArray := if 1 ≤ op ∧ op ≤ 19 then (hasF[op.toNat]?).getD noS else noS
def aOk (x : TIns) : Bool := inB x.fA 0 5 || (decide (x.fA = 6) && (decide (x.fOp = 8) || decide (x.fOp = 9)))
def stepC (x : TIns) (y : TIns × Bool) (c : UInt8) : TIns × Bool :=
  if (c.toNat : Int) = 82 then ({ y.1 with fR := 0 }, y.2 && inB x.fR 0 5)
  else if (c.toNat : Int) = 65 then ({ y.1 with fA := 0 }, y.2 && aOk x)
  else if (c.toNat : Int) = 66 then ({ y.1 with fB := 0 }, y.2 && inB x.fB 0 5)
  else if (c.toNat : Int) = 78 then ({ y.1 with fN := 0 }, y.2 && inB x.fN (-2147483648) 2147483647)
  else if (c.toNat : Int) = 77 then ({ y.1 with fM := 0 }, y.2 && inB x.fM 0 60)
  else y
theorem hasS_size (op : Int) : (hasS op).size ≤ 3 := by
  unfold hasS
  split
  · rename_i h
    rcases ops19 h.1 h.2 with rfl | rfl | rfl | rfl | rfl | rfl | rfl | rfl | rfl | rfl | rfl | rfl | rfl | rfl | rfl | rfl | rfl | rfl | rfl <;> decide
  · decide
theorem ba_get (s : ByteArray) (k : Nat) : s[k]? = s.data.toList[k]? := by
  by_cases h : k < s.size
  · rw [getElem?_pos s k h, List.getElem?_eq_getElem (by simpa using h)]; rfl
  · rw [getElem?_neg s k h, List.getElem?_eq_none (by simpa using h)]
def insF (z : TIns × Bool) : Bool := z.2 && (decide (z.1.fOp = 0) && (decide (z.1.fR = 0) && (decide (z.1.fA = 0) && (decide (z.1.fB = 0) && (decide (z.1.fN = 0) && decide (z.1.fM = 0))))))
end Go.Ev.G
