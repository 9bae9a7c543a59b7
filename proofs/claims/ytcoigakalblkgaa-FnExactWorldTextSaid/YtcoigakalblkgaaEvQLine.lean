/- The laws' own helpers on the type Line: written by genq.py. -/
import Derived.Test.YtcoigakalblkgaaEvQInt
import Derived.Test.YtcoigakalblkgaaEvQText
import Derived.Test.YtcoigakalblkgaaEvQIns
set_option linter.all false
namespace Go.Ev.G
set_option maxRecDepth 8000
set_option maxHeartbeats 4000000
structure TLine where
  fName : ByteArray
  fX : TIns
  fTo : ByteArray
def TLine.r (x : TLine) : List D := [DS x.fName, DI x.fX.fOp, DI x.fX.fR, DI x.fX.fA, DI x.fX.fB, DI x.fX.fN, DI x.fX.fM, DS x.fTo]
def TLine.o (x : TLine) : List D := [DS x.fName, DI x.fX.fOp, DI x.fX.fR, DI x.fX.fA, DI x.fX.fB, DI x.fX.fN, DI x.fX.fM, DS x.fTo]
abbrev TLine.x (x : TLine) : X := .agg [Str x.fName, I x.fX.fOp, I x.fX.fR, I x.fX.fA, I x.fX.fB, I x.fX.fN, I x.fX.fM, Str x.fTo]
abbrev TLine.xo (x : TLine) : X := .agg [Str x.fName, I x.fX.fOp, I x.fX.fR, I x.fX.fA, I x.fX.fB, I x.fX.fN, I x.fX.fM, Str x.fTo]
theorem TLine.fzl (x : TLine) : fzl x.o = x.r := by simp only [TLine.o, TLine.r, Ev.fzl, D.fz, fzs_numR]
theorem TLine.fzlr (x : TLine) : Ev.fzl x.r = x.r := by simp only [TLine.r, Ev.fzl, D.fz, fzs_numR]
theorem TLine.fzs (xs : List TLine) : fzs (xs.map TLine.o) = xs.map TLine.r := fzs_map _ _ TLine.fzl xs
theorem TLine.fzr (xs : List TLine) : Ev.fzs (xs.map TLine.r) = xs.map TLine.r := fzs_map _ _ TLine.fzlr xs
theorem TLine.noR (xs : List TLine) : D.noR.noRss (xs.map TLine.o) = true := noRss_map _ (fun x => by simp only [TLine.o, D.noR.noRs, D.noR, Bool.and_true, Bool.true_and, noR_numR]) xs
def TLine.sz (x : TLine) : Int := (x.fName.size : Int) + (x.fTo.size : Int)
theorem TLine.sz_nn (x : TLine) : 0 ≤ x.sz := by
  unfold TLine.sz; omega
def TLine.szl : List TLine → Int
  | [] => 0
  | x :: xs => x.sz + TLine.szl xs
def TLine.szs (xs : List TLine) : Int := xs.length + TLine.szl xs
theorem TLine.szl_nn : ∀ xs : List TLine, 0 ≤ TLine.szl xs
  | [] => by simp [TLine.szl]
  | x :: xs => by simp only [TLine.szl]; have := x.sz_nn; have := TLine.szl_nn xs; omega
theorem TLine.szs_nn (xs : List TLine) : 0 ≤ TLine.szs xs ∧ (xs.length : Int) ≤ TLine.szs xs := by have := TLine.szl_nn xs; unfold TLine.szs; omega
theorem TLine.sz_le : ∀ {xs : List TLine} {x : TLine}, x ∈ xs → x.sz ≤ TLine.szl xs
  | y :: xs, x, h => by
    simp only [TLine.szl]
    have h1 := y.sz_nn; have h2 := TLine.szl_nn xs
    rcases List.mem_cons.1 h with rfl | h
    · omega
    · have := TLine.sz_le h; omega
def TLine.sm (x : TLine) : Prop := x.fName.size ≤ 1048576 ∧ x.fTo.size ≤ 1048576
theorem TLine.sm_of {x : TLine} (h : x.sz ≤ 1048576) : x.sm := by
  unfold TLine.sz at h
  unfold TLine.sm
  exact ⟨by omega, by omega⟩
theorem TLine.sms_of {xs : List TLine} (h : TLine.szs xs ≤ 1048576) : xs.length ≤ 1048576 ∧ ∀ y ∈ xs, y.sm := by
  have := TLine.szl_nn xs
  unfold TLine.szs at h
  exact ⟨by omega, fun y hy => TLine.sm_of (by have := TLine.sz_le hy; omega)⟩
structure TLine.ok (x : TLine) : Prop where
  fName : x.fName.size ≤ 140737488351232
  fX : x.fX.ok
  fTo : x.fTo.size ≤ 140737488351232
theorem TLine.fit {c : List D} (h : fitL [.s, .i .i64, .i .i64, .i .i64, .i .i64, .i .i64, .i .i64, .s] c) : ∃ x : TLine, c = x.r ∧ x.ok := by
  simp only [fitL] at h
  obtain ⟨_, _, rfl, h0, _, _, rfl, h1, _, _, rfl, h2, _, _, rfl, h3, _, _, rfl, h4, _, _, rfl, h5, _, _, rfl, h6, _, _, rfl, h7, rfl⟩ := h
  rw [Ev.fit] at h0; obtain ⟨a0, rfl, g0⟩ := h0
  rw [Ev.fit] at h1; obtain ⟨a1, rfl, g1⟩ := h1
  rw [Ev.fit] at h2; obtain ⟨a2, rfl, g2⟩ := h2
  rw [Ev.fit] at h3; obtain ⟨a3, rfl, g3⟩ := h3
  rw [Ev.fit] at h4; obtain ⟨a4, rfl, g4⟩ := h4
  rw [Ev.fit] at h5; obtain ⟨a5, rfl, g5⟩ := h5
  rw [Ev.fit] at h6; obtain ⟨a6, rfl, g6⟩ := h6
  rw [Ev.fit] at h7; obtain ⟨a7, rfl, g7⟩ := h7
  exact ⟨⟨a0, ⟨a1, a2, a3, a4, a5, a6⟩, a7⟩, rfl, ⟨g0, ⟨wf64 g1, wf64 g2, wf64 g3, wf64 g4, wf64 g5, wf64 g6⟩, g7⟩⟩
def TLine.mk_ (k : Int) (x : TLine) : TLine := ⟨mtxt (k), ⟨k + 1, k + 1 + 1, k + 1 + 1 + 1, k + 1 + 1 + 1 + 1, k + 1 + 1 + 1 + 1 + 1, k + 1 + 1 + 1 + 1 + 1 + 1⟩, mtxt (k + 1 + 1 + 1 + 1 + 1 + 1 + 1)⟩
def TLine.ct (x : TLine) : Int := 1 + 1 + 1 + 1 + 1 + 1 + 1 + 1
theorem TLine.ct_nn (x : TLine) : 1 ≤ x.ct := by
  unfold TLine.ct; omega
def TLine.mks : Int → List TLine → List TLine
  | _, [] => []
  | k, x :: xs => TLine.mk_ k x :: TLine.mks (k + x.ct) xs
def TLine.cts : List TLine → Int
  | [] => 0
  | x :: xs => x.ct + TLine.cts xs
theorem TLine.cts_nn : ∀ xs : List TLine, (xs.length : Int) ≤ TLine.cts xs
  | [] => by simp [TLine.cts]
  | x :: xs => by simp only [TLine.cts, List.length_cons]; have := x.ct_nn; have := TLine.cts_nn xs; omega
theorem TLine.mks_len : ∀ (k : Int) (xs : List TLine), (TLine.mks k xs).length = xs.length
  | _, [] => rfl
  | k, x :: xs => by simp [TLine.mks, TLine.mks_len (k + x.ct) xs]
theorem TLine.ct_le (x : TLine) : x.ct ≤ 64 + 64 * x.sz := by
  unfold TLine.ct TLine.sz; omega
theorem TLine.cts_le : ∀ xs : List TLine, TLine.cts xs ≤ 64 * TLine.szs xs
  | [] => by simp [TLine.cts, TLine.szs, TLine.szl]
  | x :: xs => by
    have h1 := x.ct_le; have h2 := TLine.cts_le xs
    simp only [TLine.cts, TLine.szs, TLine.szl, List.length_cons] at *; omega
def TLine.mkv (k : Int) (x : TLine) : TLine := ⟨x.fName, ⟨x.fX.fOp, x.fX.fR, x.fX.fA, x.fX.fB, x.fX.fN, x.fX.fM⟩, x.fTo⟩
def TLine.ctv (x : TLine) : Int := 0
theorem TLine.ctv_le (x : TLine) : x.ctv ≤ 64 * x.sz := by
  unfold TLine.ctv TLine.sz; omega
end Go.Ev.G
