/- The laws' own helpers on the type Ins: written by genq.py. -/
import Derived.Test.YtcoigakalblkgaaEvQInt
set_option linter.all false
namespace Go.Ev.G
set_option maxRecDepth 8000
set_option maxHeartbeats 4000000
structure TIns where
  fOp : Int
  fR : Int
  fA : Int
  fB : Int
  fN : Int
  fM : Int
def TIns.r (x : TIns) : List D := [DI x.fOp, DI x.fR, DI x.fA, DI x.fB, DI x.fN, DI x.fM]
def TIns.o (x : TIns) : List D := [DI x.fOp, DI x.fR, DI x.fA, DI x.fB, DI x.fN, DI x.fM]
abbrev TIns.x (x : TIns) : X := .agg [I x.fOp, I x.fR, I x.fA, I x.fB, I x.fN, I x.fM]
abbrev TIns.xo (x : TIns) : X := .agg [I x.fOp, I x.fR, I x.fA, I x.fB, I x.fN, I x.fM]
theorem TIns.fzl (x : TIns) : fzl x.o = x.r := by simp only [TIns.o, TIns.r, Ev.fzl, D.fz, fzs_numR]
theorem TIns.fzlr (x : TIns) : Ev.fzl x.r = x.r := by simp only [TIns.r, Ev.fzl, D.fz, fzs_numR]
theorem TIns.fzs (xs : List TIns) : fzs (xs.map TIns.o) = xs.map TIns.r := fzs_map _ _ TIns.fzl xs
theorem TIns.fzr (xs : List TIns) : Ev.fzs (xs.map TIns.r) = xs.map TIns.r := fzs_map _ _ TIns.fzlr xs
theorem TIns.noR (xs : List TIns) : D.noR.noRss (xs.map TIns.o) = true := noRss_map _ (fun x => by simp only [TIns.o, D.noR.noRs, D.noR, Bool.and_true, Bool.true_and, noR_numR]) xs
def TIns.sz (x : TIns) : Int := 0
def TIns.szs (xs : List TIns) : Int := xs.length
theorem TIns.szs_nn (xs : List TIns) : 0 ≤ TIns.szs xs ∧ (xs.length : Int) ≤ TIns.szs xs := by unfold TIns.szs; omega
def TIns.sm (x : TIns) : Prop := True
structure TIns.ok (x : TIns) : Prop where
  fOp : i64 x.fOp
  fR : i64 x.fR
  fA : i64 x.fA
  fB : i64 x.fB
  fN : i64 x.fN
  fM : i64 x.fM
theorem TIns.fit {c : List D} (h : fitL [.i .i64, .i .i64, .i .i64, .i .i64, .i .i64, .i .i64] c) : ∃ x : TIns, c = x.r ∧ x.ok := by
  simp only [fitL] at h
  obtain ⟨_, _, rfl, h0, _, _, rfl, h1, _, _, rfl, h2, _, _, rfl, h3, _, _, rfl, h4, _, _, rfl, h5, rfl⟩ := h
  rw [Ev.fit] at h0; obtain ⟨a0, rfl, g0⟩ := h0
  rw [Ev.fit] at h1; obtain ⟨a1, rfl, g1⟩ := h1
  rw [Ev.fit] at h2; obtain ⟨a2, rfl, g2⟩ := h2
  rw [Ev.fit] at h3; obtain ⟨a3, rfl, g3⟩ := h3
  rw [Ev.fit] at h4; obtain ⟨a4, rfl, g4⟩ := h4
  rw [Ev.fit] at h5; obtain ⟨a5, rfl, g5⟩ := h5
  exact ⟨⟨a0, a1, a2, a3, a4, a5⟩, rfl, ⟨wf64 g0, wf64 g1, wf64 g2, wf64 g3, wf64 g4, wf64 g5⟩⟩
def TIns.mk_ (k : Int) (x : TIns) : TIns := ⟨k, k + 1, k + 1 + 1, k + 1 + 1 + 1, k + 1 + 1 + 1 + 1, k + 1 + 1 + 1 + 1 + 1⟩
def TIns.ct (x : TIns) : Int := 1 + 1 + 1 + 1 + 1 + 1
theorem TIns.ct_nn (x : TIns) : 1 ≤ x.ct := by
  unfold TIns.ct; omega
def TIns.mks : Int → List TIns → List TIns
  | _, [] => []
  | k, x :: xs => TIns.mk_ k x :: TIns.mks (k + x.ct) xs
def TIns.cts : List TIns → Int
  | [] => 0
  | x :: xs => x.ct + TIns.cts xs
theorem TIns.cts_nn : ∀ xs : List TIns, (xs.length : Int) ≤ TIns.cts xs
  | [] => by simp [TIns.cts]
  | x :: xs => by simp only [TIns.cts, List.length_cons]; have := x.ct_nn; have := TIns.cts_nn xs; omega
theorem TIns.mks_len : ∀ (k : Int) (xs : List TIns), (TIns.mks k xs).length = xs.length
  | _, [] => rfl
  | k, x :: xs => by simp [TIns.mks, TIns.mks_len (k + x.ct) xs]
theorem TIns.ct_le (x : TIns) : x.ct ≤ 64 + 64 * x.sz := by
  unfold TIns.ct TIns.sz; omega
theorem TIns.cts_le : ∀ xs : List TIns, TIns.cts xs ≤ 64 * TIns.szs xs
  | [] => by simp [TIns.cts, TIns.szs]
  | x :: xs => by
    have h1 := x.ct_le; have h2 := TIns.cts_le xs
    have h3 : x.sz = 0 := rfl
    simp only [TIns.cts, TIns.szs, List.length_cons] at *; omega
def TIns.mkv (k : Int) (x : TIns) : TIns := ⟨x.fOp, x.fR, x.fA, x.fB, x.fN, x.fM⟩
def TIns.ctv (x : TIns) : Int := 0
theorem TIns.ctv_le (x : TIns) : x.ctv ≤ 64 * x.sz := by
  unfold TIns.ctv TIns.sz; omega
end Go.Ev.G
