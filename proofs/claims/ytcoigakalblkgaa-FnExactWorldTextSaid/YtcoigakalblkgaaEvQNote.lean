/- The laws' own helpers on the type Note: written by genq.py. -/
import Derived.Test.YtcoigakalblkgaaEvQInt
set_option linter.all false
namespace Go.Ev.G
set_option maxRecDepth 8000
set_option maxHeartbeats 4000000
structure TNote where
  fWho : Int
  fWhat : Int
def TNote.r (x : TNote) : List D := [DI x.fWho, DI x.fWhat]
def TNote.o (x : TNote) : List D := [DI x.fWho, DI x.fWhat]
abbrev TNote.x (x : TNote) : X := .agg [I x.fWho, I x.fWhat]
abbrev TNote.xo (x : TNote) : X := .agg [I x.fWho, I x.fWhat]
theorem TNote.fzl (x : TNote) : fzl x.o = x.r := by simp only [TNote.o, TNote.r, Ev.fzl, D.fz, fzs_numR]
theorem TNote.fzlr (x : TNote) : Ev.fzl x.r = x.r := by simp only [TNote.r, Ev.fzl, D.fz, fzs_numR]
theorem TNote.fzs (xs : List TNote) : fzs (xs.map TNote.o) = xs.map TNote.r := fzs_map _ _ TNote.fzl xs
theorem TNote.fzr (xs : List TNote) : Ev.fzs (xs.map TNote.r) = xs.map TNote.r := fzs_map _ _ TNote.fzlr xs
theorem TNote.noR (xs : List TNote) : D.noR.noRss (xs.map TNote.o) = true := noRss_map _ (fun x => by simp only [TNote.o, D.noR.noRs, D.noR, Bool.and_true, Bool.true_and, noR_numR]) xs
def TNote.sz (x : TNote) : Int := 0
def TNote.szs (xs : List TNote) : Int := xs.length
theorem TNote.szs_nn (xs : List TNote) : 0 ≤ TNote.szs xs ∧ (xs.length : Int) ≤ TNote.szs xs := by unfold TNote.szs; omega
def TNote.sm (x : TNote) : Prop := True
structure TNote.ok (x : TNote) : Prop where
  fWho : i64 x.fWho
  fWhat : i64 x.fWhat
theorem TNote.fit {c : List D} (h : fitL [.i .i64, .i .i64] c) : ∃ x : TNote, c = x.r ∧ x.ok := by
  simp only [fitL] at h
  obtain ⟨_, _, rfl, h0, _, _, rfl, h1, rfl⟩ := h
  rw [Ev.fit] at h0; obtain ⟨a0, rfl, g0⟩ := h0
  rw [Ev.fit] at h1; obtain ⟨a1, rfl, g1⟩ := h1
  exact ⟨⟨a0, a1⟩, rfl, ⟨wf64 g0, wf64 g1⟩⟩
def TNote.mk_ (k : Int) (x : TNote) : TNote := ⟨k, k + 1⟩
def TNote.ct (x : TNote) : Int := 1 + 1
theorem TNote.ct_nn (x : TNote) : 1 ≤ x.ct := by
  unfold TNote.ct; omega
def TNote.mks : Int → List TNote → List TNote
  | _, [] => []
  | k, x :: xs => TNote.mk_ k x :: TNote.mks (k + x.ct) xs
def TNote.cts : List TNote → Int
  | [] => 0
  | x :: xs => x.ct + TNote.cts xs
theorem TNote.cts_nn : ∀ xs : List TNote, (xs.length : Int) ≤ TNote.cts xs
  | [] => by simp [TNote.cts]
  | x :: xs => by simp only [TNote.cts, List.length_cons]; have := x.ct_nn; have := TNote.cts_nn xs; omega
theorem TNote.mks_len : ∀ (k : Int) (xs : List TNote), (TNote.mks k xs).length = xs.length
  | _, [] => rfl
  | k, x :: xs => by simp [TNote.mks, TNote.mks_len (k + x.ct) xs]
theorem TNote.ct_le (x : TNote) : x.ct ≤ 64 + 64 * x.sz := by
  unfold TNote.ct TNote.sz; omega
theorem TNote.cts_le : ∀ xs : List TNote, TNote.cts xs ≤ 64 * TNote.szs xs
  | [] => by simp [TNote.cts, TNote.szs]
  | x :: xs => by
    have h1 := x.ct_le; have h2 := TNote.cts_le xs
    have h3 : x.sz = 0 := rfl
    simp only [TNote.cts, TNote.szs, List.length_cons] at *; omega
def TNote.mkv (k : Int) (x : TNote) : TNote := ⟨x.fWho, x.fWhat⟩
def TNote.ctv (x : TNote) : Int := 0
theorem TNote.ctv_le (x : TNote) : x.ctv ≤ 64 * x.sz := by
  unfold TNote.ctv TNote.sz; omega
end Go.Ev.G
