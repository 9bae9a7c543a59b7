/- The laws' own helpers on the type Token: written by genq.py. -/
import Derived.Test.YtcoigakalblkgaaEvQInt
import Derived.Test.YtcoigakalblkgaaEvQText
set_option linter.all false
namespace Go.Ev.G
set_option maxRecDepth 8000
set_option maxHeartbeats 4000000
structure TToken where
  fKind : Int
  fText : ByteArray
  fN : Int
  fAt : Int
def TToken.r (x : TToken) : List D := [DI x.fKind, DS x.fText, DI x.fN, DI x.fAt]
def TToken.o (x : TToken) : List D := [DI x.fKind, DS x.fText, DI x.fN, DI x.fAt]
abbrev TToken.x (x : TToken) : X := .agg [I x.fKind, Str x.fText, I x.fN, I x.fAt]
abbrev TToken.xo (x : TToken) : X := .agg [I x.fKind, Str x.fText, I x.fN, I x.fAt]
theorem TToken.fzl (x : TToken) : fzl x.o = x.r := by simp only [TToken.o, TToken.r, Ev.fzl, D.fz, fzs_numR]
theorem TToken.fzlr (x : TToken) : Ev.fzl x.r = x.r := by simp only [TToken.r, Ev.fzl, D.fz, fzs_numR]
theorem TToken.fzs (xs : List TToken) : fzs (xs.map TToken.o) = xs.map TToken.r := fzs_map _ _ TToken.fzl xs
theorem TToken.fzr (xs : List TToken) : Ev.fzs (xs.map TToken.r) = xs.map TToken.r := fzs_map _ _ TToken.fzlr xs
theorem TToken.noR (xs : List TToken) : D.noR.noRss (xs.map TToken.o) = true := noRss_map _ (fun x => by simp only [TToken.o, D.noR.noRs, D.noR, Bool.and_true, Bool.true_and, noR_numR]) xs
def TToken.sz (x : TToken) : Int := (x.fText.size : Int)
def TToken.sm (x : TToken) : Prop := x.fText.size ≤ 1048576
structure TToken.ok (x : TToken) : Prop where
  fKind : i64 x.fKind
  fText : x.fText.size ≤ 140737488351232
  fN : i64 x.fN
  fAt : i64 x.fAt
theorem TToken.fit {c : List D} (h : fitL [.i .i64, .s, .i .i64, .i .i64] c) : ∃ x : TToken, c = x.r ∧ x.ok := by
  simp only [fitL] at h
  obtain ⟨_, _, rfl, h0, _, _, rfl, h1, _, _, rfl, h2, _, _, rfl, h3, rfl⟩ := h
  rw [Ev.fit] at h0; obtain ⟨a0, rfl, g0⟩ := h0
  rw [Ev.fit] at h1; obtain ⟨a1, rfl, g1⟩ := h1
  rw [Ev.fit] at h2; obtain ⟨a2, rfl, g2⟩ := h2
  rw [Ev.fit] at h3; obtain ⟨a3, rfl, g3⟩ := h3
  exact ⟨⟨a0, a1, a2, a3⟩, rfl, ⟨wf64 g0, g1, wf64 g2, wf64 g3⟩⟩
def TToken.mk_ (k : Int) (x : TToken) : TToken := ⟨k, mtxt (k + 1), k + 1 + 1, k + 1 + 1 + 1⟩
def TToken.ct (x : TToken) : Int := 1 + 1 + 1 + 1
theorem TToken.ct_nn (x : TToken) : 1 ≤ x.ct := by
  unfold TToken.ct; omega
def TToken.mks : Int → List TToken → List TToken
  | _, [] => []
  | k, x :: xs => TToken.mk_ k x :: TToken.mks (k + x.ct) xs
def TToken.cts : List TToken → Int
  | [] => 0
  | x :: xs => x.ct + TToken.cts xs
theorem TToken.cts_nn : ∀ xs : List TToken, (xs.length : Int) ≤ TToken.cts xs
  | [] => by simp [TToken.cts]
  | x :: xs => by simp only [TToken.cts, List.length_cons]; have := x.ct_nn; have := TToken.cts_nn xs; omega
theorem TToken.mks_len : ∀ (k : Int) (xs : List TToken), (TToken.mks k xs).length = xs.length
  | _, [] => rfl
  | k, x :: xs => by simp [TToken.mks, TToken.mks_len (k + x.ct) xs]
end Go.Ev.G
