/- The laws' own helpers on the type Core: written by genq.py. -/
import Derived.Test.YtcoigakalblkgaaEvQInt
set_option linter.all false
namespace Go.Ev.G
set_option maxRecDepth 8000
set_option maxHeartbeats 4000000
structure TCore where
  fPc : Int
  fFp : Int
  fRegs : List Int
def TCore.r (x : TCore) : List D := [DI x.fPc, DI x.fFp, .r (numR x.fRegs)]
def TCore.o (x : TCore) : List D := [DI x.fPc, DI x.fFp, .s 1 (numR x.fRegs)]
abbrev TCore.x (x : TCore) : X := .agg [I x.fPc, I x.fFp, .d (.r (numR x.fRegs))]
abbrev TCore.xo (x : TCore) : X := .agg [I x.fPc, I x.fFp, .d (.s 1 (numR x.fRegs))]
theorem TCore.fzl (x : TCore) : fzl x.o = x.r := by simp only [TCore.o, TCore.r, Ev.fzl, D.fz, fzs_numR]
theorem TCore.fzlr (x : TCore) : Ev.fzl x.r = x.r := by simp only [TCore.r, Ev.fzl, D.fz, fzs_numR]
theorem TCore.fzs (xs : List TCore) : fzs (xs.map TCore.o) = xs.map TCore.r := fzs_map _ _ TCore.fzl xs
theorem TCore.fzr (xs : List TCore) : Ev.fzs (xs.map TCore.r) = xs.map TCore.r := fzs_map _ _ TCore.fzlr xs
theorem TCore.noR (xs : List TCore) : D.noR.noRss (xs.map TCore.o) = true := noRss_map _ (fun x => by simp only [TCore.o, D.noR.noRs, D.noR, Bool.and_true, Bool.true_and, noR_numR]) xs
def TCore.sz (x : TCore) : Int := (x.fRegs.length : Int)
theorem TCore.sz_nn (x : TCore) : 0 ≤ x.sz := by
  unfold TCore.sz; omega
def TCore.szl : List TCore → Int
  | [] => 0
  | x :: xs => x.sz + TCore.szl xs
def TCore.szs (xs : List TCore) : Int := xs.length + TCore.szl xs
theorem TCore.szl_nn : ∀ xs : List TCore, 0 ≤ TCore.szl xs
  | [] => by simp [TCore.szl]
  | x :: xs => by simp only [TCore.szl]; have := x.sz_nn; have := TCore.szl_nn xs; omega
theorem TCore.szs_nn (xs : List TCore) : 0 ≤ TCore.szs xs ∧ (xs.length : Int) ≤ TCore.szs xs := by have := TCore.szl_nn xs; unfold TCore.szs; omega
theorem TCore.sz_le : ∀ {xs : List TCore} {x : TCore}, x ∈ xs → x.sz ≤ TCore.szl xs
  | y :: xs, x, h => by
    simp only [TCore.szl]
    have h1 := y.sz_nn; have h2 := TCore.szl_nn xs
    rcases List.mem_cons.1 h with rfl | h
    · omega
    · have := TCore.sz_le h; omega
def TCore.sm (x : TCore) : Prop := x.fRegs.length ≤ 1048576
theorem TCore.sm_of {x : TCore} (h : x.sz ≤ 1048576) : x.sm := by
  unfold TCore.sz at h
  unfold TCore.sm
  exact by omega
theorem TCore.sms_of {xs : List TCore} (h : TCore.szs xs ≤ 1048576) : xs.length ≤ 1048576 ∧ ∀ y ∈ xs, y.sm := by
  have := TCore.szl_nn xs
  unfold TCore.szs at h
  exact ⟨by omega, fun y hy => TCore.sm_of (by have := TCore.sz_le hy; omega)⟩
structure TCore.ok (x : TCore) : Prop where
  fPc : i64 x.fPc
  fFp : i64 x.fFp
  fRegs : x.fRegs.length ≤ 140737488351232 ∧ ∀ n ∈ x.fRegs, i64 n
theorem TCore.fit {c : List D} (h : fitL [.i .i64, .i .i64, .l 8 [.i .i64]] c) : ∃ x : TCore, c = x.r ∧ x.ok := by
  simp only [fitL] at h
  obtain ⟨_, _, rfl, h0, _, _, rfl, h1, _, _, rfl, h2, rfl⟩ := h
  rw [Ev.fit] at h0; obtain ⟨a0, rfl, g0⟩ := h0
  rw [Ev.fit] at h1; obtain ⟨a1, rfl, g1⟩ := h1
  rw [Ev.fit] at h2; obtain ⟨e2, rfl, b2, c2⟩ := h2; obtain ⟨a2, rfl, g2⟩ := fit_all (enc := fun n => [DI n]) (ok := i64) (fun c hc => fit_int hc) c2; rw [List.length_map] at b2
  exact ⟨⟨a0, a1, a2⟩, rfl, ⟨wf64 g0, wf64 g1, ⟨(by omega : a2.length ≤ 140737488351232), g2⟩⟩⟩
def TCore.mk_ (k : Int) (x : TCore) : TCore := ⟨k, k + 1, mkInt (k + 1 + 1) x.fRegs⟩
def TCore.ct (x : TCore) : Int := 1 + 1 + (x.fRegs.length : Int)
theorem TCore.ct_nn (x : TCore) : 1 ≤ x.ct := by
  unfold TCore.ct; omega
def TCore.mks : Int → List TCore → List TCore
  | _, [] => []
  | k, x :: xs => TCore.mk_ k x :: TCore.mks (k + x.ct) xs
def TCore.cts : List TCore → Int
  | [] => 0
  | x :: xs => x.ct + TCore.cts xs
theorem TCore.cts_nn : ∀ xs : List TCore, (xs.length : Int) ≤ TCore.cts xs
  | [] => by simp [TCore.cts]
  | x :: xs => by simp only [TCore.cts, List.length_cons]; have := x.ct_nn; have := TCore.cts_nn xs; omega
theorem TCore.mks_len : ∀ (k : Int) (xs : List TCore), (TCore.mks k xs).length = xs.length
  | _, [] => rfl
  | k, x :: xs => by simp [TCore.mks, TCore.mks_len (k + x.ct) xs]
theorem TCore.ct_le (x : TCore) : x.ct ≤ 64 + 64 * x.sz := by
  unfold TCore.ct TCore.sz; omega
theorem TCore.cts_le : ∀ xs : List TCore, TCore.cts xs ≤ 64 * TCore.szs xs
  | [] => by simp [TCore.cts, TCore.szs, TCore.szl]
  | x :: xs => by
    have h1 := x.ct_le; have h2 := TCore.cts_le xs
    simp only [TCore.cts, TCore.szs, TCore.szl, List.length_cons] at *; omega
def TCore.mkv (k : Int) (x : TCore) : TCore := ⟨x.fPc, x.fFp, mkInt (k) x.fRegs⟩
def TCore.ctv (x : TCore) : Int := (x.fRegs.length : Int)
theorem TCore.ctv_le (x : TCore) : x.ctv ≤ 64 * x.sz := by
  unfold TCore.ctv TCore.sz; omega
end Go.Ev.G
