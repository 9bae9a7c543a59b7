/- The row of the law FnExactWorldText: written by mkrow.py. Not trusted: Lean checks it. -/
import Derived.Test.YtcoigakalblkgaaRows
import Derived.Test.YtcoigakalblkgaaEvChk
import Derived.Test.YtcoigakalblkgaaEvPWorldT
import Derived.WalkKit
import Derived.ProofKit
import Derived.OpenShut
import Derived.ShutString
import Derived.ChangeOld
import Derived.Below
import Derived.SizedLaws
namespace Go.Proofs.Ytcoigakalblkgaa.fnExactWorldText
open Go.ChangeShapes Go.WideShapes Go.ChangeAt Go.RowKit Go.Ev
open Go.ChangeMaps (open_string shut_string)
set_option linter.unusedVariables false
theorem own : ownKnob Try.prog.godebug = none := by kernel_rfl
theorem laidOut : laidOutB Try.prog = true := by kernel_rfl
theorem args_ok : tyArgs Try.prog [59] = some [(true, [.l 56 [.s, .i .i64, .i .i64, .l 80 [.i .i64, .i .i64, .i .i64, .i .i64, .i .i64, .s, .l 8 [.i .i64]]], .l 72 [.l 48 [.i .i64, .i .i64, .l 8 [.i .i64], .i .i64], .b, .b, .i .i64, .i .i64, .i .i64, .i .i64, .i .i64], .l 88 [.i .i64, .b, .l 8 [.i .i64], .l 32 [.i .i64, .i .i64, .i .i64, .i .i64], .l 32 [.i .i64, .i .i64, .i .i64, .i .i64]], .l 8 [.i .i64], .b, .i .i64])] := by kernel_rfl
set_option maxRecDepth 100000 in
theorem lifted (os : Os) (started : os.Started) (H : Type) (enc : TypeId × Value → H) :
    ReturnsInHanded {} Try.checked os 6 .any (Rows.fnExactWorldTextSpec.pre6 enc Try.prog Try.f6 Rows.fnExactWorldTextRow.domain false) (Rows.fnExactWorldTextSpec.post enc Try.prog Try.f6 false true false false) := by
  refine returnsInHanded_of_change_sized (C := Try.checked) own started (by kernel_rfl) Try.func6
    (ChangeSpec.witness6 (enc := enc) (C := Try.checked) false ⟨#[], #[.agg #[.slice none 0 0, .slice none 0 0, .slice none 0 0, .slice none 0 0, .bool false, .int .i64 0]], []⟩ 8 (by kernel_rfl) (by kernel_rfl) (by kernel_rfl) (by kernel_rfl)) ?_
  intro W base args ds gs before hval0 hW hcnd hsz0 _
  have hsz : (DataW.weightsEach Try.prog (Try.f6.params.toList ++ Rows.fnExactWorldTextSpec.plain.varTypes Try.prog) (ds ++ gs)).all (· ≤ reachBytes) = true := hsz0
  have hval : ∀ (j : Nat) t v, Try.f6.params[j]? = some t → args[j]? = some v → Value.okWide Try.prog W .any base t v := hval0
  have hW' := hW
  obtain ⟨p, q, hA0, hV, rfl, hfz, hnd⟩ := hW
  have hA : DataW.TrodAll enc Try.prog W 0 (fun _ => true) true Try.f6.params.toList args.toList ds p := hA0
  rw [Try.params6] at hA hval hsz
  obtain ⟨rfl, rfl⟩ := trodVars_none hV
  have hvt : Rows.fnExactWorldTextSpec.plain.varTypes Try.prog = [] := rfl
  rw [hvt, List.append_nil, List.append_nil] at hsz
  obtain ⟨xs, hfit, hv, hp, back⟩ := open_args (P := Try.prog) laidOut args_ok (by kernel_rfl) (fun j t v ht hv => hval j t v (by rw [← Array.getElem?_toList]; exact ht) (by rw [← Array.getElem?_toList]; exact hv)) hA (fun k hk => by have := List.all_eq_true.1 hsz k hk; simpa using this)
  have hc := law_calls Go.Ev.G.tab_ok (Go.Ev.G.pure_FnExactWorldText xs hfit) hv hp
  rw [Array.toArray_toList] at hc
  refine hc.mono fun e W' ⟨he, bel⟩ => ?_
  subst he
  obtain ⟨d0, rfl⟩ : ∃ d0, ds = [d0] := by
    have h := back _ (Below.refl _ W)
    obtain ⟨v0, vs0, d0, ds0, p0, q0, _, rfl, _, _, h0⟩ := trodAll_cons h
    obtain ⟨_, rfl, _⟩ := trodAll_nil h0
    exact ⟨d0, rfl⟩
  exact ⟨_, rfl, _, _, _, [], _, [], hW', trodAll_mk1 (shut_bool Try.underlying4 _), back _ bel, rfl, bel.frame _, fun h => by cases h⟩
theorem over : Rows.fnExactWorldTextRow.holds Try.pinned (OpenSpec.ofChange Rows.fnExactWorldTextSpec) :=
  OpenClaim.holds_of_wide 6 Try.f6 rfl rfl rfl rfl rfl rfl rfl ⟨rfl, rfl, rfl, rfl, rfl⟩ rfl rfl rfl rfl rfl (by kernel_rfl) Try.func6 (by kernel_rfl)
    (of_decide_eq_true (by kernel_rfl)) (by unfold Func.isWrapper; first | (rw [if_pos (by decide +kernel)]; kernel_rfl) | (rw [if_neg (by decide +kernel)]; exact ⟨rfl, rfl⟩))
    (fun os started H enc _ => lifted os started H enc)
theorem proved : Rows.FnExactWorldTextSaid := over
#print axioms proved
end Go.Proofs.Ytcoigakalblkgaa.fnExactWorldText
namespace Go.Proofs.Ytcoigakalblkgaa
theorem fnExactWorldText_holds : Rows.FnExactWorldTextSaid := fnExactWorldText.proved
end Go.Proofs.Ytcoigakalblkgaa
