/- The row of the law FnExactBoot: written by mkrow.py. Not trusted: Lean checks it. -/
import Derived.Test.YtcoigakalblkgaaRows
import Derived.Test.YtcoigakalblkgaaEvChk
import Derived.Test.YtcoigakalblkgaaEvPBoot2
import Derived.WalkKit
import Derived.ProofKit
import Derived.OpenShut
import Derived.ShutString
import Derived.ChangeOld
import Derived.Below
import Derived.SizedLaws
namespace Go.Proofs.Ytcoigakalblkgaa.fnExactBoot
open Go.ChangeShapes Go.WideShapes Go.ChangeAt Go.RowKit Go.Ev
open Go.ChangeMaps (open_string shut_string)
set_option linter.unusedVariables false
theorem own : ownKnob Try.prog.godebug = none := by kernel_rfl
theorem laidOut : laidOutB Try.prog = true := by kernel_rfl
theorem args_ok : tyArgs Try.prog [34, 3, 3, 3, 3] = some [(false, [.l 48 [.i .i64, .i .i64, .i .i64, .i .i64, .i .i64, .i .i64]]), (false, [.i .i64]), (false, [.i .i64]), (false, [.i .i64]), (false, [.i .i64])] := by kernel_rfl
set_option maxRecDepth 100000 in
theorem lifted (os : Os) (started : os.Started) (H : Type) (enc : TypeId × Value → H) :
    ReturnsInHanded {} Try.checked os 5 .any (Rows.fnExactBootSpec.pre6 enc Try.prog Try.f5 Rows.fnExactBootRow.domain false) (Rows.fnExactBootSpec.post enc Try.prog Try.f5 false true false false) := by
  refine returnsInHanded_of_change_sized (C := Try.checked) own started (by kernel_rfl) Try.func5
    (ChangeSpec.witness6 (enc := enc) (C := Try.checked) false ⟨#[], #[.slice none 0 0, .int .i64 0, .int .i64 0, .int .i64 0, .int .i64 0], []⟩ 8 (by kernel_rfl) (by kernel_rfl) (by kernel_rfl) (by kernel_rfl)) ?_
  intro W base args ds gs before hval0 hW hcnd hsz0 _
  have hsz : (DataW.weightsEach Try.prog (Try.f5.params.toList ++ Rows.fnExactBootSpec.plain.varTypes Try.prog) (ds ++ gs)).all (· ≤ reachBytes) = true := hsz0
  have hval : ∀ (j : Nat) t v, Try.f5.params[j]? = some t → args[j]? = some v → Value.okWide Try.prog W .any base t v := hval0
  have hW' := hW
  obtain ⟨p, q, hA0, hV, rfl, hfz, hnd⟩ := hW
  have hA : DataW.TrodAll enc Try.prog W 0 (fun _ => true) true Try.f5.params.toList args.toList ds p := hA0
  rw [Try.params5] at hA hval hsz
  obtain ⟨rfl, rfl⟩ := trodVars_none hV
  have hvt : Rows.fnExactBootSpec.plain.varTypes Try.prog = [] := rfl
  rw [hvt, List.append_nil, List.append_nil] at hsz
  obtain ⟨xs, hfit, hv, hp, back⟩ := open_args (P := Try.prog) laidOut args_ok (by kernel_rfl) (fun j t v ht hv => hval j t v (by rw [← Array.getElem?_toList]; exact ht) (by rw [← Array.getElem?_toList]; exact hv)) hA (fun k hk => by have := List.all_eq_true.1 hsz k hk; simpa using this)
  have hc := law_calls Go.Ev.G.tab_ok (Go.Ev.G.pure_FnExactBoot xs hfit) hv hp
  rw [Array.toArray_toList] at hc
  refine hc.mono fun e W' ⟨he, bel⟩ => ?_
  subst he
  obtain ⟨d0, d1, d2, d3, d4, rfl⟩ : ∃ d0 d1 d2 d3 d4, ds = [d0, d1, d2, d3, d4] := by
    have h := back _ (Below.refl _ W)
    obtain ⟨v0, vs0, d0, ds0, p0, q0, _, rfl, _, _, h0⟩ := trodAll_cons h
    obtain ⟨v1, vs1, d1, ds1, p1, q1, _, rfl, _, _, h1⟩ := trodAll_cons h0
    obtain ⟨v2, vs2, d2, ds2, p2, q2, _, rfl, _, _, h2⟩ := trodAll_cons h1
    obtain ⟨v3, vs3, d3, ds3, p3, q3, _, rfl, _, _, h3⟩ := trodAll_cons h2
    obtain ⟨v4, vs4, d4, ds4, p4, q4, _, rfl, _, _, h4⟩ := trodAll_cons h3
    obtain ⟨_, rfl, _⟩ := trodAll_nil h4
    exact ⟨d0, d1, d2, d3, d4, rfl⟩
  exact ⟨_, rfl, _, _, _, [], _, [], hW', trodAll_mk1 (shut_bool Try.underlying4 _), back _ bel, rfl, bel.frame _, fun h => by cases h⟩
theorem over : Rows.fnExactBootRow.holds Try.pinned (OpenSpec.ofChange Rows.fnExactBootSpec) :=
  OpenClaim.holds_of_wide 5 Try.f5 rfl rfl rfl rfl rfl rfl rfl ⟨rfl, rfl, rfl, rfl, rfl⟩ rfl rfl rfl rfl rfl (by kernel_rfl) Try.func5 (by kernel_rfl)
    (of_decide_eq_true (by kernel_rfl)) (by unfold Func.isWrapper; first | (rw [if_pos (by decide +kernel)]; kernel_rfl) | (rw [if_neg (by decide +kernel)]; exact ⟨rfl, rfl⟩))
    (fun os started H enc _ => lifted os started H enc)
theorem proved : Rows.FnExactBootSaid := over
#print axioms proved
end Go.Proofs.Ytcoigakalblkgaa.fnExactBoot
namespace Go.Proofs.Ytcoigakalblkgaa
theorem fnExactBoot_holds : Rows.FnExactBootSaid := fnExactBoot.proved
end Go.Proofs.Ytcoigakalblkgaa
