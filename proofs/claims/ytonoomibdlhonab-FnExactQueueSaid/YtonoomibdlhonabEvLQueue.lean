/- The row of the law FnExactQueue: written by mkrow.py. Not trusted: Lean checks it. -/
import Derived.Test.YtonoomibdlhonabRows
import Derived.Test.YtonoomibdlhonabEvChk
import Derived.Test.YtonoomibdlhonabEvPQueue2
import Derived.WalkKit
import Derived.ProofKit
import Derived.OpenShut
import Derived.ShutString
import Derived.ChangeOld
import Derived.Below
import Derived.SizedLaws
namespace Go.Proofs.Ytonoomibdlhonab.fnExactQueue
open Go.ChangeShapes Go.WideShapes Go.ChangeAt Go.RowKit Go.Ev
open Go.ChangeMaps (open_string shut_string)
set_option linter.unusedVariables false
theorem own : ownKnob Try.prog.godebug = none := by kernel_rfl
theorem laidOut : laidOutB Try.prog = true := by kernel_rfl
theorem args_ok : tyArgs Try.prog [27] = some [(true, [.l 48 [.i .i64, .i .i64, .i .i64, .i .i64, .i .i64, .i .i64], .l 8 [.i .i64], .l 40 [.i .i64, .i .i64, .l 8 [.i .i64]], .l 8 [.i .i64], .l 16 [.i .i64, .i .i64], .b, .i .i64])] := by kernel_rfl
set_option maxRecDepth 100000 in
theorem lifted (os : Os) (started : os.Started) (H : Type) (enc : TypeId × Value → H) :
    ReturnsInHanded {} Try.checked os 3 .any (Rows.fnExactQueueSpec.pre6 enc Try.prog Try.f3 Rows.fnExactQueueRow.domain false) (Rows.fnExactQueueSpec.post enc Try.prog Try.f3 false true false false) := by
  refine returnsInHanded_of_change_sized (C := Try.checked) own started (by kernel_rfl) Try.func3
    (ChangeSpec.witness6 (enc := enc) (C := Try.checked) false ⟨#[], #[.agg #[.slice none 0 0, .slice none 0 0, .slice none 0 0, .slice none 0 0, .slice none 0 0, .bool false, .int .i64 0]], []⟩ 8 (by kernel_rfl) (by kernel_rfl) (by kernel_rfl) (by kernel_rfl)) ?_
  intro W base args ds gs before hval0 hW hcnd hsz0 _
  have hsz : (DataW.weightsEach Try.prog (Try.f3.params.toList ++ Rows.fnExactQueueSpec.plain.varTypes Try.prog) (ds ++ gs)).all (· ≤ reachBytes) = true := hsz0
  have hval : ∀ (j : Nat) t v, Try.f3.params[j]? = some t → args[j]? = some v → Value.okWide Try.prog W .any base t v := hval0
  have hW' := hW
  obtain ⟨p, q, hA0, hV, rfl, hfz, hnd⟩ := hW
  have hA : DataW.TrodAll enc Try.prog W 0 (fun _ => true) true Try.f3.params.toList args.toList ds p := hA0
  rw [Try.params3] at hA hval hsz
  obtain ⟨rfl, rfl⟩ := trodVars_none hV
  have hvt : Rows.fnExactQueueSpec.plain.varTypes Try.prog = [] := rfl
  rw [hvt, List.append_nil, List.append_nil] at hsz
  obtain ⟨xs, hfit, hv, hp, back⟩ := open_args (P := Try.prog) laidOut args_ok (by kernel_rfl) (fun j t v ht hv => hval j t v (by rw [← Array.getElem?_toList]; exact ht) (by rw [← Array.getElem?_toList]; exact hv)) hA (fun k hk => by have := List.all_eq_true.1 hsz k hk; simpa using this)
  have hc := law_calls Go.Ev.G.tab_ok (Go.Ev.G.pure_FnExactQueue xs hfit) hv hp
  rw [Array.toArray_toList] at hc
  refine hc.mono fun e W' ⟨he, bel⟩ => ?_
  subst he
  obtain ⟨d0, rfl⟩ : ∃ d0, ds = [d0] := by
    have h := back _ (Below.refl _ W)
    obtain ⟨v0, vs0, d0, ds0, p0, q0, _, rfl, _, _, h0⟩ := trodAll_cons h
    obtain ⟨_, rfl, _⟩ := trodAll_nil h0
    exact ⟨d0, rfl⟩
  exact ⟨_, rfl, _, _, _, [], _, [], hW', trodAll_mk1 (shut_bool Try.underlying4 _), back _ bel, rfl, bel.frame _, fun h => by cases h⟩
theorem over : Rows.fnExactQueueRow.holds Try.pinned (OpenSpec.ofChange Rows.fnExactQueueSpec) :=
  OpenClaim.holds_of_wide 3 Try.f3 rfl rfl rfl rfl rfl rfl rfl ⟨rfl, rfl, rfl, rfl, rfl⟩ rfl rfl rfl rfl rfl (by kernel_rfl) Try.func3 (by kernel_rfl)
    (of_decide_eq_true (by kernel_rfl)) (by unfold Func.isWrapper; first | (rw [if_pos (by decide +kernel)]; kernel_rfl) | (rw [if_neg (by decide +kernel)]; exact ⟨rfl, rfl⟩))
    (fun os started H enc _ => lifted os started H enc)
theorem proved : Rows.FnExactQueueSaid := over
#print axioms proved
end Go.Proofs.Ytonoomibdlhonab.fnExactQueue
namespace Go.Proofs.Ytonoomibdlhonab
theorem fnExactQueue_holds : Rows.FnExactQueueSaid := fnExactQueue.proved
end Go.Proofs.Ytonoomibdlhonab
