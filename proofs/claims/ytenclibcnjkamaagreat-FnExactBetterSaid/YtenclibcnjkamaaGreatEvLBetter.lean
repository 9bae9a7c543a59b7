import Derived.Test.YtenclibcnjkamaaGreatRows
import Derived.Test.YtenclibcnjkamaaGreatEvChk
import Derived.Test.YtenclibcnjkamaaGreatEvPBet29
import Derived.Test.YtenclibcnjkamaaGreatEvLays
import Derived.WalkKit
import Derived.ProofKit
import Derived.OpenShut
import Derived.ShutString
import Derived.ChangeOld
import Derived.Below
import Derived.SizedLaws
set_option linter.all false
namespace Go.Proofs.YtenclibcnjkamaaGreat.fnExactBetter
open Go.ChangeShapes Go.WideShapes Go.ChangeAt Go.RowKit Go.Ev
open Go.ChangeMaps (open_string shut_string)
set_option linter.unusedVariables false
theorem own:ownKnob Tryz.prog.godebug=none:=by kernel_rfl
theorem laidOut:laidOutB Tryz.prog=true:=by kernel_rfl
theorem zKQ:J0 Tryz.prog [31]=some [(true,[.s,.i .i64,.i .i64,.l 80 [.i .i64,.i .i64,.i .i64,.i .i64,.i .i64,.s,.l 8 [.i .i64]]])]:=by kernel_rfl
set_option maxRecDepth 100000 in
theorem zYH(os:Os)(started:os.Started)(H:Type)(enc:TypeId×Value→H) :
  ReturnsInHanded {} Tryz.checked os 4 .any (Rows.fnExactBetterSpec.pre6 enc Tryz.prog Tryz.f4 Rows.fnExactBetterRow.domain false) (Rows.fnExactBetterSpec.post enc Tryz.prog Tryz.f4 false true false false):=by
 refine returnsInHanded_of_change_sized (C:=Tryz.checked) own started (by kernel_rfl) Tryz.func4
  (ChangeSpec.witness6 (enc:=enc) (C:=Tryz.checked) false ⟨#[],#[.agg #[.string ByteArray.empty,.int .i64 0,.int .i64 0,.slice none 0 0]],[]⟩ 8 (by kernel_rfl) (by kernel_rfl) (by kernel_rfl) (by kernel_rfl)) ?_
 intro W base args ds gs before hval0 hW hcnd hsz0 _
 have hsz:(DataW.weightsEach Tryz.prog (Tryz.f4.params.toList++Rows.fnExactBetterSpec.plain.varTypes Tryz.prog) (ds++gs)).all (· ≤ reachBytes)=true:=hsz0
 have hval:∀(j:Nat) t v,Tryz.f4.params[j]? = some t→args[j]? = some v→Value.okWide Tryz.prog W .any base t v:=hval0
 have hW':=hW
 obtain⟨p,q,hA0,hV,rfl,hfz,hnd⟩:=hW
 have hA:DataW.TrodAll enc Tryz.prog W 0 (fun _=>true) true Tryz.f4.params.toList args.toList ds p:=hA0
 rw[Tryz.params4] at hA hval hsz
 obtain⟨rfl,rfl⟩:=trodVars_none hV
 have hvt:Rows.fnExactBetterSpec.plain.varTypes Tryz.prog=[]:=rfl
 rw[hvt,zqe,zqe] at hsz
 obtain⟨xs,hfit,hv,hp,Ic⟩:=Nn (P:=Tryz.prog) laidOut zKQ (by kernel_rfl) (fun j t v ht hv=>hval j t v (by rw[←Array.getElem?_toList];exact ht) (by rw[←Array.getElem?_toList];exact hv)) hA (fun k hk=>by have:=List.all_eq_true.1 hsz k hk;simpa using this)
 have hc:=zk1 (Go.Ev.G.tab_ok Tryz.libS Tryz.libC) (Go.Ev.G.pure_FnExactBetter xs hfit) hv hp
 rw[Array.toArray_toList] at hc
 refine hc.mono fun e W' ⟨he,bel⟩=> ?_
 subst he
 obtain⟨d0,rfl⟩:∃d0,ds=[d0]:=by
  have h:=Ic _ (Below.refl _ W)
  obtain⟨v0,vs0,d0,ds0,p0,q0,_,rfl,_,_,h0⟩:=trodAll_cons h
  obtain⟨_,rfl,_⟩:=trodAll_nil h0
  exact⟨d0,rfl⟩
 exact⟨_,rfl,_,_,_,[],_,[],hW',trodAll_mk1 (shut_bool Tryz.underlying4 _),Ic _ bel,rfl,bel.frame _,fun h=>by cases h⟩
theorem z8y:Rows.fnExactBetterRow.holds Tryz.pinned (OpenSpec.ofChange Rows.fnExactBetterSpec) :=
 OpenClaim.holds_of_wide 4 Tryz.f4 rfl rfl rfl rfl rfl rfl rfl ⟨rfl,rfl,rfl,rfl,rfl⟩ rfl rfl rfl rfl rfl (by kernel_rfl) Tryz.func4 (by kernel_rfl)
  (of_decide_eq_true (by kernel_rfl)) (by unfold Func.isWrapper;first|(rw[if_pos (by decide +kernel)];kernel_rfl)|(rw[if_neg (by decide +kernel)];exact⟨rfl,rfl⟩))
  (fun os started H enc _=>zYH os started H enc)
theorem proved:Rows.FnExactBetterSaid:=z8y
#print axioms proved
end Go.Proofs.YtenclibcnjkamaaGreat.fnExactBetter
namespace Go.Proofs.YtenclibcnjkamaaGreat
theorem fnExactBetter_holds:Rows.FnExactBetterSaid:=fnExactBetter.proved
end Go.Proofs.YtenclibcnjkamaaGreat
