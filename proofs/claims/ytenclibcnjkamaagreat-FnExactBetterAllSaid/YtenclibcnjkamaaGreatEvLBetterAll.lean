import Derived.Test.YtenclibcnjkamaaGreatRows
import Derived.Test.YtenclibcnjkamaaGreatEvChk
import Derived.Test.YtenclibcnjkamaaGreatEvPBet33
import Derived.Test.YtenclibcnjkamaaGreatEvLays
import Derived.WalkKit
import Derived.ProofKit
import Derived.OpenShut
import Derived.ShutString
import Derived.ChangeOld
import Derived.Below
import Derived.SizedLaws
set_option linter.all false
namespace Go.Proofs.YtenclibcnjkamaaGreat.fnExactBetterAll
open Go.ChangeShapes Go.WideShapes Go.ChangeAt Go.RowKit Go.Ev
open Go.ChangeMaps (open_string shut_string)
set_option linter.unusedVariables false
theorem own:ownKnob Tryz.prog.godebug=none:=by kernel_rfl
theorem laidOut:laidOutB Tryz.prog=true:=by kernel_rfl
theorem zVS:Nv Tryz.prog [22]=some [(false,[.l 56 [.s,.i .i64,.i .i64,.l 80 [.i .i64,.i .i64,.i .i64,.i .i64,.i .i64,.s,.l 8 [.i .i64]]]])]:=by kernel_rfl
set_option maxRecDepth 100000 in
theorem z8u(os:Os)(started:os.Started)(H:Type)(enc:TypeId×Value→H) :
  ReturnsInHanded {} Tryz.checked os 5 .any (Rows.fnExactBetterAllSpec.pre6 enc Tryz.prog Tryz.f5 Rows.fnExactBetterAllRow.domain false) (Rows.fnExactBetterAllSpec.post enc Tryz.prog Tryz.f5 false true false false):=by
 refine returnsInHanded_of_change_sized (C:=Tryz.checked) own started (by kernel_rfl) Tryz.func5
  (ChangeSpec.witness6 (enc:=enc) (C:=Tryz.checked) false ⟨#[],#[.slice none 0 0],[]⟩ 8 (by kernel_rfl) (by kernel_rfl) (by kernel_rfl) (by kernel_rfl)) ?_
 intro W base args ds gs before hval0 hW hcnd hsz0 _
 have hsz:(DataW.weightsEach Tryz.prog (Tryz.f5.params.toList++Rows.fnExactBetterAllSpec.plain.varTypes Tryz.prog) (ds++gs)).all (· ≤ reachBytes)=true:=hsz0
 have hval:∀(j:Nat) t v,Tryz.f5.params[j]? = some t→args[j]? = some v→Value.okWide Tryz.prog W .any base t v:=hval0
 have hW':=hW
 obtain⟨p,q,hA0,hV,rfl,hfz,hnd⟩:=hW
 have hA:DataW.TrodAll enc Tryz.prog W 0 (fun _=>true) true Tryz.f5.params.toList args.toList ds p:=hA0
 rw[Tryz.params5] at hA hval hsz
 obtain⟨rfl,rfl⟩:=trodVars_none hV
 have hvt:Rows.fnExactBetterAllSpec.plain.varTypes Tryz.prog=[]:=rfl
 rw[hvt,zqe,zqe] at hsz
 obtain⟨xs,hfit,hv,hp,La⟩:=Qy (P:=Tryz.prog) laidOut zVS (by kernel_rfl) (fun j t v ht hv=>hval j t v (by rw[←Array.getElem?_toList];exact ht) (by rw[←Array.getElem?_toList];exact hv)) hA (fun k hk=>by have:=List.all_eq_true.1 hsz k hk;simpa using this)
 have hc:=zwr (Go.Ev.G.tab_ok Tryz.libS Tryz.libC) (Go.Ev.G.pure_FnExactBetterAll xs hfit) hv hp
 rw[Array.toArray_toList] at hc
 refine hc.mono fun e W' ⟨he,bel⟩=> ?_
 subst he
 obtain⟨d0,rfl⟩:∃d0,ds=[d0]:=by
  have h:=La _ (Below.refl _ W)
  obtain⟨v0,vs0,d0,ds0,p0,q0,_,rfl,_,_,h0⟩:=trodAll_cons h
  obtain⟨_,rfl,_⟩:=trodAll_nil h0
  exact⟨d0,rfl⟩
 exact⟨_,rfl,_,_,_,[],_,[],hW',trodAll_mk1 (shut_bool Tryz.underlying4 _),La _ bel,rfl,bel.frame _,fun h=>by cases h⟩
theorem z6s:Rows.fnExactBetterAllRow.holds Tryz.pinned (OpenSpec.ofChange Rows.fnExactBetterAllSpec) :=
 OpenClaim.holds_of_wide 5 Tryz.f5 rfl rfl rfl rfl rfl rfl rfl ⟨rfl,rfl,rfl,rfl,rfl⟩ rfl rfl rfl rfl rfl (by kernel_rfl) Tryz.func5 (by kernel_rfl)
  (of_decide_eq_true (by kernel_rfl)) (by unfold Func.isWrapper;first|(rw[if_pos (by decide +kernel)];kernel_rfl)|(rw[if_neg (by decide +kernel)];exact⟨rfl,rfl⟩))
  (fun os started H enc _=>z8u os started H enc)
theorem proved:Rows.FnExactBetterAllSaid:=z6s
#print axioms proved
end Go.Proofs.YtenclibcnjkamaaGreat.fnExactBetterAll
namespace Go.Proofs.YtenclibcnjkamaaGreat
theorem fnExactBetterAll_holds:Rows.FnExactBetterAllSaid:=fnExactBetterAll.proved
end Go.Proofs.YtenclibcnjkamaaGreat
