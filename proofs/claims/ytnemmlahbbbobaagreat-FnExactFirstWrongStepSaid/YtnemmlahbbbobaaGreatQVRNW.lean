/-
  FnExactFirstWrongStep returns true for all arguments, and its arguments read afterwards as they read before.
  Conditions: none.
-/
import Derived.Test.YtnemmlahbbbobaaGreatRows
import Derived.Test.YtnemmlahbbbobaaGreatQV1
import Derived.Test.YtnemmlahbbbobaaGreatQV5
import Derived.Test.YtnemmlahbbbobaaGreatQV11
import Derived.ProofKit
import Derived.OpenShut
import Derived.ShutString
import Derived.ChangeOld
namespace Go.Proofs.YtnemmlahbbbobaaGreat
set_option linter.unusedSimpArgs false
set_option linter.unusedVariables false
set_option linter.unusedSectionVars false
set_option maxRecDepth 4000
open Go.ChangeShapes Go.WideShapes Go.ChangeAt Go.RowKit
theorem qjl:ownKnob Tryz.prog.godebug=none:=by kernel_rfl
theorem zpk:laidOutB Tryz.prog=true:=by kernel_rfl
def zjq (t:TypeId):Bool:=t==3||t==9||t==24||t==22||t==27||t==25||t==30||t==28
theorem zo7:∀t,zjq t=true->zl1 Tryz.prog zjq t=true:=by
 intro t h
 simp only[zjq,K5,Kk]at h
 rcases h with((((((rfl|rfl)|rfl)|rfl)|rfl)|rfl)|rfl)|rfl<;>kernel_rfl
set_option maxRecDepth 100000 in
theorem zs7 (os:Os)(started:os.Started)(H:Type)(enc:TypeId×Value->H) :
  ReturnsInHanded {} Tryz.checked os 4 .any (Rows.fnExactFirstWrongStepSpec.pre6 enc Tryz.prog Tryz.f4 Rows.fnExactFirstWrongStepRow.domain false)
   (Rows.fnExactFirstWrongStepSpec.post enc Tryz.prog Tryz.f4 false true false false):=by
 refine returnsInHanded_of_change (C:=Tryz.checked) qjl started Yo Tryz.func4
  (ChangeSpec.witness6 (enc:=enc) (C:=Tryz.checked) false ⟨#[],#[.agg #[.int .i64 0,.int .i64 0,.string .empty,.slice none 0 0,.string .empty,.slice none 0 0,.int .i64 0,.string .empty,.slice none 0 0,.slice none 0 0]],[]⟩ 8 Yo Yo Yo Yo) ?_
 intro W base args ds gs before hval0 hW hcnd _
 have hval:∀(j:Nat) t v,Tryz.f4.params[j]?=some t->args[j]?=some v->Value.okWide Tryz.prog W .any base t v:=hval0
 have hW':=hW
 obtain⟨p,q,hA0,hV,rfl,hfz,hnd⟩:=hW
 have hA:DataW.TrodAll enc Tryz.prog W 0 (fun _=>true) true Tryz.f4.params.toList args.toList ds p:=hA0
 rw[Tryz.params4]at hA hval
 obtain⟨v0,vs0,d0,ds0,p0,q0,hargs,rfl,rfl,h0,r0⟩:=trodAll_cons hA
 obtain⟨rfl,rfl,rfl⟩:=trodAll_nil r0
 obtain rfl:args=#[v0]:=by cases args;simp_all
 obtain⟨rfl,rfl⟩:=trodVars_none hV
 have k0:=h0
 have lt0:∀x∈p0,x.block<W.heap.size:=by obtain⟨m,hm⟩:=k0;exact DataW.trod_lt m _ _ _ hm
 obtain⟨cs0,rfl,_⟩:=okWide_struct Tryz.underlying30 (hval 0 30 v0 rfl rfl)
 obtain⟨s0,hs0⟩:∃s:Nt,zt2 W (·<W.heap.size) (ntD s) (.agg cs0):=by
  obtain⟨m,hm⟩:=h0;obtain⟨d,hr,hs⟩:=zex zo7 m _ _ _ (by rfl) hm;obtain⟨s,e⟩:=zft _ hs;exact⟨s,cs0.toList,rfl,e▸hr⟩
 have hs:zbf W (·<W.heap.size) [ntD s0] [.agg cs0]:=⟨_,_,rfl,hs0,rfl⟩
 clear hA0 hval0
 refine((qm4 s0).use (vs:=[.agg cs0]) hs).mono fun e W' ⟨us,fp,he,ho,_,_,bel⟩=>?_
 obtain⟨u,us',f1,f2,rfl,_,⟨rfl,_⟩,hu⟩:=ho
 obtain⟨rfl,_⟩:=hu
 subst he
 exact⟨_,rfl,_,_,_,[],_,[],hW',trodAll_mk1 (shut_bool Tryz.underlying4 _),
  (trodAll_cons_mk (Below.trod zpk Yo (K8 Yo) k0 bel lt0) trodAll_mk0),rfl,bel.frame _,fun h=>by cases h⟩
theorem qqv:(Rows.fnExactFirstWrongStepRow.wf (OpenSpec.ofChange Rows.fnExactFirstWrongStepSpec))=true:=by kernel_rfl
theorem qqn:(laidOutB Tryz.checked.prog)=true:=by kernel_rfl
theorem qp7:(mapsRowed Tryz.checked.prog)=true:=by kernel_rfl
theorem qos:(Tryz.f4.params.all (Tryz.checked.prog.readableRec ·))=true:=by kernel_rfl
theorem qp4:(namedTie Tryz.checked.prog Rows.fnExactFirstWrongStepRow.named Rows.fnExactFirstWrongStepSpec.vars)=true:=by kernel_rfl
theorem qqr:((Rows.fnExactFirstWrongStepRow.stops==[]))=true:=by kernel_rfl
theorem qo6:((Tryz.checked.prog.stops==[]))=true:=by kernel_rfl
theorem qqp:((Rows.fnExactFirstWrongStepRow.knobs==[]))=true:=by kernel_rfl
theorem qor:((Tryz.checked.prog.stopKnobs==[]))=true:=by kernel_rfl
theorem qov:((Rows.fnExactFirstWrongStepRow.inPlace==Tryz.checked.prog.inPlace 4))=true:=by kernel_rfl
theorem qis:((Rows.fnExactFirstWrongStepRow.unfollowed==Tryz.checked.prog.unfollowed 4))=true:=by kernel_rfl
theorem qjo:((Rows.fnExactFirstWrongStepRow.recurses==Tryz.checked.prog.recurses 4))=true:=by kernel_rfl
theorem qhx:((Rows.fnExactFirstWrongStepRow.named==Tryz.checked.prog.varsNamed 4))=true:=by kernel_rfl
theorem qkx:((Rows.fnExactFirstWrongStepRow.maps==(Tryz.f4.params.toList++Rows.fnExactFirstWrongStepSpec.plain.varTypes Tryz.checked.prog).any (Tryz.checked.prog.mapsRec ·)))=true:=by kernel_rfl
theorem qha:((Rows.fnExactFirstWrongStepRow.ifaces==(Tryz.f4.params.toList++Rows.fnExactFirstWrongStepSpec.plain.varTypes Tryz.checked.prog).any (Tryz.checked.prog.ifacesRec ·)))=true:=by kernel_rfl
theorem qhi:((Rows.fnExactFirstWrongStepRow.mapsOut==Tryz.checked.prog.mapsAmong Tryz.f4.resultTypes.toList))=true:=by kernel_rfl
theorem qko:((Rows.fnExactFirstWrongStepRow.loops==(Tryz.f4.params.toList++Rows.fnExactFirstWrongStepSpec.plain.varTypes Tryz.checked.prog).any (Tryz.checked.prog.loopsFrom ·)))=true:=by kernel_rfl
theorem qkf:((Rows.fnExactFirstWrongStepRow.wideKeys==(Tryz.f4.params.toList++Rows.fnExactFirstWrongStepSpec.plain.varTypes Tryz.checked.prog++Tryz.f4.resultTypes.toList).any (Tryz.checked.prog.wideKeysFrom ·)))=true:=by kernel_rfl
theorem qlu:(Rows.fnExactFirstWrongStepSpec.vars.all (Tryz.checked.prog.varReadable ·))=true:=by kernel_rfl
theorem qgs:(Tryz.f4.resultTypes.all (fun t=>Tryz.checked.prog.readableRec t&&decide (t<Tryz.checked.prog.types.size)))=true:=by kernel_rfl
theorem qkv:((Rows.fnExactFirstWrongStepRow.ifacesOut==Tryz.f4.resultTypes.toList.any (Tryz.checked.prog.ifacesRec ·)))=true:=by kernel_rfl
theorem qel:((Rows.fnExactFirstWrongStepRow.loopsOut==Tryz.f4.resultTypes.toList.any (Tryz.checked.prog.loopsFrom ·)))=true:=by kernel_rfl
theorem qk5:((Rows.fnExactFirstWrongStepRow.plainKeys==Tryz.checked.prog.plainKeys))=true:=by kernel_rfl
theorem qdl:(Rows.fnExactFirstWrongStepRow.shortTexts.isNone)=true:=by kernel_rfl
theorem qhr:(Tryz.checked.prog.stopsHeard)=true:=by kernel_rfl
theorem qkp:(Tryz.checked.prog.mayEnter)=true:=by kernel_rfl
theorem qht:((Rows.fnExactFirstWrongStepRow.lifted==Tryz.checked.prog.liftsFinal))=true:=by kernel_rfl
theorem qfa:((Tryz.checked.prog.make==some Rows.fnExactFirstWrongStepRow.make))=true:=by kernel_rfl
theorem qgo:((Rows.fnExactFirstWrongStepRow.kinds==(if Rows.fnExactFirstWrongStepRow.domain.isEmpty then []else Tryz.f4.params.toList.map fun t=>match Tryz.checked.prog.underlying t with|some (.int k)=>some k|_=>none)))=true:=by kernel_rfl
theorem qir:((Rows.fnExactFirstWrongStepRow.pinned==Rows.fnExactFirstWrongStepRow.pinnedBy))=true:=by kernel_rfl
theorem qd9:((Rows.fnExactFirstWrongStepRow.veiled==(Tryz.f4.params.toList++Rows.fnExactFirstWrongStepSpec.plain.varTypes Tryz.checked.prog++Tryz.f4.resultTypes.toList).any (Tryz.checked.prog.veiledRec ·)))=true:=by kernel_rfl
theorem qi7:(Rows.fnExactFirstWrongStepRow.veiledFits Tryz.checked.prog Tryz.f4.params.toList (Tryz.f4.params.toList++Rows.fnExactFirstWrongStepSpec.plain.varTypes Tryz.checked.prog++Tryz.f4.resultTypes.toList))=true:=by kernel_rfl
theorem ztb:joinedFacts Tryz.checked.prog 4 Tryz.f4 Rows.fnExactFirstWrongStepSpec Rows.fnExactFirstWrongStepRow=true:=by
 unfold joinedFacts
 simp only[Qe]
 exact⟨⟨⟨⟨⟨⟨⟨⟨⟨⟨⟨⟨⟨⟨⟨⟨⟨⟨⟨⟨⟨⟨⟨⟨⟨⟨⟨⟨⟨⟨⟨qqv,qqn⟩,qp7⟩,qos⟩,qp4⟩,qqr⟩,qo6⟩,qqp⟩,qor⟩,qov⟩,qis⟩,qjo⟩,qhx⟩,qkx⟩,qha⟩,qhi⟩,qko⟩,qkf⟩,qlu⟩,qgs⟩,qkv⟩,qel⟩,qk5⟩,qdl⟩,qhr⟩,qkp⟩,qht⟩,qfa⟩,qgo⟩,qir⟩,qd9⟩,qi7⟩
theorem wrongStep_holds:Rows.FnExactFirstWrongStepSaid :=
 OpenClaim.holds_of_wide 4 Tryz.f4 rfl rfl rfl rfl rfl rfl rfl ⟨rfl,rfl,rfl,rfl,rfl⟩ rfl rfl rfl rfl rfl Yo Tryz.func4 ztb
  (K8 Yo) (by unfold Func.isWrapper;rw[if_neg (J6 Yo)];exact⟨rfl,rfl⟩)
  (fun os started H enc _=>zs7 os started H enc)
#print axioms wrongStep_holds
end Go.Proofs.YtnemmlahbbbobaaGreat
