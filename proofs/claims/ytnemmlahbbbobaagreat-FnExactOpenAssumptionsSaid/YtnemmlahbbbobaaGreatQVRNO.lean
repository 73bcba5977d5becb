/-
  FnExactOpenAssumptions returns true for all arguments, and its arguments read afterwards as they read before.
  Conditions: none.
-/
import Derived.Test.YtnemmlahbbbobaaGreatRows
import Derived.Test.YtnemmlahbbbobaaGreatQV1
import Derived.Test.YtnemmlahbbbobaaGreatQV5
import Derived.Test.YtnemmlahbbbobaaGreatQV11
import Derived.ProofKit
import Derived.OpenShut
import Derived.ShutString
import Derived.ChangeOld
namespace Go.Proofs.YtnemmlahbbbobaaGreat
set_option linter.unusedSimpArgs false
set_option linter.unusedVariables false
set_option linter.unusedSectionVars false
set_option maxRecDepth 4000
open Go.ChangeShapes Go.WideShapes Go.ChangeAt Go.RowKit
theorem qf2:ownKnob Tryz.prog.godebug=none:=by kernel_rfl
theorem zqv:laidOutB Tryz.prog=true:=by kernel_rfl
def zjn (t:TypeId):Bool:=t==3||t==9||t==24||t==22||t==27||t==25||t==30||t==28
theorem zqh:∀t,zjn t=true->zl1 Tryz.prog zjn t=true:=by
 intro t h
 simp only[zjn,K5,Kk]at h
 rcases h with((((((rfl|rfl)|rfl)|rfl)|rfl)|rfl)|rfl)|rfl<;>kernel_rfl
set_option maxRecDepth 100000 in
theorem zrv (os:Os)(started:os.Started)(H:Type)(enc:TypeId×Value->H) :
  ReturnsInHanded {} Tryz.checked os 7 .any (Rows.fnExactOpenAssumptionsSpec.pre6 enc Tryz.prog Tryz.f7 Rows.fnExactOpenAssumptionsRow.domain false)
   (Rows.fnExactOpenAssumptionsSpec.post enc Tryz.prog Tryz.f7 false true false false):=by
 refine returnsInHanded_of_change (C:=Tryz.checked) qf2 started Yo Tryz.func7
  (ChangeSpec.witness6 (enc:=enc) (C:=Tryz.checked) false ⟨#[],#[.agg #[.int .i64 0,.int .i64 0,.string .empty,.slice none 0 0,.string .empty,.slice none 0 0,.int .i64 0,.string .empty,.slice none 0 0,.slice none 0 0]],[]⟩ 8 Yo Yo Yo Yo) ?_
 intro W base args ds gs before hval0 hW hcnd _
 have hval:∀(j:Nat) t v,Tryz.f7.params[j]?=some t->args[j]?=some v->Value.okWide Tryz.prog W .any base t v:=hval0
 have hW':=hW
 obtain⟨p,q,hA0,hV,rfl,hfz,hnd⟩:=hW
 have hA:DataW.TrodAll enc Tryz.prog W 0 (fun _=>true) true Tryz.f7.params.toList args.toList ds p:=hA0
 rw[Tryz.params7]at hA hval
 obtain⟨v0,vs0,d0,ds0,p0,q0,hargs,rfl,rfl,h0,r0⟩:=trodAll_cons hA
 obtain⟨rfl,rfl,rfl⟩:=trodAll_nil r0
 obtain rfl:args=#[v0]:=by cases args;simp_all
 obtain⟨rfl,rfl⟩:=trodVars_none hV
 have k0:=h0
 have lt0:∀x∈p0,x.block<W.heap.size:=by obtain⟨m,hm⟩:=k0;exact DataW.trod_lt m _ _ _ hm
 obtain⟨cs0,rfl,_⟩:=okWide_struct Tryz.underlying30 (hval 0 30 v0 rfl rfl)
 obtain⟨s0,hs0⟩:∃s:Nt,zt2 W (·<W.heap.size) (ntD s) (.agg cs0):=by
  obtain⟨m,hm⟩:=h0;obtain⟨d,hr,hs⟩:=zex zqh m _ _ _ (by rfl) hm;obtain⟨s,e⟩:=zft _ hs;exact⟨s,cs0.toList,rfl,e▸hr⟩
 have hs:zbf W (·<W.heap.size) [ntD s0] [.agg cs0]:=⟨_,_,rfl,hs0,rfl⟩
 clear hA0 hval0
 refine((qty s0).use (vs:=[.agg cs0]) hs).mono fun e W' ⟨us,fp,he,ho,_,_,bel⟩=>?_
 obtain⟨u,us',f1,f2,rfl,_,⟨rfl,_⟩,hu⟩:=ho
 obtain⟨rfl,_⟩:=hu
 subst he
 exact⟨_,rfl,_,_,_,[],_,[],hW',trodAll_mk1 (shut_bool Tryz.underlying4 _),
  (trodAll_cons_mk (Below.trod zqv Yo (K8 Yo) k0 bel lt0) trodAll_mk0),rfl,bel.frame _,fun h=>by cases h⟩
theorem qot:(Rows.fnExactOpenAssumptionsRow.wf (OpenSpec.ofChange Rows.fnExactOpenAssumptionsSpec))=true:=by kernel_rfl
theorem qmn:(laidOutB Tryz.checked.prog)=true:=by kernel_rfl
theorem ql7:(mapsRowed Tryz.checked.prog)=true:=by kernel_rfl
theorem qm0:(Tryz.f7.params.all (Tryz.checked.prog.readableRec ·))=true:=by kernel_rfl
theorem qo4:(namedTie Tryz.checked.prog Rows.fnExactOpenAssumptionsRow.named Rows.fnExactOpenAssumptionsSpec.vars)=true:=by kernel_rfl
theorem qq1:((Rows.fnExactOpenAssumptionsRow.stops==[]))=true:=by kernel_rfl
theorem qmr:((Tryz.checked.prog.stops==[]))=true:=by kernel_rfl
theorem qm2:((Rows.fnExactOpenAssumptionsRow.knobs==[]))=true:=by kernel_rfl
theorem ql4:((Tryz.checked.prog.stopKnobs==[]))=true:=by kernel_rfl
theorem qml:((Rows.fnExactOpenAssumptionsRow.inPlace==Tryz.checked.prog.inPlace 7))=true:=by kernel_rfl
theorem qke:((Rows.fnExactOpenAssumptionsRow.unfollowed==Tryz.checked.prog.unfollowed 7))=true:=by kernel_rfl
theorem qli:((Rows.fnExactOpenAssumptionsRow.recurses==Tryz.checked.prog.recurses 7))=true:=by kernel_rfl
theorem qh5:((Rows.fnExactOpenAssumptionsRow.named==Tryz.checked.prog.varsNamed 7))=true:=by kernel_rfl
theorem qi5:((Rows.fnExactOpenAssumptionsRow.maps==(Tryz.f7.params.toList++Rows.fnExactOpenAssumptionsSpec.plain.varTypes Tryz.checked.prog).any (Tryz.checked.prog.mapsRec ·)))=true:=by kernel_rfl
theorem qfk:((Rows.fnExactOpenAssumptionsRow.ifaces==(Tryz.f7.params.toList++Rows.fnExactOpenAssumptionsSpec.plain.varTypes Tryz.checked.prog).any (Tryz.checked.prog.ifacesRec ·)))=true:=by kernel_rfl
theorem qet:((Rows.fnExactOpenAssumptionsRow.mapsOut==Tryz.checked.prog.mapsAmong Tryz.f7.resultTypes.toList))=true:=by kernel_rfl
theorem qlb:((Rows.fnExactOpenAssumptionsRow.loops==(Tryz.f7.params.toList++Rows.fnExactOpenAssumptionsSpec.plain.varTypes Tryz.checked.prog).any (Tryz.checked.prog.loopsFrom ·)))=true:=by kernel_rfl
theorem qiz:((Rows.fnExactOpenAssumptionsRow.wideKeys==(Tryz.f7.params.toList++Rows.fnExactOpenAssumptionsSpec.plain.varTypes Tryz.checked.prog++Tryz.f7.resultTypes.toList).any (Tryz.checked.prog.wideKeysFrom ·)))=true:=by kernel_rfl
theorem qhf:(Rows.fnExactOpenAssumptionsSpec.vars.all (Tryz.checked.prog.varReadable ·))=true:=by kernel_rfl
theorem qhn:(Tryz.f7.resultTypes.all (fun t=>Tryz.checked.prog.readableRec t&&decide (t<Tryz.checked.prog.types.size)))=true:=by kernel_rfl
theorem qdf:((Rows.fnExactOpenAssumptionsRow.ifacesOut==Tryz.f7.resultTypes.toList.any (Tryz.checked.prog.ifacesRec ·)))=true:=by kernel_rfl
theorem qfi:((Rows.fnExactOpenAssumptionsRow.loopsOut==Tryz.f7.resultTypes.toList.any (Tryz.checked.prog.loopsFrom ·)))=true:=by kernel_rfl
theorem qk4:((Rows.fnExactOpenAssumptionsRow.plainKeys==Tryz.checked.prog.plainKeys))=true:=by kernel_rfl
theorem qg6:(Rows.fnExactOpenAssumptionsRow.shortTexts.isNone)=true:=by kernel_rfl
theorem qk6:(Tryz.checked.prog.stopsHeard)=true:=by kernel_rfl
theorem qec:(Tryz.checked.prog.mayEnter)=true:=by kernel_rfl
theorem qfh:((Rows.fnExactOpenAssumptionsRow.lifted==Tryz.checked.prog.liftsFinal))=true:=by kernel_rfl
theorem qes:((Tryz.checked.prog.make==some Rows.fnExactOpenAssumptionsRow.make))=true:=by kernel_rfl
theorem qk8:((Rows.fnExactOpenAssumptionsRow.kinds==(if Rows.fnExactOpenAssumptionsRow.domain.isEmpty then []else Tryz.f7.params.toList.map fun t=>match Tryz.checked.prog.underlying t with|some (.int k)=>some k|_=>none)))=true:=by kernel_rfl
theorem qgq:((Rows.fnExactOpenAssumptionsRow.pinned==Rows.fnExactOpenAssumptionsRow.pinnedBy))=true:=by kernel_rfl
theorem qc9:((Rows.fnExactOpenAssumptionsRow.veiled==(Tryz.f7.params.toList++Rows.fnExactOpenAssumptionsSpec.plain.varTypes Tryz.checked.prog++Tryz.f7.resultTypes.toList).any (Tryz.checked.prog.veiledRec ·)))=true:=by kernel_rfl
theorem qde:(Rows.fnExactOpenAssumptionsRow.veiledFits Tryz.checked.prog Tryz.f7.params.toList (Tryz.f7.params.toList++Rows.fnExactOpenAssumptionsSpec.plain.varTypes Tryz.checked.prog++Tryz.f7.resultTypes.toList))=true:=by kernel_rfl
theorem zsr:joinedFacts Tryz.checked.prog 7 Tryz.f7 Rows.fnExactOpenAssumptionsSpec Rows.fnExactOpenAssumptionsRow=true:=by
 unfold joinedFacts
 simp only[Qe]
 exact⟨⟨⟨⟨⟨⟨⟨⟨⟨⟨⟨⟨⟨⟨⟨⟨⟨⟨⟨⟨⟨⟨⟨⟨⟨⟨⟨⟨⟨⟨⟨qot,qmn⟩,ql7⟩,qm0⟩,qo4⟩,qq1⟩,qmr⟩,qm2⟩,ql4⟩,qml⟩,qke⟩,qli⟩,qh5⟩,qi5⟩,qfk⟩,qet⟩,qlb⟩,qiz⟩,qhf⟩,qhn⟩,qdf⟩,qfi⟩,qk4⟩,qg6⟩,qk6⟩,qec⟩,qfh⟩,qes⟩,qk8⟩,qgq⟩,qc9⟩,qde⟩
theorem openAssumptions_holds:Rows.FnExactOpenAssumptionsSaid :=
 OpenClaim.holds_of_wide 7 Tryz.f7 rfl rfl rfl rfl rfl rfl rfl ⟨rfl,rfl,rfl,rfl,rfl⟩ rfl rfl rfl rfl rfl Yo Tryz.func7 zsr
  (K8 Yo) (by unfold Func.isWrapper;rw[if_neg (J6 Yo)];exact⟨rfl,rfl⟩)
  (fun os started H enc _=>zrv os started H enc)
#print axioms openAssumptions_holds
end Go.Proofs.YtnemmlahbbbobaaGreat
