/-
  FnExactRemoveDetour returns true for all arguments, and its arguments read afterwards as they read before.
  Conditions: none.
-/
import Derived.Test.YtnemmlahbbbobaaGreatRows
import Derived.Test.YtnemmlahbbbobaaGreatQR1
import Derived.Test.YtnemmlahbbbobaaGreatQR5
import Derived.Test.YtnemmlahbbbobaaGreatQR12
import Derived.ProofKit
import Derived.OpenShut
import Derived.ShutString
import Derived.ChangeOld
namespace Go.Proofs.YtnemmlahbbbobaaGreat
set_option linter.unusedSimpArgs false
set_option linter.unusedVariables false
set_option linter.unusedSectionVars false
set_option maxRecDepth 4000
open Go.ChangeShapes Go.WideShapes Go.ChangeAt Go.RowKit
theorem qj7:ownKnob Tryz.prog.godebug=none:=by kernel_rfl
theorem zqc:laidOutB Tryz.prog=true:=by kernel_rfl
def zkc (t:TypeId):Bool:=t==3||t==9||t==24||t==22||t==27||t==25||t==30||t==28
theorem zq1:∀t,zkc t=true->zus Tryz.prog zkc t=true:=by
 intro t h
 simp only[zkc,K1,Q9]at h
 rcases h with((((((rfl|rfl)|rfl)|rfl)|rfl)|rfl)|rfl)|rfl<;>kernel_rfl
set_option maxRecDepth 100000 in
theorem ztl (os:Os)(started:os.Started)(H:Type)(enc:TypeId×Value->H) :
  ReturnsInHanded {} Tryz.checked os 9 .any (Rows.fnExactRemoveDetourSpec.pre6 enc Tryz.prog Tryz.f9 Rows.fnExactRemoveDetourRow.domain false)
   (Rows.fnExactRemoveDetourSpec.post enc Tryz.prog Tryz.f9 false true false false):=by
 refine returnsInHanded_of_change (C:=Tryz.checked) qj7 started Yz Tryz.func9
  (ChangeSpec.witness6 (enc:=enc) (C:=Tryz.checked) false ⟨#[],#[.agg #[.int .i64 0,.int .i64 0,.string .empty,.slice none 0 0,.string .empty,.slice none 0 0,.int .i64 0,.string .empty,.slice none 0 0,.slice none 0 0]],[]⟩ 8 Yz Yz Yz Yz) ?_
 intro W base args ds gs before hval0 hW hcnd _
 have hval:∀(j:Nat) t v,Tryz.f9.params[j]?=some t->args[j]?=some v->Value.okWide Tryz.prog W .any base t v:=hval0
 have hW':=hW
 obtain⟨p,q,hA0,hV,rfl,hfz,hnd⟩:=hW
 have hA:DataW.TrodAll enc Tryz.prog W 0 (λ_=>true) true Tryz.f9.params.toList args.toList ds p:=hA0
 rw[Tryz.params9]at hA hval
 obtain⟨v0,vs0,d0,ds0,p0,q0,hargs,rfl,rfl,h0,r0⟩:=trodAll_cons hA
 obtain⟨rfl,rfl,rfl⟩:=trodAll_nil r0
 obtain rfl:args=#[v0]:=by cases args;simp_all
 obtain⟨rfl,rfl⟩:=trodVars_none hV
 have k0:=h0
 have lt0:∀x∈p0,x.block<W.heap.size:=by obtain⟨m,hm⟩:=k0;exact DataW.trod_lt m _ _ _ hm
 obtain⟨cs0,rfl,_⟩:=okWide_struct Tryz.underlying30 (hval 0 30 v0 rfl rfl)
 obtain⟨s0,hs0⟩:∃s:Nt,zsb W (·<W.heap.size) (ntD s) (.agg cs0):=by
  obtain⟨m,hm⟩:=h0;obtain⟨d,hr,hs⟩:=zee zq1 m _ _ _ (by rfl) hm;obtain⟨s,e⟩:=zhz _ hs;exact⟨s,cs0.toList,rfl,e▸hr⟩
 have hs:zbn W (·<W.heap.size) [ntD s0] [.agg cs0]:=⟨_,_,rfl,hs0,rfl⟩
 clear hA0 hval0
 refine((qs4 s0).use (vs:=[.agg cs0]) hs).mono λe W' ⟨us,fp,he,ho,_,_,bel⟩=>?_
 obtain⟨u,us',f1,f2,rfl,_,⟨rfl,_⟩,hu⟩:=ho
 obtain⟨rfl,_⟩:=hu
 subst he
 exact⟨_,rfl,_,_,_,[],_,[],hW',trodAll_mk1 (shut_bool Tryz.underlying4 _),
  (trodAll_cons_mk (Below.trod zqc Yz (Jc Yz) k0 bel lt0) trodAll_mk0),rfl,bel.frame _,λh=>by cases h⟩
theorem qm3:(Rows.fnExactRemoveDetourRow.wf (OpenSpec.ofChange Rows.fnExactRemoveDetourSpec))=true:=by kernel_rfl
theorem qmk:(laidOutB Tryz.checked.prog)=true:=by kernel_rfl
theorem qmv:(mapsRowed Tryz.checked.prog)=true:=by kernel_rfl
theorem qps:(Tryz.f9.params.all (Tryz.checked.prog.readableRec ·))=true:=by kernel_rfl
theorem qnb:(namedTie Tryz.checked.prog Rows.fnExactRemoveDetourRow.named Rows.fnExactRemoveDetourSpec.vars)=true:=by kernel_rfl
theorem qnv:((Rows.fnExactRemoveDetourRow.stops==[]))=true:=by kernel_rfl
theorem qpt:((Tryz.checked.prog.stops==[]))=true:=by kernel_rfl
theorem qm4:((Rows.fnExactRemoveDetourRow.knobs==[]))=true:=by kernel_rfl
theorem qp8:((Tryz.checked.prog.stopKnobs==[]))=true:=by kernel_rfl
theorem qp7:((Rows.fnExactRemoveDetourRow.inPlace==Tryz.checked.prog.inPlace 9))=true:=by kernel_rfl
theorem qk5:((Rows.fnExactRemoveDetourRow.unfollowed==Tryz.checked.prog.unfollowed 9))=true:=by kernel_rfl
theorem qda:((Rows.fnExactRemoveDetourRow.recurses==Tryz.checked.prog.recurses 9))=true:=by kernel_rfl
theorem qld:((Rows.fnExactRemoveDetourRow.named==Tryz.checked.prog.varsNamed 9))=true:=by kernel_rfl
theorem qek:((Rows.fnExactRemoveDetourRow.maps==(Tryz.f9.params.toList++Rows.fnExactRemoveDetourSpec.plain.varTypes Tryz.checked.prog).any (Tryz.checked.prog.mapsRec ·)))=true:=by kernel_rfl
theorem qjp:((Rows.fnExactRemoveDetourRow.ifaces==(Tryz.f9.params.toList++Rows.fnExactRemoveDetourSpec.plain.varTypes Tryz.checked.prog).any (Tryz.checked.prog.ifacesRec ·)))=true:=by kernel_rfl
theorem qik:((Rows.fnExactRemoveDetourRow.mapsOut==Tryz.checked.prog.mapsAmong Tryz.f9.resultTypes.toList))=true:=by kernel_rfl
theorem qgf:((Rows.fnExactRemoveDetourRow.loops==(Tryz.f9.params.toList++Rows.fnExactRemoveDetourSpec.plain.varTypes Tryz.checked.prog).any (Tryz.checked.prog.loopsFrom ·)))=true:=by kernel_rfl
theorem qdb:((Rows.fnExactRemoveDetourRow.wideKeys==(Tryz.f9.params.toList++Rows.fnExactRemoveDetourSpec.plain.varTypes Tryz.checked.prog++Tryz.f9.resultTypes.toList).any (Tryz.checked.prog.wideKeysFrom ·)))=true:=by kernel_rfl
theorem qk9:(Rows.fnExactRemoveDetourSpec.vars.all (Tryz.checked.prog.varReadable ·))=true:=by kernel_rfl
theorem qi9:(Tryz.f9.resultTypes.all (λt=>Tryz.checked.prog.readableRec t&&decide (t<Tryz.checked.prog.types.size)))=true:=by kernel_rfl
theorem qha:((Rows.fnExactRemoveDetourRow.ifacesOut==Tryz.f9.resultTypes.toList.any (Tryz.checked.prog.ifacesRec ·)))=true:=by kernel_rfl
theorem qjq:((Rows.fnExactRemoveDetourRow.loopsOut==Tryz.f9.resultTypes.toList.any (Tryz.checked.prog.loopsFrom ·)))=true:=by kernel_rfl
theorem qf5:((Rows.fnExactRemoveDetourRow.plainKeys==Tryz.checked.prog.plainKeys))=true:=by kernel_rfl
theorem qd0:(Rows.fnExactRemoveDetourRow.shortTexts.isNone)=true:=by kernel_rfl
theorem qh0:(Tryz.checked.prog.stopsHeard)=true:=by kernel_rfl
theorem qd4:(Tryz.checked.prog.mayEnter)=true:=by kernel_rfl
theorem qhs:((Rows.fnExactRemoveDetourRow.lifted==Tryz.checked.prog.liftsFinal))=true:=by kernel_rfl
theorem qg5:((Tryz.checked.prog.make==some Rows.fnExactRemoveDetourRow.make))=true:=by kernel_rfl
theorem qdg:((Rows.fnExactRemoveDetourRow.kinds==(if Rows.fnExactRemoveDetourRow.domain.isEmpty then []else Tryz.f9.params.toList.map λt=>match Tryz.checked.prog.underlying t with|some (.int k)=>some k|_=>none)))=true:=by kernel_rfl
theorem qeh:((Rows.fnExactRemoveDetourRow.pinned==Rows.fnExactRemoveDetourRow.pinnedBy))=true:=by kernel_rfl
theorem qjm:((Rows.fnExactRemoveDetourRow.veiled==(Tryz.f9.params.toList++Rows.fnExactRemoveDetourSpec.plain.varTypes Tryz.checked.prog++Tryz.f9.resultTypes.toList).any (Tryz.checked.prog.veiledRec ·)))=true:=by kernel_rfl
theorem qfj:(Rows.fnExactRemoveDetourRow.veiledFits Tryz.checked.prog Tryz.f9.params.toList (Tryz.f9.params.toList++Rows.fnExactRemoveDetourSpec.plain.varTypes Tryz.checked.prog++Tryz.f9.resultTypes.toList))=true:=by kernel_rfl
theorem zs0:joinedFacts Tryz.checked.prog 9 Tryz.f9 Rows.fnExactRemoveDetourSpec Rows.fnExactRemoveDetourRow=true:=by
 unfold joinedFacts
 simp only[Qb]
 exact⟨⟨⟨⟨⟨⟨⟨⟨⟨⟨⟨⟨⟨⟨⟨⟨⟨⟨⟨⟨⟨⟨⟨⟨⟨⟨⟨⟨⟨⟨⟨qm3,qmk⟩,qmv⟩,qps⟩,qnb⟩,qnv⟩,qpt⟩,qm4⟩,qp8⟩,qp7⟩,qk5⟩,qda⟩,qld⟩,qek⟩,qjp⟩,qik⟩,qgf⟩,qdb⟩,qk9⟩,qi9⟩,qha⟩,qjq⟩,qf5⟩,qd0⟩,qh0⟩,qd4⟩,qhs⟩,qg5⟩,qdg⟩,qeh⟩,qjm⟩,qfj⟩
theorem removeDetour_holds:Rows.FnExactRemoveDetourSaid :=
 OpenClaim.holds_of_wide 9 Tryz.f9 rfl rfl rfl rfl rfl rfl rfl ⟨rfl,rfl,rfl,rfl,rfl⟩ rfl rfl rfl rfl rfl Yz Tryz.func9 zs0
  (Jc Yz) (by unfold Func.isWrapper;rw[if_neg (of_decide_eq_false Yz)];exact⟨rfl,rfl⟩)
  (λos started H enc _=>ztl os started H enc)
#print axioms removeDetour_holds
end Go.Proofs.YtnemmlahbbbobaaGreat
