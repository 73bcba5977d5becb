/-
  FnExactIsValidNatural returns true for all arguments, and its arguments read afterwards as they read before.
  Conditions: none.
-/
import Derived.Test.YtnemmlahbbbobaaGreatRows
import Derived.Test.YtnemmlahbbbobaaGreatQV1
import Derived.Test.YtnemmlahbbbobaaGreatQV5
import Derived.Test.YtnemmlahbbbobaaGreatQV10
import Derived.ProofKit
import Derived.OpenShut
import Derived.ShutString
import Derived.ChangeOld
import Derived.Test.YtnemmlahbbbobaaGreatQV11
namespace Go.Proofs.YtnemmlahbbbobaaGreat
set_option linter.unusedSimpArgs false
set_option linter.unusedVariables false
set_option linter.unusedSectionVars false
set_option maxRecDepth 4000
open Go.ChangeShapes Go.WideShapes Go.ChangeAt Go.RowKit
theorem qja:ownKnob Tryz.prog.godebug=none:=by kernel_rfl
theorem zqu:laidOutB Tryz.prog=true:=by kernel_rfl
def zj5 (t:TypeId):Bool:=t==3||t==9||t==24||t==22||t==27||t==25||t==30||t==28
theorem zpd:∀t,zj5 t=true->zl1 Tryz.prog zj5 t=true:=by
 intro t h
 simp only[zj5,K5,Kk]at h
 rcases h with((((((rfl|rfl)|rfl)|rfl)|rfl)|rfl)|rfl)|rfl<;>kernel_rfl
set_option maxRecDepth 100000 in
theorem zrw (os:Os)(started:os.Started)(H:Type)(enc:TypeId×Value->H) :
  ReturnsInHanded {} Tryz.checked os 3 .any (Rows.fnExactIsValidNaturalSpec.pre6 enc Tryz.prog Tryz.f3 Rows.fnExactIsValidNaturalRow.domain false)
   (Rows.fnExactIsValidNaturalSpec.post enc Tryz.prog Tryz.f3 false true false false):=by
 refine returnsInHanded_of_change (C:=Tryz.checked) qja started Yo Tryz.func3
  (ChangeSpec.witness6 (enc:=enc) (C:=Tryz.checked) false ⟨#[],#[.agg #[.int .i64 0,.int .i64 0,.string .empty,.slice none 0 0,.string .empty,.slice none 0 0,.int .i64 0,.string .empty,.slice none 0 0,.slice none 0 0]],[]⟩ 8 Yo Yo Yo Yo) ?_
 intro W base args ds gs before hval0 hW hcnd _
 have hval:∀(j:Nat) t v,Tryz.f3.params[j]?=some t->args[j]?=some v->Value.okWide Tryz.prog W .any base t v:=hval0
 have hW':=hW
 obtain⟨p,q,hA0,hV,rfl,hfz,hnd⟩:=hW
 have hA:DataW.TrodAll enc Tryz.prog W 0 (fun _=>true) true Tryz.f3.params.toList args.toList ds p:=hA0
 rw[Tryz.params3]at hA hval
 obtain⟨v0,vs0,d0,ds0,p0,q0,hargs,rfl,rfl,h0,r0⟩:=trodAll_cons hA
 obtain⟨rfl,rfl,rfl⟩:=trodAll_nil r0
 obtain rfl:args=#[v0]:=by cases args;simp_all
 obtain⟨rfl,rfl⟩:=trodVars_none hV
 have k0:=h0
 have lt0:∀x∈p0,x.block<W.heap.size:=by obtain⟨m,hm⟩:=k0;exact DataW.trod_lt m _ _ _ hm
 obtain⟨cs0,rfl,_⟩:=okWide_struct Tryz.underlying30 (hval 0 30 v0 rfl rfl)
 obtain⟨s0,hs0⟩:∃s:Nt,zt2 W (·<W.heap.size) (ntD s) (.agg cs0):=by
  obtain⟨m,hm⟩:=h0;obtain⟨d,hr,hs⟩:=zex zpd m _ _ _ (by rfl) hm;obtain⟨s,e⟩:=zft _ hs;exact⟨s,cs0.toList,rfl,e▸hr⟩
 have hs:zbf W (·<W.heap.size) [ntD s0] [.agg cs0]:=⟨_,_,rfl,hs0,rfl⟩
 clear hA0 hval0
 refine((qpw s0).use (vs:=[.agg cs0]) hs).mono fun e W' ⟨us,fp,he,ho,_,_,bel⟩=>?_
 obtain⟨u,us',f1,f2,rfl,_,⟨rfl,_⟩,hu⟩:=ho
 obtain⟨rfl,_⟩:=hu
 subst he
 exact⟨_,rfl,_,_,_,[],_,[],hW',trodAll_mk1 (shut_bool Tryz.underlying4 _),
  (trodAll_cons_mk (Below.trod zqu Yo (K8 Yo) k0 bel lt0) trodAll_mk0),rfl,bel.frame _,fun h=>by cases h⟩
theorem qmm:(Rows.fnExactIsValidNaturalRow.wf (OpenSpec.ofChange Rows.fnExactIsValidNaturalSpec))=true:=by kernel_rfl
theorem qmh:(laidOutB Tryz.checked.prog)=true:=by kernel_rfl
theorem ql9:(mapsRowed Tryz.checked.prog)=true:=by kernel_rfl
theorem qof:(Tryz.f3.params.all (Tryz.checked.prog.readableRec ·))=true:=by kernel_rfl
theorem qms:(namedTie Tryz.checked.prog Rows.fnExactIsValidNaturalRow.named Rows.fnExactIsValidNaturalSpec.vars)=true:=by kernel_rfl
theorem qpv:((Rows.fnExactIsValidNaturalRow.stops==[]))=true:=by kernel_rfl
theorem qmt:((Tryz.checked.prog.stops==[]))=true:=by kernel_rfl
theorem qnz:((Rows.fnExactIsValidNaturalRow.knobs==[]))=true:=by kernel_rfl
theorem qqd:((Tryz.checked.prog.stopKnobs==[]))=true:=by kernel_rfl
theorem qnu:((Rows.fnExactIsValidNaturalRow.inPlace==Tryz.checked.prog.inPlace 3))=true:=by kernel_rfl
theorem qew:((Rows.fnExactIsValidNaturalRow.unfollowed==Tryz.checked.prog.unfollowed 3))=true:=by kernel_rfl
theorem qk9:((Rows.fnExactIsValidNaturalRow.recurses==Tryz.checked.prog.recurses 3))=true:=by kernel_rfl
theorem qjb:((Rows.fnExactIsValidNaturalRow.named==Tryz.checked.prog.varsNamed 3))=true:=by kernel_rfl
theorem qcz:((Rows.fnExactIsValidNaturalRow.maps==(Tryz.f3.params.toList++Rows.fnExactIsValidNaturalSpec.plain.varTypes Tryz.checked.prog).any (Tryz.checked.prog.mapsRec ·)))=true:=by kernel_rfl
theorem qho:((Rows.fnExactIsValidNaturalRow.ifaces==(Tryz.f3.params.toList++Rows.fnExactIsValidNaturalSpec.plain.varTypes Tryz.checked.prog).any (Tryz.checked.prog.ifacesRec ·)))=true:=by kernel_rfl
theorem qej:((Rows.fnExactIsValidNaturalRow.mapsOut==Tryz.checked.prog.mapsAmong Tryz.f3.resultTypes.toList))=true:=by kernel_rfl
theorem qj3:((Rows.fnExactIsValidNaturalRow.loops==(Tryz.f3.params.toList++Rows.fnExactIsValidNaturalSpec.plain.varTypes Tryz.checked.prog).any (Tryz.checked.prog.loopsFrom ·)))=true:=by kernel_rfl
theorem qe9:((Rows.fnExactIsValidNaturalRow.wideKeys==(Tryz.f3.params.toList++Rows.fnExactIsValidNaturalSpec.plain.varTypes Tryz.checked.prog++Tryz.f3.resultTypes.toList).any (Tryz.checked.prog.wideKeysFrom ·)))=true:=by kernel_rfl
theorem qic:(Rows.fnExactIsValidNaturalSpec.vars.all (Tryz.checked.prog.varReadable ·))=true:=by kernel_rfl
theorem qdn:(Tryz.f3.resultTypes.all (fun t=>Tryz.checked.prog.readableRec t&&decide (t<Tryz.checked.prog.types.size)))=true:=by kernel_rfl
theorem qd5:((Rows.fnExactIsValidNaturalRow.ifacesOut==Tryz.f3.resultTypes.toList.any (Tryz.checked.prog.ifacesRec ·)))=true:=by kernel_rfl
theorem qeh:((Rows.fnExactIsValidNaturalRow.loopsOut==Tryz.f3.resultTypes.toList.any (Tryz.checked.prog.loopsFrom ·)))=true:=by kernel_rfl
theorem qcy:((Rows.fnExactIsValidNaturalRow.plainKeys==Tryz.checked.prog.plainKeys))=true:=by kernel_rfl
theorem qie:(Rows.fnExactIsValidNaturalRow.shortTexts.isNone)=true:=by kernel_rfl
theorem qkj:(Tryz.checked.prog.stopsHeard)=true:=by kernel_rfl
theorem qdg:(Tryz.checked.prog.mayEnter)=true:=by kernel_rfl
theorem qdc:((Rows.fnExactIsValidNaturalRow.lifted==Tryz.checked.prog.liftsFinal))=true:=by kernel_rfl
theorem qjm:((Tryz.checked.prog.make==some Rows.fnExactIsValidNaturalRow.make))=true:=by kernel_rfl
theorem qer:((Rows.fnExactIsValidNaturalRow.kinds==(if Rows.fnExactIsValidNaturalRow.domain.isEmpty then []else Tryz.f3.params.toList.map fun t=>match Tryz.checked.prog.underlying t with|some (.int k)=>some k|_=>none)))=true:=by kernel_rfl
theorem qh0:((Rows.fnExactIsValidNaturalRow.pinned==Rows.fnExactIsValidNaturalRow.pinnedBy))=true:=by kernel_rfl
theorem qdu:((Rows.fnExactIsValidNaturalRow.veiled==(Tryz.f3.params.toList++Rows.fnExactIsValidNaturalSpec.plain.varTypes Tryz.checked.prog++Tryz.f3.resultTypes.toList).any (Tryz.checked.prog.veiledRec ·)))=true:=by kernel_rfl
theorem qk0:(Rows.fnExactIsValidNaturalRow.veiledFits Tryz.checked.prog Tryz.f3.params.toList (Tryz.f3.params.toList++Rows.fnExactIsValidNaturalSpec.plain.varTypes Tryz.checked.prog++Tryz.f3.resultTypes.toList))=true:=by kernel_rfl
theorem zty:joinedFacts Tryz.checked.prog 3 Tryz.f3 Rows.fnExactIsValidNaturalSpec Rows.fnExactIsValidNaturalRow=true:=by
 unfold joinedFacts
 simp only[Qe]
 exact⟨⟨⟨⟨⟨⟨⟨⟨⟨⟨⟨⟨⟨⟨⟨⟨⟨⟨⟨⟨⟨⟨⟨⟨⟨⟨⟨⟨⟨⟨⟨qmm,qmh⟩,ql9⟩,qof⟩,qms⟩,qpv⟩,qmt⟩,qnz⟩,qqd⟩,qnu⟩,qew⟩,qk9⟩,qjb⟩,qcz⟩,qho⟩,qej⟩,qj3⟩,qe9⟩,qic⟩,qdn⟩,qd5⟩,qeh⟩,qcy⟩,qie⟩,qkj⟩,qdg⟩,qdc⟩,qjm⟩,qer⟩,qh0⟩,qdu⟩,qk0⟩
theorem isValidNatural_holds:Rows.FnExactIsValidNaturalSaid :=
 OpenClaim.holds_of_wide 3 Tryz.f3 rfl rfl rfl rfl rfl rfl rfl ⟨rfl,rfl,rfl,rfl,rfl⟩ rfl rfl rfl rfl rfl Yo Tryz.func3 zty
  (K8 Yo) (by unfold Func.isWrapper;rw[if_neg (J6 Yo)];exact⟨rfl,rfl⟩)
  (fun os started H enc _=>zrw os started H enc)
#print axioms isValidNatural_holds
end Go.Proofs.YtnemmlahbbbobaaGreat
