/-
  FnExactHerbrandRefutes returns true for all arguments, and its arguments read afterwards as they read before.
  Conditions: none.
-/
import Derived.Test.YtmhbmpbgpjljeaaGreatRows
import Derived.Test.YtmhbmpbgpjljeaaGreatQL1
import Derived.Test.YtmhbmpbgpjljeaaGreatQL4
import Derived.Test.YtmhbmpbgpjljeaaGreatQL11
import Derived.ProofKit
import Derived.OpenShut
import Derived.ShutString
import Derived.ChangeOld
namespace Go.Proofs.YtmhbmpbgpjljeaaGreat
set_option linter.unusedSimpArgs false
set_option linter.unusedVariables false
set_option linter.unusedSectionVars false
set_option maxRecDepth 4000
open Go.ChangeShapes Go.WideShapes Go.ChangeAt Go.RowKit
theorem qd0:ownKnob Tryz.prog.godebug=none:=by kernel_rfl
theorem zhl:laidOutB Tryz.prog=true:=by kernel_rfl
def zif (t:TypeId):Bool:=t==3||t==9||t==139||t==137||t==4||t==141||t==39||t==41||t==22
theorem zha:∀t,zif t=true->qhq Tryz.prog zif t=true:=by
 intro t h
 simp only[zif,Yb,Jo]at h
 rcases h with(((((((rfl|rfl)|rfl)|rfl)|rfl)|rfl)|rfl)|rfl)|rfl<;>kernel_rfl
set_option maxRecDepth 100000 in
theorem ztc (os:Os)(started:os.Started)(H:Type)(enc:TypeId×Value->H) :
  ReturnsInHanded {} Tryz.checked os 5 .any (Rows.fnExactHerbrandRefutesSpec.pre6 enc Tryz.prog Tryz.f5 Rows.fnExactHerbrandRefutesRow.domain false)
   (Rows.fnExactHerbrandRefutesSpec.post enc Tryz.prog Tryz.f5 false true false false):=by
 refine returnsInHanded_of_change (C:=Tryz.checked) qd0 started Zh Tryz.func5
  (ChangeSpec.witness6 (enc:=enc) (C:=Tryz.checked) false ⟨#[],#[.slice none 0 0,.int .i64 0],[]⟩ 8 Zh Zh Zh Zh) ?_
 intro W base args ds gs before hval0 hW hcnd _
 have hval:∀(j:Nat) t v,Tryz.f5.params[j]?=some t->args[j]?=some v->Value.okWide Tryz.prog W .any base t v:=hval0
 have hW':=hW
 obtain⟨p,q,hA0,hV,rfl,hfz,hnd⟩:=hW
 have hA:DataW.TrodAll enc Tryz.prog W 0 (λ_=>true) true Tryz.f5.params.toList args.toList ds p:=hA0
 rw[Tryz.params5]at hA hval
 obtain⟨v0,vs0,d0,ds0,p0,q0,hargs,rfl,rfl,h0,r0⟩:=trodAll_cons hA
 obtain⟨v1,vs1,d1,ds1,p1,q1,rfl,rfl,rfl,h1,r1⟩:=trodAll_cons r0
 obtain⟨rfl,rfl,rfl⟩:=trodAll_nil r1
 obtain rfl:args=#[v0,v1]:=by cases args;simp_all
 obtain⟨rfl,rfl⟩:=trodVars_none hV
 have k0:=h0
 have k1:=h1
 have lt0:∀x∈p0,x.block<W.heap.size:=by obtain⟨m,hm⟩:=k0;exact DataW.trod_lt m _ _ _ hm
 have lt1:∀x∈p1,x.block<W.heap.size:=by obtain⟨m,hm⟩:=k1;exact DataW.trod_lt m _ _ _ hm
 obtain⟨sa0,sb0,sc0,rfl⟩:=okWide_slice Tryz.underlying22 (hval 0 22 v0 rfl rfl)
 obtain⟨s1,rfl⟩:=okWide_int Tryz.underlying3 (hval 1 3 v1 rfl rfl)
 obtain⟨s0,hs0⟩:∃s:(List Cq),qbo W (·<W.heap.size) (cqsD s) (.slice sa0 sb0 sc0):=by
  obtain⟨m,hm⟩:=h0;obtain⟨d,hr,hs⟩:=zlt zha m _ _ _ (by rfl) hm;obtain⟨s,e⟩:=qas hs;rw[e]at hr;obtain⟨v',vs',e1,e2,_⟩:=hr;cases e1;exact⟨s,e2⟩
 have hs1:qbo W (·<W.heap.size) (iD s1) (.int .i64 s1):=by
  obtain⟨m,hm⟩:=h1;obtain⟨d,hr,hs⟩:=zlt zha m _ _ _ (by rfl) hm;obtain⟨z,rfl⟩:=hs.int Tryz.underlying3;obtain⟨v',vs',e1,e2,_⟩:=(show zae W (·<W.heap.size) [.int .i64 z] [.int .i64 s1] from hr);cases e1;have e3:=e2;unfold zai at e3;obtain⟨e4,_⟩:=e3;cases e4;exact e2
 have hs:zbc W (·<W.heap.size) [cqsD s0,iD s1] [.slice sa0 sb0 sc0,.int .i64 s1]:=⟨_,_,rfl,hs0,_,_,rfl,hs1,rfl⟩
 clear hA0 hval0
 refine((qq9 s0 s1).use (vs:=[.slice sa0 sb0 sc0,.int .i64 s1]) hs).mono λe W' ⟨us,fp,he,ho,_,_,bel⟩=>?_
 obtain⟨u,us',f1,f2,rfl,_,⟨rfl,_⟩,hu⟩:=ho
 obtain⟨rfl,_⟩:=hu
 subst he
 exact⟨_,rfl,_,_,_,[],_,[],hW',trodAll_mk1 (shut_bool Tryz.underlying4 _),
  (trodAll_cons_mk (Below.trod zhl Zh (Kw Zh) k0 bel lt0) (trodAll_cons_mk (Below.trod zhl Zh (Kw Zh) k1 bel lt1) trodAll_mk0)),rfl,bel.frame _,λh=>by cases h⟩
theorem qli:(Rows.fnExactHerbrandRefutesRow.wf (OpenSpec.ofChange Rows.fnExactHerbrandRefutesSpec))=true:=by kernel_rfl
theorem ql6:(laidOutB Tryz.checked.prog)=true:=by kernel_rfl
theorem qkx:(mapsRowed Tryz.checked.prog)=true:=by kernel_rfl
theorem qlf:(Tryz.f5.params.all (Tryz.checked.prog.readableRec ·))=true:=by kernel_rfl
theorem qlh:(namedTie Tryz.checked.prog Rows.fnExactHerbrandRefutesRow.named Rows.fnExactHerbrandRefutesSpec.vars)=true:=by kernel_rfl
theorem ql8:((Rows.fnExactHerbrandRefutesRow.stops==[]))=true:=by kernel_rfl
theorem qku:((Tryz.checked.prog.stops==[]))=true:=by kernel_rfl
theorem qjl:((Rows.fnExactHerbrandRefutesRow.knobs==[]))=true:=by kernel_rfl
theorem qj8:((Tryz.checked.prog.stopKnobs==[]))=true:=by kernel_rfl
theorem qmi:((Rows.fnExactHerbrandRefutesRow.inPlace==Tryz.checked.prog.inPlace 5))=true:=by kernel_rfl
theorem qfl:((Rows.fnExactHerbrandRefutesRow.unfollowed==Tryz.checked.prog.unfollowed 5))=true:=by kernel_rfl
theorem qhm:((Rows.fnExactHerbrandRefutesRow.recurses==Tryz.checked.prog.recurses 5))=true:=by kernel_rfl
theorem qcm:((Rows.fnExactHerbrandRefutesRow.named==Tryz.checked.prog.varsNamed 5))=true:=by kernel_rfl
theorem qhf:((Rows.fnExactHerbrandRefutesRow.maps==(Tryz.f5.params.toList++Rows.fnExactHerbrandRefutesSpec.plain.varTypes Tryz.checked.prog).any (Tryz.checked.prog.mapsRec ·)))=true:=by kernel_rfl
theorem qhh:((Rows.fnExactHerbrandRefutesRow.ifaces==(Tryz.f5.params.toList++Rows.fnExactHerbrandRefutesSpec.plain.varTypes Tryz.checked.prog).any (Tryz.checked.prog.ifacesRec ·)))=true:=by kernel_rfl
theorem qfa:((Rows.fnExactHerbrandRefutesRow.mapsOut==Tryz.checked.prog.mapsAmong Tryz.f5.resultTypes.toList))=true:=by kernel_rfl
theorem qfx:((Rows.fnExactHerbrandRefutesRow.loops==(Tryz.f5.params.toList++Rows.fnExactHerbrandRefutesSpec.plain.varTypes Tryz.checked.prog).any (Tryz.checked.prog.loopsFrom ·)))=true:=by kernel_rfl
theorem qgd:((Rows.fnExactHerbrandRefutesRow.wideKeys==(Tryz.f5.params.toList++Rows.fnExactHerbrandRefutesSpec.plain.varTypes Tryz.checked.prog++Tryz.f5.resultTypes.toList).any (Tryz.checked.prog.wideKeysFrom ·)))=true:=by kernel_rfl
theorem qc9:(Rows.fnExactHerbrandRefutesSpec.vars.all (Tryz.checked.prog.varReadable ·))=true:=by kernel_rfl
theorem qby:(Tryz.f5.resultTypes.all (λt=>Tryz.checked.prog.readableRec t&&decide (t<Tryz.checked.prog.types.size)))=true:=by kernel_rfl
theorem qf4:((Rows.fnExactHerbrandRefutesRow.ifacesOut==Tryz.f5.resultTypes.toList.any (Tryz.checked.prog.ifacesRec ·)))=true:=by kernel_rfl
theorem qee:((Rows.fnExactHerbrandRefutesRow.loopsOut==Tryz.f5.resultTypes.toList.any (Tryz.checked.prog.loopsFrom ·)))=true:=by kernel_rfl
theorem qdd:((Rows.fnExactHerbrandRefutesRow.plainKeys==Tryz.checked.prog.plainKeys))=true:=by kernel_rfl
theorem qcj:(Rows.fnExactHerbrandRefutesRow.shortTexts.isNone)=true:=by kernel_rfl
theorem qgo:(Tryz.checked.prog.stopsHeard)=true:=by kernel_rfl
theorem qdn:(Tryz.checked.prog.mayEnter)=true:=by kernel_rfl
theorem qcv:((Rows.fnExactHerbrandRefutesRow.lifted==Tryz.checked.prog.liftsFinal))=true:=by kernel_rfl
theorem qfi:((Tryz.checked.prog.make==some Rows.fnExactHerbrandRefutesRow.make))=true:=by kernel_rfl
theorem qf5:((Rows.fnExactHerbrandRefutesRow.kinds==(if Rows.fnExactHerbrandRefutesRow.domain.isEmpty then []else Tryz.f5.params.toList.map λt=>match Tryz.checked.prog.underlying t with|some (.int k)=>some k|_=>none)))=true:=by kernel_rfl
theorem qhu:((Rows.fnExactHerbrandRefutesRow.pinned==Rows.fnExactHerbrandRefutesRow.pinnedBy))=true:=by kernel_rfl
theorem qeu:((Rows.fnExactHerbrandRefutesRow.veiled==(Tryz.f5.params.toList++Rows.fnExactHerbrandRefutesSpec.plain.varTypes Tryz.checked.prog++Tryz.f5.resultTypes.toList).any (Tryz.checked.prog.veiledRec ·)))=true:=by kernel_rfl
theorem qgw:(Rows.fnExactHerbrandRefutesRow.veiledFits Tryz.checked.prog Tryz.f5.params.toList (Tryz.f5.params.toList++Rows.fnExactHerbrandRefutesSpec.plain.varTypes Tryz.checked.prog++Tryz.f5.resultTypes.toList))=true:=by kernel_rfl
theorem zsn:joinedFacts Tryz.checked.prog 5 Tryz.f5 Rows.fnExactHerbrandRefutesSpec Rows.fnExactHerbrandRefutesRow=true:=by
 unfold joinedFacts
 simp only[Qd]
 exact⟨⟨⟨⟨⟨⟨⟨⟨⟨⟨⟨⟨⟨⟨⟨⟨⟨⟨⟨⟨⟨⟨⟨⟨⟨⟨⟨⟨⟨⟨⟨qli,ql6⟩,qkx⟩,qlf⟩,qlh⟩,ql8⟩,qku⟩,qjl⟩,qj8⟩,qmi⟩,qfl⟩,qhm⟩,qcm⟩,qhf⟩,qhh⟩,qfa⟩,qfx⟩,qgd⟩,qc9⟩,qby⟩,qf4⟩,qee⟩,qdd⟩,qcj⟩,qgo⟩,qdn⟩,qcv⟩,qfi⟩,qf5⟩,qhu⟩,qeu⟩,qgw⟩
theorem herbrandRefutes_holds:Rows.FnExactHerbrandRefutesSaid :=
 OpenClaim.holds_of_wide 5 Tryz.f5 rfl rfl rfl rfl rfl rfl rfl ⟨rfl,rfl,rfl,rfl,rfl⟩ rfl rfl rfl rfl rfl Zh Tryz.func5 zsn
  (Kw Zh) (by unfold Func.isWrapper;rw[if_neg (Yt Zh)];exact⟨rfl,rfl⟩)
  (λos started H enc _=>ztc os started H enc)
#print axioms herbrandRefutes_holds
end Go.Proofs.YtmhbmpbgpjljeaaGreat
