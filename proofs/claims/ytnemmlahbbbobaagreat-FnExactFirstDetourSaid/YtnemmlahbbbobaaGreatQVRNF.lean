/-
  FnExactFirstDetour returns true for all arguments, and its arguments read afterwards as they read before.
  Conditions: none.
-/
import Derived.Test.YtnemmlahbbbobaaGreatRows
import Derived.Test.YtnemmlahbbbobaaGreatQV1
import Derived.Test.YtnemmlahbbbobaaGreatQV5
import Derived.Test.YtnemmlahbbbobaaGreatQV11
import Derived.ProofKit
import Derived.OpenShut
import Derived.ShutString
import Derived.ChangeOld
namespace Go.Proofs.YtnemmlahbbbobaaGreat
set_option linter.unusedSimpArgs false
set_option linter.unusedVariables false
set_option linter.unusedSectionVars false
set_option maxRecDepth 4000
open Go.ChangeShapes Go.WideShapes Go.ChangeAt Go.RowKit
theorem qg0:ownKnob Tryz.prog.godebug=none:=by kernel_rfl
theorem zq8:laidOutB Tryz.prog=true:=by kernel_rfl
def zjk (t:TypeId):Bool:=t==3||t==9||t==24||t==22||t==27||t==25||t==30||t==28
theorem zpj:∀t,zjk t=true->zl1 Tryz.prog zjk t=true:=by
 intro t h
 simp only[zjk,K5,Kk]at h
 rcases h with((((((rfl|rfl)|rfl)|rfl)|rfl)|rfl)|rfl)|rfl<;>kernel_rfl
set_option maxRecDepth 100000 in
theorem zrq (os:Os)(started:os.Started)(H:Type)(enc:TypeId×Value->H) :
  ReturnsInHanded {} Tryz.checked os 5 .any (Rows.fnExactFirstDetourSpec.pre6 enc Tryz.prog Tryz.f5 Rows.fnExactFirstDetourRow.domain false)
   (Rows.fnExactFirstDetourSpec.post enc Tryz.prog Tryz.f5 false true false false):=by
 refine returnsInHanded_of_change (C:=Tryz.checked) qg0 started Yo Tryz.func5
  (ChangeSpec.witness6 (enc:=enc) (C:=Tryz.checked) false ⟨#[],#[.agg #[.int .i64 0,.int .i64 0,.string .empty,.slice none 0 0,.string .empty,.slice none 0 0,.int .i64 0,.string .empty,.slice none 0 0,.slice none 0 0]],[]⟩ 8 Yo Yo Yo Yo) ?_
 intro W base args ds gs before hval0 hW hcnd _
 have hval:∀(j:Nat) t v,Tryz.f5.params[j]?=some t->args[j]?=some v->Value.okWide Tryz.prog W .any base t v:=hval0
 have hW':=hW
 obtain⟨p,q,hA0,hV,rfl,hfz,hnd⟩:=hW
 have hA:DataW.TrodAll enc Tryz.prog W 0 (fun _=>true) true Tryz.f5.params.toList args.toList ds p:=hA0
 rw[Tryz.params5]at hA hval
 obtain⟨v0,vs0,d0,ds0,p0,q0,hargs,rfl,rfl,h0,r0⟩:=trodAll_cons hA
 obtain⟨rfl,rfl,rfl⟩:=trodAll_nil r0
 obtain rfl:args=#[v0]:=by cases args;simp_all
 obtain⟨rfl,rfl⟩:=trodVars_none hV
 have k0:=h0
 have lt0:∀x∈p0,x.block<W.heap.size:=by obtain⟨m,hm⟩:=k0;exact DataW.trod_lt m _ _ _ hm
 obtain⟨cs0,rfl,_⟩:=okWide_struct Tryz.underlying30 (hval 0 30 v0 rfl rfl)
 obtain⟨s0,hs0⟩:∃s:Nt,zt2 W (·<W.heap.size) (ntD s) (.agg cs0):=by
  obtain⟨m,hm⟩:=h0;obtain⟨d,hr,hs⟩:=zex zpj m _ _ _ (by rfl) hm;obtain⟨s,e⟩:=zft _ hs;exact⟨s,cs0.toList,rfl,e▸hr⟩
 have hs:zbf W (·<W.heap.size) [ntD s0] [.agg cs0]:=⟨_,_,rfl,hs0,rfl⟩
 clear hA0 hval0
 refine((qvi s0).use (vs:=[.agg cs0]) hs).mono fun e W' ⟨us,fp,he,ho,_,_,bel⟩=>?_
 obtain⟨u,us',f1,f2,rfl,_,⟨rfl,_⟩,hu⟩:=ho
 obtain⟨rfl,_⟩:=hu
 subst he
 exact⟨_,rfl,_,_,_,[],_,[],hW',trodAll_mk1 (shut_bool Tryz.underlying4 _),
  (trodAll_cons_mk (Below.trod zq8 Yo (K8 Yo) k0 bel lt0) trodAll_mk0),rfl,bel.frame _,fun h=>by cases h⟩
theorem qnk:(Rows.fnExactFirstDetourRow.wf (OpenSpec.ofChange Rows.fnExactFirstDetourSpec))=true:=by kernel_rfl
theorem qpj:(laidOutB Tryz.checked.prog)=true:=by kernel_rfl
theorem qnh:(mapsRowed Tryz.checked.prog)=true:=by kernel_rfl
theorem qon:(Tryz.f5.params.all (Tryz.checked.prog.readableRec ·))=true:=by kernel_rfl
theorem qn6:(namedTie Tryz.checked.prog Rows.fnExactFirstDetourRow.named Rows.fnExactFirstDetourSpec.vars)=true:=by kernel_rfl
theorem qpf:((Rows.fnExactFirstDetourRow.stops==[]))=true:=by kernel_rfl
theorem qo7:((Tryz.checked.prog.stops==[]))=true:=by kernel_rfl
theorem qmo:((Rows.fnExactFirstDetourRow.knobs==[]))=true:=by kernel_rfl
theorem qny:((Tryz.checked.prog.stopKnobs==[]))=true:=by kernel_rfl
theorem qoo:((Rows.fnExactFirstDetourRow.inPlace==Tryz.checked.prog.inPlace 5))=true:=by kernel_rfl
theorem qi2:((Rows.fnExactFirstDetourRow.unfollowed==Tryz.checked.prog.unfollowed 5))=true:=by kernel_rfl
theorem qj8:((Rows.fnExactFirstDetourRow.recurses==Tryz.checked.prog.recurses 5))=true:=by kernel_rfl
theorem qiu:((Rows.fnExactFirstDetourRow.named==Tryz.checked.prog.varsNamed 5))=true:=by kernel_rfl
theorem qen:((Rows.fnExactFirstDetourRow.maps==(Tryz.f5.params.toList++Rows.fnExactFirstDetourSpec.plain.varTypes Tryz.checked.prog).any (Tryz.checked.prog.mapsRec ·)))=true:=by kernel_rfl
theorem qgl:((Rows.fnExactFirstDetourRow.ifaces==(Tryz.f5.params.toList++Rows.fnExactFirstDetourSpec.plain.varTypes Tryz.checked.prog).any (Tryz.checked.prog.ifacesRec ·)))=true:=by kernel_rfl
theorem qge:((Rows.fnExactFirstDetourRow.mapsOut==Tryz.checked.prog.mapsAmong Tryz.f5.resultTypes.toList))=true:=by kernel_rfl
theorem qlc:((Rows.fnExactFirstDetourRow.loops==(Tryz.f5.params.toList++Rows.fnExactFirstDetourSpec.plain.varTypes Tryz.checked.prog).any (Tryz.checked.prog.loopsFrom ·)))=true:=by kernel_rfl
theorem qgn:((Rows.fnExactFirstDetourRow.wideKeys==(Tryz.f5.params.toList++Rows.fnExactFirstDetourSpec.plain.varTypes Tryz.checked.prog++Tryz.f5.resultTypes.toList).any (Tryz.checked.prog.wideKeysFrom ·)))=true:=by kernel_rfl
theorem qgd:(Rows.fnExactFirstDetourSpec.vars.all (Tryz.checked.prog.varReadable ·))=true:=by kernel_rfl
theorem qgh:(Tryz.f5.resultTypes.all (fun t=>Tryz.checked.prog.readableRec t&&decide (t<Tryz.checked.prog.types.size)))=true:=by kernel_rfl
theorem qf1:((Rows.fnExactFirstDetourRow.ifacesOut==Tryz.f5.resultTypes.toList.any (Tryz.checked.prog.ifacesRec ·)))=true:=by kernel_rfl
theorem qjc:((Rows.fnExactFirstDetourRow.loopsOut==Tryz.f5.resultTypes.toList.any (Tryz.checked.prog.loopsFrom ·)))=true:=by kernel_rfl
theorem qeq:((Rows.fnExactFirstDetourRow.plainKeys==Tryz.checked.prog.plainKeys))=true:=by kernel_rfl
theorem qkq:(Rows.fnExactFirstDetourRow.shortTexts.isNone)=true:=by kernel_rfl
theorem qi6:(Tryz.checked.prog.stopsHeard)=true:=by kernel_rfl
theorem qil:(Tryz.checked.prog.mayEnter)=true:=by kernel_rfl
theorem qe5:((Rows.fnExactFirstDetourRow.lifted==Tryz.checked.prog.liftsFinal))=true:=by kernel_rfl
theorem qix:((Tryz.checked.prog.make==some Rows.fnExactFirstDetourRow.make))=true:=by kernel_rfl
theorem qik:((Rows.fnExactFirstDetourRow.kinds==(if Rows.fnExactFirstDetourRow.domain.isEmpty then []else Tryz.f5.params.toList.map fun t=>match Tryz.checked.prog.underlying t with|some (.int k)=>some k|_=>none)))=true:=by kernel_rfl
theorem qi3:((Rows.fnExactFirstDetourRow.pinned==Rows.fnExactFirstDetourRow.pinnedBy))=true:=by kernel_rfl
theorem qdx:((Rows.fnExactFirstDetourRow.veiled==(Tryz.f5.params.toList++Rows.fnExactFirstDetourSpec.plain.varTypes Tryz.checked.prog++Tryz.f5.resultTypes.toList).any (Tryz.checked.prog.veiledRec ·)))=true:=by kernel_rfl
theorem qld:(Rows.fnExactFirstDetourRow.veiledFits Tryz.checked.prog Tryz.f5.params.toList (Tryz.f5.params.toList++Rows.fnExactFirstDetourSpec.plain.varTypes Tryz.checked.prog++Tryz.f5.resultTypes.toList))=true:=by kernel_rfl
theorem zs5:joinedFacts Tryz.checked.prog 5 Tryz.f5 Rows.fnExactFirstDetourSpec Rows.fnExactFirstDetourRow=true:=by
 unfold joinedFacts
 simp only[Qe]
 exact⟨⟨⟨⟨⟨⟨⟨⟨⟨⟨⟨⟨⟨⟨⟨⟨⟨⟨⟨⟨⟨⟨⟨⟨⟨⟨⟨⟨⟨⟨⟨qnk,qpj⟩,qnh⟩,qon⟩,qn6⟩,qpf⟩,qo7⟩,qmo⟩,qny⟩,qoo⟩,qi2⟩,qj8⟩,qiu⟩,qen⟩,qgl⟩,qge⟩,qlc⟩,qgn⟩,qgd⟩,qgh⟩,qf1⟩,qjc⟩,qeq⟩,qkq⟩,qi6⟩,qil⟩,qe5⟩,qix⟩,qik⟩,qi3⟩,qdx⟩,qld⟩
theorem firstDetour_holds:Rows.FnExactFirstDetourSaid :=
 OpenClaim.holds_of_wide 5 Tryz.f5 rfl rfl rfl rfl rfl rfl rfl ⟨rfl,rfl,rfl,rfl,rfl⟩ rfl rfl rfl rfl rfl Yo Tryz.func5 zs5
  (K8 Yo) (by unfold Func.isWrapper;rw[if_neg (J6 Yo)];exact⟨rfl,rfl⟩)
  (fun os started H enc _=>zrq os started H enc)
#print axioms firstDetour_holds
end Go.Proofs.YtnemmlahbbbobaaGreat
