/-
  FnExactNormalizeProof returns true for all arguments, and its arguments read afterwards as they read before.
  Conditions: none.
-/
import Derived.Test.YtnemmlahbbbobaaGreatRows
import Derived.Test.YtnemmlahbbbobaaGreatQR1
import Derived.Test.YtnemmlahbbbobaaGreatQR5
import Derived.Test.YtnemmlahbbbobaaGreatQR12
import Derived.ProofKit
import Derived.OpenShut
import Derived.ShutString
import Derived.ChangeOld
namespace Go.Proofs.YtnemmlahbbbobaaGreat
set_option linter.unusedSimpArgs false
set_option linter.unusedVariables false
set_option linter.unusedSectionVars false
set_option maxRecDepth 4000
open Go.ChangeShapes Go.WideShapes Go.ChangeAt Go.RowKit
theorem qk2:ownKnob Tryz.prog.godebug=none:=by kernel_rfl
theorem zjk:laidOutB Tryz.prog=true:=by kernel_rfl
def zj2 (t:TypeId):Bool:=t==3||t==9||t==24||t==22||t==27||t==25||t==30||t==28
theorem ziu:∀t,zj2 t=true->zus Tryz.prog zj2 t=true:=by
 intro t h
 simp only[zj2,K1,Q9]at h
 rcases h with((((((rfl|rfl)|rfl)|rfl)|rfl)|rfl)|rfl)|rfl<;>kernel_rfl
set_option maxRecDepth 100000 in
theorem zsh (os:Os)(started:os.Started)(H:Type)(enc:TypeId×Value->H) :
  ReturnsInHanded {} Tryz.checked os 10 .any (Rows.fnExactNormalizeProofSpec.pre6 enc Tryz.prog Tryz.f10 Rows.fnExactNormalizeProofRow.domain false)
   (Rows.fnExactNormalizeProofSpec.post enc Tryz.prog Tryz.f10 false true false false):=by
 refine returnsInHanded_of_change (C:=Tryz.checked) qk2 started Yz Tryz.func10
  (ChangeSpec.witness6 (enc:=enc) (C:=Tryz.checked) false ⟨#[],#[.agg #[.int .i64 0,.int .i64 0,.string .empty,.slice none 0 0,.string .empty,.slice none 0 0,.int .i64 0,.string .empty,.slice none 0 0,.slice none 0 0],.int .i64 0],[]⟩ 8 Yz Yz Yz Yz) ?_
 intro W base args ds gs before hval0 hW hcnd _
 have hval:∀(j:Nat) t v,Tryz.f10.params[j]?=some t->args[j]?=some v->Value.okWide Tryz.prog W .any base t v:=hval0
 have hW':=hW
 obtain⟨p,q,hA0,hV,rfl,hfz,hnd⟩:=hW
 have hA:DataW.TrodAll enc Tryz.prog W 0 (λ_=>true) true Tryz.f10.params.toList args.toList ds p:=hA0
 rw[Tryz.params10]at hA hval
 obtain⟨v0,vs0,d0,ds0,p0,q0,hargs,rfl,rfl,h0,r0⟩:=trodAll_cons hA
 obtain⟨v1,vs1,d1,ds1,p1,q1,rfl,rfl,rfl,h1,r1⟩:=trodAll_cons r0
 obtain⟨rfl,rfl,rfl⟩:=trodAll_nil r1
 obtain rfl:args=#[v0,v1]:=by cases args;simp_all
 obtain⟨rfl,rfl⟩:=trodVars_none hV
 have k0:=h0
 have k1:=h1
 have lt0:∀x∈p0,x.block<W.heap.size:=by obtain⟨m,hm⟩:=k0;exact DataW.trod_lt m _ _ _ hm
 have lt1:∀x∈p1,x.block<W.heap.size:=by obtain⟨m,hm⟩:=k1;exact DataW.trod_lt m _ _ _ hm
 obtain⟨cs0,rfl,_⟩:=okWide_struct Tryz.underlying30 (hval 0 30 v0 rfl rfl)
 obtain⟨s1,rfl⟩:=okWide_int Tryz.underlying3 (hval 1 3 v1 rfl rfl)
 obtain⟨s0,hs0⟩:∃s:Nt,zsb W (·<W.heap.size) (ntD s) (.agg cs0):=by
  obtain⟨m,hm⟩:=h0;obtain⟨d,hr,hs⟩:=zee ziu m _ _ _ (by rfl) hm;obtain⟨s,e⟩:=zhz _ hs;exact⟨s,cs0.toList,rfl,e▸hr⟩
 have hs1:zsb W (·<W.heap.size) (iD s1) (.int .i64 s1):=by
  obtain⟨m,hm⟩:=h1;obtain⟨d,hr,hs⟩:=zee ziu m _ _ _ (by rfl) hm;obtain⟨z,rfl⟩:=hs.int Tryz.underlying3;obtain⟨v',vs',e1,e2,_⟩:=(show zag W (·<W.heap.size) [.int .i64 z] [.int .i64 s1] from hr);cases e1;have e3:=e2;unfold zau at e3;obtain⟨e4,_⟩:=e3;cases e4;exact e2
 have hs:zbn W (·<W.heap.size) [ntD s0,iD s1] [.agg cs0,.int .i64 s1]:=⟨_,_,rfl,hs0,_,_,rfl,hs1,rfl⟩
 clear hA0 hval0
 refine((qv3 s0 s1).use (vs:=[.agg cs0,.int .i64 s1]) hs).mono λe W' ⟨us,fp,he,ho,_,_,bel⟩=>?_
 obtain⟨u,us',f1,f2,rfl,_,⟨rfl,_⟩,hu⟩:=ho
 obtain⟨rfl,_⟩:=hu
 subst he
 exact⟨_,rfl,_,_,_,[],_,[],hW',trodAll_mk1 (shut_bool Tryz.underlying4 _),
  (trodAll_cons_mk (Below.trod zjk Yz (Jc Yz) k0 bel lt0) (trodAll_cons_mk (Below.trod zjk Yz (Jc Yz) k1 bel lt1) trodAll_mk0)),rfl,bel.frame _,λh=>by cases h⟩
theorem qpy:(Rows.fnExactNormalizeProofRow.wf (OpenSpec.ofChange Rows.fnExactNormalizeProofSpec))=true:=by kernel_rfl
theorem qom:(laidOutB Tryz.checked.prog)=true:=by kernel_rfl
theorem ql8:(mapsRowed Tryz.checked.prog)=true:=by kernel_rfl
theorem qmx:(Tryz.f10.params.all (Tryz.checked.prog.readableRec ·))=true:=by kernel_rfl
theorem qpa:(namedTie Tryz.checked.prog Rows.fnExactNormalizeProofRow.named Rows.fnExactNormalizeProofSpec.vars)=true:=by kernel_rfl
theorem qpi:((Rows.fnExactNormalizeProofRow.stops==[]))=true:=by kernel_rfl
theorem qnw:((Tryz.checked.prog.stops==[]))=true:=by kernel_rfl
theorem qpp:((Rows.fnExactNormalizeProofRow.knobs==[]))=true:=by kernel_rfl
theorem qmb:((Tryz.checked.prog.stopKnobs==[]))=true:=by kernel_rfl
theorem qpw:((Rows.fnExactNormalizeProofRow.inPlace==Tryz.checked.prog.inPlace 10))=true:=by kernel_rfl
theorem qhp:((Rows.fnExactNormalizeProofRow.unfollowed==Tryz.checked.prog.unfollowed 10))=true:=by kernel_rfl
theorem qhu:((Rows.fnExactNormalizeProofRow.recurses==Tryz.checked.prog.recurses 10))=true:=by kernel_rfl
theorem qho:((Rows.fnExactNormalizeProofRow.named==Tryz.checked.prog.varsNamed 10))=true:=by kernel_rfl
theorem qh2:((Rows.fnExactNormalizeProofRow.maps==(Tryz.f10.params.toList++Rows.fnExactNormalizeProofSpec.plain.varTypes Tryz.checked.prog).any (Tryz.checked.prog.mapsRec ·)))=true:=by kernel_rfl
theorem qdp:((Rows.fnExactNormalizeProofRow.ifaces==(Tryz.f10.params.toList++Rows.fnExactNormalizeProofSpec.plain.varTypes Tryz.checked.prog).any (Tryz.checked.prog.ifacesRec ·)))=true:=by kernel_rfl
theorem qlb:((Rows.fnExactNormalizeProofRow.mapsOut==Tryz.checked.prog.mapsAmong Tryz.f10.resultTypes.toList))=true:=by kernel_rfl
theorem qfi:((Rows.fnExactNormalizeProofRow.loops==(Tryz.f10.params.toList++Rows.fnExactNormalizeProofSpec.plain.varTypes Tryz.checked.prog).any (Tryz.checked.prog.loopsFrom ·)))=true:=by kernel_rfl
theorem qh1:((Rows.fnExactNormalizeProofRow.wideKeys==(Tryz.f10.params.toList++Rows.fnExactNormalizeProofSpec.plain.varTypes Tryz.checked.prog++Tryz.f10.resultTypes.toList).any (Tryz.checked.prog.wideKeysFrom ·)))=true:=by kernel_rfl
theorem qkv:(Rows.fnExactNormalizeProofSpec.vars.all (Tryz.checked.prog.varReadable ·))=true:=by kernel_rfl
theorem qgb:(Tryz.f10.resultTypes.all (λt=>Tryz.checked.prog.readableRec t&&decide (t<Tryz.checked.prog.types.size)))=true:=by kernel_rfl
theorem qej:((Rows.fnExactNormalizeProofRow.ifacesOut==Tryz.f10.resultTypes.toList.any (Tryz.checked.prog.ifacesRec ·)))=true:=by kernel_rfl
theorem qke:((Rows.fnExactNormalizeProofRow.loopsOut==Tryz.f10.resultTypes.toList.any (Tryz.checked.prog.loopsFrom ·)))=true:=by kernel_rfl
theorem qdn:((Rows.fnExactNormalizeProofRow.plainKeys==Tryz.checked.prog.plainKeys))=true:=by kernel_rfl
theorem qi0:(Rows.fnExactNormalizeProofRow.shortTexts.isNone)=true:=by kernel_rfl
theorem qjh:(Tryz.checked.prog.stopsHeard)=true:=by kernel_rfl
theorem qj0:(Tryz.checked.prog.mayEnter)=true:=by kernel_rfl
theorem qhy:((Rows.fnExactNormalizeProofRow.lifted==Tryz.checked.prog.liftsFinal))=true:=by kernel_rfl
theorem qiw:((Tryz.checked.prog.make==some Rows.fnExactNormalizeProofRow.make))=true:=by kernel_rfl
theorem qfc:((Rows.fnExactNormalizeProofRow.kinds==(if Rows.fnExactNormalizeProofRow.domain.isEmpty then []else Tryz.f10.params.toList.map λt=>match Tryz.checked.prog.underlying t with|some (.int k)=>some k|_=>none)))=true:=by kernel_rfl
theorem qg3:((Rows.fnExactNormalizeProofRow.pinned==Rows.fnExactNormalizeProofRow.pinnedBy))=true:=by kernel_rfl
theorem qdj:((Rows.fnExactNormalizeProofRow.veiled==(Tryz.f10.params.toList++Rows.fnExactNormalizeProofSpec.plain.varTypes Tryz.checked.prog++Tryz.f10.resultTypes.toList).any (Tryz.checked.prog.veiledRec ·)))=true:=by kernel_rfl
theorem qhz:(Rows.fnExactNormalizeProofRow.veiledFits Tryz.checked.prog Tryz.f10.params.toList (Tryz.f10.params.toList++Rows.fnExactNormalizeProofSpec.plain.varTypes Tryz.checked.prog++Tryz.f10.resultTypes.toList))=true:=by kernel_rfl
theorem zsd:joinedFacts Tryz.checked.prog 10 Tryz.f10 Rows.fnExactNormalizeProofSpec Rows.fnExactNormalizeProofRow=true:=by
 unfold joinedFacts
 simp only[Qb]
 exact⟨⟨⟨⟨⟨⟨⟨⟨⟨⟨⟨⟨⟨⟨⟨⟨⟨⟨⟨⟨⟨⟨⟨⟨⟨⟨⟨⟨⟨⟨⟨qpy,qom⟩,ql8⟩,qmx⟩,qpa⟩,qpi⟩,qnw⟩,qpp⟩,qmb⟩,qpw⟩,qhp⟩,qhu⟩,qho⟩,qh2⟩,qdp⟩,qlb⟩,qfi⟩,qh1⟩,qkv⟩,qgb⟩,qej⟩,qke⟩,qdn⟩,qi0⟩,qjh⟩,qj0⟩,qhy⟩,qiw⟩,qfc⟩,qg3⟩,qdj⟩,qhz⟩
theorem normalizeProof_holds:Rows.FnExactNormalizeProofSaid :=
 OpenClaim.holds_of_wide 10 Tryz.f10 rfl rfl rfl rfl rfl rfl rfl ⟨rfl,rfl,rfl,rfl,rfl⟩ rfl rfl rfl rfl rfl Yz Tryz.func10 zsd
  (Jc Yz) (by unfold Func.isWrapper;rw[if_neg (of_decide_eq_false Yz)];exact⟨rfl,rfl⟩)
  (λos started H enc _=>zsh os started H enc)
#print axioms normalizeProof_holds
end Go.Proofs.YtnemmlahbbbobaaGreat
