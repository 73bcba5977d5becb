/-
  FnExactNaturalSequent returns true for all arguments, and its arguments read afterwards as they read before.
  Conditions: none.
-/
import Derived.Test.YtnemmlahbbbobaaGreatRows
import Derived.Test.YtnemmlahbbbobaaGreatQV1
import Derived.Test.YtnemmlahbbbobaaGreatQV5
import Derived.Test.YtnemmlahbbbobaaGreatQV11
import Derived.ProofKit
import Derived.OpenShut
import Derived.ShutString
import Derived.ChangeOld
namespace Go.Proofs.YtnemmlahbbbobaaGreat
set_option linter.unusedSimpArgs false
set_option linter.unusedVariables false
set_option linter.unusedSectionVars false
set_option maxRecDepth 4000
open Go.ChangeShapes Go.WideShapes Go.ChangeAt Go.RowKit
theorem qe2:ownKnob Tryz.prog.godebug=none:=by kernel_rfl
theorem zpg:laidOutB Tryz.prog=true:=by kernel_rfl
def zju (t:TypeId):Bool:=t==3||t==9||t==24||t==22||t==27||t==25||t==30||t==28
theorem zpu:∀t,zju t=true->zl1 Tryz.prog zju t=true:=by
 intro t h
 simp only[zju,K5,Kk]at h
 rcases h with((((((rfl|rfl)|rfl)|rfl)|rfl)|rfl)|rfl)|rfl<;>kernel_rfl
set_option maxRecDepth 100000 in
theorem zsd (os:Os)(started:os.Started)(H:Type)(enc:TypeId×Value->H) :
  ReturnsInHanded {} Tryz.checked os 6 .any (Rows.fnExactNaturalSequentSpec.pre6 enc Tryz.prog Tryz.f6 Rows.fnExactNaturalSequentRow.domain false)
   (Rows.fnExactNaturalSequentSpec.post enc Tryz.prog Tryz.f6 false true false false):=by
 refine returnsInHanded_of_change (C:=Tryz.checked) qe2 started Yo Tryz.func6
  (ChangeSpec.witness6 (enc:=enc) (C:=Tryz.checked) false ⟨#[],#[.agg #[.int .i64 0,.int .i64 0,.string .empty,.slice none 0 0,.string .empty,.slice none 0 0,.int .i64 0,.string .empty,.slice none 0 0,.slice none 0 0]],[]⟩ 8 Yo Yo Yo Yo) ?_
 intro W base args ds gs before hval0 hW hcnd _
 have hval:∀(j:Nat) t v,Tryz.f6.params[j]?=some t->args[j]?=some v->Value.okWide Tryz.prog W .any base t v:=hval0
 have hW':=hW
 obtain⟨p,q,hA0,hV,rfl,hfz,hnd⟩:=hW
 have hA:DataW.TrodAll enc Tryz.prog W 0 (fun _=>true) true Tryz.f6.params.toList args.toList ds p:=hA0
 rw[Tryz.params6]at hA hval
 obtain⟨v0,vs0,d0,ds0,p0,q0,hargs,rfl,rfl,h0,r0⟩:=trodAll_cons hA
 obtain⟨rfl,rfl,rfl⟩:=trodAll_nil r0
 obtain rfl:args=#[v0]:=by cases args;simp_all
 obtain⟨rfl,rfl⟩:=trodVars_none hV
 have k0:=h0
 have lt0:∀x∈p0,x.block<W.heap.size:=by obtain⟨m,hm⟩:=k0;exact DataW.trod_lt m _ _ _ hm
 obtain⟨cs0,rfl,_⟩:=okWide_struct Tryz.underlying30 (hval 0 30 v0 rfl rfl)
 obtain⟨s0,hs0⟩:∃s:Nt,zt2 W (·<W.heap.size) (ntD s) (.agg cs0):=by
  obtain⟨m,hm⟩:=h0;obtain⟨d,hr,hs⟩:=zex zpu m _ _ _ (by rfl) hm;obtain⟨s,e⟩:=zft _ hs;exact⟨s,cs0.toList,rfl,e▸hr⟩
 have hs:zbf W (·<W.heap.size) [ntD s0] [.agg cs0]:=⟨_,_,rfl,hs0,rfl⟩
 clear hA0 hval0
 refine((qtc s0).use (vs:=[.agg cs0]) hs).mono fun e W' ⟨us,fp,he,ho,_,_,bel⟩=>?_
 obtain⟨u,us',f1,f2,rfl,_,⟨rfl,_⟩,hu⟩:=ho
 obtain⟨rfl,_⟩:=hu
 subst he
 exact⟨_,rfl,_,_,_,[],_,[],hW',trodAll_mk1 (shut_bool Tryz.underlying4 _),
  (trodAll_cons_mk (Below.trod zpg Yo (K8 Yo) k0 bel lt0) trodAll_mk0),rfl,bel.frame _,fun h=>by cases h⟩
theorem ql8:(Rows.fnExactNaturalSequentRow.wf (OpenSpec.ofChange Rows.fnExactNaturalSequentSpec))=true:=by kernel_rfl
theorem qn2:(laidOutB Tryz.checked.prog)=true:=by kernel_rfl
theorem qnx:(mapsRowed Tryz.checked.prog)=true:=by kernel_rfl
theorem qp1:(Tryz.f6.params.all (Tryz.checked.prog.readableRec ·))=true:=by kernel_rfl
theorem qq7:(namedTie Tryz.checked.prog Rows.fnExactNaturalSequentRow.named Rows.fnExactNaturalSequentSpec.vars)=true:=by kernel_rfl
theorem qm1:((Rows.fnExactNaturalSequentRow.stops==[]))=true:=by kernel_rfl
theorem qqi:((Tryz.checked.prog.stops==[]))=true:=by kernel_rfl
theorem qph:((Rows.fnExactNaturalSequentRow.knobs==[]))=true:=by kernel_rfl
theorem qp3:((Tryz.checked.prog.stopKnobs==[]))=true:=by kernel_rfl
theorem qnf:((Rows.fnExactNaturalSequentRow.inPlace==Tryz.checked.prog.inPlace 6))=true:=by kernel_rfl
theorem qgk:((Rows.fnExactNaturalSequentRow.unfollowed==Tryz.checked.prog.unfollowed 6))=true:=by kernel_rfl
theorem qf9:((Rows.fnExactNaturalSequentRow.recurses==Tryz.checked.prog.recurses 6))=true:=by kernel_rfl
theorem qkr:((Rows.fnExactNaturalSequentRow.named==Tryz.checked.prog.varsNamed 6))=true:=by kernel_rfl
theorem qls:((Rows.fnExactNaturalSequentRow.maps==(Tryz.f6.params.toList++Rows.fnExactNaturalSequentSpec.plain.varTypes Tryz.checked.prog).any (Tryz.checked.prog.mapsRec ·)))=true:=by kernel_rfl
theorem qfd:((Rows.fnExactNaturalSequentRow.ifaces==(Tryz.f6.params.toList++Rows.fnExactNaturalSequentSpec.plain.varTypes Tryz.checked.prog).any (Tryz.checked.prog.ifacesRec ·)))=true:=by kernel_rfl
theorem qj0:((Rows.fnExactNaturalSequentRow.mapsOut==Tryz.checked.prog.mapsAmong Tryz.f6.resultTypes.toList))=true:=by kernel_rfl
theorem qez:((Rows.fnExactNaturalSequentRow.loops==(Tryz.f6.params.toList++Rows.fnExactNaturalSequentSpec.plain.varTypes Tryz.checked.prog).any (Tryz.checked.prog.loopsFrom ·)))=true:=by kernel_rfl
theorem qku:((Rows.fnExactNaturalSequentRow.wideKeys==(Tryz.f6.params.toList++Rows.fnExactNaturalSequentSpec.plain.varTypes Tryz.checked.prog++Tryz.f6.resultTypes.toList).any (Tryz.checked.prog.wideKeysFrom ·)))=true:=by kernel_rfl
theorem qfl:(Rows.fnExactNaturalSequentSpec.vars.all (Tryz.checked.prog.varReadable ·))=true:=by kernel_rfl
theorem qfg:(Tryz.f6.resultTypes.all (fun t=>Tryz.checked.prog.readableRec t&&decide (t<Tryz.checked.prog.types.size)))=true:=by kernel_rfl
theorem qd1:((Rows.fnExactNaturalSequentRow.ifacesOut==Tryz.f6.resultTypes.toList.any (Tryz.checked.prog.ifacesRec ·)))=true:=by kernel_rfl
theorem qii:((Rows.fnExactNaturalSequentRow.loopsOut==Tryz.f6.resultTypes.toList.any (Tryz.checked.prog.loopsFrom ·)))=true:=by kernel_rfl
theorem qgr:((Rows.fnExactNaturalSequentRow.plainKeys==Tryz.checked.prog.plainKeys))=true:=by kernel_rfl
theorem qcx:(Rows.fnExactNaturalSequentRow.shortTexts.isNone)=true:=by kernel_rfl
theorem qe1:(Tryz.checked.prog.stopsHeard)=true:=by kernel_rfl
theorem qkz:(Tryz.checked.prog.mayEnter)=true:=by kernel_rfl
theorem qeg:((Rows.fnExactNaturalSequentRow.lifted==Tryz.checked.prog.liftsFinal))=true:=by kernel_rfl
theorem qhy:((Tryz.checked.prog.make==some Rows.fnExactNaturalSequentRow.make))=true:=by kernel_rfl
theorem qkk:((Rows.fnExactNaturalSequentRow.kinds==(if Rows.fnExactNaturalSequentRow.domain.isEmpty then []else Tryz.f6.params.toList.map fun t=>match Tryz.checked.prog.underlying t with|some (.int k)=>some k|_=>none)))=true:=by kernel_rfl
theorem qfq:((Rows.fnExactNaturalSequentRow.pinned==Rows.fnExactNaturalSequentRow.pinnedBy))=true:=by kernel_rfl
theorem qlh:((Rows.fnExactNaturalSequentRow.veiled==(Tryz.f6.params.toList++Rows.fnExactNaturalSequentSpec.plain.varTypes Tryz.checked.prog++Tryz.f6.resultTypes.toList).any (Tryz.checked.prog.veiledRec ·)))=true:=by kernel_rfl
theorem qev:(Rows.fnExactNaturalSequentRow.veiledFits Tryz.checked.prog Tryz.f6.params.toList (Tryz.f6.params.toList++Rows.fnExactNaturalSequentSpec.plain.varTypes Tryz.checked.prog++Tryz.f6.resultTypes.toList))=true:=by kernel_rfl
theorem zrk:joinedFacts Tryz.checked.prog 6 Tryz.f6 Rows.fnExactNaturalSequentSpec Rows.fnExactNaturalSequentRow=true:=by
 unfold joinedFacts
 simp only[Qe]
 exact⟨⟨⟨⟨⟨⟨⟨⟨⟨⟨⟨⟨⟨⟨⟨⟨⟨⟨⟨⟨⟨⟨⟨⟨⟨⟨⟨⟨⟨⟨⟨ql8,qn2⟩,qnx⟩,qp1⟩,qq7⟩,qm1⟩,qqi⟩,qph⟩,qp3⟩,qnf⟩,qgk⟩,qf9⟩,qkr⟩,qls⟩,qfd⟩,qj0⟩,qez⟩,qku⟩,qfl⟩,qfg⟩,qd1⟩,qii⟩,qgr⟩,qcx⟩,qe1⟩,qkz⟩,qeg⟩,qhy⟩,qkk⟩,qfq⟩,qlh⟩,qev⟩
theorem naturalSequent_holds:Rows.FnExactNaturalSequentSaid :=
 OpenClaim.holds_of_wide 6 Tryz.f6 rfl rfl rfl rfl rfl rfl rfl ⟨rfl,rfl,rfl,rfl,rfl⟩ rfl rfl rfl rfl rfl Yo Tryz.func6 zrk
  (K8 Yo) (by unfold Func.isWrapper;rw[if_neg (J6 Yo)];exact⟨rfl,rfl⟩)
  (fun os started H enc _=>zsd os started H enc)
#print axioms naturalSequent_holds
end Go.Proofs.YtnemmlahbbbobaaGreat
