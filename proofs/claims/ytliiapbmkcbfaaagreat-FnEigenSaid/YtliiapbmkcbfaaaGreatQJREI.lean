/-
  FnEigen returns true for all arguments, and its arguments read afterwards as they read before.
  Conditions: none.
-/
import Derived.Test.YtliiapbmkcbfaaaGreatRows
import Derived.Test.YtliiapbmkcbfaaaGreatQJ1
import Derived.Test.YtliiapbmkcbfaaaGreatQJ4
import Derived.Test.YtliiapbmkcbfaaaGreatQJ5
import Derived.Test.YtliiapbmkcbfaaaGreatQJ11
import Derived.ProofKit
import Derived.OpenShut
import Derived.ShutString
import Derived.ChangeOld
namespace Go.Proofs.YtliiapbmkcbfaaaGreat
set_option linter.unusedSimpArgs false
set_option linter.unusedVariables false
set_option linter.unusedSectionVars false
set_option maxRecDepth 4000
open Go.ChangeShapes Go.WideShapes Go.ChangeAt Go.RowKit
theorem qcg:ownKnob Tryz.prog.godebug=none:=by kernel_rfl
theorem znn:laidOutB Tryz.prog=true:=by kernel_rfl
def zio (t:TypeId):Bool:=t==5||t==59
theorem zod:∀t,zio t=true->qbg Tryz.prog zio t=true:=by
 intro t h
 simp only[zio,Jl,Ko]at h
 rcases h with rfl|rfl<;>kernel_rfl
set_option maxRecDepth 100000 in
theorem zpw (os:Os)(started:os.Started)(H:Type)(enc:TypeId×Value->H) :
  ReturnsInHanded {} Tryz.checked os 5 .any (Rows.fnEigenSpec.pre6 enc Tryz.prog Tryz.f5 Rows.fnEigenRow.domain false)
   (Rows.fnEigenSpec.post enc Tryz.prog Tryz.f5 false true false false):=by
 refine returnsInHanded_of_change (C:=Tryz.checked) qcg started Ys Tryz.func5
  (ChangeSpec.witness6 (enc:=enc) (C:=Tryz.checked) false ⟨#[],#[.slice none 0 0],[]⟩ 8 Ys Ys Ys Ys) ?_
 intro W base args ds gs before hval0 hW hcnd _
 have hval:∀(j:Nat) t v,Tryz.f5.params[j]?=some t->args[j]?=some v->Value.okWide Tryz.prog W .any base t v:=hval0
 have hW':=hW
 obtain⟨p,q,hA0,hV,rfl,hfz,hnd⟩:=hW
 have hA:DataW.TrodAll enc Tryz.prog W 0 (fun _=>true) true Tryz.f5.params.toList args.toList ds p:=hA0
 rw[Tryz.params5]at hA hval
 obtain⟨v0,vs0,d0,ds0,p0,q0,hargs,rfl,rfl,h0,r0⟩:=trodAll_cons hA
 obtain⟨rfl,rfl,rfl⟩:=trodAll_nil r0
 obtain rfl:args=#[v0]:=by cases args;simp_all
 obtain⟨rfl,rfl⟩:=trodVars_none hV
 have k0:=h0
 have lt0:∀x∈p0,x.block<W.heap.size:=by obtain⟨m,hm⟩:=k0;exact DataW.trod_lt m _ _ _ hm
 obtain⟨sa0,sb0,sc0,rfl⟩:=okWide_slice Tryz.underlying59 (hval 0 59 v0 rfl rfl)
 obtain⟨s0,hs0⟩:∃s:(List UInt8),zys W (·<W.heap.size) (bsD s) (.slice sa0 sb0 sc0):=by
  obtain⟨m,hm⟩:=h0;obtain⟨d,hr,hs⟩:=zsp zod m _ _ _ (by rfl) hm;obtain⟨s,e⟩:=qgg hs;rw[e]at hr;obtain⟨v',vs',e1,e2,_⟩:=hr;cases e1;exact⟨s,e2⟩
 have hs:zbv W (·<W.heap.size) [bsD s0] [.slice sa0 sb0 sc0]:=⟨_,_,rfl,hs0,rfl⟩
 clear hA0 hval0
 refine((qi9 s0).use (vs:=[.slice sa0 sb0 sc0]) hs).mono fun e W' ⟨us,fp,he,ho,_,_,bel⟩=>?_
 obtain⟨u,us',f1,f2,rfl,_,⟨rfl,_⟩,hu⟩:=ho
 obtain⟨rfl,_⟩:=hu
 subst he
 exact⟨_,rfl,_,_,_,[],_,[],hW',trodAll_mk1 (shut_bool Tryz.underlying4 _),
  (trodAll_cons_mk (Below.trod znn Ys (Jm Ys) k0 bel lt0) trodAll_mk0),rfl,bel.frame _,fun h=>by cases h⟩
theorem qgc:(Rows.fnEigenRow.wf (OpenSpec.ofChange Rows.fnEigenSpec))=true:=by kernel_rfl
theorem qi1:(laidOutB Tryz.checked.prog)=true:=by kernel_rfl
theorem qfk:(mapsRowed Tryz.checked.prog)=true:=by kernel_rfl
theorem qim:(Tryz.f5.params.all (Tryz.checked.prog.readableRec ·))=true:=by kernel_rfl
theorem qf4:(namedTie Tryz.checked.prog Rows.fnEigenRow.named Rows.fnEigenSpec.vars)=true:=by kernel_rfl
theorem qjg:((Rows.fnEigenRow.stops==[]))=true:=by kernel_rfl
theorem qjl:((Tryz.checked.prog.stops==[]))=true:=by kernel_rfl
theorem qir:((Rows.fnEigenRow.knobs==[]))=true:=by kernel_rfl
theorem qfi:((Tryz.checked.prog.stopKnobs==[]))=true:=by kernel_rfl
theorem qit:((Rows.fnEigenRow.inPlace==Tryz.checked.prog.inPlace 5))=true:=by kernel_rfl
theorem qaj:((Rows.fnEigenRow.unfollowed==Tryz.checked.prog.unfollowed 5))=true:=by kernel_rfl
theorem qai:((Rows.fnEigenRow.recurses==Tryz.checked.prog.recurses 5))=true:=by kernel_rfl
theorem qb1:((Rows.fnEigenRow.named==Tryz.checked.prog.varsNamed 5))=true:=by kernel_rfl
theorem zze:((Rows.fnEigenRow.maps==(Tryz.f5.params.toList++Rows.fnEigenSpec.plain.varTypes Tryz.checked.prog).any (Tryz.checked.prog.mapsRec ·)))=true:=by kernel_rfl
theorem zy6:((Rows.fnEigenRow.ifaces==(Tryz.f5.params.toList++Rows.fnEigenSpec.plain.varTypes Tryz.checked.prog).any (Tryz.checked.prog.ifacesRec ·)))=true:=by kernel_rfl
theorem zzk:((Rows.fnEigenRow.mapsOut==Tryz.checked.prog.mapsAmong Tryz.f5.resultTypes.toList))=true:=by kernel_rfl
theorem qce:((Rows.fnEigenRow.loops==(Tryz.f5.params.toList++Rows.fnEigenSpec.plain.varTypes Tryz.checked.prog).any (Tryz.checked.prog.loopsFrom ·)))=true:=by kernel_rfl
theorem qbc:((Rows.fnEigenRow.wideKeys==(Tryz.f5.params.toList++Rows.fnEigenSpec.plain.varTypes Tryz.checked.prog++Tryz.f5.resultTypes.toList).any (Tryz.checked.prog.wideKeysFrom ·)))=true:=by kernel_rfl
theorem qak:(Rows.fnEigenSpec.vars.all (Tryz.checked.prog.varReadable ·))=true:=by kernel_rfl
theorem qe1:(Tryz.f5.resultTypes.all (fun t=>Tryz.checked.prog.readableRec t&&decide (t<Tryz.checked.prog.types.size)))=true:=by kernel_rfl
theorem qbx:((Rows.fnEigenRow.ifacesOut==Tryz.f5.resultTypes.toList.any (Tryz.checked.prog.ifacesRec ·)))=true:=by kernel_rfl
theorem qet:((Rows.fnEigenRow.loopsOut==Tryz.f5.resultTypes.toList.any (Tryz.checked.prog.loopsFrom ·)))=true:=by kernel_rfl
theorem qdw:((Rows.fnEigenRow.plainKeys==Tryz.checked.prog.plainKeys))=true:=by kernel_rfl
theorem qdt:(Rows.fnEigenRow.shortTexts.isNone)=true:=by kernel_rfl
theorem qdg:(Tryz.checked.prog.stopsHeard)=true:=by kernel_rfl
theorem qep:(Tryz.checked.prog.mayEnter)=true:=by kernel_rfl
theorem qdf:((Rows.fnEigenRow.lifted==Tryz.checked.prog.liftsFinal))=true:=by kernel_rfl
theorem zzo:((Tryz.checked.prog.make==some Rows.fnEigenRow.make))=true:=by kernel_rfl
theorem qat:((Rows.fnEigenRow.kinds==(if Rows.fnEigenRow.domain.isEmpty then []else Tryz.f5.params.toList.map fun t=>match Tryz.checked.prog.underlying t with|some (.int k)=>some k|_=>none)))=true:=by kernel_rfl
theorem qa7:((Rows.fnEigenRow.pinned==Rows.fnEigenRow.pinnedBy))=true:=by kernel_rfl
theorem qad:((Rows.fnEigenRow.veiled==(Tryz.f5.params.toList++Rows.fnEigenSpec.plain.varTypes Tryz.checked.prog++Tryz.f5.resultTypes.toList).any (Tryz.checked.prog.veiledRec ·)))=true:=by kernel_rfl
theorem qbj:(Rows.fnEigenRow.veiledFits Tryz.checked.prog Tryz.f5.params.toList (Tryz.f5.params.toList++Rows.fnEigenSpec.plain.varTypes Tryz.checked.prog++Tryz.f5.resultTypes.toList))=true:=by kernel_rfl
theorem zq8:joinedFacts Tryz.checked.prog 5 Tryz.f5 Rows.fnEigenSpec Rows.fnEigenRow=true:=by
 unfold joinedFacts
 simp only[Qc]
 exact⟨⟨⟨⟨⟨⟨⟨⟨⟨⟨⟨⟨⟨⟨⟨⟨⟨⟨⟨⟨⟨⟨⟨⟨⟨⟨⟨⟨⟨⟨⟨qgc,qi1⟩,qfk⟩,qim⟩,qf4⟩,qjg⟩,qjl⟩,qir⟩,qfi⟩,qit⟩,qaj⟩,qai⟩,qb1⟩,zze⟩,zy6⟩,zzk⟩,qce⟩,qbc⟩,qak⟩,qe1⟩,qbx⟩,qet⟩,qdw⟩,qdt⟩,qdg⟩,qep⟩,qdf⟩,zzo⟩,qat⟩,qa7⟩,qad⟩,qbj⟩
theorem eigen_holds:Rows.FnEigenSaid :=
 OpenClaim.holds_of_wide 5 Tryz.f5 rfl rfl rfl rfl rfl rfl rfl ⟨rfl,rfl,rfl,rfl,rfl⟩ rfl rfl rfl rfl rfl Ys Tryz.func5 zq8
  (Jm Ys) (by unfold Func.isWrapper;rw[if_neg (of_decide_eq_false Ys)];exact⟨rfl,rfl⟩)
  (fun os started H enc _=>zpw os started H enc)
#print axioms eigen_holds
end Go.Proofs.YtliiapbmkcbfaaaGreat
