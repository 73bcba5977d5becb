/-
  FnPremises returns true for all arguments, and its arguments read afterwards as they read before.
  Conditions: none.
-/
import Derived.Test.YtpcmmboblbjpfaaGreatRows
import Derived.Test.YtpcmmboblbjpfaaGreatQP1
import Derived.Test.YtpcmmboblbjpfaaGreatQP4
import Derived.Test.YtpcmmboblbjpfaaGreatQP5
import Derived.Test.YtpcmmboblbjpfaaGreatQP11
import Derived.ProofKit
import Derived.OpenShut
import Derived.ShutString
import Derived.ChangeOld
namespace Go.Proofs.YtpcmmboblbjpfaaGreat
set_option linter.unusedSimpArgs false
set_option linter.unusedVariables false
set_option linter.unusedSectionVars false
set_option maxRecDepth 4000
open Go.ChangeShapes Go.WideShapes Go.ChangeAt Go.RowKit
theorem zxl:ownKnob Tryz.prog.godebug=none:=by kernel_rfl
theorem zn4:laidOutB Tryz.prog=true:=by kernel_rfl
def zh9 (t:TypeId):Bool:=t==5||t==22
theorem znn:∀t,zh9 t=true->zz5 Tryz.prog zh9 t=true:=by
 intro t h
 simp only[zh9,K7,Kr]at h
 rcases h with rfl|rfl<;>kernel_rfl
set_option maxRecDepth 100000 in
theorem zqp (os:Os)(started:os.Started)(H:Type)(enc:TypeId×Value->H) :
  ReturnsInHanded {} Tryz.checked os 3 .any (Rows.fnPremisesSpec.pre6 enc Tryz.prog Tryz.f3 Rows.fnPremisesRow.domain false)
   (Rows.fnPremisesSpec.post enc Tryz.prog Tryz.f3 false true false false):=by
 refine returnsInHanded_of_change (C:=Tryz.checked) zxl started Yn Tryz.func3
  (ChangeSpec.witness6 (enc:=enc) (C:=Tryz.checked) false ⟨#[],#[.slice none 0 0],[]⟩ 8 Yn Yn Yn Yn) ?_
 intro W base args ds gs before hval0 hW hcnd _
 have hval:∀(j:Nat) t v,Tryz.f3.params[j]?=some t->args[j]?=some v->Value.okWide Tryz.prog W .any base t v:=hval0
 have hW':=hW
 obtain⟨p,q,hA0,hV,rfl,hfz,hnd⟩:=hW
 have hA:DataW.TrodAll enc Tryz.prog W 0 (fun _=>true) true Tryz.f3.params.toList args.toList ds p:=hA0
 rw[Tryz.params3]at hA hval
 obtain⟨v0,vs0,d0,ds0,p0,q0,hargs,rfl,rfl,h0,r0⟩:=trodAll_cons hA
 obtain⟨rfl,rfl,rfl⟩:=trodAll_nil r0
 obtain rfl:args=#[v0]:=by cases args;simp_all
 obtain⟨rfl,rfl⟩:=trodVars_none hV
 have k0:=h0
 have lt0:∀x∈p0,x.block<W.heap.size:=by obtain⟨m,hm⟩:=k0;exact DataW.trod_lt m _ _ _ hm
 obtain⟨sa0,sb0,sc0,rfl⟩:=okWide_slice Tryz.underlying22 (hval 0 22 v0 rfl rfl)
 obtain⟨s0,hs0⟩:∃s:(List UInt8),zw9 W (·<W.heap.size) (bsD s) (.slice sa0 sb0 sc0):=by
  obtain⟨m,hm⟩:=h0;obtain⟨d,hr,hs⟩:=zsb znn m _ _ _ (by rfl) hm;obtain⟨s,e⟩:=qfm hs;rw[e]at hr;obtain⟨v',vs',e1,e2,_⟩:=hr;cases e1;exact⟨s,e2⟩
 have hs:zb1 W (·<W.heap.size) [bsD s0] [.slice sa0 sb0 sc0]:=⟨_,_,rfl,hs0,rfl⟩
 clear hA0 hval0
 refine((qlm s0).use (vs:=[.slice sa0 sb0 sc0]) hs).mono fun e W' ⟨us,fp,he,ho,_,_,bel⟩=>?_
 obtain⟨u,us',f1,f2,rfl,_,⟨rfl,_⟩,hu⟩:=ho
 obtain⟨rfl,_⟩:=hu
 subst he
 exact⟨_,rfl,_,_,_,[],_,[],hW',trodAll_mk1 (shut_bool Tryz.underlying4 _),
  (trodAll_cons_mk (Below.trod zn4 Yn (Jj Yn) k0 bel lt0) trodAll_mk0),rfl,bel.frame _,fun h=>by cases h⟩
theorem qei:(Rows.fnPremisesRow.wf (OpenSpec.ofChange Rows.fnPremisesSpec))=true:=by kernel_rfl
theorem qex:(laidOutB Tryz.checked.prog)=true:=by kernel_rfl
theorem qfv:(mapsRowed Tryz.checked.prog)=true:=by kernel_rfl
theorem qeg:(Tryz.f3.params.all (Tryz.checked.prog.readableRec ·))=true:=by kernel_rfl
theorem qd5:(namedTie Tryz.checked.prog Rows.fnPremisesRow.named Rows.fnPremisesSpec.vars)=true:=by kernel_rfl
theorem qgb:((Rows.fnPremisesRow.stops==[]))=true:=by kernel_rfl
theorem qep:((Tryz.checked.prog.stops==[]))=true:=by kernel_rfl
theorem qgl:((Rows.fnPremisesRow.knobs==[]))=true:=by kernel_rfl
theorem qf8:((Tryz.checked.prog.stopKnobs==[]))=true:=by kernel_rfl
theorem qfu:((Rows.fnPremisesRow.inPlace==Tryz.checked.prog.inPlace 3))=true:=by kernel_rfl
theorem qcy:((Rows.fnPremisesRow.unfollowed==Tryz.checked.prog.unfollowed 3))=true:=by kernel_rfl
theorem qbe:((Rows.fnPremisesRow.recurses==Tryz.checked.prog.recurses 3))=true:=by kernel_rfl
theorem zzb:((Rows.fnPremisesRow.named==Tryz.checked.prog.varsNamed 3))=true:=by kernel_rfl
theorem zzk:((Rows.fnPremisesRow.maps==(Tryz.f3.params.toList++Rows.fnPremisesSpec.plain.varTypes Tryz.checked.prog).any (Tryz.checked.prog.mapsRec ·)))=true:=by kernel_rfl
theorem zym:((Rows.fnPremisesRow.ifaces==(Tryz.f3.params.toList++Rows.fnPremisesSpec.plain.varTypes Tryz.checked.prog).any (Tryz.checked.prog.ifacesRec ·)))=true:=by kernel_rfl
theorem zxx:((Rows.fnPremisesRow.mapsOut==Tryz.checked.prog.mapsAmong Tryz.f3.resultTypes.toList))=true:=by kernel_rfl
theorem zxe:((Rows.fnPremisesRow.loops==(Tryz.f3.params.toList++Rows.fnPremisesSpec.plain.varTypes Tryz.checked.prog).any (Tryz.checked.prog.loopsFrom ·)))=true:=by kernel_rfl
theorem zyt:((Rows.fnPremisesRow.wideKeys==(Tryz.f3.params.toList++Rows.fnPremisesSpec.plain.varTypes Tryz.checked.prog++Tryz.f3.resultTypes.toList).any (Tryz.checked.prog.wideKeysFrom ·)))=true:=by kernel_rfl
theorem zyo:(Rows.fnPremisesSpec.vars.all (Tryz.checked.prog.varReadable ·))=true:=by kernel_rfl
theorem zye:(Tryz.f3.resultTypes.all (fun t=>Tryz.checked.prog.readableRec t&&decide (t<Tryz.checked.prog.types.size)))=true:=by kernel_rfl
theorem qal:((Rows.fnPremisesRow.ifacesOut==Tryz.f3.resultTypes.toList.any (Tryz.checked.prog.ifacesRec ·)))=true:=by kernel_rfl
theorem qcl:((Rows.fnPremisesRow.loopsOut==Tryz.f3.resultTypes.toList.any (Tryz.checked.prog.loopsFrom ·)))=true:=by kernel_rfl
theorem zze:((Rows.fnPremisesRow.plainKeys==Tryz.checked.prog.plainKeys))=true:=by kernel_rfl
theorem zzj:(Rows.fnPremisesRow.shortTexts.isNone)=true:=by kernel_rfl
theorem zyq:(Tryz.checked.prog.stopsHeard)=true:=by kernel_rfl
theorem zzr:(Tryz.checked.prog.mayEnter)=true:=by kernel_rfl
theorem qbq:((Rows.fnPremisesRow.lifted==Tryz.checked.prog.liftsFinal))=true:=by kernel_rfl
theorem qag:((Tryz.checked.prog.make==some Rows.fnPremisesRow.make))=true:=by kernel_rfl
theorem qb9:((Rows.fnPremisesRow.kinds==(if Rows.fnPremisesRow.domain.isEmpty then []else Tryz.f3.params.toList.map fun t=>match Tryz.checked.prog.underlying t with|some (.int k)=>some k|_=>none)))=true:=by kernel_rfl
theorem qb4:((Rows.fnPremisesRow.pinned==Rows.fnPremisesRow.pinnedBy))=true:=by kernel_rfl
theorem zzu:((Rows.fnPremisesRow.veiled==(Tryz.f3.params.toList++Rows.fnPremisesSpec.plain.varTypes Tryz.checked.prog++Tryz.f3.resultTypes.toList).any (Tryz.checked.prog.veiledRec ·)))=true:=by kernel_rfl
theorem qaq:(Rows.fnPremisesRow.veiledFits Tryz.checked.prog Tryz.f3.params.toList (Tryz.f3.params.toList++Rows.fnPremisesSpec.plain.varTypes Tryz.checked.prog++Tryz.f3.resultTypes.toList))=true:=by kernel_rfl
theorem zor:joinedFacts Tryz.checked.prog 3 Tryz.f3 Rows.fnPremisesSpec Rows.fnPremisesRow=true:=by
 unfold joinedFacts
 simp only[Qb]
 exact⟨⟨⟨⟨⟨⟨⟨⟨⟨⟨⟨⟨⟨⟨⟨⟨⟨⟨⟨⟨⟨⟨⟨⟨⟨⟨⟨⟨⟨⟨⟨qei,qex⟩,qfv⟩,qeg⟩,qd5⟩,qgb⟩,qep⟩,qgl⟩,qf8⟩,qfu⟩,qcy⟩,qbe⟩,zzb⟩,zzk⟩,zym⟩,zxx⟩,zxe⟩,zyt⟩,zyo⟩,zye⟩,qal⟩,qcl⟩,zze⟩,zzj⟩,zyq⟩,zzr⟩,qbq⟩,qag⟩,qb9⟩,qb4⟩,zzu⟩,qaq⟩
theorem premises_holds:Rows.FnPremisesSaid :=
 OpenClaim.holds_of_wide 3 Tryz.f3 rfl rfl rfl rfl rfl rfl rfl ⟨rfl,rfl,rfl,rfl,rfl⟩ rfl rfl rfl rfl rfl Yn Tryz.func3 zor
  (Jj Yn) (by unfold Func.isWrapper;rw[if_neg (of_decide_eq_false Yn)];exact⟨rfl,rfl⟩)
  (fun os started H enc _=>zqp os started H enc)
#print axioms premises_holds
end Go.Proofs.YtpcmmboblbjpfaaGreat
