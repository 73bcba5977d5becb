/-
  FnExactInsertProof returns true for all arguments, and its arguments read afterwards as they read before.
  Conditions: none.
-/
import Derived.Test.YtnemmlahbbbobaaGreatRows
import Derived.Test.YtnemmlahbbbobaaGreatQR1
import Derived.Test.YtnemmlahbbbobaaGreatQR5
import Derived.Test.YtnemmlahbbbobaaGreatQR12
import Derived.ProofKit
import Derived.OpenShut
import Derived.ShutString
import Derived.ChangeOld
namespace Go.Proofs.YtnemmlahbbbobaaGreat
set_option linter.unusedSimpArgs false
set_option linter.unusedVariables false
set_option linter.unusedSectionVars false
set_option maxRecDepth 4000
open Go.ChangeShapes Go.WideShapes Go.ChangeAt Go.RowKit
theorem qdu:ownKnob Tryz.prog.godebug=none:=by kernel_rfl
theorem zgj:laidOutB Tryz.prog=true:=by kernel_rfl
def zj5 (t:TypeId):Bool:=t==3||t==9||t==24||t==22||t==27||t==25||t==30||t==28
theorem zgp:∀t,zj5 t=true->zus Tryz.prog zj5 t=true:=by
 intro t h
 simp only[zj5,K1,Q9]at h
 rcases h with((((((rfl|rfl)|rfl)|rfl)|rfl)|rfl)|rfl)|rfl<;>kernel_rfl
set_option maxRecDepth 100000 in
theorem zs3 (os:Os)(started:os.Started)(H:Type)(enc:TypeId×Value->H) :
  ReturnsInHanded {} Tryz.checked os 8 .any (Rows.fnExactInsertProofSpec.pre6 enc Tryz.prog Tryz.f8 Rows.fnExactInsertProofRow.domain false)
   (Rows.fnExactInsertProofSpec.post enc Tryz.prog Tryz.f8 false true false false):=by
 refine returnsInHanded_of_change (C:=Tryz.checked) qdu started Yz Tryz.func8
  (ChangeSpec.witness6 (enc:=enc) (C:=Tryz.checked) false ⟨#[],#[.agg #[.int .i64 0,.int .i64 0,.string .empty,.slice none 0 0,.string .empty,.slice none 0 0,.int .i64 0,.string .empty,.slice none 0 0,.slice none 0 0],.int .i64 0,.agg #[.int .i64 0,.int .i64 0,.string .empty,.slice none 0 0,.string .empty,.slice none 0 0,.int .i64 0,.string .empty,.slice none 0 0,.slice none 0 0]],[]⟩ 8 Yz Yz Yz Yz) ?_
 intro W base args ds gs before hval0 hW hcnd _
 have hval:∀(j:Nat) t v,Tryz.f8.params[j]?=some t->args[j]?=some v->Value.okWide Tryz.prog W .any base t v:=hval0
 have hW':=hW
 obtain⟨p,q,hA0,hV,rfl,hfz,hnd⟩:=hW
 have hA:DataW.TrodAll enc Tryz.prog W 0 (λ_=>true) true Tryz.f8.params.toList args.toList ds p:=hA0
 rw[Tryz.params8]at hA hval
 obtain⟨v0,vs0,d0,ds0,p0,q0,hargs,rfl,rfl,h0,r0⟩:=trodAll_cons hA
 obtain⟨v1,vs1,d1,ds1,p1,q1,rfl,rfl,rfl,h1,r1⟩:=trodAll_cons r0
 obtain⟨v2,vs2,d2,ds2,p2,q2,rfl,rfl,rfl,h2,r2⟩:=trodAll_cons r1
 obtain⟨rfl,rfl,rfl⟩:=trodAll_nil r2
 obtain rfl:args=#[v0,v1,v2]:=by cases args;simp_all
 obtain⟨rfl,rfl⟩:=trodVars_none hV
 have k0:=h0
 have k1:=h1
 have k2:=h2
 have lt0:∀x∈p0,x.block<W.heap.size:=by obtain⟨m,hm⟩:=k0;exact DataW.trod_lt m _ _ _ hm
 have lt1:∀x∈p1,x.block<W.heap.size:=by obtain⟨m,hm⟩:=k1;exact DataW.trod_lt m _ _ _ hm
 have lt2:∀x∈p2,x.block<W.heap.size:=by obtain⟨m,hm⟩:=k2;exact DataW.trod_lt m _ _ _ hm
 obtain⟨cs0,rfl,_⟩:=okWide_struct Tryz.underlying30 (hval 0 30 v0 rfl rfl)
 obtain⟨s1,rfl⟩:=okWide_int Tryz.underlying3 (hval 1 3 v1 rfl rfl)
 obtain⟨cs2,rfl,_⟩:=okWide_struct Tryz.underlying30 (hval 2 30 v2 rfl rfl)
 obtain⟨s0,hs0⟩:∃s:Nt,zsb W (·<W.heap.size) (ntD s) (.agg cs0):=by
  obtain⟨m,hm⟩:=h0;obtain⟨d,hr,hs⟩:=zee zgp m _ _ _ (by rfl) hm;obtain⟨s,e⟩:=zhz _ hs;exact⟨s,cs0.toList,rfl,e▸hr⟩
 have hs1:zsb W (·<W.heap.size) (iD s1) (.int .i64 s1):=by
  obtain⟨m,hm⟩:=h1;obtain⟨d,hr,hs⟩:=zee zgp m _ _ _ (by rfl) hm;obtain⟨z,rfl⟩:=hs.int Tryz.underlying3;obtain⟨v',vs',e1,e2,_⟩:=(show zag W (·<W.heap.size) [.int .i64 z] [.int .i64 s1] from hr);cases e1;have e3:=e2;unfold zau at e3;obtain⟨e4,_⟩:=e3;cases e4;exact e2
 obtain⟨s2,hs2⟩:∃s:Nt,zsb W (·<W.heap.size) (ntD s) (.agg cs2):=by
  obtain⟨m,hm⟩:=h2;obtain⟨d,hr,hs⟩:=zee zgp m _ _ _ (by rfl) hm;obtain⟨s,e⟩:=zhz _ hs;exact⟨s,cs2.toList,rfl,e▸hr⟩
 have hs:zbn W (·<W.heap.size) [ntD s0,iD s1,ntD s2] [.agg cs0,.int .i64 s1,.agg cs2]:=⟨_,_,rfl,hs0,_,_,rfl,hs1,_,_,rfl,hs2,rfl⟩
 clear hA0 hval0
 refine((quy s0 s1 s2).use (vs:=[.agg cs0,.int .i64 s1,.agg cs2]) hs).mono λe W' ⟨us,fp,he,ho,_,_,bel⟩=>?_
 obtain⟨u,us',f1,f2,rfl,_,⟨rfl,_⟩,hu⟩:=ho
 obtain⟨rfl,_⟩:=hu
 subst he
 exact⟨_,rfl,_,_,_,[],_,[],hW',trodAll_mk1 (shut_bool Tryz.underlying4 _),
  (trodAll_cons_mk (Below.trod zgj Yz (Jc Yz) k0 bel lt0) (trodAll_cons_mk (Below.trod zgj Yz (Jc Yz) k1 bel lt1) (trodAll_cons_mk (Below.trod zgj Yz (Jc Yz) k2 bel lt2) trodAll_mk0))),rfl,bel.frame _,λh=>by cases h⟩
theorem qo7:(Rows.fnExactInsertProofRow.wf (OpenSpec.ofChange Rows.fnExactInsertProofSpec))=true:=by kernel_rfl
theorem qlt:(laidOutB Tryz.checked.prog)=true:=by kernel_rfl
theorem qlx:(mapsRowed Tryz.checked.prog)=true:=by kernel_rfl
theorem qnd:(Tryz.f8.params.all (Tryz.checked.prog.readableRec ·))=true:=by kernel_rfl
theorem qns:(namedTie Tryz.checked.prog Rows.fnExactInsertProofRow.named Rows.fnExactInsertProofSpec.vars)=true:=by kernel_rfl
theorem qpu:((Rows.fnExactInsertProofRow.stops==[]))=true:=by kernel_rfl
theorem qof:((Tryz.checked.prog.stops==[]))=true:=by kernel_rfl
theorem qmo:((Rows.fnExactInsertProofRow.knobs==[]))=true:=by kernel_rfl
theorem qov:((Tryz.checked.prog.stopKnobs==[]))=true:=by kernel_rfl
theorem qng:((Rows.fnExactInsertProofRow.inPlace==Tryz.checked.prog.inPlace 8))=true:=by kernel_rfl
theorem qgh:((Rows.fnExactInsertProofRow.unfollowed==Tryz.checked.prog.unfollowed 8))=true:=by kernel_rfl
theorem qg0:((Rows.fnExactInsertProofRow.recurses==Tryz.checked.prog.recurses 8))=true:=by kernel_rfl
theorem qix:((Rows.fnExactInsertProofRow.named==Tryz.checked.prog.varsNamed 8))=true:=by kernel_rfl
theorem qgl:((Rows.fnExactInsertProofRow.maps==(Tryz.f8.params.toList++Rows.fnExactInsertProofSpec.plain.varTypes Tryz.checked.prog).any (Tryz.checked.prog.mapsRec ·)))=true:=by kernel_rfl
theorem qla:((Rows.fnExactInsertProofRow.ifaces==(Tryz.f8.params.toList++Rows.fnExactInsertProofSpec.plain.varTypes Tryz.checked.prog).any (Tryz.checked.prog.ifacesRec ·)))=true:=by kernel_rfl
theorem qh9:((Rows.fnExactInsertProofRow.mapsOut==Tryz.checked.prog.mapsAmong Tryz.f8.resultTypes.toList))=true:=by kernel_rfl
theorem qjf:((Rows.fnExactInsertProofRow.loops==(Tryz.f8.params.toList++Rows.fnExactInsertProofSpec.plain.varTypes Tryz.checked.prog).any (Tryz.checked.prog.loopsFrom ·)))=true:=by kernel_rfl
theorem qff:((Rows.fnExactInsertProofRow.wideKeys==(Tryz.f8.params.toList++Rows.fnExactInsertProofSpec.plain.varTypes Tryz.checked.prog++Tryz.f8.resultTypes.toList).any (Tryz.checked.prog.wideKeysFrom ·)))=true:=by kernel_rfl
theorem qfs:(Rows.fnExactInsertProofSpec.vars.all (Tryz.checked.prog.varReadable ·))=true:=by kernel_rfl
theorem qi1:(Tryz.f8.resultTypes.all (λt=>Tryz.checked.prog.readableRec t&&decide (t<Tryz.checked.prog.types.size)))=true:=by kernel_rfl
theorem qem:((Rows.fnExactInsertProofRow.ifacesOut==Tryz.f8.resultTypes.toList.any (Tryz.checked.prog.ifacesRec ·)))=true:=by kernel_rfl
theorem qj8:((Rows.fnExactInsertProofRow.loopsOut==Tryz.f8.resultTypes.toList.any (Tryz.checked.prog.loopsFrom ·)))=true:=by kernel_rfl
theorem qhj:((Rows.fnExactInsertProofRow.plainKeys==Tryz.checked.prog.plainKeys))=true:=by kernel_rfl
theorem qdv:(Rows.fnExactInsertProofRow.shortTexts.isNone)=true:=by kernel_rfl
theorem qhr:(Tryz.checked.prog.stopsHeard)=true:=by kernel_rfl
theorem qjk:(Tryz.checked.prog.mayEnter)=true:=by kernel_rfl
theorem qjr:((Rows.fnExactInsertProofRow.lifted==Tryz.checked.prog.liftsFinal))=true:=by kernel_rfl
theorem qk3:((Tryz.checked.prog.make==some Rows.fnExactInsertProofRow.make))=true:=by kernel_rfl
theorem qka:((Rows.fnExactInsertProofRow.kinds==(if Rows.fnExactInsertProofRow.domain.isEmpty then []else Tryz.f8.params.toList.map λt=>match Tryz.checked.prog.underlying t with|some (.int k)=>some k|_=>none)))=true:=by kernel_rfl
theorem qf2:((Rows.fnExactInsertProofRow.pinned==Rows.fnExactInsertProofRow.pinnedBy))=true:=by kernel_rfl
theorem qit:((Rows.fnExactInsertProofRow.veiled==(Tryz.f8.params.toList++Rows.fnExactInsertProofSpec.plain.varTypes Tryz.checked.prog++Tryz.f8.resultTypes.toList).any (Tryz.checked.prog.veiledRec ·)))=true:=by kernel_rfl
theorem qk4:(Rows.fnExactInsertProofRow.veiledFits Tryz.checked.prog Tryz.f8.params.toList (Tryz.f8.params.toList++Rows.fnExactInsertProofSpec.plain.varTypes Tryz.checked.prog++Tryz.f8.resultTypes.toList))=true:=by kernel_rfl
theorem ztg:joinedFacts Tryz.checked.prog 8 Tryz.f8 Rows.fnExactInsertProofSpec Rows.fnExactInsertProofRow=true:=by
 unfold joinedFacts
 simp only[Qb]
 exact⟨⟨⟨⟨⟨⟨⟨⟨⟨⟨⟨⟨⟨⟨⟨⟨⟨⟨⟨⟨⟨⟨⟨⟨⟨⟨⟨⟨⟨⟨⟨qo7,qlt⟩,qlx⟩,qnd⟩,qns⟩,qpu⟩,qof⟩,qmo⟩,qov⟩,qng⟩,qgh⟩,qg0⟩,qix⟩,qgl⟩,qla⟩,qh9⟩,qjf⟩,qff⟩,qfs⟩,qi1⟩,qem⟩,qj8⟩,qhj⟩,qdv⟩,qhr⟩,qjk⟩,qjr⟩,qk3⟩,qka⟩,qf2⟩,qit⟩,qk4⟩
theorem insertProof_holds:Rows.FnExactInsertProofSaid :=
 OpenClaim.holds_of_wide 8 Tryz.f8 rfl rfl rfl rfl rfl rfl rfl ⟨rfl,rfl,rfl,rfl,rfl⟩ rfl rfl rfl rfl rfl Yz Tryz.func8 ztg
  (Jc Yz) (by unfold Func.isWrapper;rw[if_neg (of_decide_eq_false Yz)];exact⟨rfl,rfl⟩)
  (λos started H enc _=>zs3 os started H enc)
#print axioms insertProof_holds
end Go.Proofs.YtnemmlahbbbobaaGreat
