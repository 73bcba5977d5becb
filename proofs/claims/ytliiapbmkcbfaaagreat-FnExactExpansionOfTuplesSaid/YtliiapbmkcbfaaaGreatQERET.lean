/-
  FnExactExpansionOfTuples returns true for all arguments, and its arguments read afterwards as they read before.
  Conditions: none.
-/
import Derived.Test.YtliiapbmkcbfaaaGreatRows
import Derived.Test.YtliiapbmkcbfaaaGreatQE1
import Derived.Test.YtliiapbmkcbfaaaGreatQE5
import Derived.Test.YtliiapbmkcbfaaaGreatQE9
import Derived.Test.YtliiapbmkcbfaaaGreatQE10
import Derived.ProofKit
import Derived.OpenShut
import Derived.ShutString
import Derived.ChangeOld
namespace Go.Proofs.YtliiapbmkcbfaaaGreat
set_option linter.unusedSimpArgs false
set_option linter.unusedVariables false
set_option linter.unusedSectionVars false
set_option maxRecDepth 4000
open Go.ChangeShapes Go.WideShapes Go.ChangeAt Go.RowKit
theorem qfq:ownKnob Tryz.prog.godebug = none:=by kernel_rfl
theorem zjc:laidOutB Tryz.prog = true:=by kernel_rfl
def zjp (t:TypeId):Bool:=t == 3 || t == 9 || t == 24 || t == 22 || t == 27 || t == 25 || t == 28
theorem zjj:∀ t,zjp t = true->qeb Tryz.prog zjp t = true:=by
 intro t h
 simp only [zjp,Ji,Ki] at h
 rcases h with (((((rfl | rfl) | rfl) | rfl) | rfl) | rfl) | rfl <;> kernel_rfl
set_option maxRecDepth 100000 in
theorem zrv (os:Os) (started:os.Started) (H:Type) (enc:TypeId × Value->H) :
  ReturnsInHanded {} Tryz.checked os 3 .any (Rows.fnExactExpansionOfTuplesSpec.pre6 enc Tryz.prog Tryz.f3 Rows.fnExactExpansionOfTuplesRow.domain false)
   (Rows.fnExactExpansionOfTuplesSpec.post enc Tryz.prog Tryz.f3 false true false false):=by
 refine returnsInHanded_of_change (C:=Tryz.checked) qfq started (by kernel_rfl) Tryz.func3
  (ChangeSpec.witness6 (enc:=enc) (C:=Tryz.checked) false ⟨#[],#[.agg #[.int .i64 0,.string .empty,.slice none 0 0,.string .empty,.slice none 0 0],.slice none 0 0],[]⟩ 8 (by kernel_rfl) (by kernel_rfl) (by kernel_rfl) (by kernel_rfl)) ?_
 intro W base args ds gs before hval0 hW hcnd _
 have hval:∀ (j:Nat) t v,Tryz.f3.params[j]? = some t->args[j]? = some v->Value.okWide Tryz.prog W .any base t v:=hval0
 have hW':=hW
 obtain ⟨p,q,hA0,hV,rfl,hfz,hnd⟩:=hW
 have hA:DataW.TrodAll enc Tryz.prog W 0 (fun _=>true) true Tryz.f3.params.toList args.toList ds p:=hA0
 rw [Tryz.params3] at hA hval
 obtain ⟨v0,vs0,d0,ds0,p0,q0,hargs,rfl,rfl,h0,r0⟩:=trodAll_cons hA
 obtain ⟨v1,vs1,d1,ds1,p1,q1,rfl,rfl,rfl,h1,r1⟩:=trodAll_cons r0
 obtain ⟨rfl,rfl,rfl⟩:=trodAll_nil r1
 obtain rfl:args = #[v0,v1]:=by cases args; simp_all
 obtain ⟨rfl,rfl⟩:=trodVars_none hV
 have k0:=h0
 have k1:=h1
 have lt0:∀ x ∈ p0,x.block < W.heap.size:=by obtain ⟨m,hm⟩:=k0; exact DataW.trod_lt m _ _ _ hm
 have lt1:∀ x ∈ p1,x.block < W.heap.size:=by obtain ⟨m,hm⟩:=k1; exact DataW.trod_lt m _ _ _ hm
 obtain ⟨cs0,rfl,_⟩:=okWide_struct Tryz.underlying27 (hval 0 27 v0 rfl rfl)
 obtain ⟨sa1,sb1,sc1,rfl⟩:=okWide_slice Tryz.underlying28 (hval 1 28 v1 rfl rfl)
 obtain ⟨s0,hs0⟩ : ∃ s:Fm,qa3 W (· < W.heap.size) (fmD s) (.agg cs0):=by
  obtain ⟨m,hm⟩:=h0
  obtain ⟨d,hr,hs⟩:=zmq zjj m _ _ _ (by rfl) hm
  obtain ⟨s,e⟩:=zzp _ hs
  exact ⟨s,cs0.toList,rfl,e ▸ hr⟩
 obtain ⟨s1,hs1⟩ : ∃ s:(List (List Tm)),qa3 W (· < W.heap.size) (tssD s) (.slice sa1 sb1 sc1):=by
  obtain ⟨m,hm⟩:=h1
  obtain ⟨d,hr,hs⟩:=zmq zjj m _ _ _ (by rfl) hm
  obtain ⟨s,e⟩:=qf7 hs
  rw [e] at hr
  obtain ⟨v',vs',e1,e2,_⟩:=hr
  cases e1
  exact ⟨s,e2⟩
 have hs:zbr W (· < W.heap.size) [fmD s0,tssD s1] [.agg cs0,.slice sa1 sb1 sc1]:=⟨_,_,rfl,hs0,_,_,rfl,hs1,rfl⟩
 clear hA0 hval0
 refine ((qnt s0 s1).use (vs:=[.agg cs0,.slice sa1 sb1 sc1]) hs).mono fun e W' ⟨us,fp,he,ho,_,_,bel⟩=>?_
 obtain ⟨u,us',f1,f2,rfl,_,⟨rfl,_⟩,hu⟩:=ho
 obtain ⟨rfl,_⟩:=hu
 subst he
 exact ⟨_,rfl,_,_,_,[],_,[],hW',trodAll_mk1 (shut_bool Tryz.underlying4 _),
  (trodAll_cons_mk (Below.trod zjc (by kernel_rfl) (K4 (by kernel_rfl)) k0 bel lt0) (trodAll_cons_mk (Below.trod zjc (by kernel_rfl) (K4 (by kernel_rfl)) k1 bel lt1) trodAll_mk0)),rfl,bel.frame _,fun h=>by cases h⟩
theorem qlt:(Rows.fnExactExpansionOfTuplesRow.wf (OpenSpec.ofChange Rows.fnExactExpansionOfTuplesSpec)) = true:=by kernel_rfl
theorem qkb:(laidOutB Tryz.checked.prog) = true:=by kernel_rfl
theorem qh7:(mapsRowed Tryz.checked.prog) = true:=by kernel_rfl
theorem qln:(Tryz.f3.params.all (Tryz.checked.prog.readableRec ·)) = true:=by kernel_rfl
theorem qku:(namedTie Tryz.checked.prog Rows.fnExactExpansionOfTuplesRow.named Rows.fnExactExpansionOfTuplesSpec.vars) = true:=by kernel_rfl
theorem qlj:((Rows.fnExactExpansionOfTuplesRow.stops == [])) = true:=by kernel_rfl
theorem qkc:((Tryz.checked.prog.stops == [])) = true:=by kernel_rfl
theorem qiu:((Rows.fnExactExpansionOfTuplesRow.knobs == [])) = true:=by kernel_rfl
theorem qje:((Tryz.checked.prog.stopKnobs == [])) = true:=by kernel_rfl
theorem qj8:((Rows.fnExactExpansionOfTuplesRow.inPlace == Tryz.checked.prog.inPlace 3)) = true:=by kernel_rfl
theorem qca:((Rows.fnExactExpansionOfTuplesRow.unfollowed == Tryz.checked.prog.unfollowed 3)) = true:=by kernel_rfl
theorem qbm:((Rows.fnExactExpansionOfTuplesRow.recurses == Tryz.checked.prog.recurses 3)) = true:=by kernel_rfl
theorem qfa:((Rows.fnExactExpansionOfTuplesRow.named == Tryz.checked.prog.varsNamed 3)) = true:=by kernel_rfl
theorem qew:((Rows.fnExactExpansionOfTuplesRow.maps == (Tryz.f3.params.toList ++ Rows.fnExactExpansionOfTuplesSpec.plain.varTypes Tryz.checked.prog).any (Tryz.checked.prog.mapsRec ·))) = true:=by kernel_rfl
theorem qbo:((Rows.fnExactExpansionOfTuplesRow.ifaces == (Tryz.f3.params.toList ++ Rows.fnExactExpansionOfTuplesSpec.plain.varTypes Tryz.checked.prog).any (Tryz.checked.prog.ifacesRec ·))) = true:=by kernel_rfl
theorem qeu:((Rows.fnExactExpansionOfTuplesRow.mapsOut == Tryz.checked.prog.mapsAmong Tryz.f3.resultTypes.toList)) = true:=by kernel_rfl
theorem qcm:((Rows.fnExactExpansionOfTuplesRow.loops == (Tryz.f3.params.toList ++ Rows.fnExactExpansionOfTuplesSpec.plain.varTypes Tryz.checked.prog).any (Tryz.checked.prog.loopsFrom ·))) = true:=by kernel_rfl
theorem qcp:((Rows.fnExactExpansionOfTuplesRow.wideKeys == (Tryz.f3.params.toList ++ Rows.fnExactExpansionOfTuplesSpec.plain.varTypes Tryz.checked.prog ++ Tryz.f3.resultTypes.toList).any (Tryz.checked.prog.wideKeysFrom ·))) = true:=by kernel_rfl
theorem qbl:(Rows.fnExactExpansionOfTuplesSpec.vars.all (Tryz.checked.prog.varReadable ·)) = true:=by kernel_rfl
theorem qbp:(Tryz.f3.resultTypes.all (fun t=>Tryz.checked.prog.readableRec t && decide (t < Tryz.checked.prog.types.size))) = true:=by kernel_rfl
theorem qdt:((Rows.fnExactExpansionOfTuplesRow.ifacesOut == Tryz.f3.resultTypes.toList.any (Tryz.checked.prog.ifacesRec ·))) = true:=by kernel_rfl
theorem qe0:((Rows.fnExactExpansionOfTuplesRow.loopsOut == Tryz.f3.resultTypes.toList.any (Tryz.checked.prog.loopsFrom ·))) = true:=by kernel_rfl
theorem qfc:((Rows.fnExactExpansionOfTuplesRow.plainKeys == Tryz.checked.prog.plainKeys)) = true:=by kernel_rfl
theorem qc9:(Rows.fnExactExpansionOfTuplesRow.shortTexts.isNone) = true:=by kernel_rfl
theorem qd4:(Tryz.checked.prog.stopsHeard) = true:=by kernel_rfl
theorem qfg:(Tryz.checked.prog.mayEnter) = true:=by kernel_rfl
theorem qdp:((Rows.fnExactExpansionOfTuplesRow.lifted == Tryz.checked.prog.liftsFinal)) = true:=by kernel_rfl
theorem qg5:((Tryz.checked.prog.make == some Rows.fnExactExpansionOfTuplesRow.make)) = true:=by kernel_rfl
theorem qb7:((Rows.fnExactExpansionOfTuplesRow.kinds == (if Rows.fnExactExpansionOfTuplesRow.domain.isEmpty then [] else Tryz.f3.params.toList.map fun t=>match Tryz.checked.prog.underlying t with | some (.int k)=>some k | _=>none))) = true:=by kernel_rfl
theorem qga:((Rows.fnExactExpansionOfTuplesRow.pinned == Rows.fnExactExpansionOfTuplesRow.pinnedBy)) = true:=by kernel_rfl
theorem qhp:((Rows.fnExactExpansionOfTuplesRow.veiled == (Tryz.f3.params.toList ++ Rows.fnExactExpansionOfTuplesSpec.plain.varTypes Tryz.checked.prog ++ Tryz.f3.resultTypes.toList).any (Tryz.checked.prog.veiledRec ·))) = true:=by kernel_rfl
theorem qft:(Rows.fnExactExpansionOfTuplesRow.veiledFits Tryz.checked.prog Tryz.f3.params.toList (Tryz.f3.params.toList ++ Rows.fnExactExpansionOfTuplesSpec.plain.varTypes Tryz.checked.prog ++ Tryz.f3.resultTypes.toList)) = true:=by kernel_rfl
theorem zs7:joinedFacts Tryz.checked.prog 3 Tryz.f3 Rows.fnExactExpansionOfTuplesSpec Rows.fnExactExpansionOfTuplesRow = true:=by
 unfold joinedFacts
 simp only [Qa]
 exact ⟨⟨⟨⟨⟨⟨⟨⟨⟨⟨⟨⟨⟨⟨⟨⟨⟨⟨⟨⟨⟨⟨⟨⟨⟨⟨⟨⟨⟨⟨⟨qlt,qkb⟩,qh7⟩,qln⟩,qku⟩,qlj⟩,qkc⟩,qiu⟩,qje⟩,qj8⟩,qca⟩,qbm⟩,qfa⟩,qew⟩,qbo⟩,qeu⟩,qcm⟩,qcp⟩,qbl⟩,qbp⟩,qdt⟩,qe0⟩,qfc⟩,qc9⟩,qd4⟩,qfg⟩,qdp⟩,qg5⟩,qb7⟩,qga⟩,qhp⟩,qft⟩
theorem expansionOfTuples_holds:Rows.FnExactExpansionOfTuplesSaid :=
 OpenClaim.holds_of_wide 3 Tryz.f3 rfl rfl rfl rfl rfl rfl rfl ⟨rfl,rfl,rfl,rfl,rfl⟩ rfl rfl rfl rfl rfl (by kernel_rfl) Tryz.func3 zs7
  (K4 (by kernel_rfl)) (by unfold Func.isWrapper; rw [if_neg (of_decide_eq_false (by kernel_rfl))]; exact ⟨rfl,rfl⟩)
  (fun os started H enc _=>zrv os started H enc)
#print axioms expansionOfTuples_holds
end Go.Proofs.YtliiapbmkcbfaaaGreat
