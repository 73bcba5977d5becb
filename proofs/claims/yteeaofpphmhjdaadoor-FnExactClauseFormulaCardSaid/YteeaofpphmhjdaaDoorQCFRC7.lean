/-
  FnExactClauseFormula returns true for all arguments, and its arguments read afterwards as they read before.
  Conditions: none.
-/
import Derived.Test.YteeaofpphmhjdaaDoorRows
import Derived.Test.YteeaofpphmhjdaaDoorQCF1
import Derived.Test.YteeaofpphmhjdaaDoorQCF4
import Derived.Test.YteeaofpphmhjdaaDoorQCF5
import Derived.Test.YteeaofpphmhjdaaDoorCards
import Derived.Test.YteeaofpphmhjdaaDoorTie
import Derived.ProofKit
import Derived.LaidMore
import Derived.Stop.Joined
import Derived.SevenTiedAt
import Derived.OpenShut
import Derived.ShutString
import Derived.ChangeOld
namespace Go.Proofs.YteeaofpphmhjdaaDoor
set_option linter.unusedSimpArgs false
set_option linter.unusedVariables false
set_option linter.unusedSectionVars false
set_option maxRecDepth 4000
open Go.ChangeShapes Go.WideShapes Go.ChangeAt Go.RowKit
theorem zn6 : ownKnob Tryd.prog.godebug = none := by kernel_rfl
theorem zg4 : laidOutB Tryd.prog = true := by kernel_rfl
def zd0 (t : TypeId) : Bool := t == 3 || t == 22
theorem zha : ∀ t, zd0 t = true -> znt Tryd.prog zd0 t = true := by
 intro t h
 simp only [zd0, Bool.or_eq_true, beq_iff_eq] at h
 rcases h with rfl | rfl <;> kernel_rfl
theorem zo3 (os : Os) (args : Array Value) : laidMetH Tryd.prog Rows.fnExactClauseFormulaRow.laid ((World.doorLaid Tryd.prog 24 os).forCall (fun _ _ => 0) ⟨#[], args, []⟩).memory :=
 laidMetH_of_parts3 (fuel := 8) (laidMet_of_run' 8 (by kernel_rfl) (by kernel_rfl)) (by kernel_rfl) (by kernel_rfl)
set_option maxRecDepth 100000 in
theorem zh8 (os : Os) (started : os.Started) (H : Type) (enc : TypeId × Value -> H) :
  ReturnsInHanded {} Tryd.checked os 3 .any (fun w args => (Rows.fnExactClauseFormulaSpec.pre enc Tryd.prog Tryd.f3 [] false w args /\ laidMetH Tryd.prog Rows.fnExactClauseFormulaRow.laid w) /\ sizedMet enc Tryd.prog Tryd.f3 (OpenSpec.ofChange Rows.fnExactClauseFormulaSpec) false w args)
   (Rows.fnExactClauseFormulaSpec.post enc Tryd.prog Tryd.f3 false true false false) := by
 refine returnsInHanded_of_change_and (C := Tryd.checked) (X := fun w _ => laidMetH Tryd.prog Rows.fnExactClauseFormulaRow.laid w) (fun _ _ _ hh h => h.of_heap hh) zn6 started (by kernel_rfl) Tryd.func3
  (ChangeSpec.witness_shaped (enc := enc) (C := Tryd.checked) (os := os) (X := fun w _ => laidMetH Tryd.prog Rows.fnExactClauseFormulaRow.laid w) false (World.doorLaid Tryd.prog 24 os) #[.slice none 0 0] 8 rfl (World.shaped_of_RefB (by kernel_rfl) (by kernel_rfl)) (by kernel_rfl) (by kernel_rfl) (by kernel_rfl) (zo3 os _)) ?_
 intro W base args ds gs before hval0 hW hcnd _ hL _
 have hval : ∀ (j : Nat) t v, Tryd.f3.params[j]? = some t -> args[j]? = some v -> Value.okWide Tryd.prog W .any base t v := hval0
 have hW' := hW
 obtain ⟨p, q, hA0, hV, rfl, hfz, hnd⟩ := hW
 have hA : DataW.TrodAll enc Tryd.prog W 0 (fun _ => true) true Tryd.f3.params.toList args.toList ds p := hA0
 rw [Tryd.params3] at hA hval
 obtain ⟨v0, vs0, d0, ds0, p0, q0, hargs, rfl, rfl, h0, r0⟩ := trodAll_cons hA
 obtain ⟨rfl, rfl, rfl⟩ := trodAll_nil r0
 obtain rfl : args = #[v0] := by cases args; simp_all
 obtain ⟨rfl, rfl⟩ := trodVars_none hV
 have k0 := h0
 have lt0 : ∀ x ∈ p0, x.block < W.heap.size := by obtain ⟨m, hm⟩ := k0; exact DataW.trod_lt m _ _ _ hm
 obtain ⟨sa0, sb0, sc0, rfl⟩ := okWide_slice Tryd.underlying22 (hval 0 22 v0 rfl rfl)
 obtain ⟨s0, hs0⟩ : ∃ s : (List Int), znx W (· < W.heap.size) (isD s) (.slice sa0 sb0 sc0) := by
  obtain ⟨m, hm⟩ := h0
  obtain ⟨d, hr, hs⟩ := zit zha m _ _ _ (by rfl) hm
  obtain ⟨s, e⟩ := ztd hs
  rw [e] at hr
  obtain ⟨v', vs', e1, e2, _⟩ := hr
  cases e1
  exact ⟨s, e2⟩
 have hs : za2 W (· < W.heap.size) [isD s0] [.slice sa0 sb0 sc0] := ⟨_, _, rfl, hs0, rfl⟩
 clear hA0 hval0
 refine ((zt9 s0).use (vs := [.slice sa0 sb0 sc0]) hs).mono fun e W' ⟨us, fp, he, ho, _, _, bel⟩ => ?_
 obtain ⟨u, us', f1, f2, rfl, _, ⟨rfl, _⟩, hu⟩ := ho
 obtain ⟨rfl, _⟩ := hu
 subst he
 exact ⟨_, rfl, _, _, _, [], _, [], hW', trodAll_mk1 (shut_bool Tryd.underlying4 _),
  (trodAll_cons_mk (Below.trod zg4 (by kernel_rfl) (of_decide_eq_true (by kernel_rfl)) k0 bel lt0) trodAll_mk0), rfl, bel.frame _, fun h => by cases h⟩
theorem zqc : (Rows.fnExactClauseFormulaRow.wf (OpenSpec.ofChange Rows.fnExactClauseFormulaSpec)) = true := by kernel_rfl
theorem zqj : (laidOutB Tryd.checked.prog) = true := by kernel_rfl
theorem zqm : (mapsRowed Tryd.checked.prog) = true := by kernel_rfl
theorem zq5 : (Tryd.f3.params.all (Tryd.checked.prog.readableRec ·)) = true := by kernel_rfl
theorem zry : (namedTie Tryd.checked.prog Rows.fnExactClauseFormulaRow.named Rows.fnExactClauseFormulaSpec.vars) = true := by kernel_rfl
theorem zpy : ((Rows.fnExactClauseFormulaRow.stops == [])) = true := by kernel_rfl
theorem zr5 : ((Tryd.checked.prog.stops == [])) = true := by kernel_rfl
theorem zp0 : ((Rows.fnExactClauseFormulaRow.knobs == [])) = true := by kernel_rfl
theorem zqx : ((Tryd.checked.prog.stopKnobs == [])) = true := by kernel_rfl
theorem zp7 : ((Rows.fnExactClauseFormulaRow.inPlace == Tryd.checked.prog.inPlace 3)) = true := by kernel_rfl
theorem zl3 : ((Rows.fnExactClauseFormulaRow.unfollowed == Tryd.checked.prog.unfollowed 3)) = true := by kernel_rfl
theorem zn2 : ((Rows.fnExactClauseFormulaRow.recurses == Tryd.checked.prog.recurses 3)) = true := by kernel_rfl
theorem zm6 : ((Rows.fnExactClauseFormulaRow.named == Tryd.checked.prog.varsNamed 3)) = true := by kernel_rfl
theorem zpd : ((Rows.fnExactClauseFormulaRow.maps == (Tryd.f3.params.toList ++ Rows.fnExactClauseFormulaSpec.plain.varTypes Tryd.checked.prog).any (Tryd.checked.prog.mapsRec ·))) = true := by kernel_rfl
theorem znv : ((Rows.fnExactClauseFormulaRow.ifaces == (Tryd.f3.params.toList ++ Rows.fnExactClauseFormulaSpec.plain.varTypes Tryd.checked.prog).any (Tryd.checked.prog.ifacesRec ·))) = true := by kernel_rfl
theorem zoy : ((Rows.fnExactClauseFormulaRow.mapsOut == Tryd.checked.prog.mapsAmong Tryd.f3.resultTypes.toList)) = true := by kernel_rfl
theorem zo4 : ((Rows.fnExactClauseFormulaRow.loops == (Tryd.f3.params.toList ++ Rows.fnExactClauseFormulaSpec.plain.varTypes Tryd.checked.prog).any (Tryd.checked.prog.loopsFrom ·))) = true := by kernel_rfl
theorem zpg : ((Rows.fnExactClauseFormulaRow.wideKeys == (Tryd.f3.params.toList ++ Rows.fnExactClauseFormulaSpec.plain.varTypes Tryd.checked.prog ++ Tryd.f3.resultTypes.toList).any (Tryd.checked.prog.wideKeysFrom ·))) = true := by kernel_rfl
theorem zob : (Rows.fnExactClauseFormulaSpec.vars.all (Tryd.checked.prog.varReadable ·)) = true := by kernel_rfl
theorem zpr : (Tryd.f3.resultTypes.all (fun t => Tryd.checked.prog.readableRec t && decide (t < Tryd.checked.prog.types.size))) = true := by kernel_rfl
theorem zmx : ((Rows.fnExactClauseFormulaRow.ifacesOut == Tryd.f3.resultTypes.toList.any (Tryd.checked.prog.ifacesRec ·))) = true := by kernel_rfl
theorem zon : ((Rows.fnExactClauseFormulaRow.loopsOut == Tryd.f3.resultTypes.toList.any (Tryd.checked.prog.loopsFrom ·))) = true := by kernel_rfl
theorem zmy : ((Rows.fnExactClauseFormulaRow.plainKeys == Tryd.checked.prog.plainKeys)) = true := by kernel_rfl
theorem zl2 : (Rows.fnExactClauseFormulaRow.shortTexts.isNone) = true := by kernel_rfl
theorem zmr : (Tryd.checked.prog.stopsHeard) = true := by kernel_rfl
theorem zoo : (Tryd.checked.prog.mayEnter) = true := by kernel_rfl
theorem zmt : ((Rows.fnExactClauseFormulaRow.lifted == Tryd.checked.prog.liftsFinal)) = true := by kernel_rfl
theorem zpa : ((Tryd.checked.prog.make == some Rows.fnExactClauseFormulaRow.make)) = true := by kernel_rfl
theorem zpm : ((Rows.fnExactClauseFormulaRow.kinds == (if Rows.fnExactClauseFormulaRow.domain.isEmpty then [] else Tryd.f3.params.toList.map fun t => match Tryd.checked.prog.underlying t with | some (.int k) => some k | _ => none))) = true := by kernel_rfl
theorem znr : ((Rows.fnExactClauseFormulaRow.pinned == Rows.fnExactClauseFormulaRow.pinnedBy)) = true := by kernel_rfl
theorem zm8 : ((Rows.fnExactClauseFormulaRow.veiled == (Tryd.f3.params.toList ++ Rows.fnExactClauseFormulaSpec.plain.varTypes Tryd.checked.prog ++ Tryd.f3.resultTypes.toList).any (Tryd.checked.prog.veiledRec ·))) = true := by kernel_rfl
theorem znm : (Rows.fnExactClauseFormulaRow.veiledFits Tryd.checked.prog Tryd.f3.params.toList (Tryd.f3.params.toList ++ Rows.fnExactClauseFormulaSpec.plain.varTypes Tryd.checked.prog ++ Tryd.f3.resultTypes.toList)) = true := by kernel_rfl
theorem zh9 : joinedFacts Tryd.checked.prog 3 Tryd.f3 Rows.fnExactClauseFormulaSpec Rows.fnExactClauseFormulaRow = true := by
 unfold joinedFacts
 simp only [Bool.and_eq_true]
 exact ⟨⟨⟨⟨⟨⟨⟨⟨⟨⟨⟨⟨⟨⟨⟨⟨⟨⟨⟨⟨⟨⟨⟨⟨⟨⟨⟨⟨⟨⟨⟨zqc, zqj⟩, zqm⟩, zq5⟩, zry⟩, zpy⟩, zr5⟩, zp0⟩, zqx⟩, zp7⟩, zl3⟩, zn2⟩, zm6⟩, zpd⟩, znv⟩, zoy⟩, zo4⟩, zpg⟩, zob⟩, zpr⟩, zmx⟩, zon⟩, zmy⟩, zl2⟩, zmr⟩, zoo⟩, zmt⟩, zpa⟩, zpm⟩, znr⟩, zm8⟩, znm⟩
theorem zea : Rows.FnExactClauseFormulaSaid :=
 OpenClaim.holds_of_wide 3 Tryd.f3 rfl rfl rfl rfl rfl rfl rfl ⟨rfl, rfl, rfl, rfl, rfl⟩ rfl rfl rfl rfl rfl (by kernel_rfl) Tryd.func3 zh9
  (of_decide_eq_true (by kernel_rfl)) (by unfold Func.isWrapper; rw [if_neg (of_decide_eq_false (by kernel_rfl))]; exact ⟨rfl, rfl⟩)
  (fun os started H enc _ => zh8 os started H enc)
theorem clauseformula_holds : Rows.FnExactClauseFormulaCardSaid :=
 Claim7.holds_tied_plain_at .later [] [.data, .data, .data] true (true, "4cef3631a7687e18de312331dba057e5205c31acfa493c4b63e95ba1a02ee0d7") false
  zea (fun _ h => by cases h) (by kernel_rfl) (fun _ h => by cases h) fnExactClauseFormula_row_tie rfl ⟨rfl, rfl⟩ (by kernel_rfl) rfl
  (fun f fn hf hfn => by
   obtain rfl : f = 3 := Option.some.inj ((show Tryd.prog.funcNamed "loop.example/g00892/laws.FnExactClauseFormula" = some 3 by kernel_rfl).symm.trans hf) |>.symm
   obtain rfl : fn = Tryd.f3 := (Option.some.inj (Tryd.func3.symm.trans hfn)).symm
   exact ⟨by kernel_rfl, fun j t ht => by
    rw [Tryd.params3] at ht
    have hm : t ∈ [22] := by simpa using Array.mem_of_getElem? ht
    have hall : ([22].all fun u => !Tryd.prog.wantsStandIn u) = true := by kernel_rfl
    exact (show Tryd.prog.wantsStandIn t = false by simpa using List.all_eq_true.1 hall t hm)⟩)
  (by kernel_rfl)
#print axioms clauseformula_holds
end Go.Proofs.YteeaofpphmhjdaaDoor
