/-
  FnExactFirstWrongNode returns true for all arguments, and its arguments read afterwards as they read before.
  Conditions: none.
-/
import Derived.Test.YtemnhgmgeijkcaaGreatRows
import Derived.Test.YtemnhgmgeijkcaaGreatQS1
import Derived.Test.YtemnhgmgeijkcaaGreatQS4
import Derived.Test.YtemnhgmgeijkcaaGreatQS5
import Derived.Test.YtemnhgmgeijkcaaGreatQS10
import Derived.ProofKit
import Derived.OpenShut
import Derived.ShutString
import Derived.ChangeOld
namespace Go.Proofs.YtemnhgmgeijkcaaGreat
set_option linter.unusedSimpArgs false
set_option linter.unusedVariables false
set_option linter.unusedSectionVars false
set_option maxRecDepth 4000
open Go.ChangeShapes Go.WideShapes Go.ChangeAt Go.RowKit
theorem qbh : ownKnob Tryz.prog.godebug = none := by kernel_rfl
theorem zpm : laidOutB Tryz.prog = true := by kernel_rfl
def zjf (t : TypeId) : Bool := t == 3 || t == 9 || t == 24 || t == 22 || t == 27 || t == 25 || t == 55 || t == 58 || t == 56
theorem zoi : ∀ t, zjf t = true -> zqh Tryz.prog zjf t = true := by
 intro t h
 simp only [zjf, Bool.or_eq_true, beq_iff_eq] at h
 rcases h with (((((((rfl | rfl) | rfl) | rfl) | rfl) | rfl) | rfl) | rfl) | rfl <;> kernel_rfl
set_option maxRecDepth 100000 in
theorem zsg (os : Os) (started : os.Started) (H : Type) (enc : TypeId × Value -> H) :
  ReturnsInHanded {} Tryz.checked os 8 .any (Rows.fnExactFirstWrongNodeSpec.pre6 enc Tryz.prog Tryz.f8 Rows.fnExactFirstWrongNodeRow.domain false)
   (Rows.fnExactFirstWrongNodeSpec.post enc Tryz.prog Tryz.f8 false true false false) := by
 refine returnsInHanded_of_change (C := Tryz.checked) qbh started (by kernel_rfl) Tryz.func8
  (ChangeSpec.witness6 (enc := enc) (C := Tryz.checked) false ⟨#[], #[.agg #[.int .i64 0, .slice none 0 0, .slice none 0 0, .int .i64 0, .string .empty, .slice none 0 0, .int .i64 0, .string .empty, .slice none 0 0, .string .empty, .slice none 0 0, .slice none 0 0]], []⟩ 8 (by kernel_rfl) (by kernel_rfl) (by kernel_rfl) (by kernel_rfl)) ?_
 intro W base args ds gs before hval0 hW hcnd _
 have hval : ∀ (j : Nat) t v, Tryz.f8.params[j]? = some t -> args[j]? = some v -> Value.okWide Tryz.prog W .any base t v := hval0
 have hW' := hW
 obtain ⟨p, q, hA0, hV, rfl, hfz, hnd⟩ := hW
 have hA : DataW.TrodAll enc Tryz.prog W 0 (fun _ => true) true Tryz.f8.params.toList args.toList ds p := hA0
 rw [Tryz.params8] at hA hval
 obtain ⟨v0, vs0, d0, ds0, p0, q0, hargs, rfl, rfl, h0, r0⟩ := trodAll_cons hA
 obtain ⟨rfl, rfl, rfl⟩ := trodAll_nil r0
 obtain rfl : args = #[v0] := by cases args; simp_all
 obtain ⟨rfl, rfl⟩ := trodVars_none hV
 have k0 := h0
 have lt0 : ∀ x ∈ p0, x.block < W.heap.size := by obtain ⟨m, hm⟩ := k0; exact DataW.trod_lt m _ _ _ hm
 obtain ⟨cs0, rfl, _⟩ := okWide_struct Tryz.underlying58 (hval 0 58 v0 rfl rfl)
 obtain ⟨s0, hs0⟩ : ∃ s : Dv, zso W (· < W.heap.size) (dvD s) (.agg cs0) := by
  obtain ⟨m, hm⟩ := h0
  obtain ⟨d, hr, hs⟩ := zfv zoi m _ _ _ (by rfl) hm
  obtain ⟨s, e⟩ := zfu _ hs
  exact ⟨s, cs0.toList, rfl, e ▸ hr⟩
 have hs : zbm W (· < W.heap.size) [dvD s0] [.agg cs0] := ⟨_, _, rfl, hs0, rfl⟩
 clear hA0 hval0
 refine ((qhq s0).use (vs := [.agg cs0]) hs).mono fun e W' ⟨us, fp, he, ho, _, _, bel⟩ => ?_
 obtain ⟨u, us', f1, f2, rfl, _, ⟨rfl, _⟩, hu⟩ := ho
 obtain ⟨rfl, _⟩ := hu
 subst he
 exact ⟨_, rfl, _, _, _, [], _, [], hW', trodAll_mk1 (shut_bool Tryz.underlying4 _),
  (trodAll_cons_mk (Below.trod zpm (by kernel_rfl) (of_decide_eq_true (by kernel_rfl)) k0 bel lt0) trodAll_mk0), rfl, bel.frame _, fun h => by cases h⟩
theorem qir : (Rows.fnExactFirstWrongNodeRow.wf (OpenSpec.ofChange Rows.fnExactFirstWrongNodeSpec)) = true := by kernel_rfl
theorem qi6 : (laidOutB Tryz.checked.prog) = true := by kernel_rfl
theorem qhg : (mapsRowed Tryz.checked.prog) = true := by kernel_rfl
theorem qkr : (Tryz.f8.params.all (Tryz.checked.prog.readableRec ·)) = true := by kernel_rfl
theorem qiu : (namedTie Tryz.checked.prog Rows.fnExactFirstWrongNodeRow.named Rows.fnExactFirstWrongNodeSpec.vars) = true := by kernel_rfl
theorem qik : ((Rows.fnExactFirstWrongNodeRow.stops == [])) = true := by kernel_rfl
theorem qhw : ((Tryz.checked.prog.stops == [])) = true := by kernel_rfl
theorem qg3 : ((Rows.fnExactFirstWrongNodeRow.knobs == [])) = true := by kernel_rfl
theorem qic : ((Tryz.checked.prog.stopKnobs == [])) = true := by kernel_rfl
theorem qja : ((Rows.fnExactFirstWrongNodeRow.inPlace == Tryz.checked.prog.inPlace 8)) = true := by kernel_rfl
theorem qfw : ((Rows.fnExactFirstWrongNodeRow.unfollowed == Tryz.checked.prog.unfollowed 8)) = true := by kernel_rfl
theorem qf4 : ((Rows.fnExactFirstWrongNodeRow.recurses == Tryz.checked.prog.recurses 8)) = true := by kernel_rfl
theorem qaq : ((Rows.fnExactFirstWrongNodeRow.named == Tryz.checked.prog.varsNamed 8)) = true := by kernel_rfl
theorem qa0 : ((Rows.fnExactFirstWrongNodeRow.maps == (Tryz.f8.params.toList ++ Rows.fnExactFirstWrongNodeSpec.plain.varTypes Tryz.checked.prog).any (Tryz.checked.prog.mapsRec ·))) = true := by kernel_rfl
theorem qgd : ((Rows.fnExactFirstWrongNodeRow.ifaces == (Tryz.f8.params.toList ++ Rows.fnExactFirstWrongNodeSpec.plain.varTypes Tryz.checked.prog).any (Tryz.checked.prog.ifacesRec ·))) = true := by kernel_rfl
theorem qf0 : ((Rows.fnExactFirstWrongNodeRow.mapsOut == Tryz.checked.prog.mapsAmong Tryz.f8.resultTypes.toList)) = true := by kernel_rfl
theorem qbr : ((Rows.fnExactFirstWrongNodeRow.loops == (Tryz.f8.params.toList ++ Rows.fnExactFirstWrongNodeSpec.plain.varTypes Tryz.checked.prog).any (Tryz.checked.prog.loopsFrom ·))) = true := by kernel_rfl
theorem qa4 : ((Rows.fnExactFirstWrongNodeRow.wideKeys == (Tryz.f8.params.toList ++ Rows.fnExactFirstWrongNodeSpec.plain.varTypes Tryz.checked.prog ++ Tryz.f8.resultTypes.toList).any (Tryz.checked.prog.wideKeysFrom ·))) = true := by kernel_rfl
theorem qcq : (Rows.fnExactFirstWrongNodeSpec.vars.all (Tryz.checked.prog.varReadable ·)) = true := by kernel_rfl
theorem qfv : (Tryz.f8.resultTypes.all (fun t => Tryz.checked.prog.readableRec t && decide (t < Tryz.checked.prog.types.size))) = true := by kernel_rfl
theorem qaf : ((Rows.fnExactFirstWrongNodeRow.ifacesOut == Tryz.f8.resultTypes.toList.any (Tryz.checked.prog.ifacesRec ·))) = true := by kernel_rfl
theorem qch : ((Rows.fnExactFirstWrongNodeRow.loopsOut == Tryz.f8.resultTypes.toList.any (Tryz.checked.prog.loopsFrom ·))) = true := by kernel_rfl
theorem qb9 : ((Rows.fnExactFirstWrongNodeRow.plainKeys == Tryz.checked.prog.plainKeys)) = true := by kernel_rfl
theorem qbv : (Rows.fnExactFirstWrongNodeRow.shortTexts.isNone) = true := by kernel_rfl
theorem qeh : (Tryz.checked.prog.stopsHeard) = true := by kernel_rfl
theorem qdt : (Tryz.checked.prog.mayEnter) = true := by kernel_rfl
theorem qc7 : ((Rows.fnExactFirstWrongNodeRow.lifted == Tryz.checked.prog.liftsFinal)) = true := by kernel_rfl
theorem qds : ((Tryz.checked.prog.make == some Rows.fnExactFirstWrongNodeRow.make)) = true := by kernel_rfl
theorem qe2 : ((Rows.fnExactFirstWrongNodeRow.kinds == (if Rows.fnExactFirstWrongNodeRow.domain.isEmpty then [] else Tryz.f8.params.toList.map fun t => match Tryz.checked.prog.underlying t with | some (.int k) => some k | _ => none))) = true := by kernel_rfl
theorem qfe : ((Rows.fnExactFirstWrongNodeRow.pinned == Rows.fnExactFirstWrongNodeRow.pinnedBy)) = true := by kernel_rfl
theorem zzt : ((Rows.fnExactFirstWrongNodeRow.veiled == (Tryz.f8.params.toList ++ Rows.fnExactFirstWrongNodeSpec.plain.varTypes Tryz.checked.prog ++ Tryz.f8.resultTypes.toList).any (Tryz.checked.prog.veiledRec ·))) = true := by kernel_rfl
theorem zz0 : (Rows.fnExactFirstWrongNodeRow.veiledFits Tryz.checked.prog Tryz.f8.params.toList (Tryz.f8.params.toList ++ Rows.fnExactFirstWrongNodeSpec.plain.varTypes Tryz.checked.prog ++ Tryz.f8.resultTypes.toList)) = true := by kernel_rfl
theorem zqa : joinedFacts Tryz.checked.prog 8 Tryz.f8 Rows.fnExactFirstWrongNodeSpec Rows.fnExactFirstWrongNodeRow = true := by
 unfold joinedFacts
 simp only [Bool.and_eq_true]
 exact ⟨⟨⟨⟨⟨⟨⟨⟨⟨⟨⟨⟨⟨⟨⟨⟨⟨⟨⟨⟨⟨⟨⟨⟨⟨⟨⟨⟨⟨⟨⟨qir, qi6⟩, qhg⟩, qkr⟩, qiu⟩, qik⟩, qhw⟩, qg3⟩, qic⟩, qja⟩, qfw⟩, qf4⟩, qaq⟩, qa0⟩, qgd⟩, qf0⟩, qbr⟩, qa4⟩, qcq⟩, qfv⟩, qaf⟩, qch⟩, qb9⟩, qbv⟩, qeh⟩, qdt⟩, qc7⟩, qds⟩, qe2⟩, qfe⟩, zzt⟩, zz0⟩
theorem firstWrongNode_holds : Rows.FnExactFirstWrongNodeSaid :=
 OpenClaim.holds_of_wide 8 Tryz.f8 rfl rfl rfl rfl rfl rfl rfl ⟨rfl, rfl, rfl, rfl, rfl⟩ rfl rfl rfl rfl rfl (by kernel_rfl) Tryz.func8 zqa
  (of_decide_eq_true (by kernel_rfl)) (by unfold Func.isWrapper; rw [if_neg (of_decide_eq_false (by kernel_rfl))]; exact ⟨rfl, rfl⟩)
  (fun os started H enc _ => zsg os started H enc)
#print axioms firstWrongNode_holds
end Go.Proofs.YtemnhgmgeijkcaaGreat
