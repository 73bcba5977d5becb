/-
  FnExactIsValidDerivation returns true for all arguments, and its arguments read afterwards as they read before.
  Conditions: none.
-/
import Derived.Test.YtemnhgmgeijkcaaGreatRows
import Derived.Test.YtemnhgmgeijkcaaGreatQS1
import Derived.Test.YtemnhgmgeijkcaaGreatQS4
import Derived.Test.YtemnhgmgeijkcaaGreatQS5
import Derived.Test.YtemnhgmgeijkcaaGreatQS10
import Derived.ProofKit
import Derived.OpenShut
import Derived.ShutString
import Derived.ChangeOld
namespace Go.Proofs.YtemnhgmgeijkcaaGreat
set_option linter.unusedSimpArgs false
set_option linter.unusedVariables false
set_option linter.unusedSectionVars false
set_option maxRecDepth 4000
open Go.ChangeShapes Go.WideShapes Go.ChangeAt Go.RowKit
theorem qf9 : ownKnob Tryz.prog.godebug = none := by kernel_rfl
theorem zn1 : laidOutB Tryz.prog = true := by kernel_rfl
def zjm (t : TypeId) : Bool := t == 3 || t == 9 || t == 24 || t == 22 || t == 27 || t == 25 || t == 55 || t == 58 || t == 56
theorem zoj : ∀ t, zjm t = true -> zqh Tryz.prog zjm t = true := by
 intro t h
 simp only [zjm, Bool.or_eq_true, beq_iff_eq] at h
 rcases h with (((((((rfl | rfl) | rfl) | rfl) | rfl) | rfl) | rfl) | rfl) | rfl <;> kernel_rfl
set_option maxRecDepth 100000 in
theorem zp8 (os : Os) (started : os.Started) (H : Type) (enc : TypeId × Value -> H) :
  ReturnsInHanded {} Tryz.checked os 7 .any (Rows.fnExactIsValidDerivationSpec.pre6 enc Tryz.prog Tryz.f7 Rows.fnExactIsValidDerivationRow.domain false)
   (Rows.fnExactIsValidDerivationSpec.post enc Tryz.prog Tryz.f7 false true false false) := by
 refine returnsInHanded_of_change (C := Tryz.checked) qf9 started (by kernel_rfl) Tryz.func7
  (ChangeSpec.witness6 (enc := enc) (C := Tryz.checked) false ⟨#[], #[.agg #[.int .i64 0, .slice none 0 0, .slice none 0 0, .int .i64 0, .string .empty, .slice none 0 0, .int .i64 0, .string .empty, .slice none 0 0, .string .empty, .slice none 0 0, .slice none 0 0]], []⟩ 8 (by kernel_rfl) (by kernel_rfl) (by kernel_rfl) (by kernel_rfl)) ?_
 intro W base args ds gs before hval0 hW hcnd _
 have hval : ∀ (j : Nat) t v, Tryz.f7.params[j]? = some t -> args[j]? = some v -> Value.okWide Tryz.prog W .any base t v := hval0
 have hW' := hW
 obtain ⟨p, q, hA0, hV, rfl, hfz, hnd⟩ := hW
 have hA : DataW.TrodAll enc Tryz.prog W 0 (fun _ => true) true Tryz.f7.params.toList args.toList ds p := hA0
 rw [Tryz.params7] at hA hval
 obtain ⟨v0, vs0, d0, ds0, p0, q0, hargs, rfl, rfl, h0, r0⟩ := trodAll_cons hA
 obtain ⟨rfl, rfl, rfl⟩ := trodAll_nil r0
 obtain rfl : args = #[v0] := by cases args; simp_all
 obtain ⟨rfl, rfl⟩ := trodVars_none hV
 have k0 := h0
 have lt0 : ∀ x ∈ p0, x.block < W.heap.size := by obtain ⟨m, hm⟩ := k0; exact DataW.trod_lt m _ _ _ hm
 obtain ⟨cs0, rfl, _⟩ := okWide_struct Tryz.underlying58 (hval 0 58 v0 rfl rfl)
 obtain ⟨s0, hs0⟩ : ∃ s : Dv, zso W (· < W.heap.size) (dvD s) (.agg cs0) := by
  obtain ⟨m, hm⟩ := h0
  obtain ⟨d, hr, hs⟩ := zfv zoj m _ _ _ (by rfl) hm
  obtain ⟨s, e⟩ := zfu _ hs
  exact ⟨s, cs0.toList, rfl, e ▸ hr⟩
 have hs : zbm W (· < W.heap.size) [dvD s0] [.agg cs0] := ⟨_, _, rfl, hs0, rfl⟩
 clear hA0 hval0
 refine ((qmv s0).use (vs := [.agg cs0]) hs).mono fun e W' ⟨us, fp, he, ho, _, _, bel⟩ => ?_
 obtain ⟨u, us', f1, f2, rfl, _, ⟨rfl, _⟩, hu⟩ := ho
 obtain ⟨rfl, _⟩ := hu
 subst he
 exact ⟨_, rfl, _, _, _, [], _, [], hW', trodAll_mk1 (shut_bool Tryz.underlying4 _),
  (trodAll_cons_mk (Below.trod zn1 (by kernel_rfl) (of_decide_eq_true (by kernel_rfl)) k0 bel lt0) trodAll_mk0), rfl, bel.frame _, fun h => by cases h⟩
theorem qhh : (Rows.fnExactIsValidDerivationRow.wf (OpenSpec.ofChange Rows.fnExactIsValidDerivationSpec)) = true := by kernel_rfl
theorem qkg : (laidOutB Tryz.checked.prog) = true := by kernel_rfl
theorem qi0 : (mapsRowed Tryz.checked.prog) = true := by kernel_rfl
theorem qhb : (Tryz.f7.params.all (Tryz.checked.prog.readableRec ·)) = true := by kernel_rfl
theorem qif : (namedTie Tryz.checked.prog Rows.fnExactIsValidDerivationRow.named Rows.fnExactIsValidDerivationSpec.vars) = true := by kernel_rfl
theorem qi8 : ((Rows.fnExactIsValidDerivationRow.stops == [])) = true := by kernel_rfl
theorem qj6 : ((Tryz.checked.prog.stops == [])) = true := by kernel_rfl
theorem qg5 : ((Rows.fnExactIsValidDerivationRow.knobs == [])) = true := by kernel_rfl
theorem qjd : ((Tryz.checked.prog.stopKnobs == [])) = true := by kernel_rfl
theorem qkd : ((Rows.fnExactIsValidDerivationRow.inPlace == Tryz.checked.prog.inPlace 7)) = true := by kernel_rfl
theorem qfh : ((Rows.fnExactIsValidDerivationRow.unfollowed == Tryz.checked.prog.unfollowed 7)) = true := by kernel_rfl
theorem zzm : ((Rows.fnExactIsValidDerivationRow.recurses == Tryz.checked.prog.recurses 7)) = true := by kernel_rfl
theorem qez : ((Rows.fnExactIsValidDerivationRow.named == Tryz.checked.prog.varsNamed 7)) = true := by kernel_rfl
theorem qcn : ((Rows.fnExactIsValidDerivationRow.maps == (Tryz.f7.params.toList ++ Rows.fnExactIsValidDerivationSpec.plain.varTypes Tryz.checked.prog).any (Tryz.checked.prog.mapsRec ·))) = true := by kernel_rfl
theorem qdp : ((Rows.fnExactIsValidDerivationRow.ifaces == (Tryz.f7.params.toList ++ Rows.fnExactIsValidDerivationSpec.plain.varTypes Tryz.checked.prog).any (Tryz.checked.prog.ifacesRec ·))) = true := by kernel_rfl
theorem qew : ((Rows.fnExactIsValidDerivationRow.mapsOut == Tryz.checked.prog.mapsAmong Tryz.f7.resultTypes.toList)) = true := by kernel_rfl
theorem zzh : ((Rows.fnExactIsValidDerivationRow.loops == (Tryz.f7.params.toList ++ Rows.fnExactIsValidDerivationSpec.plain.varTypes Tryz.checked.prog).any (Tryz.checked.prog.loopsFrom ·))) = true := by kernel_rfl
theorem qd2 : ((Rows.fnExactIsValidDerivationRow.wideKeys == (Tryz.f7.params.toList ++ Rows.fnExactIsValidDerivationSpec.plain.varTypes Tryz.checked.prog ++ Tryz.f7.resultTypes.toList).any (Tryz.checked.prog.wideKeysFrom ·))) = true := by kernel_rfl
theorem qbc : (Rows.fnExactIsValidDerivationSpec.vars.all (Tryz.checked.prog.varReadable ·)) = true := by kernel_rfl
theorem qf5 : (Tryz.f7.resultTypes.all (fun t => Tryz.checked.prog.readableRec t && decide (t < Tryz.checked.prog.types.size))) = true := by kernel_rfl
theorem qfg : ((Rows.fnExactIsValidDerivationRow.ifacesOut == Tryz.f7.resultTypes.toList.any (Tryz.checked.prog.ifacesRec ·))) = true := by kernel_rfl
theorem qa8 : ((Rows.fnExactIsValidDerivationRow.loopsOut == Tryz.f7.resultTypes.toList.any (Tryz.checked.prog.loopsFrom ·))) = true := by kernel_rfl
theorem qeg : ((Rows.fnExactIsValidDerivationRow.plainKeys == Tryz.checked.prog.plainKeys)) = true := by kernel_rfl
theorem qdy : (Rows.fnExactIsValidDerivationRow.shortTexts.isNone) = true := by kernel_rfl
theorem qa1 : (Tryz.checked.prog.stopsHeard) = true := by kernel_rfl
theorem zzy : (Tryz.checked.prog.mayEnter) = true := by kernel_rfl
theorem qcf : ((Rows.fnExactIsValidDerivationRow.lifted == Tryz.checked.prog.liftsFinal)) = true := by kernel_rfl
theorem qd4 : ((Tryz.checked.prog.make == some Rows.fnExactIsValidDerivationRow.make)) = true := by kernel_rfl
theorem qcs : ((Rows.fnExactIsValidDerivationRow.kinds == (if Rows.fnExactIsValidDerivationRow.domain.isEmpty then [] else Tryz.f7.params.toList.map fun t => match Tryz.checked.prog.underlying t with | some (.int k) => some k | _ => none))) = true := by kernel_rfl
theorem zzu : ((Rows.fnExactIsValidDerivationRow.pinned == Rows.fnExactIsValidDerivationRow.pinnedBy)) = true := by kernel_rfl
theorem qgc : ((Rows.fnExactIsValidDerivationRow.veiled == (Tryz.f7.params.toList ++ Rows.fnExactIsValidDerivationSpec.plain.varTypes Tryz.checked.prog ++ Tryz.f7.resultTypes.toList).any (Tryz.checked.prog.veiledRec ·))) = true := by kernel_rfl
theorem qfm : (Rows.fnExactIsValidDerivationRow.veiledFits Tryz.checked.prog Tryz.f7.params.toList (Tryz.f7.params.toList ++ Rows.fnExactIsValidDerivationSpec.plain.varTypes Tryz.checked.prog ++ Tryz.f7.resultTypes.toList)) = true := by kernel_rfl
theorem zqz : joinedFacts Tryz.checked.prog 7 Tryz.f7 Rows.fnExactIsValidDerivationSpec Rows.fnExactIsValidDerivationRow = true := by
 unfold joinedFacts
 simp only [Bool.and_eq_true]
 exact ⟨⟨⟨⟨⟨⟨⟨⟨⟨⟨⟨⟨⟨⟨⟨⟨⟨⟨⟨⟨⟨⟨⟨⟨⟨⟨⟨⟨⟨⟨⟨qhh, qkg⟩, qi0⟩, qhb⟩, qif⟩, qi8⟩, qj6⟩, qg5⟩, qjd⟩, qkd⟩, qfh⟩, zzm⟩, qez⟩, qcn⟩, qdp⟩, qew⟩, zzh⟩, qd2⟩, qbc⟩, qf5⟩, qfg⟩, qa8⟩, qeg⟩, qdy⟩, qa1⟩, zzy⟩, qcf⟩, qd4⟩, qcs⟩, zzu⟩, qgc⟩, qfm⟩
theorem isValidDerivation_holds : Rows.FnExactIsValidDerivationSaid :=
 OpenClaim.holds_of_wide 7 Tryz.f7 rfl rfl rfl rfl rfl rfl rfl ⟨rfl, rfl, rfl, rfl, rfl⟩ rfl rfl rfl rfl rfl (by kernel_rfl) Tryz.func7 zqz
  (of_decide_eq_true (by kernel_rfl)) (by unfold Func.isWrapper; rw [if_neg (of_decide_eq_false (by kernel_rfl))]; exact ⟨rfl, rfl⟩)
  (fun os started H enc _ => zp8 os started H enc)
#print axioms isValidDerivation_holds
end Go.Proofs.YtemnhgmgeijkcaaGreat
