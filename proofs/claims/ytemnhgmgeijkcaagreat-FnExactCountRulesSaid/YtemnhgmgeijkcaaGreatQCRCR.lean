/-
  FnExactCountRules returns true for all arguments, and its arguments read afterwards as they read before.
  Conditions: none.
-/
import Derived.Test.YtemnhgmgeijkcaaGreatRows
import Derived.Test.YtemnhgmgeijkcaaGreatQC1
import Derived.Test.YtemnhgmgeijkcaaGreatQC4
import Derived.Test.YtemnhgmgeijkcaaGreatQC5
import Derived.Test.YtemnhgmgeijkcaaGreatQC10
import Derived.ProofKit
import Derived.OpenShut
import Derived.ShutString
import Derived.ChangeOld
namespace Go.Proofs.YtemnhgmgeijkcaaGreat
set_option linter.unusedSimpArgs false
set_option linter.unusedVariables false
set_option linter.unusedSectionVars false
set_option maxRecDepth 4000
open Go.ChangeShapes Go.WideShapes Go.ChangeAt Go.RowKit
theorem qcq : ownKnob Tryz.prog.godebug = none := by kernel_rfl
theorem zot : laidOutB Tryz.prog = true := by kernel_rfl
def zis (t : TypeId) : Bool := t == 3 || t == 9 || t == 24 || t == 22 || t == 27 || t == 25 || t == 55 || t == 58 || t == 56
theorem zo4 : ∀ t, zis t = true -> qd4 Tryz.prog zis t = true := by
 intro t h
 simp only [zis, Bool.or_eq_true, beq_iff_eq] at h
 rcases h with (((((((rfl | rfl) | rfl) | rfl) | rfl) | rfl) | rfl) | rfl) | rfl <;> kernel_rfl
set_option maxRecDepth 100000 in
theorem zpn (os : Os) (started : os.Started) (H : Type) (enc : TypeId × Value -> H) :
  ReturnsInHanded {} Tryz.checked os 9 .any (Rows.fnExactCountRulesSpec.pre6 enc Tryz.prog Tryz.f9 Rows.fnExactCountRulesRow.domain false)
   (Rows.fnExactCountRulesSpec.post enc Tryz.prog Tryz.f9 false true false false) := by
 refine returnsInHanded_of_change (C := Tryz.checked) qcq started (by kernel_rfl) Tryz.func9
  (ChangeSpec.witness6 (enc := enc) (C := Tryz.checked) false ⟨#[], #[.agg #[.int .i64 0, .slice none 0 0, .slice none 0 0, .int .i64 0, .string .empty, .slice none 0 0, .int .i64 0, .string .empty, .slice none 0 0, .string .empty, .slice none 0 0, .slice none 0 0]], []⟩ 8 (by kernel_rfl) (by kernel_rfl) (by kernel_rfl) (by kernel_rfl)) ?_
 intro W base args ds gs before hval0 hW hcnd _
 have hval : ∀ (j : Nat) t v, Tryz.f9.params[j]? = some t -> args[j]? = some v -> Value.okWide Tryz.prog W .any base t v := hval0
 have hW' := hW
 obtain ⟨p, q, hA0, hV, rfl, hfz, hnd⟩ := hW
 have hA : DataW.TrodAll enc Tryz.prog W 0 (fun _ => true) true Tryz.f9.params.toList args.toList ds p := hA0
 rw [Tryz.params9] at hA hval
 obtain ⟨v0, vs0, d0, ds0, p0, q0, hargs, rfl, rfl, h0, r0⟩ := trodAll_cons hA
 obtain ⟨rfl, rfl, rfl⟩ := trodAll_nil r0
 obtain rfl : args = #[v0] := by cases args; simp_all
 obtain ⟨rfl, rfl⟩ := trodVars_none hV
 have k0 := h0
 have lt0 : ∀ x ∈ p0, x.block < W.heap.size := by obtain ⟨m, hm⟩ := k0; exact DataW.trod_lt m _ _ _ hm
 obtain ⟨cs0, rfl, _⟩ := okWide_struct Tryz.underlying58 (hval 0 58 v0 rfl rfl)
 obtain ⟨s0, hs0⟩ : ∃ s : Dv, zyr W (· < W.heap.size) (dvD s) (.agg cs0) := by
  obtain ⟨m, hm⟩ := h0
  obtain ⟨d, hr, hs⟩ := zsp zo4 m _ _ _ (by rfl) hm
  obtain ⟨s, e⟩ := zoa _ hs
  exact ⟨s, cs0.toList, rfl, e ▸ hr⟩
 have hs : zbm W (· < W.heap.size) [dvD s0] [.agg cs0] := ⟨_, _, rfl, hs0, rfl⟩
 clear hA0 hval0
 refine ((qmz s0).use (vs := [.agg cs0]) hs).mono fun e W' ⟨us, fp, he, ho, _, _, bel⟩ => ?_
 obtain ⟨u, us', f1, f2, rfl, _, ⟨rfl, _⟩, hu⟩ := ho
 obtain ⟨rfl, _⟩ := hu
 subst he
 exact ⟨_, rfl, _, _, _, [], _, [], hW', trodAll_mk1 (shut_bool Tryz.underlying4 _),
  (trodAll_cons_mk (Below.trod zot (by kernel_rfl) (of_decide_eq_true (by kernel_rfl)) k0 bel lt0) trodAll_mk0), rfl, bel.frame _, fun h => by cases h⟩
theorem qe6 : (Rows.fnExactCountRulesRow.wf (OpenSpec.ofChange Rows.fnExactCountRulesSpec)) = true := by kernel_rfl
theorem qgk : (laidOutB Tryz.checked.prog) = true := by kernel_rfl
theorem qf6 : (mapsRowed Tryz.checked.prog) = true := by kernel_rfl
theorem qh5 : (Tryz.f9.params.all (Tryz.checked.prog.readableRec ·)) = true := by kernel_rfl
theorem qfu : (namedTie Tryz.checked.prog Rows.fnExactCountRulesRow.named Rows.fnExactCountRulesSpec.vars) = true := by kernel_rfl
theorem qf1 : ((Rows.fnExactCountRulesRow.stops == [])) = true := by kernel_rfl
theorem qhv : ((Tryz.checked.prog.stops == [])) = true := by kernel_rfl
theorem qfw : ((Rows.fnExactCountRulesRow.knobs == [])) = true := by kernel_rfl
theorem qfm : ((Tryz.checked.prog.stopKnobs == [])) = true := by kernel_rfl
theorem qfl : ((Rows.fnExactCountRulesRow.inPlace == Tryz.checked.prog.inPlace 9)) = true := by kernel_rfl
theorem zz5 : ((Rows.fnExactCountRulesRow.unfollowed == Tryz.checked.prog.unfollowed 9)) = true := by kernel_rfl
theorem qdi : ((Rows.fnExactCountRulesRow.recurses == Tryz.checked.prog.recurses 9)) = true := by kernel_rfl
theorem qbj : ((Rows.fnExactCountRulesRow.named == Tryz.checked.prog.varsNamed 9)) = true := by kernel_rfl
theorem qdq : ((Rows.fnExactCountRulesRow.maps == (Tryz.f9.params.toList ++ Rows.fnExactCountRulesSpec.plain.varTypes Tryz.checked.prog).any (Tryz.checked.prog.mapsRec ·))) = true := by kernel_rfl
theorem zy3 : ((Rows.fnExactCountRulesRow.ifaces == (Tryz.f9.params.toList ++ Rows.fnExactCountRulesSpec.plain.varTypes Tryz.checked.prog).any (Tryz.checked.prog.ifacesRec ·))) = true := by kernel_rfl
theorem qas : ((Rows.fnExactCountRulesRow.mapsOut == Tryz.checked.prog.mapsAmong Tryz.f9.resultTypes.toList)) = true := by kernel_rfl
theorem qef : ((Rows.fnExactCountRulesRow.loops == (Tryz.f9.params.toList ++ Rows.fnExactCountRulesSpec.plain.varTypes Tryz.checked.prog).any (Tryz.checked.prog.loopsFrom ·))) = true := by kernel_rfl
theorem qb9 : ((Rows.fnExactCountRulesRow.wideKeys == (Tryz.f9.params.toList ++ Rows.fnExactCountRulesSpec.plain.varTypes Tryz.checked.prog ++ Tryz.f9.resultTypes.toList).any (Tryz.checked.prog.wideKeysFrom ·))) = true := by kernel_rfl
theorem zzw : (Rows.fnExactCountRulesSpec.vars.all (Tryz.checked.prog.varReadable ·)) = true := by kernel_rfl
theorem qbf : (Tryz.f9.resultTypes.all (fun t => Tryz.checked.prog.readableRec t && decide (t < Tryz.checked.prog.types.size))) = true := by kernel_rfl
theorem qdj : ((Rows.fnExactCountRulesRow.ifacesOut == Tryz.f9.resultTypes.toList.any (Tryz.checked.prog.ifacesRec ·))) = true := by kernel_rfl
theorem zzd : ((Rows.fnExactCountRulesRow.loopsOut == Tryz.f9.resultTypes.toList.any (Tryz.checked.prog.loopsFrom ·))) = true := by kernel_rfl
theorem zz8 : ((Rows.fnExactCountRulesRow.plainKeys == Tryz.checked.prog.plainKeys)) = true := by kernel_rfl
theorem qdw : (Rows.fnExactCountRulesRow.shortTexts.isNone) = true := by kernel_rfl
theorem qcp : (Tryz.checked.prog.stopsHeard) = true := by kernel_rfl
theorem qaa : (Tryz.checked.prog.mayEnter) = true := by kernel_rfl
theorem qap : ((Rows.fnExactCountRulesRow.lifted == Tryz.checked.prog.liftsFinal)) = true := by kernel_rfl
theorem qa1 : ((Tryz.checked.prog.make == some Rows.fnExactCountRulesRow.make)) = true := by kernel_rfl
theorem qag : ((Rows.fnExactCountRulesRow.kinds == (if Rows.fnExactCountRulesRow.domain.isEmpty then [] else Tryz.f9.params.toList.map fun t => match Tryz.checked.prog.underlying t with | some (.int k) => some k | _ => none))) = true := by kernel_rfl
theorem qcu : ((Rows.fnExactCountRulesRow.pinned == Rows.fnExactCountRulesRow.pinnedBy)) = true := by kernel_rfl
theorem qcr : ((Rows.fnExactCountRulesRow.veiled == (Tryz.f9.params.toList ++ Rows.fnExactCountRulesSpec.plain.varTypes Tryz.checked.prog ++ Tryz.f9.resultTypes.toList).any (Tryz.checked.prog.veiledRec ·))) = true := by kernel_rfl
theorem zz4 : (Rows.fnExactCountRulesRow.veiledFits Tryz.checked.prog Tryz.f9.params.toList (Tryz.f9.params.toList ++ Rows.fnExactCountRulesSpec.plain.varTypes Tryz.checked.prog ++ Tryz.f9.resultTypes.toList)) = true := by kernel_rfl
theorem zqg : joinedFacts Tryz.checked.prog 9 Tryz.f9 Rows.fnExactCountRulesSpec Rows.fnExactCountRulesRow = true := by
 unfold joinedFacts
 simp only [Bool.and_eq_true]
 exact ⟨⟨⟨⟨⟨⟨⟨⟨⟨⟨⟨⟨⟨⟨⟨⟨⟨⟨⟨⟨⟨⟨⟨⟨⟨⟨⟨⟨⟨⟨⟨qe6, qgk⟩, qf6⟩, qh5⟩, qfu⟩, qf1⟩, qhv⟩, qfw⟩, qfm⟩, qfl⟩, zz5⟩, qdi⟩, qbj⟩, qdq⟩, zy3⟩, qas⟩, qef⟩, qb9⟩, zzw⟩, qbf⟩, qdj⟩, zzd⟩, zz8⟩, qdw⟩, qcp⟩, qaa⟩, qap⟩, qa1⟩, qag⟩, qcu⟩, qcr⟩, zz4⟩
theorem countRules_holds : Rows.FnExactCountRulesSaid :=
 OpenClaim.holds_of_wide 9 Tryz.f9 rfl rfl rfl rfl rfl rfl rfl ⟨rfl, rfl, rfl, rfl, rfl⟩ rfl rfl rfl rfl rfl (by kernel_rfl) Tryz.func9 zqg
  (of_decide_eq_true (by kernel_rfl)) (by unfold Func.isWrapper; rw [if_neg (of_decide_eq_false (by kernel_rfl))]; exact ⟨rfl, rfl⟩)
  (fun os started H enc _ => zpn os started H enc)
#print axioms countRules_holds
end Go.Proofs.YtemnhgmgeijkcaaGreat
