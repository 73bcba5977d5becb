/-
  FnExactOpenLeaf returns true for all arguments, and its arguments read afterwards as they read before.
  Conditions: none.
-/
import Derived.Test.YtemnhgmgeijkcaaGreatRows
import Derived.Test.YtemnhgmgeijkcaaGreatQO1
import Derived.Test.YtemnhgmgeijkcaaGreatQO4
import Derived.Test.YtemnhgmgeijkcaaGreatQO9
import Derived.ProofKit
import Derived.OpenShut
import Derived.ShutString
import Derived.ChangeOld
namespace Go.Proofs.YtemnhgmgeijkcaaGreat
set_option linter.unusedSimpArgs false
set_option linter.unusedVariables false
set_option linter.unusedSectionVars false
set_option maxRecDepth 4000
open Go.ChangeShapes Go.WideShapes Go.ChangeAt Go.RowKit
theorem zxc : ownKnob Tryz.prog.godebug = none := by kernel_rfl
theorem znc : laidOutB Tryz.prog = true := by kernel_rfl
def zii (t : TypeId) : Bool := t == 3 || t == 9 || t == 24 || t == 22 || t == 27 || t == 25 || t == 55
theorem zl9 : ∀ t, zii t = true -> zze Tryz.prog zii t = true := by
 intro t h
 simp only [zii, Bool.or_eq_true, beq_iff_eq] at h
 rcases h with (((((rfl | rfl) | rfl) | rfl) | rfl) | rfl) | rfl <;> kernel_rfl
set_option maxRecDepth 100000 in
theorem zok (os : Os) (started : os.Started) (H : Type) (enc : TypeId × Value -> H) :
  ReturnsInHanded {} Tryz.checked os 10 .any (Rows.fnExactOpenLeafSpec.pre6 enc Tryz.prog Tryz.f10 Rows.fnExactOpenLeafRow.domain false)
   (Rows.fnExactOpenLeafSpec.post enc Tryz.prog Tryz.f10 false true false false) := by
 refine returnsInHanded_of_change (C := Tryz.checked) zxc started (by kernel_rfl) Tryz.func10
  (ChangeSpec.witness6 (enc := enc) (C := Tryz.checked) false ⟨#[], #[.agg #[.slice none 0 0, .slice none 0 0]], []⟩ 8 (by kernel_rfl) (by kernel_rfl) (by kernel_rfl) (by kernel_rfl)) ?_
 intro W base args ds gs before hval0 hW hcnd _
 have hval : ∀ (j : Nat) t v, Tryz.f10.params[j]? = some t -> args[j]? = some v -> Value.okWide Tryz.prog W .any base t v := hval0
 have hW' := hW
 obtain ⟨p, q, hA0, hV, rfl, hfz, hnd⟩ := hW
 have hA : DataW.TrodAll enc Tryz.prog W 0 (fun _ => true) true Tryz.f10.params.toList args.toList ds p := hA0
 rw [Tryz.params10] at hA hval
 obtain ⟨v0, vs0, d0, ds0, p0, q0, hargs, rfl, rfl, h0, r0⟩ := trodAll_cons hA
 obtain ⟨rfl, rfl, rfl⟩ := trodAll_nil r0
 obtain rfl : args = #[v0] := by cases args; simp_all
 obtain ⟨rfl, rfl⟩ := trodVars_none hV
 have k0 := h0
 have lt0 : ∀ x ∈ p0, x.block < W.heap.size := by obtain ⟨m, hm⟩ := k0; exact DataW.trod_lt m _ _ _ hm
 obtain ⟨cs0, rfl, _⟩ := okWide_struct Tryz.underlying55 (hval 0 55 v0 rfl rfl)
 obtain ⟨s0, hs0⟩ : ∃ s : Sq, zwl W (· < W.heap.size) (sqD s) (.agg cs0) := by
  obtain ⟨m, hm⟩ := h0
  obtain ⟨d, hr, hs⟩ := zra zl9 m _ _ _ (by rfl) hm
  obtain ⟨s, e⟩ := zvp hs
  exact ⟨s, cs0.toList, rfl, e ▸ hr⟩
 have hs : zbo W (· < W.heap.size) [sqD s0] [.agg cs0] := ⟨_, _, rfl, hs0, rfl⟩
 clear hA0 hval0
 refine ((qja s0).use (vs := [.agg cs0]) hs).mono fun e W' ⟨us, fp, he, ho, _, _, bel⟩ => ?_
 obtain ⟨u, us', f1, f2, rfl, _, ⟨rfl, _⟩, hu⟩ := ho
 obtain ⟨rfl, _⟩ := hu
 subst he
 exact ⟨_, rfl, _, _, _, [], _, [], hW', trodAll_mk1 (shut_bool Tryz.underlying4 _),
  (trodAll_cons_mk (Below.trod znc (by kernel_rfl) (of_decide_eq_true (by kernel_rfl)) k0 bel lt0) trodAll_mk0), rfl, bel.frame _, fun h => by cases h⟩
theorem qer : (Rows.fnExactOpenLeafRow.wf (OpenSpec.ofChange Rows.fnExactOpenLeafSpec)) = true := by kernel_rfl
theorem qfv : (laidOutB Tryz.checked.prog) = true := by kernel_rfl
theorem qcm : (mapsRowed Tryz.checked.prog) = true := by kernel_rfl
theorem qce : (Tryz.f10.params.all (Tryz.checked.prog.readableRec ·)) = true := by kernel_rfl
theorem qcp : (namedTie Tryz.checked.prog Rows.fnExactOpenLeafRow.named Rows.fnExactOpenLeafSpec.vars) = true := by kernel_rfl
theorem qfn : ((Rows.fnExactOpenLeafRow.stops == [])) = true := by kernel_rfl
theorem qdp : ((Tryz.checked.prog.stops == [])) = true := by kernel_rfl
theorem qd8 : ((Rows.fnExactOpenLeafRow.knobs == [])) = true := by kernel_rfl
theorem qct : ((Tryz.checked.prog.stopKnobs == [])) = true := by kernel_rfl
theorem qcu : ((Rows.fnExactOpenLeafRow.inPlace == Tryz.checked.prog.inPlace 10)) = true := by kernel_rfl
theorem qbx : ((Rows.fnExactOpenLeafRow.unfollowed == Tryz.checked.prog.unfollowed 10)) = true := by kernel_rfl
theorem zw9 : ((Rows.fnExactOpenLeafRow.recurses == Tryz.checked.prog.recurses 10)) = true := by kernel_rfl
theorem zxr : ((Rows.fnExactOpenLeafRow.named == Tryz.checked.prog.varsNamed 10)) = true := by kernel_rfl
theorem zzp : ((Rows.fnExactOpenLeafRow.maps == (Tryz.f10.params.toList ++ Rows.fnExactOpenLeafSpec.plain.varTypes Tryz.checked.prog).any (Tryz.checked.prog.mapsRec ·))) = true := by kernel_rfl
theorem zy8 : ((Rows.fnExactOpenLeafRow.ifaces == (Tryz.f10.params.toList ++ Rows.fnExactOpenLeafSpec.plain.varTypes Tryz.checked.prog).any (Tryz.checked.prog.ifacesRec ·))) = true := by kernel_rfl
theorem qan : ((Rows.fnExactOpenLeafRow.mapsOut == Tryz.checked.prog.mapsAmong Tryz.f10.resultTypes.toList)) = true := by kernel_rfl
theorem zx3 : ((Rows.fnExactOpenLeafRow.loops == (Tryz.f10.params.toList ++ Rows.fnExactOpenLeafSpec.plain.varTypes Tryz.checked.prog).any (Tryz.checked.prog.loopsFrom ·))) = true := by kernel_rfl
theorem zyh : ((Rows.fnExactOpenLeafRow.wideKeys == (Tryz.f10.params.toList ++ Rows.fnExactOpenLeafSpec.plain.varTypes Tryz.checked.prog ++ Tryz.f10.resultTypes.toList).any (Tryz.checked.prog.wideKeysFrom ·))) = true := by kernel_rfl
theorem zzg : (Rows.fnExactOpenLeafSpec.vars.all (Tryz.checked.prog.varReadable ·)) = true := by kernel_rfl
theorem zw7 : (Tryz.f10.resultTypes.all (fun t => Tryz.checked.prog.readableRec t && decide (t < Tryz.checked.prog.types.size))) = true := by kernel_rfl
theorem qam : ((Rows.fnExactOpenLeafRow.ifacesOut == Tryz.f10.resultTypes.toList.any (Tryz.checked.prog.ifacesRec ·))) = true := by kernel_rfl
theorem zyl : ((Rows.fnExactOpenLeafRow.loopsOut == Tryz.f10.resultTypes.toList.any (Tryz.checked.prog.loopsFrom ·))) = true := by kernel_rfl
theorem zz3 : ((Rows.fnExactOpenLeafRow.plainKeys == Tryz.checked.prog.plainKeys)) = true := by kernel_rfl
theorem zz1 : (Rows.fnExactOpenLeafRow.shortTexts.isNone) = true := by kernel_rfl
theorem zwx : (Tryz.checked.prog.stopsHeard) = true := by kernel_rfl
theorem qa6 : (Tryz.checked.prog.mayEnter) = true := by kernel_rfl
theorem zzl : ((Rows.fnExactOpenLeafRow.lifted == Tryz.checked.prog.liftsFinal)) = true := by kernel_rfl
theorem qax : ((Tryz.checked.prog.make == some Rows.fnExactOpenLeafRow.make)) = true := by kernel_rfl
theorem zx5 : ((Rows.fnExactOpenLeafRow.kinds == (if Rows.fnExactOpenLeafRow.domain.isEmpty then [] else Tryz.f10.params.toList.map fun t => match Tryz.checked.prog.underlying t with | some (.int k) => some k | _ => none))) = true := by kernel_rfl
theorem zzw : ((Rows.fnExactOpenLeafRow.pinned == Rows.fnExactOpenLeafRow.pinnedBy)) = true := by kernel_rfl
theorem qbf : ((Rows.fnExactOpenLeafRow.veiled == (Tryz.f10.params.toList ++ Rows.fnExactOpenLeafSpec.plain.varTypes Tryz.checked.prog ++ Tryz.f10.resultTypes.toList).any (Tryz.checked.prog.veiledRec ·))) = true := by kernel_rfl
theorem qb0 : (Rows.fnExactOpenLeafRow.veiledFits Tryz.checked.prog Tryz.f10.params.toList (Tryz.f10.params.toList ++ Rows.fnExactOpenLeafSpec.plain.varTypes Tryz.checked.prog ++ Tryz.f10.resultTypes.toList)) = true := by kernel_rfl
theorem zpr : joinedFacts Tryz.checked.prog 10 Tryz.f10 Rows.fnExactOpenLeafSpec Rows.fnExactOpenLeafRow = true := by
 unfold joinedFacts
 simp only [Bool.and_eq_true]
 exact ⟨⟨⟨⟨⟨⟨⟨⟨⟨⟨⟨⟨⟨⟨⟨⟨⟨⟨⟨⟨⟨⟨⟨⟨⟨⟨⟨⟨⟨⟨⟨qer, qfv⟩, qcm⟩, qce⟩, qcp⟩, qfn⟩, qdp⟩, qd8⟩, qct⟩, qcu⟩, qbx⟩, zw9⟩, zxr⟩, zzp⟩, zy8⟩, qan⟩, zx3⟩, zyh⟩, zzg⟩, zw7⟩, qam⟩, zyl⟩, zz3⟩, zz1⟩, zwx⟩, qa6⟩, zzl⟩, qax⟩, zx5⟩, zzw⟩, qbf⟩, qb0⟩
theorem openLeaf_holds : Rows.FnExactOpenLeafSaid :=
 OpenClaim.holds_of_wide 10 Tryz.f10 rfl rfl rfl rfl rfl rfl rfl ⟨rfl, rfl, rfl, rfl, rfl⟩ rfl rfl rfl rfl rfl (by kernel_rfl) Tryz.func10 zpr
  (of_decide_eq_true (by kernel_rfl)) (by unfold Func.isWrapper; rw [if_neg (of_decide_eq_false (by kernel_rfl))]; exact ⟨rfl, rfl⟩)
  (fun os started H enc _ => zok os started H enc)
#print axioms openLeaf_holds
end Go.Proofs.YtemnhgmgeijkcaaGreat
