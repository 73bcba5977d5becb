/-
  FnMultisets returns true for all arguments, and its arguments read afterwards as they read before.
  Conditions: none.
-/
import Derived.Test.YtaaniggpnljckaaGreatRows
import Derived.Test.YtaaniggpnljckaaGreatQM1
import Derived.Test.YtaaniggpnljckaaGreatQM4
import Derived.Test.YtaaniggpnljckaaGreatQM5
import Derived.Test.YtaaniggpnljckaaGreatQM9
import Derived.ProofKit
import Derived.OpenShut
import Derived.ShutString
import Derived.ChangeOld
namespace Go.Proofs.YtaaniggpnljckaaGreat
set_option linter.unusedSimpArgs false
set_option linter.unusedVariables false
set_option linter.unusedSectionVars false
set_option maxRecDepth 4000
open Go.ChangeShapes Go.WideShapes Go.ChangeAt Go.RowKit
theorem zxe : ownKnob Tryz.prog.godebug = none := by kernel_rfl
theorem zkc : laidOutB Tryz.prog = true := by kernel_rfl
def zgj (t : TypeId) : Bool := t == 5 || t == 22
theorem zk7 : ∀ t, zgj t = true -> zwe Tryz.prog zgj t = true := by
 intro t h
 simp only [zgj, Bool.or_eq_true, beq_iff_eq] at h
 rcases h with rfl | rfl <;> kernel_rfl
set_option maxRecDepth 100000 in
theorem zl6 (os : Os) (started : os.Started) (H : Type) (enc : TypeId × Value -> H) :
  ReturnsInHanded {} Tryz.checked os 3 .any (Rows.fnMultisetsSpec.pre6 enc Tryz.prog Tryz.f3 Rows.fnMultisetsRow.domain false)
   (Rows.fnMultisetsSpec.post enc Tryz.prog Tryz.f3 false true false false) := by
 refine returnsInHanded_of_change (C := Tryz.checked) zxe started (by kernel_rfl) Tryz.func3
  (ChangeSpec.witness6 (enc := enc) (C := Tryz.checked) false ⟨#[], #[.slice none 0 0], []⟩ 8 (by kernel_rfl) (by kernel_rfl) (by kernel_rfl) (by kernel_rfl)) ?_
 intro W base args ds gs before hval0 hW hcnd _
 have hval : ∀ (j : Nat) t v, Tryz.f3.params[j]? = some t -> args[j]? = some v -> Value.okWide Tryz.prog W .any base t v := hval0
 have hW' := hW
 obtain ⟨p, q, hA0, hV, rfl, hfz, hnd⟩ := hW
 have hA : DataW.TrodAll enc Tryz.prog W 0 (fun _ => true) true Tryz.f3.params.toList args.toList ds p := hA0
 rw [Tryz.params3] at hA hval
 obtain ⟨v0, vs0, d0, ds0, p0, q0, hargs, rfl, rfl, h0, r0⟩ := trodAll_cons hA
 obtain ⟨rfl, rfl, rfl⟩ := trodAll_nil r0
 obtain rfl : args = #[v0] := by cases args; simp_all
 obtain ⟨rfl, rfl⟩ := trodVars_none hV
 have k0 := h0
 have lt0 : ∀ x ∈ p0, x.block < W.heap.size := by obtain ⟨m, hm⟩ := k0; exact DataW.trod_lt m _ _ _ hm
 obtain ⟨sa0, sb0, sc0, rfl⟩ := okWide_slice Tryz.underlying22 (hval 0 22 v0 rfl rfl)
 obtain ⟨s0, hs0⟩ : ∃ s : (List UInt8), zto W (· < W.heap.size) (bsD s) (.slice sa0 sb0 sc0) := by
  obtain ⟨m, hm⟩ := h0
  obtain ⟨d, hr, hs⟩ := zpg zk7 m _ _ _ (by rfl) hm
  obtain ⟨s, e⟩ := zz3 hs
  rw [e] at hr
  obtain ⟨v', vs', e1, e2, _⟩ := hr
  cases e1
  exact ⟨s, e2⟩
 have hs : zba W (· < W.heap.size) [bsD s0] [.slice sa0 sb0 sc0] := ⟨_, _, rfl, hs0, rfl⟩
 clear hA0 hval0
 refine ((zz4 s0).use (vs := [.slice sa0 sb0 sc0]) hs).mono fun e W' ⟨us, fp, he, ho, _, _, bel⟩ => ?_
 obtain ⟨u, us', f1, f2, rfl, _, ⟨rfl, _⟩, hu⟩ := ho
 obtain ⟨rfl, _⟩ := hu
 subst he
 exact ⟨_, rfl, _, _, _, [], _, [], hW', trodAll_mk1 (shut_bool Tryz.underlying4 _),
  (trodAll_cons_mk (Below.trod zkc (by kernel_rfl) (of_decide_eq_true (by kernel_rfl)) k0 bel lt0) trodAll_mk0), rfl, bel.frame _, fun h => by cases h⟩
theorem qbe : (Rows.fnMultisetsRow.wf (OpenSpec.ofChange Rows.fnMultisetsSpec)) = true := by kernel_rfl
theorem qbu : (laidOutB Tryz.checked.prog) = true := by kernel_rfl
theorem qcm : (mapsRowed Tryz.checked.prog) = true := by kernel_rfl
theorem qac : (Tryz.f3.params.all (Tryz.checked.prog.readableRec ·)) = true := by kernel_rfl
theorem qbr : (namedTie Tryz.checked.prog Rows.fnMultisetsRow.named Rows.fnMultisetsSpec.vars) = true := by kernel_rfl
theorem qbi : ((Rows.fnMultisetsRow.stops == [])) = true := by kernel_rfl
theorem qda : ((Tryz.checked.prog.stops == [])) = true := by kernel_rfl
theorem qbg : ((Rows.fnMultisetsRow.knobs == [])) = true := by kernel_rfl
theorem qav : ((Tryz.checked.prog.stopKnobs == [])) = true := by kernel_rfl
theorem qcx : ((Rows.fnMultisetsRow.inPlace == Tryz.checked.prog.inPlace 3)) = true := by kernel_rfl
theorem zwd : ((Rows.fnMultisetsRow.unfollowed == Tryz.checked.prog.unfollowed 3)) = true := by kernel_rfl
theorem zxs : ((Rows.fnMultisetsRow.recurses == Tryz.checked.prog.recurses 3)) = true := by kernel_rfl
theorem zui : ((Rows.fnMultisetsRow.named == Tryz.checked.prog.varsNamed 3)) = true := by kernel_rfl
theorem zvd : ((Rows.fnMultisetsRow.maps == (Tryz.f3.params.toList ++ Rows.fnMultisetsSpec.plain.varTypes Tryz.checked.prog).any (Tryz.checked.prog.mapsRec ·))) = true := by kernel_rfl
theorem zu0 : ((Rows.fnMultisetsRow.ifaces == (Tryz.f3.params.toList ++ Rows.fnMultisetsSpec.plain.varTypes Tryz.checked.prog).any (Tryz.checked.prog.ifacesRec ·))) = true := by kernel_rfl
theorem zw1 : ((Rows.fnMultisetsRow.mapsOut == Tryz.checked.prog.mapsAmong Tryz.f3.resultTypes.toList)) = true := by kernel_rfl
theorem zx4 : ((Rows.fnMultisetsRow.loops == (Tryz.f3.params.toList ++ Rows.fnMultisetsSpec.plain.varTypes Tryz.checked.prog).any (Tryz.checked.prog.loopsFrom ·))) = true := by kernel_rfl
theorem zxt : ((Rows.fnMultisetsRow.wideKeys == (Tryz.f3.params.toList ++ Rows.fnMultisetsSpec.plain.varTypes Tryz.checked.prog ++ Tryz.f3.resultTypes.toList).any (Tryz.checked.prog.wideKeysFrom ·))) = true := by kernel_rfl
theorem zya : (Rows.fnMultisetsSpec.vars.all (Tryz.checked.prog.varReadable ·)) = true := by kernel_rfl
theorem zwx : (Tryz.f3.resultTypes.all (fun t => Tryz.checked.prog.readableRec t && decide (t < Tryz.checked.prog.types.size))) = true := by kernel_rfl
theorem zx9 : ((Rows.fnMultisetsRow.ifacesOut == Tryz.f3.resultTypes.toList.any (Tryz.checked.prog.ifacesRec ·))) = true := by kernel_rfl
theorem zvu : ((Rows.fnMultisetsRow.loopsOut == Tryz.f3.resultTypes.toList.any (Tryz.checked.prog.loopsFrom ·))) = true := by kernel_rfl
theorem zu2 : ((Rows.fnMultisetsRow.plainKeys == Tryz.checked.prog.plainKeys)) = true := by kernel_rfl
theorem zv4 : (Rows.fnMultisetsRow.shortTexts.isNone) = true := by kernel_rfl
theorem zx7 : (Tryz.checked.prog.stopsHeard) = true := by kernel_rfl
theorem zxa : (Tryz.checked.prog.mayEnter) = true := by kernel_rfl
theorem zu9 : ((Rows.fnMultisetsRow.lifted == Tryz.checked.prog.liftsFinal)) = true := by kernel_rfl
theorem zuq : ((Tryz.checked.prog.make == some Rows.fnMultisetsRow.make)) = true := by kernel_rfl
theorem zu3 : ((Rows.fnMultisetsRow.kinds == (if Rows.fnMultisetsRow.domain.isEmpty then [] else Tryz.f3.params.toList.map fun t => match Tryz.checked.prog.underlying t with | some (.int k) => some k | _ => none))) = true := by kernel_rfl
theorem zvb : ((Rows.fnMultisetsRow.pinned == Rows.fnMultisetsRow.pinnedBy)) = true := by kernel_rfl
theorem zxv : ((Rows.fnMultisetsRow.veiled == (Tryz.f3.params.toList ++ Rows.fnMultisetsSpec.plain.varTypes Tryz.checked.prog ++ Tryz.f3.resultTypes.toList).any (Tryz.checked.prog.veiledRec ·))) = true := by kernel_rfl
theorem zt0 : (Rows.fnMultisetsRow.veiledFits Tryz.checked.prog Tryz.f3.params.toList (Tryz.f3.params.toList ++ Rows.fnMultisetsSpec.plain.varTypes Tryz.checked.prog ++ Tryz.f3.resultTypes.toList)) = true := by kernel_rfl
theorem zm5 : joinedFacts Tryz.checked.prog 3 Tryz.f3 Rows.fnMultisetsSpec Rows.fnMultisetsRow = true := by
 unfold joinedFacts
 simp only [Bool.and_eq_true]
 exact ⟨⟨⟨⟨⟨⟨⟨⟨⟨⟨⟨⟨⟨⟨⟨⟨⟨⟨⟨⟨⟨⟨⟨⟨⟨⟨⟨⟨⟨⟨⟨qbe, qbu⟩, qcm⟩, qac⟩, qbr⟩, qbi⟩, qda⟩, qbg⟩, qav⟩, qcx⟩, zwd⟩, zxs⟩, zui⟩, zvd⟩, zu0⟩, zw1⟩, zx4⟩, zxt⟩, zya⟩, zwx⟩, zx9⟩, zvu⟩, zu2⟩, zv4⟩, zx7⟩, zxa⟩, zu9⟩, zuq⟩, zu3⟩, zvb⟩, zxv⟩, zt0⟩
theorem multisets_holds : Rows.FnMultisetsSaid :=
 OpenClaim.holds_of_wide 3 Tryz.f3 rfl rfl rfl rfl rfl rfl rfl ⟨rfl, rfl, rfl, rfl, rfl⟩ rfl rfl rfl rfl rfl (by kernel_rfl) Tryz.func3 zm5
  (of_decide_eq_true (by kernel_rfl)) (by unfold Func.isWrapper; rw [if_neg (of_decide_eq_false (by kernel_rfl))]; exact ⟨rfl, rfl⟩)
  (fun os started H enc _ => zl6 os started H enc)
#print axioms multisets_holds
end Go.Proofs.YtaaniggpnljckaaGreat
