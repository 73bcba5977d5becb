/-
  FnExactToPropositional returns true for all arguments, and its arguments read afterwards as they read before.
  Conditions: none.
-/
import Derived.Test.YtnkagnjiljjpcaaGreatRows
import Derived.Test.YtnkagnjiljjpcaaGreatQT1
import Derived.Test.YtnkagnjiljjpcaaGreatQT4
import Derived.Test.YtnkagnjiljjpcaaGreatQT7
import Derived.ProofKit
import Derived.OpenShut
import Derived.ShutString
import Derived.ChangeOld
namespace Go.Proofs.YtnkagnjiljjpcaaGreat
set_option linter.unusedSimpArgs false
set_option linter.unusedVariables false
set_option linter.unusedSectionVars false
set_option maxRecDepth 4000
open Go.ChangeShapes Go.WideShapes Go.ChangeAt Go.RowKit
theorem zto : ownKnob Tryz.prog.godebug = none := by kernel_rfl
theorem zjv : laidOutB Tryz.prog = true := by kernel_rfl
def ze6 (t : TypeId) : Bool := t == 3 || t == 9 || t == 95 || t == 44 || t == 4 || t == 129 || t == 41 || t == 43 || t == 22
theorem zjf : ∀ t, ze6 t = true -> zwr Tryz.prog ze6 t = true := by
 intro t h
 simp only [ze6, Bool.or_eq_true, beq_iff_eq] at h
 rcases h with (((((((rfl | rfl) | rfl) | rfl) | rfl) | rfl) | rfl) | rfl) | rfl <;> kernel_rfl
set_option maxRecDepth 100000 in
theorem zl6 (os : Os) (started : os.Started) (H : Type) (enc : TypeId × Value -> H) :
  ReturnsInHanded {} Tryz.checked os 4 .any (Rows.fnExactToPropositionalSpec.pre6 enc Tryz.prog Tryz.f4 Rows.fnExactToPropositionalRow.domain false)
   (Rows.fnExactToPropositionalSpec.post enc Tryz.prog Tryz.f4 false true false false) := by
 refine returnsInHanded_of_change (C := Tryz.checked) zto started (by kernel_rfl) Tryz.func4
  (ChangeSpec.witness6 (enc := enc) (C := Tryz.checked) false ⟨#[], #[.slice none 0 0], []⟩ 8 (by kernel_rfl) (by kernel_rfl) (by kernel_rfl) (by kernel_rfl)) ?_
 intro W base args ds gs before hval0 hW hcnd _
 have hval : ∀ (j : Nat) t v, Tryz.f4.params[j]? = some t -> args[j]? = some v -> Value.okWide Tryz.prog W .any base t v := hval0
 have hW' := hW
 obtain ⟨p, q, hA0, hV, rfl, hfz, hnd⟩ := hW
 have hA : DataW.TrodAll enc Tryz.prog W 0 (fun _ => true) true Tryz.f4.params.toList args.toList ds p := hA0
 rw [Tryz.params4] at hA hval
 obtain ⟨v0, vs0, d0, ds0, p0, q0, hargs, rfl, rfl, h0, r0⟩ := trodAll_cons hA
 obtain ⟨rfl, rfl, rfl⟩ := trodAll_nil r0
 obtain rfl : args = #[v0] := by cases args; simp_all
 obtain ⟨rfl, rfl⟩ := trodVars_none hV
 have k0 := h0
 have lt0 : ∀ x ∈ p0, x.block < W.heap.size := by obtain ⟨m, hm⟩ := k0; exact DataW.trod_lt m _ _ _ hm
 obtain ⟨sa0, sb0, sc0, rfl⟩ := okWide_slice Tryz.underlying22 (hval 0 22 v0 rfl rfl)
 obtain ⟨s0, hs0⟩ : ∃ s : (List Cq), zt3 W (· < W.heap.size) (cqsD s) (.slice sa0 sb0 sc0) := by
  obtain ⟨m, hm⟩ := h0
  obtain ⟨d, hr, hs⟩ := zno zjf m _ _ _ (by rfl) hm
  obtain ⟨s, e⟩ := zr3 hs
  rw [e] at hr
  obtain ⟨v', vs', e1, e2, _⟩ := hr
  cases e1
  exact ⟨s, e2⟩
 have hs : za5 W (· < W.heap.size) [cqsD s0] [.slice sa0 sb0 sc0] := ⟨_, _, rfl, hs0, rfl⟩
 clear hA0 hval0
 refine ((qdu s0).use (vs := [.slice sa0 sb0 sc0]) hs).mono fun e W' ⟨us, fp, he, ho, _, _, bel⟩ => ?_
 obtain ⟨u, us', f1, f2, rfl, _, ⟨rfl, _⟩, hu⟩ := ho
 obtain ⟨rfl, _⟩ := hu
 subst he
 exact ⟨_, rfl, _, _, _, [], _, [], hW', trodAll_mk1 (shut_bool Tryz.underlying4 _),
  (trodAll_cons_mk (Below.trod zjv (by kernel_rfl) (of_decide_eq_true (by kernel_rfl)) k0 bel lt0) trodAll_mk0), rfl, bel.frame _, fun h => by cases h⟩
theorem zyv : (Rows.fnExactToPropositionalRow.wf (OpenSpec.ofChange Rows.fnExactToPropositionalSpec)) = true := by kernel_rfl
theorem zyd : (laidOutB Tryz.checked.prog) = true := by kernel_rfl
theorem qa9 : (mapsRowed Tryz.checked.prog) = true := by kernel_rfl
theorem zzg : (Tryz.f4.params.all (Tryz.checked.prog.readableRec ·)) = true := by kernel_rfl
theorem zxv : (namedTie Tryz.checked.prog Rows.fnExactToPropositionalRow.named Rows.fnExactToPropositionalSpec.vars) = true := by kernel_rfl
theorem zyr : ((Rows.fnExactToPropositionalRow.stops == [])) = true := by kernel_rfl
theorem qap : ((Tryz.checked.prog.stops == [])) = true := by kernel_rfl
theorem zzl : ((Rows.fnExactToPropositionalRow.knobs == [])) = true := by kernel_rfl
theorem zzy : ((Tryz.checked.prog.stopKnobs == [])) = true := by kernel_rfl
theorem qa8 : ((Rows.fnExactToPropositionalRow.inPlace == Tryz.checked.prog.inPlace 4)) = true := by kernel_rfl
theorem zsv : ((Rows.fnExactToPropositionalRow.unfollowed == Tryz.checked.prog.unfollowed 4)) = true := by kernel_rfl
theorem zvc : ((Rows.fnExactToPropositionalRow.recurses == Tryz.checked.prog.recurses 4)) = true := by kernel_rfl
theorem zsu : ((Rows.fnExactToPropositionalRow.named == Tryz.checked.prog.varsNamed 4)) = true := by kernel_rfl
theorem zt0 : ((Rows.fnExactToPropositionalRow.maps == (Tryz.f4.params.toList ++ Rows.fnExactToPropositionalSpec.plain.varTypes Tryz.checked.prog).any (Tryz.checked.prog.mapsRec ·))) = true := by kernel_rfl
theorem zt2 : ((Rows.fnExactToPropositionalRow.ifaces == (Tryz.f4.params.toList ++ Rows.fnExactToPropositionalSpec.plain.varTypes Tryz.checked.prog).any (Tryz.checked.prog.ifacesRec ·))) = true := by kernel_rfl
theorem ztq : ((Rows.fnExactToPropositionalRow.mapsOut == Tryz.checked.prog.mapsAmong Tryz.f4.resultTypes.toList)) = true := by kernel_rfl
theorem ztc : ((Rows.fnExactToPropositionalRow.loops == (Tryz.f4.params.toList ++ Rows.fnExactToPropositionalSpec.plain.varTypes Tryz.checked.prog).any (Tryz.checked.prog.loopsFrom ·))) = true := by kernel_rfl
theorem zuk : ((Rows.fnExactToPropositionalRow.wideKeys == (Tryz.f4.params.toList ++ Rows.fnExactToPropositionalSpec.plain.varTypes Tryz.checked.prog ++ Tryz.f4.resultTypes.toList).any (Tryz.checked.prog.wideKeysFrom ·))) = true := by kernel_rfl
theorem zsq : (Rows.fnExactToPropositionalSpec.vars.all (Tryz.checked.prog.varReadable ·)) = true := by kernel_rfl
theorem zws : (Tryz.f4.resultTypes.all (fun t => Tryz.checked.prog.readableRec t && decide (t < Tryz.checked.prog.types.size))) = true := by kernel_rfl
theorem zvl : ((Rows.fnExactToPropositionalRow.ifacesOut == Tryz.f4.resultTypes.toList.any (Tryz.checked.prog.ifacesRec ·))) = true := by kernel_rfl
theorem zsw : ((Rows.fnExactToPropositionalRow.loopsOut == Tryz.f4.resultTypes.toList.any (Tryz.checked.prog.loopsFrom ·))) = true := by kernel_rfl
theorem zvu : ((Rows.fnExactToPropositionalRow.plainKeys == Tryz.checked.prog.plainKeys)) = true := by kernel_rfl
theorem ztx : (Rows.fnExactToPropositionalRow.shortTexts.isNone) = true := by kernel_rfl
theorem zti : (Tryz.checked.prog.stopsHeard) = true := by kernel_rfl
theorem zvn : (Tryz.checked.prog.mayEnter) = true := by kernel_rfl
theorem zvr : ((Rows.fnExactToPropositionalRow.lifted == Tryz.checked.prog.liftsFinal)) = true := by kernel_rfl
theorem zw1 : ((Tryz.checked.prog.make == some Rows.fnExactToPropositionalRow.make)) = true := by kernel_rfl
theorem zuu : ((Rows.fnExactToPropositionalRow.kinds == (if Rows.fnExactToPropositionalRow.domain.isEmpty then [] else Tryz.f4.params.toList.map fun t => match Tryz.checked.prog.underlying t with | some (.int k) => some k | _ => none))) = true := by kernel_rfl
theorem ztp : ((Rows.fnExactToPropositionalRow.pinned == Rows.fnExactToPropositionalRow.pinnedBy)) = true := by kernel_rfl
theorem ztb : ((Rows.fnExactToPropositionalRow.veiled == (Tryz.f4.params.toList ++ Rows.fnExactToPropositionalSpec.plain.varTypes Tryz.checked.prog ++ Tryz.f4.resultTypes.toList).any (Tryz.checked.prog.veiledRec ·))) = true := by kernel_rfl
theorem zul : (Rows.fnExactToPropositionalRow.veiledFits Tryz.checked.prog Tryz.f4.params.toList (Tryz.f4.params.toList ++ Rows.fnExactToPropositionalSpec.plain.varTypes Tryz.checked.prog ++ Tryz.f4.resultTypes.toList)) = true := by kernel_rfl
theorem zkv : joinedFacts Tryz.checked.prog 4 Tryz.f4 Rows.fnExactToPropositionalSpec Rows.fnExactToPropositionalRow = true := by
 unfold joinedFacts
 simp only [Bool.and_eq_true]
 exact ⟨⟨⟨⟨⟨⟨⟨⟨⟨⟨⟨⟨⟨⟨⟨⟨⟨⟨⟨⟨⟨⟨⟨⟨⟨⟨⟨⟨⟨⟨⟨zyv, zyd⟩, qa9⟩, zzg⟩, zxv⟩, zyr⟩, qap⟩, zzl⟩, zzy⟩, qa8⟩, zsv⟩, zvc⟩, zsu⟩, zt0⟩, zt2⟩, ztq⟩, ztc⟩, zuk⟩, zsq⟩, zws⟩, zvl⟩, zsw⟩, zvu⟩, ztx⟩, zti⟩, zvn⟩, zvr⟩, zw1⟩, zuu⟩, ztp⟩, ztb⟩, zul⟩
theorem toPropositional_holds : Rows.FnExactToPropositionalSaid :=
 OpenClaim.holds_of_wide 4 Tryz.f4 rfl rfl rfl rfl rfl rfl rfl ⟨rfl, rfl, rfl, rfl, rfl⟩ rfl rfl rfl rfl rfl (by kernel_rfl) Tryz.func4 zkv
  (of_decide_eq_true (by kernel_rfl)) (by unfold Func.isWrapper; rw [if_neg (of_decide_eq_false (by kernel_rfl))]; exact ⟨rfl, rfl⟩)
  (fun os started H enc _ => zl6 os started H enc)
#print axioms toPropositional_holds
end Go.Proofs.YtnkagnjiljjpcaaGreat
