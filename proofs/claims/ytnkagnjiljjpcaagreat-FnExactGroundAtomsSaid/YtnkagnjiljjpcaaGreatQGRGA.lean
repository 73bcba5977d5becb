/-
  FnExactGroundAtoms returns true for all arguments, and its arguments read afterwards as they read before.
  Conditions: none.
-/
import Derived.Test.YtnkagnjiljjpcaaGreatRows
import Derived.Test.YtnkagnjiljjpcaaGreatQG1
import Derived.Test.YtnkagnjiljjpcaaGreatQG4
import Derived.Test.YtnkagnjiljjpcaaGreatQG6
import Derived.ProofKit
import Derived.OpenShut
import Derived.ShutString
import Derived.ChangeOld
namespace Go.Proofs.YtnkagnjiljjpcaaGreat
set_option linter.unusedSimpArgs false
set_option linter.unusedVariables false
set_option linter.unusedSectionVars false
set_option maxRecDepth 4000
open Go.ChangeShapes Go.WideShapes Go.ChangeAt Go.RowKit
theorem zvf : ownKnob Tryz.prog.godebug = none := by kernel_rfl
theorem zju : laidOutB Tryz.prog = true := by kernel_rfl
def ze1 (t : TypeId) : Bool := t == 3 || t == 9 || t == 95 || t == 44 || t == 4 || t == 129 || t == 41 || t == 43 || t == 22
theorem zje : ∀ t, ze1 t = true -> zrv Tryz.prog ze1 t = true := by
 intro t h
 simp only [ze1, Bool.or_eq_true, beq_iff_eq] at h
 rcases h with (((((((rfl | rfl) | rfl) | rfl) | rfl) | rfl) | rfl) | rfl) | rfl <;> kernel_rfl
set_option maxRecDepth 100000 in
theorem zkp (os : Os) (started : os.Started) (H : Type) (enc : TypeId × Value -> H) :
  ReturnsInHanded {} Tryz.checked os 3 .any (Rows.fnExactGroundAtomsSpec.pre6 enc Tryz.prog Tryz.f3 Rows.fnExactGroundAtomsRow.domain false)
   (Rows.fnExactGroundAtomsSpec.post enc Tryz.prog Tryz.f3 false true false false) := by
 refine returnsInHanded_of_change (C := Tryz.checked) zvf started (by kernel_rfl) Tryz.func3
  (ChangeSpec.witness6 (enc := enc) (C := Tryz.checked) false ⟨#[], #[.slice none 0 0], []⟩ 8 (by kernel_rfl) (by kernel_rfl) (by kernel_rfl) (by kernel_rfl)) ?_
 intro W base args ds gs before hval0 hW hcnd _
 have hval : ∀ (j : Nat) t v, Tryz.f3.params[j]? = some t -> args[j]? = some v -> Value.okWide Tryz.prog W .any base t v := hval0
 have hW' := hW
 obtain ⟨p, q, hA0, hV, rfl, hfz, hnd⟩ := hW
 have hA : DataW.TrodAll enc Tryz.prog W 0 (fun _ => true) true Tryz.f3.params.toList args.toList ds p := hA0
 rw [Tryz.params3] at hA hval
 obtain ⟨v0, vs0, d0, ds0, p0, q0, hargs, rfl, rfl, h0, r0⟩ := trodAll_cons hA
 obtain ⟨rfl, rfl, rfl⟩ := trodAll_nil r0
 obtain rfl : args = #[v0] := by cases args; simp_all
 obtain ⟨rfl, rfl⟩ := trodVars_none hV
 have k0 := h0
 have lt0 : ∀ x ∈ p0, x.block < W.heap.size := by obtain ⟨m, hm⟩ := k0; exact DataW.trod_lt m _ _ _ hm
 obtain ⟨sa0, sb0, sc0, rfl⟩ := okWide_slice Tryz.underlying22 (hval 0 22 v0 rfl rfl)
 obtain ⟨s0, hs0⟩ : ∃ s : (List Cq), zyw W (· < W.heap.size) (cqsD s) (.slice sa0 sb0 sc0) := by
  obtain ⟨m, hm⟩ := h0
  obtain ⟨d, hr, hs⟩ := zm9 zje m _ _ _ (by rfl) hm
  obtain ⟨s, e⟩ := zql hs
  rw [e] at hr
  obtain ⟨v', vs', e1, e2, _⟩ := hr
  cases e1
  exact ⟨s, e2⟩
 have hs : za7 W (· < W.heap.size) [cqsD s0] [.slice sa0 sb0 sc0] := ⟨_, _, rfl, hs0, rfl⟩
 clear hA0 hval0
 refine ((qb9 s0).use (vs := [.slice sa0 sb0 sc0]) hs).mono fun e W' ⟨us, fp, he, ho, _, _, bel⟩ => ?_
 obtain ⟨u, us', f1, f2, rfl, _, ⟨rfl, _⟩, hu⟩ := ho
 obtain ⟨rfl, _⟩ := hu
 subst he
 exact ⟨_, rfl, _, _, _, [], _, [], hW', trodAll_mk1 (shut_bool Tryz.underlying4 _),
  (trodAll_cons_mk (Below.trod zju (by kernel_rfl) (of_decide_eq_true (by kernel_rfl)) k0 bel lt0) trodAll_mk0), rfl, bel.frame _, fun h => by cases h⟩
theorem zw0 : (Rows.fnExactGroundAtomsRow.wf (OpenSpec.ofChange Rows.fnExactGroundAtomsSpec)) = true := by kernel_rfl
theorem zza : (laidOutB Tryz.checked.prog) = true := by kernel_rfl
theorem zyp : (mapsRowed Tryz.checked.prog) = true := by kernel_rfl
theorem zwk : (Tryz.f3.params.all (Tryz.checked.prog.readableRec ·)) = true := by kernel_rfl
theorem zys : (namedTie Tryz.checked.prog Rows.fnExactGroundAtomsRow.named Rows.fnExactGroundAtomsSpec.vars) = true := by kernel_rfl
theorem zwb : ((Rows.fnExactGroundAtomsRow.stops == [])) = true := by kernel_rfl
theorem zx2 : ((Tryz.checked.prog.stops == [])) = true := by kernel_rfl
theorem zxs : ((Rows.fnExactGroundAtomsRow.knobs == [])) = true := by kernel_rfl
theorem zwu : ((Tryz.checked.prog.stopKnobs == [])) = true := by kernel_rfl
theorem zwr : ((Rows.fnExactGroundAtomsRow.inPlace == Tryz.checked.prog.inPlace 3)) = true := by kernel_rfl
theorem zui : ((Rows.fnExactGroundAtomsRow.unfollowed == Tryz.checked.prog.unfollowed 3)) = true := by kernel_rfl
theorem ztp : ((Rows.fnExactGroundAtomsRow.recurses == Tryz.checked.prog.recurses 3)) = true := by kernel_rfl
theorem zuv : ((Rows.fnExactGroundAtomsRow.named == Tryz.checked.prog.varsNamed 3)) = true := by kernel_rfl
theorem zt7 : ((Rows.fnExactGroundAtomsRow.maps == (Tryz.f3.params.toList ++ Rows.fnExactGroundAtomsSpec.plain.varTypes Tryz.checked.prog).any (Tryz.checked.prog.mapsRec ·))) = true := by kernel_rfl
theorem zuh : ((Rows.fnExactGroundAtomsRow.ifaces == (Tryz.f3.params.toList ++ Rows.fnExactGroundAtomsSpec.plain.varTypes Tryz.checked.prog).any (Tryz.checked.prog.ifacesRec ·))) = true := by kernel_rfl
theorem zq6 : ((Rows.fnExactGroundAtomsRow.mapsOut == Tryz.checked.prog.mapsAmong Tryz.f3.resultTypes.toList)) = true := by kernel_rfl
theorem zq8 : ((Rows.fnExactGroundAtomsRow.loops == (Tryz.f3.params.toList ++ Rows.fnExactGroundAtomsSpec.plain.varTypes Tryz.checked.prog).any (Tryz.checked.prog.loopsFrom ·))) = true := by kernel_rfl
theorem ztf : ((Rows.fnExactGroundAtomsRow.wideKeys == (Tryz.f3.params.toList ++ Rows.fnExactGroundAtomsSpec.plain.varTypes Tryz.checked.prog ++ Tryz.f3.resultTypes.toList).any (Tryz.checked.prog.wideKeysFrom ·))) = true := by kernel_rfl
theorem zso : (Rows.fnExactGroundAtomsSpec.vars.all (Tryz.checked.prog.varReadable ·)) = true := by kernel_rfl
theorem zr5 : (Tryz.f3.resultTypes.all (fun t => Tryz.checked.prog.readableRec t && decide (t < Tryz.checked.prog.types.size))) = true := by kernel_rfl
theorem zt0 : ((Rows.fnExactGroundAtomsRow.ifacesOut == Tryz.f3.resultTypes.toList.any (Tryz.checked.prog.ifacesRec ·))) = true := by kernel_rfl
theorem zq4 : ((Rows.fnExactGroundAtomsRow.loopsOut == Tryz.f3.resultTypes.toList.any (Tryz.checked.prog.loopsFrom ·))) = true := by kernel_rfl
theorem zrk : ((Rows.fnExactGroundAtomsRow.plainKeys == Tryz.checked.prog.plainKeys)) = true := by kernel_rfl
theorem zuy : (Rows.fnExactGroundAtomsRow.shortTexts.isNone) = true := by kernel_rfl
theorem zta : (Tryz.checked.prog.stopsHeard) = true := by kernel_rfl
theorem zrr : (Tryz.checked.prog.mayEnter) = true := by kernel_rfl
theorem zvq : ((Rows.fnExactGroundAtomsRow.lifted == Tryz.checked.prog.liftsFinal)) = true := by kernel_rfl
theorem zst : ((Tryz.checked.prog.make == some Rows.fnExactGroundAtomsRow.make)) = true := by kernel_rfl
theorem zr3 : ((Rows.fnExactGroundAtomsRow.kinds == (if Rows.fnExactGroundAtomsRow.domain.isEmpty then [] else Tryz.f3.params.toList.map fun t => match Tryz.checked.prog.underlying t with | some (.int k) => some k | _ => none))) = true := by kernel_rfl
theorem zrz : ((Rows.fnExactGroundAtomsRow.pinned == Rows.fnExactGroundAtomsRow.pinnedBy)) = true := by kernel_rfl
theorem zty : ((Rows.fnExactGroundAtomsRow.veiled == (Tryz.f3.params.toList ++ Rows.fnExactGroundAtomsSpec.plain.varTypes Tryz.checked.prog ++ Tryz.f3.resultTypes.toList).any (Tryz.checked.prog.veiledRec ·))) = true := by kernel_rfl
theorem ztb : (Rows.fnExactGroundAtomsRow.veiledFits Tryz.checked.prog Tryz.f3.params.toList (Tryz.f3.params.toList ++ Rows.fnExactGroundAtomsSpec.plain.varTypes Tryz.checked.prog ++ Tryz.f3.resultTypes.toList)) = true := by kernel_rfl
theorem zj8 : joinedFacts Tryz.checked.prog 3 Tryz.f3 Rows.fnExactGroundAtomsSpec Rows.fnExactGroundAtomsRow = true := by
 unfold joinedFacts
 simp only [Bool.and_eq_true]
 exact ⟨⟨⟨⟨⟨⟨⟨⟨⟨⟨⟨⟨⟨⟨⟨⟨⟨⟨⟨⟨⟨⟨⟨⟨⟨⟨⟨⟨⟨⟨⟨zw0, zza⟩, zyp⟩, zwk⟩, zys⟩, zwb⟩, zx2⟩, zxs⟩, zwu⟩, zwr⟩, zui⟩, ztp⟩, zuv⟩, zt7⟩, zuh⟩, zq6⟩, zq8⟩, ztf⟩, zso⟩, zr5⟩, zt0⟩, zq4⟩, zrk⟩, zuy⟩, zta⟩, zrr⟩, zvq⟩, zst⟩, zr3⟩, zrz⟩, zty⟩, ztb⟩
theorem groundAtoms_holds : Rows.FnExactGroundAtomsSaid :=
 OpenClaim.holds_of_wide 3 Tryz.f3 rfl rfl rfl rfl rfl rfl rfl ⟨rfl, rfl, rfl, rfl, rfl⟩ rfl rfl rfl rfl rfl (by kernel_rfl) Tryz.func3 zj8
  (of_decide_eq_true (by kernel_rfl)) (by unfold Func.isWrapper; rw [if_neg (of_decide_eq_false (by kernel_rfl))]; exact ⟨rfl, rfl⟩)
  (fun os started H enc _ => zkp os started H enc)
#print axioms groundAtoms_holds
end Go.Proofs.YtnkagnjiljjpcaaGreat
