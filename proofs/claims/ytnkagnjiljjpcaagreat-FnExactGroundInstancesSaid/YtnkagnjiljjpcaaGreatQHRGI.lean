/-
  FnExactGroundInstances returns true for all arguments, and its arguments read afterwards as they read before.
  Conditions: none.
-/
import Derived.Test.YtnkagnjiljjpcaaGreatRows
import Derived.Test.YtnkagnjiljjpcaaGreatQH1
import Derived.Test.YtnkagnjiljjpcaaGreatQH4
import Derived.Test.YtnkagnjiljjpcaaGreatQH8
import Derived.ProofKit
import Derived.OpenShut
import Derived.ShutString
import Derived.ChangeOld
namespace Go.Proofs.YtnkagnjiljjpcaaGreat
set_option linter.unusedSimpArgs false
set_option linter.unusedVariables false
set_option linter.unusedSectionVars false
set_option maxRecDepth 4000
open Go.ChangeShapes Go.WideShapes Go.ChangeAt Go.RowKit
theorem qch : ownKnob Tryz.prog.godebug = none := by kernel_rfl
theorem zgh : laidOutB Tryz.prog = true := by kernel_rfl
def zgr (t : TypeId) : Bool := t == 3 || t == 9 || t == 95 || t == 44 || t == 4 || t == 129 || t == 41 || t == 43
theorem zf8 : ∀ t, zgr t = true -> zxj Tryz.prog zgr t = true := by
 intro t h
 simp only [zgr, Bool.or_eq_true, beq_iff_eq] at h
 rcases h with ((((((rfl | rfl) | rfl) | rfl) | rfl) | rfl) | rfl) | rfl <;> kernel_rfl
set_option maxRecDepth 100000 in
theorem zn6 (os : Os) (started : os.Started) (H : Type) (enc : TypeId × Value -> H) :
  ReturnsInHanded {} Tryz.checked os 6 .any (Rows.fnExactGroundInstancesSpec.pre6 enc Tryz.prog Tryz.f6 Rows.fnExactGroundInstancesRow.domain false)
   (Rows.fnExactGroundInstancesSpec.post enc Tryz.prog Tryz.f6 false true false false) := by
 refine returnsInHanded_of_change (C := Tryz.checked) qch started (by kernel_rfl) Tryz.func6
  (ChangeSpec.witness6 (enc := enc) (C := Tryz.checked) false ⟨#[], #[.agg #[.slice none 0 0], .slice none 0 0], []⟩ 8 (by kernel_rfl) (by kernel_rfl) (by kernel_rfl) (by kernel_rfl)) ?_
 intro W base args ds gs before hval0 hW hcnd _
 have hval : ∀ (j : Nat) t v, Tryz.f6.params[j]? = some t -> args[j]? = some v -> Value.okWide Tryz.prog W .any base t v := hval0
 have hW' := hW
 obtain ⟨p, q, hA0, hV, rfl, hfz, hnd⟩ := hW
 have hA : DataW.TrodAll enc Tryz.prog W 0 (fun _ => true) true Tryz.f6.params.toList args.toList ds p := hA0
 rw [Tryz.params6] at hA hval
 obtain ⟨v0, vs0, d0, ds0, p0, q0, hargs, rfl, rfl, h0, r0⟩ := trodAll_cons hA
 obtain ⟨v1, vs1, d1, ds1, p1, q1, rfl, rfl, rfl, h1, r1⟩ := trodAll_cons r0
 obtain ⟨rfl, rfl, rfl⟩ := trodAll_nil r1
 obtain rfl : args = #[v0, v1] := by cases args; simp_all
 obtain ⟨rfl, rfl⟩ := trodVars_none hV
 have k0 := h0
 have k1 := h1
 have lt0 : ∀ x ∈ p0, x.block < W.heap.size := by obtain ⟨m, hm⟩ := k0; exact DataW.trod_lt m _ _ _ hm
 have lt1 : ∀ x ∈ p1, x.block < W.heap.size := by obtain ⟨m, hm⟩ := k1; exact DataW.trod_lt m _ _ _ hm
 obtain ⟨cs0, rfl, _⟩ := okWide_struct Tryz.underlying43 (hval 0 43 v0 rfl rfl)
 obtain ⟨sa1, sb1, sc1, rfl⟩ := okWide_slice Tryz.underlying44 (hval 1 44 v1 rfl rfl)
 obtain ⟨s0, hs0⟩ : ∃ s : Cq, zvz W (· < W.heap.size) (cqD s) (.agg cs0) := by
  obtain ⟨m, hm⟩ := h0
  obtain ⟨d, hr, hs⟩ := zie zf8 m _ _ _ (by rfl) hm
  obtain ⟨s, e⟩ := zzy hs
  exact ⟨s, cs0.toList, rfl, e ▸ hr⟩
 obtain ⟨s1, hs1⟩ : ∃ s : (List Tm), zvz W (· < W.heap.size) (tmsD s) (.slice sa1 sb1 sc1) := by
  obtain ⟨m, hm⟩ := h1
  obtain ⟨d, hr, hs⟩ := zie zf8 m _ _ _ (by rfl) hm
  obtain ⟨s, e⟩ := qdp hs
  rw [e] at hr
  obtain ⟨v', vs', e1, e2, _⟩ := hr
  cases e1
  exact ⟨s, e2⟩
 have hs : za3 W (· < W.heap.size) [cqD s0, tmsD s1] [.agg cs0, .slice sa1 sb1 sc1] := ⟨_, _, rfl, hs0, _, _, rfl, hs1, rfl⟩
 clear hA0 hval0
 refine ((qkh s0 s1).use (vs := [.agg cs0, .slice sa1 sb1 sc1]) hs).mono fun e W' ⟨us, fp, he, ho, _, _, bel⟩ => ?_
 obtain ⟨u, us', f1, f2, rfl, _, ⟨rfl, _⟩, hu⟩ := ho
 obtain ⟨rfl, _⟩ := hu
 subst he
 exact ⟨_, rfl, _, _, _, [], _, [], hW', trodAll_mk1 (shut_bool Tryz.underlying4 _),
  (trodAll_cons_mk (Below.trod zgh (by kernel_rfl) (of_decide_eq_true (by kernel_rfl)) k0 bel lt0) (trodAll_cons_mk (Below.trod zgh (by kernel_rfl) (of_decide_eq_true (by kernel_rfl)) k1 bel lt1) trodAll_mk0)), rfl, bel.frame _, fun h => by cases h⟩
theorem qeq : (Rows.fnExactGroundInstancesRow.wf (OpenSpec.ofChange Rows.fnExactGroundInstancesSpec)) = true := by kernel_rfl
theorem qfe : (laidOutB Tryz.checked.prog) = true := by kernel_rfl
theorem qen : (mapsRowed Tryz.checked.prog) = true := by kernel_rfl
theorem qep : (Tryz.f6.params.all (Tryz.checked.prog.readableRec ·)) = true := by kernel_rfl
theorem qey : (namedTie Tryz.checked.prog Rows.fnExactGroundInstancesRow.named Rows.fnExactGroundInstancesSpec.vars) = true := by kernel_rfl
theorem qe0 : ((Rows.fnExactGroundInstancesRow.stops == [])) = true := by kernel_rfl
theorem qff : ((Tryz.checked.prog.stops == [])) = true := by kernel_rfl
theorem qdi : ((Rows.fnExactGroundInstancesRow.knobs == [])) = true := by kernel_rfl
theorem qf8 : ((Tryz.checked.prog.stopKnobs == [])) = true := by kernel_rfl
theorem qfz : ((Rows.fnExactGroundInstancesRow.inPlace == Tryz.checked.prog.inPlace 6)) = true := by kernel_rfl
theorem zxp : ((Rows.fnExactGroundInstancesRow.unfollowed == Tryz.checked.prog.unfollowed 6)) = true := by kernel_rfl
theorem qci : ((Rows.fnExactGroundInstancesRow.recurses == Tryz.checked.prog.recurses 6)) = true := by kernel_rfl
theorem zzo : ((Rows.fnExactGroundInstancesRow.named == Tryz.checked.prog.varsNamed 6)) = true := by kernel_rfl
theorem qbo : ((Rows.fnExactGroundInstancesRow.maps == (Tryz.f6.params.toList ++ Rows.fnExactGroundInstancesSpec.plain.varTypes Tryz.checked.prog).any (Tryz.checked.prog.mapsRec ·))) = true := by kernel_rfl
theorem zz8 : ((Rows.fnExactGroundInstancesRow.ifaces == (Tryz.f6.params.toList ++ Rows.fnExactGroundInstancesSpec.plain.varTypes Tryz.checked.prog).any (Tryz.checked.prog.ifacesRec ·))) = true := by kernel_rfl
theorem qa4 : ((Rows.fnExactGroundInstancesRow.mapsOut == Tryz.checked.prog.mapsAmong Tryz.f6.resultTypes.toList)) = true := by kernel_rfl
theorem qai : ((Rows.fnExactGroundInstancesRow.loops == (Tryz.f6.params.toList ++ Rows.fnExactGroundInstancesSpec.plain.varTypes Tryz.checked.prog).any (Tryz.checked.prog.loopsFrom ·))) = true := by kernel_rfl
theorem zzu : ((Rows.fnExactGroundInstancesRow.wideKeys == (Tryz.f6.params.toList ++ Rows.fnExactGroundInstancesSpec.plain.varTypes Tryz.checked.prog ++ Tryz.f6.resultTypes.toList).any (Tryz.checked.prog.wideKeysFrom ·))) = true := by kernel_rfl
theorem zx1 : (Rows.fnExactGroundInstancesSpec.vars.all (Tryz.checked.prog.varReadable ·)) = true := by kernel_rfl
theorem qal : (Tryz.f6.resultTypes.all (fun t => Tryz.checked.prog.readableRec t && decide (t < Tryz.checked.prog.types.size))) = true := by kernel_rfl
theorem zyk : ((Rows.fnExactGroundInstancesRow.ifacesOut == Tryz.f6.resultTypes.toList.any (Tryz.checked.prog.ifacesRec ·))) = true := by kernel_rfl
theorem qb0 : ((Rows.fnExactGroundInstancesRow.loopsOut == Tryz.f6.resultTypes.toList.any (Tryz.checked.prog.loopsFrom ·))) = true := by kernel_rfl
theorem qcj : ((Rows.fnExactGroundInstancesRow.plainKeys == Tryz.checked.prog.plainKeys)) = true := by kernel_rfl
theorem qax : (Rows.fnExactGroundInstancesRow.shortTexts.isNone) = true := by kernel_rfl
theorem qb3 : (Tryz.checked.prog.stopsHeard) = true := by kernel_rfl
theorem zzd : (Tryz.checked.prog.mayEnter) = true := by kernel_rfl
theorem zxd : ((Rows.fnExactGroundInstancesRow.lifted == Tryz.checked.prog.liftsFinal)) = true := by kernel_rfl
theorem qbt : ((Tryz.checked.prog.make == some Rows.fnExactGroundInstancesRow.make)) = true := by kernel_rfl
theorem qar : ((Rows.fnExactGroundInstancesRow.kinds == (if Rows.fnExactGroundInstancesRow.domain.isEmpty then [] else Tryz.f6.params.toList.map fun t => match Tryz.checked.prog.underlying t with | some (.int k) => some k | _ => none))) = true := by kernel_rfl
theorem qav : ((Rows.fnExactGroundInstancesRow.pinned == Rows.fnExactGroundInstancesRow.pinnedBy)) = true := by kernel_rfl
theorem zy4 : ((Rows.fnExactGroundInstancesRow.veiled == (Tryz.f6.params.toList ++ Rows.fnExactGroundInstancesSpec.plain.varTypes Tryz.checked.prog ++ Tryz.f6.resultTypes.toList).any (Tryz.checked.prog.veiledRec ·))) = true := by kernel_rfl
theorem zxi : (Rows.fnExactGroundInstancesRow.veiledFits Tryz.checked.prog Tryz.f6.params.toList (Tryz.f6.params.toList ++ Rows.fnExactGroundInstancesSpec.plain.varTypes Tryz.checked.prog ++ Tryz.f6.resultTypes.toList)) = true := by kernel_rfl
theorem zne : joinedFacts Tryz.checked.prog 6 Tryz.f6 Rows.fnExactGroundInstancesSpec Rows.fnExactGroundInstancesRow = true := by
 unfold joinedFacts
 simp only [Bool.and_eq_true]
 exact ⟨⟨⟨⟨⟨⟨⟨⟨⟨⟨⟨⟨⟨⟨⟨⟨⟨⟨⟨⟨⟨⟨⟨⟨⟨⟨⟨⟨⟨⟨⟨qeq, qfe⟩, qen⟩, qep⟩, qey⟩, qe0⟩, qff⟩, qdi⟩, qf8⟩, qfz⟩, zxp⟩, qci⟩, zzo⟩, qbo⟩, zz8⟩, qa4⟩, qai⟩, zzu⟩, zx1⟩, qal⟩, zyk⟩, qb0⟩, qcj⟩, qax⟩, qb3⟩, zzd⟩, zxd⟩, qbt⟩, qar⟩, qav⟩, zy4⟩, zxi⟩
theorem groundInstances_holds : Rows.FnExactGroundInstancesSaid :=
 OpenClaim.holds_of_wide 6 Tryz.f6 rfl rfl rfl rfl rfl rfl rfl ⟨rfl, rfl, rfl, rfl, rfl⟩ rfl rfl rfl rfl rfl (by kernel_rfl) Tryz.func6 zne
  (of_decide_eq_true (by kernel_rfl)) (by unfold Func.isWrapper; rw [if_neg (of_decide_eq_false (by kernel_rfl))]; exact ⟨rfl, rfl⟩)
  (fun os started H enc _ => zn6 os started H enc)
#print axioms groundInstances_holds
end Go.Proofs.YtnkagnjiljjpcaaGreat
