/-
  FnExactPremisesOf returns true for all arguments, and its arguments read afterwards as they read before.
  Conditions: none.
-/
import Derived.Test.YtemnhgmgeijkcaaGreatRows
import Derived.Test.YtemnhgmgeijkcaaGreatQS1
import Derived.Test.YtemnhgmgeijkcaaGreatQS4
import Derived.Test.YtemnhgmgeijkcaaGreatQS5
import Derived.Test.YtemnhgmgeijkcaaGreatQS9
import Derived.ProofKit
import Derived.OpenShut
import Derived.ShutString
import Derived.ChangeOld
import Derived.Test.YtemnhgmgeijkcaaGreatQS10
namespace Go.Proofs.YtemnhgmgeijkcaaGreat
set_option linter.unusedSimpArgs false
set_option linter.unusedVariables false
set_option linter.unusedSectionVars false
set_option maxRecDepth 4000
open Go.ChangeShapes Go.WideShapes Go.ChangeAt Go.RowKit
theorem qct : ownKnob Tryz.prog.godebug = none := by kernel_rfl
theorem ziw : laidOutB Tryz.prog = true := by kernel_rfl
def zjd (t : TypeId) : Bool := t == 3 || t == 9 || t == 24 || t == 22 || t == 27 || t == 25 || t == 55 || t == 58 || t == 56
theorem zil : ∀ t, zjd t = true -> zqh Tryz.prog zjd t = true := by
 intro t h
 simp only [zjd, Bool.or_eq_true, beq_iff_eq] at h
 rcases h with (((((((rfl | rfl) | rfl) | rfl) | rfl) | rfl) | rfl) | rfl) | rfl <;> kernel_rfl
set_option maxRecDepth 100000 in
theorem zqn (os : Os) (started : os.Started) (H : Type) (enc : TypeId × Value -> H) :
  ReturnsInHanded {} Tryz.checked os 6 .any (Rows.fnExactPremisesOfSpec.pre6 enc Tryz.prog Tryz.f6 Rows.fnExactPremisesOfRow.domain false)
   (Rows.fnExactPremisesOfSpec.post enc Tryz.prog Tryz.f6 false true false false) := by
 refine returnsInHanded_of_change (C := Tryz.checked) qct started (by kernel_rfl) Tryz.func6
  (ChangeSpec.witness6 (enc := enc) (C := Tryz.checked) false ⟨#[], #[.agg #[.slice none 0 0, .slice none 0 0], .agg #[.int .i64 0, .slice none 0 0, .slice none 0 0, .int .i64 0, .string .empty, .slice none 0 0, .int .i64 0, .string .empty, .slice none 0 0, .string .empty, .slice none 0 0, .slice none 0 0]], []⟩ 8 (by kernel_rfl) (by kernel_rfl) (by kernel_rfl) (by kernel_rfl)) ?_
 intro W base args ds gs before hval0 hW hcnd _
 have hval : ∀ (j : Nat) t v, Tryz.f6.params[j]? = some t -> args[j]? = some v -> Value.okWide Tryz.prog W .any base t v := hval0
 have hW' := hW
 obtain ⟨p, q, hA0, hV, rfl, hfz, hnd⟩ := hW
 have hA : DataW.TrodAll enc Tryz.prog W 0 (fun _ => true) true Tryz.f6.params.toList args.toList ds p := hA0
 rw [Tryz.params6] at hA hval
 obtain ⟨v0, vs0, d0, ds0, p0, q0, hargs, rfl, rfl, h0, r0⟩ := trodAll_cons hA
 obtain ⟨v1, vs1, d1, ds1, p1, q1, rfl, rfl, rfl, h1, r1⟩ := trodAll_cons r0
 obtain ⟨rfl, rfl, rfl⟩ := trodAll_nil r1
 obtain rfl : args = #[v0, v1] := by cases args; simp_all
 obtain ⟨rfl, rfl⟩ := trodVars_none hV
 have k0 := h0
 have k1 := h1
 have lt0 : ∀ x ∈ p0, x.block < W.heap.size := by obtain ⟨m, hm⟩ := k0; exact DataW.trod_lt m _ _ _ hm
 have lt1 : ∀ x ∈ p1, x.block < W.heap.size := by obtain ⟨m, hm⟩ := k1; exact DataW.trod_lt m _ _ _ hm
 obtain ⟨cs0, rfl, _⟩ := okWide_struct Tryz.underlying55 (hval 0 55 v0 rfl rfl)
 obtain ⟨cs1, rfl, _⟩ := okWide_struct Tryz.underlying58 (hval 1 58 v1 rfl rfl)
 obtain ⟨s0, hs0⟩ : ∃ s : Sq, zso W (· < W.heap.size) (sqD s) (.agg cs0) := by
  obtain ⟨m, hm⟩ := h0
  obtain ⟨d, hr, hs⟩ := zfv zil m _ _ _ (by rfl) hm
  obtain ⟨s, e⟩ := znp hs
  exact ⟨s, cs0.toList, rfl, e ▸ hr⟩
 obtain ⟨s1, hs1⟩ : ∃ s : Dv, zso W (· < W.heap.size) (dvD s) (.agg cs1) := by
  obtain ⟨m, hm⟩ := h1
  obtain ⟨d, hr, hs⟩ := zfv zil m _ _ _ (by rfl) hm
  obtain ⟨s, e⟩ := zfu _ hs
  exact ⟨s, cs1.toList, rfl, e ▸ hr⟩
 have hs : zbm W (· < W.heap.size) [sqD s0, dvD s1] [.agg cs0, .agg cs1] := ⟨_, _, rfl, hs0, _, _, rfl, hs1, rfl⟩
 clear hA0 hval0
 refine ((qn6 s0 s1).use (vs := [.agg cs0, .agg cs1]) hs).mono fun e W' ⟨us, fp, he, ho, _, _, bel⟩ => ?_
 obtain ⟨u, us', f1, f2, rfl, _, ⟨rfl, _⟩, hu⟩ := ho
 obtain ⟨rfl, _⟩ := hu
 subst he
 exact ⟨_, rfl, _, _, _, [], _, [], hW', trodAll_mk1 (shut_bool Tryz.underlying4 _),
  (trodAll_cons_mk (Below.trod ziw (by kernel_rfl) (of_decide_eq_true (by kernel_rfl)) k0 bel lt0) (trodAll_cons_mk (Below.trod ziw (by kernel_rfl) (of_decide_eq_true (by kernel_rfl)) k1 bel lt1) trodAll_mk0)), rfl, bel.frame _, fun h => by cases h⟩
theorem qie : (Rows.fnExactPremisesOfRow.wf (OpenSpec.ofChange Rows.fnExactPremisesOfSpec)) = true := by kernel_rfl
theorem qjr : (laidOutB Tryz.checked.prog) = true := by kernel_rfl
theorem qkb : (mapsRowed Tryz.checked.prog) = true := by kernel_rfl
theorem qi5 : (Tryz.f6.params.all (Tryz.checked.prog.readableRec ·)) = true := by kernel_rfl
theorem qkq : (namedTie Tryz.checked.prog Rows.fnExactPremisesOfRow.named Rows.fnExactPremisesOfSpec.vars) = true := by kernel_rfl
theorem qg0 : ((Rows.fnExactPremisesOfRow.stops == [])) = true := by kernel_rfl
theorem qin : ((Tryz.checked.prog.stops == [])) = true := by kernel_rfl
theorem qg4 : ((Rows.fnExactPremisesOfRow.knobs == [])) = true := by kernel_rfl
theorem qha : ((Tryz.checked.prog.stopKnobs == [])) = true := by kernel_rfl
theorem qjq : ((Rows.fnExactPremisesOfRow.inPlace == Tryz.checked.prog.inPlace 6)) = true := by kernel_rfl
theorem qe1 : ((Rows.fnExactPremisesOfRow.unfollowed == Tryz.checked.prog.unfollowed 6)) = true := by kernel_rfl
theorem qbt : ((Rows.fnExactPremisesOfRow.recurses == Tryz.checked.prog.recurses 6)) = true := by kernel_rfl
theorem qc8 : ((Rows.fnExactPremisesOfRow.named == Tryz.checked.prog.varsNamed 6)) = true := by kernel_rfl
theorem qen : ((Rows.fnExactPremisesOfRow.maps == (Tryz.f6.params.toList ++ Rows.fnExactPremisesOfSpec.plain.varTypes Tryz.checked.prog).any (Tryz.checked.prog.mapsRec ·))) = true := by kernel_rfl
theorem qep : ((Rows.fnExactPremisesOfRow.ifaces == (Tryz.f6.params.toList ++ Rows.fnExactPremisesOfSpec.plain.varTypes Tryz.checked.prog).any (Tryz.checked.prog.ifacesRec ·))) = true := by kernel_rfl
theorem qdu : ((Rows.fnExactPremisesOfRow.mapsOut == Tryz.checked.prog.mapsAmong Tryz.f6.resultTypes.toList)) = true := by kernel_rfl
theorem qb1 : ((Rows.fnExactPremisesOfRow.loops == (Tryz.f6.params.toList ++ Rows.fnExactPremisesOfSpec.plain.varTypes Tryz.checked.prog).any (Tryz.checked.prog.loopsFrom ·))) = true := by kernel_rfl
theorem qfz : ((Rows.fnExactPremisesOfRow.wideKeys == (Tryz.f6.params.toList ++ Rows.fnExactPremisesOfSpec.plain.varTypes Tryz.checked.prog ++ Tryz.f6.resultTypes.toList).any (Tryz.checked.prog.wideKeysFrom ·))) = true := by kernel_rfl
theorem qbo : (Rows.fnExactPremisesOfSpec.vars.all (Tryz.checked.prog.varReadable ·)) = true := by kernel_rfl
theorem qdo : (Tryz.f6.resultTypes.all (fun t => Tryz.checked.prog.readableRec t && decide (t < Tryz.checked.prog.types.size))) = true := by kernel_rfl
theorem qcy : ((Rows.fnExactPremisesOfRow.ifacesOut == Tryz.f6.resultTypes.toList.any (Tryz.checked.prog.ifacesRec ·))) = true := by kernel_rfl
theorem qey : ((Rows.fnExactPremisesOfRow.loopsOut == Tryz.f6.resultTypes.toList.any (Tryz.checked.prog.loopsFrom ·))) = true := by kernel_rfl
theorem qem : ((Rows.fnExactPremisesOfRow.plainKeys == Tryz.checked.prog.plainKeys)) = true := by kernel_rfl
theorem qdm : (Rows.fnExactPremisesOfRow.shortTexts.isNone) = true := by kernel_rfl
theorem qbn : (Tryz.checked.prog.stopsHeard) = true := by kernel_rfl
theorem zzp : (Tryz.checked.prog.mayEnter) = true := by kernel_rfl
theorem qbl : ((Rows.fnExactPremisesOfRow.lifted == Tryz.checked.prog.liftsFinal)) = true := by kernel_rfl
theorem qeb : ((Tryz.checked.prog.make == some Rows.fnExactPremisesOfRow.make)) = true := by kernel_rfl
theorem qav : ((Rows.fnExactPremisesOfRow.kinds == (if Rows.fnExactPremisesOfRow.domain.isEmpty then [] else Tryz.f6.params.toList.map fun t => match Tryz.checked.prog.underlying t with | some (.int k) => some k | _ => none))) = true := by kernel_rfl
theorem qdd : ((Rows.fnExactPremisesOfRow.pinned == Rows.fnExactPremisesOfRow.pinnedBy)) = true := by kernel_rfl
theorem zz8 : ((Rows.fnExactPremisesOfRow.veiled == (Tryz.f6.params.toList ++ Rows.fnExactPremisesOfSpec.plain.varTypes Tryz.checked.prog ++ Tryz.f6.resultTypes.toList).any (Tryz.checked.prog.veiledRec ·))) = true := by kernel_rfl
theorem qbj : (Rows.fnExactPremisesOfRow.veiledFits Tryz.checked.prog Tryz.f6.params.toList (Tryz.f6.params.toList ++ Rows.fnExactPremisesOfSpec.plain.varTypes Tryz.checked.prog ++ Tryz.f6.resultTypes.toList)) = true := by kernel_rfl
theorem zqp : joinedFacts Tryz.checked.prog 6 Tryz.f6 Rows.fnExactPremisesOfSpec Rows.fnExactPremisesOfRow = true := by
 unfold joinedFacts
 simp only [Bool.and_eq_true]
 exact ⟨⟨⟨⟨⟨⟨⟨⟨⟨⟨⟨⟨⟨⟨⟨⟨⟨⟨⟨⟨⟨⟨⟨⟨⟨⟨⟨⟨⟨⟨⟨qie, qjr⟩, qkb⟩, qi5⟩, qkq⟩, qg0⟩, qin⟩, qg4⟩, qha⟩, qjq⟩, qe1⟩, qbt⟩, qc8⟩, qen⟩, qep⟩, qdu⟩, qb1⟩, qfz⟩, qbo⟩, qdo⟩, qcy⟩, qey⟩, qem⟩, qdm⟩, qbn⟩, zzp⟩, qbl⟩, qeb⟩, qav⟩, qdd⟩, zz8⟩, qbj⟩
theorem premisesOf_holds : Rows.FnExactPremisesOfSaid :=
 OpenClaim.holds_of_wide 6 Tryz.f6 rfl rfl rfl rfl rfl rfl rfl ⟨rfl, rfl, rfl, rfl, rfl⟩ rfl rfl rfl rfl rfl (by kernel_rfl) Tryz.func6 zqp
  (of_decide_eq_true (by kernel_rfl)) (by unfold Func.isWrapper; rw [if_neg (of_decide_eq_false (by kernel_rfl))]; exact ⟨rfl, rfl⟩)
  (fun os started H enc _ => zqn os started H enc)
#print axioms premisesOf_holds
end Go.Proofs.YtemnhgmgeijkcaaGreat
