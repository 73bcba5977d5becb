/-
  FnColors returns true for all arguments, and its arguments read afterwards as they read before.
  Conditions: none.
-/
import Derived.Test.YteeaofpphmhjdaaRows
import Derived.Test.YteeaofpphmhjdaaQC1
import Derived.Test.YteeaofpphmhjdaaQC3
import Derived.Test.YteeaofpphmhjdaaQC4
import Derived.Test.YteeaofpphmhjdaaQC5
import Derived.ProofKit
import Derived.OpenShut
import Derived.ShutString
import Derived.ChangeOld
namespace Go.Proofs.Yteeaofpphmhjdaa
set_option linter.unusedSimpArgs false
set_option linter.unusedVariables false
set_option linter.unusedSectionVars false
set_option maxRecDepth 4000
open Go.ChangeShapes Go.WideShapes Go.ChangeAt Go.RowKit
theorem zmm : ownKnob Try.prog.godebug = none := by kernel_rfl
theorem zfs : laidOutB Try.prog = true := by kernel_rfl
def zdh (t : TypeId) : Bool := t == 5 || t == 22
theorem zf5 : ∀ t, zdh t = true -> zli Try.prog zdh t = true := by
 intro t h
 simp only [zdh, Bool.or_eq_true, beq_iff_eq] at h
 rcases h with rfl | rfl <;> kernel_rfl
set_option maxRecDepth 100000 in
theorem zhs (os : Os) (started : os.Started) (H : Type) (enc : TypeId × Value -> H) :
  ReturnsInHanded {} Try.checked os 3 .any (Rows.fnColorsSpec.pre6 enc Try.prog Try.f3 Rows.fnColorsRow.domain false)
   (Rows.fnColorsSpec.post enc Try.prog Try.f3 false true false false) := by
 refine returnsInHanded_of_change (C := Try.checked) zmm started (by kernel_rfl) Try.func3
  (ChangeSpec.witness6 (enc := enc) (C := Try.checked) false ⟨#[], #[.slice none 0 0], []⟩ 8 (by kernel_rfl) (by kernel_rfl) (by kernel_rfl) (by kernel_rfl)) ?_
 intro W base args ds gs before hval0 hW hcnd _
 have hval : ∀ (j : Nat) t v, Try.f3.params[j]? = some t -> args[j]? = some v -> Value.okWide Try.prog W .any base t v := hval0
 have hW' := hW
 obtain ⟨p, q, hA0, hV, rfl, hfz, hnd⟩ := hW
 have hA : DataW.TrodAll enc Try.prog W 0 (fun _ => true) true Try.f3.params.toList args.toList ds p := hA0
 rw [Try.params3] at hA hval
 obtain ⟨v0, vs0, d0, ds0, p0, q0, hargs, rfl, rfl, h0, r0⟩ := trodAll_cons hA
 obtain ⟨rfl, rfl, rfl⟩ := trodAll_nil r0
 obtain rfl : args = #[v0] := by cases args; simp_all
 obtain ⟨rfl, rfl⟩ := trodVars_none hV
 have k0 := h0
 have lt0 : ∀ x ∈ p0, x.block < W.heap.size := by obtain ⟨m, hm⟩ := k0; exact DataW.trod_lt m _ _ _ hm
 obtain ⟨sa0, sb0, sc0, rfl⟩ := okWide_slice Try.underlying22 (hval 0 22 v0 rfl rfl)
 obtain ⟨s0, hs0⟩ : ∃ s : (List UInt8), zny W (· < W.heap.size) (bsD s) (.slice sa0 sb0 sc0) := by
  obtain ⟨m, hm⟩ := h0
  obtain ⟨d, hr, hs⟩ := zii zf5 m _ _ _ (by rfl) hm
  obtain ⟨s, e⟩ := zod hs
  rw [e] at hr
  obtain ⟨v', vs', e1, e2, _⟩ := hr
  cases e1
  exact ⟨s, e2⟩
 have hs : zc7 W (· < W.heap.size) [bsD s0] [.slice sa0 sb0 sc0] := ⟨_, _, rfl, hs0, rfl⟩
 clear hA0 hval0
 refine ((zif s0).use (vs := [.slice sa0 sb0 sc0]) hs).mono fun e W' ⟨us, fp, he, ho, _, _, bel⟩ => ?_
 obtain ⟨u, us', f1, f2, rfl, _, ⟨rfl, _⟩, hu⟩ := ho
 obtain ⟨rfl, _⟩ := hu
 subst he
 exact ⟨_, rfl, _, _, _, [], _, [], hW', trodAll_mk1 (shut_bool Try.underlying4 _),
  (trodAll_cons_mk (Below.trod zfs (by kernel_rfl) (of_decide_eq_true (by kernel_rfl)) k0 bel lt0) trodAll_mk0), rfl, bel.frame _, fun h => by cases h⟩
theorem zn7 : (Rows.fnColorsRow.wf (OpenSpec.ofChange Rows.fnColorsSpec)) = true := by kernel_rfl
theorem zp8 : (laidOutB Try.checked.prog) = true := by kernel_rfl
theorem zn1 : (mapsRowed Try.checked.prog) = true := by kernel_rfl
theorem zol : (Try.f3.params.all (Try.checked.prog.readableRec ·)) = true := by kernel_rfl
theorem zph : (namedTie Try.checked.prog Rows.fnColorsRow.named Rows.fnColorsSpec.vars) = true := by kernel_rfl
theorem zo4 : ((Rows.fnColorsRow.stops == [])) = true := by kernel_rfl
theorem zof : ((Try.checked.prog.stops == [])) = true := by kernel_rfl
theorem zox : ((Rows.fnColorsRow.knobs == [])) = true := by kernel_rfl
theorem zoo : ((Try.checked.prog.stopKnobs == [])) = true := by kernel_rfl
theorem zps : ((Rows.fnColorsRow.inPlace == Try.checked.prog.inPlace 3)) = true := by kernel_rfl
theorem zmd : ((Rows.fnColorsRow.unfollowed == Try.checked.prog.unfollowed 3)) = true := by kernel_rfl
theorem zmu : ((Rows.fnColorsRow.recurses == Try.checked.prog.recurses 3)) = true := by kernel_rfl
theorem zmg : ((Rows.fnColorsRow.named == Try.checked.prog.varsNamed 3)) = true := by kernel_rfl
theorem zl1 : ((Rows.fnColorsRow.maps == (Try.f3.params.toList ++ Rows.fnColorsSpec.plain.varTypes Try.checked.prog).any (Try.checked.prog.mapsRec ·))) = true := by kernel_rfl
theorem zlx : ((Rows.fnColorsRow.ifaces == (Try.f3.params.toList ++ Rows.fnColorsSpec.plain.varTypes Try.checked.prog).any (Try.checked.prog.ifacesRec ·))) = true := by kernel_rfl
theorem zld : ((Rows.fnColorsRow.mapsOut == Try.checked.prog.mapsAmong Try.f3.resultTypes.toList)) = true := by kernel_rfl
theorem zlj : ((Rows.fnColorsRow.loops == (Try.f3.params.toList ++ Rows.fnColorsSpec.plain.varTypes Try.checked.prog).any (Try.checked.prog.loopsFrom ·))) = true := by kernel_rfl
theorem znf : ((Rows.fnColorsRow.wideKeys == (Try.f3.params.toList ++ Rows.fnColorsSpec.plain.varTypes Try.checked.prog ++ Try.f3.resultTypes.toList).any (Try.checked.prog.wideKeysFrom ·))) = true := by kernel_rfl
theorem zl6 : (Rows.fnColorsSpec.vars.all (Try.checked.prog.varReadable ·)) = true := by kernel_rfl
theorem zll : (Try.f3.resultTypes.all (fun t => Try.checked.prog.readableRec t && decide (t < Try.checked.prog.types.size))) = true := by kernel_rfl
theorem znd : ((Rows.fnColorsRow.ifacesOut == Try.f3.resultTypes.toList.any (Try.checked.prog.ifacesRec ·))) = true := by kernel_rfl
theorem znn : ((Rows.fnColorsRow.loopsOut == Try.f3.resultTypes.toList.any (Try.checked.prog.loopsFrom ·))) = true := by kernel_rfl
theorem zl3 : ((Rows.fnColorsRow.plainKeys == Try.checked.prog.plainKeys)) = true := by kernel_rfl
theorem zly : (Rows.fnColorsRow.shortTexts.isNone) = true := by kernel_rfl
theorem zk5 : (Try.checked.prog.stopsHeard) = true := by kernel_rfl
theorem zks : (Try.checked.prog.mayEnter) = true := by kernel_rfl
theorem zlr : ((Rows.fnColorsRow.lifted == Try.checked.prog.liftsFinal)) = true := by kernel_rfl
theorem zlg : ((Try.checked.prog.make == some Rows.fnColorsRow.make)) = true := by kernel_rfl
theorem zkt : ((Rows.fnColorsRow.kinds == (if Rows.fnColorsRow.domain.isEmpty then [] else Try.f3.params.toList.map fun t => match Try.checked.prog.underlying t with | some (.int k) => some k | _ => none))) = true := by kernel_rfl
theorem znh : ((Rows.fnColorsRow.pinned == Rows.fnColorsRow.pinnedBy)) = true := by kernel_rfl
theorem zlc : ((Rows.fnColorsRow.veiled == (Try.f3.params.toList ++ Rows.fnColorsSpec.plain.varTypes Try.checked.prog ++ Try.f3.resultTypes.toList).any (Try.checked.prog.veiledRec ·))) = true := by kernel_rfl
theorem zkr : (Rows.fnColorsRow.veiledFits Try.checked.prog Try.f3.params.toList (Try.f3.params.toList ++ Rows.fnColorsSpec.plain.varTypes Try.checked.prog ++ Try.f3.resultTypes.toList)) = true := by kernel_rfl
theorem zg6 : joinedFacts Try.checked.prog 3 Try.f3 Rows.fnColorsSpec Rows.fnColorsRow = true := by
 unfold joinedFacts
 simp only [Bool.and_eq_true]
 exact ⟨⟨⟨⟨⟨⟨⟨⟨⟨⟨⟨⟨⟨⟨⟨⟨⟨⟨⟨⟨⟨⟨⟨⟨⟨⟨⟨⟨⟨⟨⟨zn7, zp8⟩, zn1⟩, zol⟩, zph⟩, zo4⟩, zof⟩, zox⟩, zoo⟩, zps⟩, zmd⟩, zmu⟩, zmg⟩, zl1⟩, zlx⟩, zld⟩, zlj⟩, znf⟩, zl6⟩, zll⟩, znd⟩, znn⟩, zl3⟩, zly⟩, zk5⟩, zks⟩, zlr⟩, zlg⟩, zkt⟩, znh⟩, zlc⟩, zkr⟩
theorem colors_holds : Rows.FnColorsSaid :=
 OpenClaim.holds_of_wide 3 Try.f3 rfl rfl rfl rfl rfl rfl rfl ⟨rfl, rfl, rfl, rfl, rfl⟩ rfl rfl rfl rfl rfl (by kernel_rfl) Try.func3 zg6
  (of_decide_eq_true (by kernel_rfl)) (by unfold Func.isWrapper; rw [if_neg (of_decide_eq_false (by kernel_rfl))]; exact ⟨rfl, rfl⟩)
  (fun os started H enc _ => zhs os started H enc)
#print axioms colors_holds
end Go.Proofs.Yteeaofpphmhjdaa
