/-
  FnPropositional returns true for all arguments, and its arguments read afterwards as they read before.
  Conditions: none.
-/
import Derived.Test.YteeaofpphmhjdaaRows
import Derived.Test.YteeaofpphmhjdaaQQ1
import Derived.Test.YteeaofpphmhjdaaQQ4
import Derived.Test.YteeaofpphmhjdaaQQ6
import Derived.ProofKit
import Derived.OpenShut
import Derived.ShutString
import Derived.ChangeOld
namespace Go.Proofs.Yteeaofpphmhjdaa
set_option linter.unusedSimpArgs false
set_option linter.unusedVariables false
set_option linter.unusedSectionVars false
set_option maxRecDepth 4000
open Go.ChangeShapes Go.WideShapes Go.ChangeAt Go.RowKit
theorem zq1 : ownKnob Try.prog.godebug = none := by kernel_rfl
theorem zg2 : laidOutB Try.prog = true := by kernel_rfl
def zd9 (t : TypeId) : Bool := t == 5 || t == 22
theorem zg3 : ∀ t, zd9 t = true -> zn0 Try.prog zd9 t = true := by
 intro t h
 simp only [zd9, Bool.or_eq_true, beq_iff_eq] at h
 rcases h with rfl | rfl <;> kernel_rfl
set_option maxRecDepth 100000 in
theorem zhx (os : Os) (started : os.Started) (H : Type) (enc : TypeId × Value -> H) :
  ReturnsInHanded {} Try.checked os 5 .any (Rows.fnPropositionalSpec.pre6 enc Try.prog Try.f5 Rows.fnPropositionalRow.domain false)
   (Rows.fnPropositionalSpec.post enc Try.prog Try.f5 false true false false) := by
 refine returnsInHanded_of_change (C := Try.checked) zq1 started (by kernel_rfl) Try.func5
  (ChangeSpec.witness6 (enc := enc) (C := Try.checked) false ⟨#[], #[.slice none 0 0], []⟩ 8 (by kernel_rfl) (by kernel_rfl) (by kernel_rfl) (by kernel_rfl)) ?_
 intro W base args ds gs before hval0 hW hcnd _
 have hval : ∀ (j : Nat) t v, Try.f5.params[j]? = some t -> args[j]? = some v -> Value.okWide Try.prog W .any base t v := hval0
 have hW' := hW
 obtain ⟨p, q, hA0, hV, rfl, hfz, hnd⟩ := hW
 have hA : DataW.TrodAll enc Try.prog W 0 (fun _ => true) true Try.f5.params.toList args.toList ds p := hA0
 rw [Try.params5] at hA hval
 obtain ⟨v0, vs0, d0, ds0, p0, q0, hargs, rfl, rfl, h0, r0⟩ := trodAll_cons hA
 obtain ⟨rfl, rfl, rfl⟩ := trodAll_nil r0
 obtain rfl : args = #[v0] := by cases args; simp_all
 obtain ⟨rfl, rfl⟩ := trodVars_none hV
 have k0 := h0
 have lt0 : ∀ x ∈ p0, x.block < W.heap.size := by obtain ⟨m, hm⟩ := k0; exact DataW.trod_lt m _ _ _ hm
 obtain ⟨sa0, sb0, sc0, rfl⟩ := okWide_slice Try.underlying22 (hval 0 22 v0 rfl rfl)
 obtain ⟨s0, hs0⟩ : ∃ s : (List UInt8), zrg W (· < W.heap.size) (bsD s) (.slice sa0 sb0 sc0) := by
  obtain ⟨m, hm⟩ := h0
  obtain ⟨d, hr, hs⟩ := zjw zg3 m _ _ _ (by rfl) hm
  obtain ⟨s, e⟩ := ztd hs
  rw [e] at hr
  obtain ⟨v', vs', e1, e2, _⟩ := hr
  cases e1
  exact ⟨s, e2⟩
 have hs : zb4 W (· < W.heap.size) [bsD s0] [.slice sa0 sb0 sc0] := ⟨_, _, rfl, hs0, rfl⟩
 clear hA0 hval0
 refine ((zdy s0).use (vs := [.slice sa0 sb0 sc0]) hs).mono fun e W' ⟨us, fp, he, ho, _, _, bel⟩ => ?_
 obtain ⟨u, us', f1, f2, rfl, _, ⟨rfl, _⟩, hu⟩ := ho
 obtain ⟨rfl, _⟩ := hu
 subst he
 exact ⟨_, rfl, _, _, _, [], _, [], hW', trodAll_mk1 (shut_bool Try.underlying4 _),
  (trodAll_cons_mk (Below.trod zg2 (by kernel_rfl) (of_decide_eq_true (by kernel_rfl)) k0 bel lt0) trodAll_mk0), rfl, bel.frame _, fun h => by cases h⟩
theorem zt8 : (Rows.fnPropositionalRow.wf (OpenSpec.ofChange Rows.fnPropositionalSpec)) = true := by kernel_rfl
theorem zrw : (laidOutB Try.checked.prog) = true := by kernel_rfl
theorem zrx : (mapsRowed Try.checked.prog) = true := by kernel_rfl
theorem zs7 : (Try.f5.params.all (Try.checked.prog.readableRec ·)) = true := by kernel_rfl
theorem zsy : (namedTie Try.checked.prog Rows.fnPropositionalRow.named Rows.fnPropositionalSpec.vars) = true := by kernel_rfl
theorem zt9 : ((Rows.fnPropositionalRow.stops == [])) = true := by kernel_rfl
theorem zru : ((Try.checked.prog.stops == [])) = true := by kernel_rfl
theorem ztf : ((Rows.fnPropositionalRow.knobs == [])) = true := by kernel_rfl
theorem zt3 : ((Try.checked.prog.stopKnobs == [])) = true := by kernel_rfl
theorem ztm : ((Rows.fnPropositionalRow.inPlace == Try.checked.prog.inPlace 5)) = true := by kernel_rfl
theorem zow : ((Rows.fnPropositionalRow.unfollowed == Try.checked.prog.unfollowed 5)) = true := by kernel_rfl
theorem zou : ((Rows.fnPropositionalRow.recurses == Try.checked.prog.recurses 5)) = true := by kernel_rfl
theorem zo7 : ((Rows.fnPropositionalRow.named == Try.checked.prog.varsNamed 5)) = true := by kernel_rfl
theorem zos : ((Rows.fnPropositionalRow.maps == (Try.f5.params.toList ++ Rows.fnPropositionalSpec.plain.varTypes Try.checked.prog).any (Try.checked.prog.mapsRec ·))) = true := by kernel_rfl
theorem zpg : ((Rows.fnPropositionalRow.ifaces == (Try.f5.params.toList ++ Rows.fnPropositionalSpec.plain.varTypes Try.checked.prog).any (Try.checked.prog.ifacesRec ·))) = true := by kernel_rfl
theorem zp3 : ((Rows.fnPropositionalRow.mapsOut == Try.checked.prog.mapsAmong Try.f5.resultTypes.toList)) = true := by kernel_rfl
theorem zpx : ((Rows.fnPropositionalRow.loops == (Try.f5.params.toList ++ Rows.fnPropositionalSpec.plain.varTypes Try.checked.prog).any (Try.checked.prog.loopsFrom ·))) = true := by kernel_rfl
theorem zop : ((Rows.fnPropositionalRow.wideKeys == (Try.f5.params.toList ++ Rows.fnPropositionalSpec.plain.varTypes Try.checked.prog ++ Try.f5.resultTypes.toList).any (Try.checked.prog.wideKeysFrom ·))) = true := by kernel_rfl
theorem zqt : (Rows.fnPropositionalSpec.vars.all (Try.checked.prog.varReadable ·)) = true := by kernel_rfl
theorem zob : (Try.f5.resultTypes.all (fun t => Try.checked.prog.readableRec t && decide (t < Try.checked.prog.types.size))) = true := by kernel_rfl
theorem zov : ((Rows.fnPropositionalRow.ifacesOut == Try.f5.resultTypes.toList.any (Try.checked.prog.ifacesRec ·))) = true := by kernel_rfl
theorem zo4 : ((Rows.fnPropositionalRow.loopsOut == Try.f5.resultTypes.toList.any (Try.checked.prog.loopsFrom ·))) = true := by kernel_rfl
theorem znn : ((Rows.fnPropositionalRow.plainKeys == Try.checked.prog.plainKeys)) = true := by kernel_rfl
theorem zn2 : (Rows.fnPropositionalRow.shortTexts.isNone) = true := by kernel_rfl
theorem znc : (Try.checked.prog.stopsHeard) = true := by kernel_rfl
theorem zpy : (Try.checked.prog.mayEnter) = true := by kernel_rfl
theorem zm8 : ((Rows.fnPropositionalRow.lifted == Try.checked.prog.liftsFinal)) = true := by kernel_rfl
theorem zqr : ((Try.checked.prog.make == some Rows.fnPropositionalRow.make)) = true := by kernel_rfl
theorem znz : ((Rows.fnPropositionalRow.kinds == (if Rows.fnPropositionalRow.domain.isEmpty then [] else Try.f5.params.toList.map fun t => match Try.checked.prog.underlying t with | some (.int k) => some k | _ => none))) = true := by kernel_rfl
theorem znt : ((Rows.fnPropositionalRow.pinned == Rows.fnPropositionalRow.pinnedBy)) = true := by kernel_rfl
theorem zqs : ((Rows.fnPropositionalRow.veiled == (Try.f5.params.toList ++ Rows.fnPropositionalSpec.plain.varTypes Try.checked.prog ++ Try.f5.resultTypes.toList).any (Try.checked.prog.veiledRec ·))) = true := by kernel_rfl
theorem zpv : (Rows.fnPropositionalRow.veiledFits Try.checked.prog Try.f5.params.toList (Try.f5.params.toList ++ Rows.fnPropositionalSpec.plain.varTypes Try.checked.prog ++ Try.f5.resultTypes.toList)) = true := by kernel_rfl
theorem zi3 : joinedFacts Try.checked.prog 5 Try.f5 Rows.fnPropositionalSpec Rows.fnPropositionalRow = true := by
 unfold joinedFacts
 simp only [Bool.and_eq_true]
 exact ⟨⟨⟨⟨⟨⟨⟨⟨⟨⟨⟨⟨⟨⟨⟨⟨⟨⟨⟨⟨⟨⟨⟨⟨⟨⟨⟨⟨⟨⟨⟨zt8, zrw⟩, zrx⟩, zs7⟩, zsy⟩, zt9⟩, zru⟩, ztf⟩, zt3⟩, ztm⟩, zow⟩, zou⟩, zo7⟩, zos⟩, zpg⟩, zp3⟩, zpx⟩, zop⟩, zqt⟩, zob⟩, zov⟩, zo4⟩, znn⟩, zn2⟩, znc⟩, zpy⟩, zm8⟩, zqr⟩, znz⟩, znt⟩, zqs⟩, zpv⟩
theorem propositional_holds : Rows.FnPropositionalSaid :=
 OpenClaim.holds_of_wide 5 Try.f5 rfl rfl rfl rfl rfl rfl rfl ⟨rfl, rfl, rfl, rfl, rfl⟩ rfl rfl rfl rfl rfl (by kernel_rfl) Try.func5 zi3
  (of_decide_eq_true (by kernel_rfl)) (by unfold Func.isWrapper; rw [if_neg (of_decide_eq_false (by kernel_rfl))]; exact ⟨rfl, rfl⟩)
  (fun os started H enc _ => zhx os started H enc)
#print axioms propositional_holds
end Go.Proofs.Yteeaofpphmhjdaa
