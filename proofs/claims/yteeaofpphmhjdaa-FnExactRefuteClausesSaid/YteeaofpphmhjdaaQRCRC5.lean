/-
  FnExactRefuteClauses returns true for all arguments, and its arguments read afterwards as they read before.
  Conditions: none.
-/
import Derived.Test.YteeaofpphmhjdaaRows
import Derived.Test.YteeaofpphmhjdaaQRC1
import Derived.Test.YteeaofpphmhjdaaQRC4
import Derived.Test.YteeaofpphmhjdaaQRC5
import Derived.Test.YteeaofpphmhjdaaQRC8
import Derived.ProofKit
import Derived.OpenShut
import Derived.ShutString
import Derived.ChangeOld
namespace Go.Proofs.Yteeaofpphmhjdaa
set_option linter.unusedSimpArgs false
set_option linter.unusedVariables false
set_option linter.unusedSectionVars false
set_option maxRecDepth 4000
open Go.ChangeShapes Go.WideShapes Go.ChangeAt Go.RowKit
theorem zvf : ownKnob Try.prog.godebug = none := by kernel_rfl
theorem zjv : laidOutB Try.prog = true := by kernel_rfl
def zgc (t : TypeId) : Bool := t == 3 || t == 27 || t == 24
theorem zk1 : ∀ t, zgc t = true -> zq7 Try.prog zgc t = true := by
 intro t h
 simp only [zgc, Bool.or_eq_true, beq_iff_eq] at h
 rcases h with (rfl | rfl) | rfl <;> kernel_rfl
set_option maxRecDepth 100000 in
theorem zmg (os : Os) (started : os.Started) (H : Type) (enc : TypeId × Value -> H) :
  ReturnsInHanded {} Try.checked os 9 .any (Rows.fnExactRefuteClausesSpec.pre6 enc Try.prog Try.f9 Rows.fnExactRefuteClausesRow.domain false)
   (Rows.fnExactRefuteClausesSpec.post enc Try.prog Try.f9 false true false false) := by
 refine returnsInHanded_of_change (C := Try.checked) zvf started (by kernel_rfl) Try.func9
  (ChangeSpec.witness6 (enc := enc) (C := Try.checked) false ⟨#[], #[.slice none 0 0], []⟩ 8 (by kernel_rfl) (by kernel_rfl) (by kernel_rfl) (by kernel_rfl)) ?_
 intro W base args ds gs before hval0 hW hcnd _
 have hval : ∀ (j : Nat) t v, Try.f9.params[j]? = some t -> args[j]? = some v -> Value.okWide Try.prog W .any base t v := hval0
 have hW' := hW
 obtain ⟨p, q, hA0, hV, rfl, hfz, hnd⟩ := hW
 have hA : DataW.TrodAll enc Try.prog W 0 (fun _ => true) true Try.f9.params.toList args.toList ds p := hA0
 rw [Try.params9] at hA hval
 obtain ⟨v0, vs0, d0, ds0, p0, q0, hargs, rfl, rfl, h0, r0⟩ := trodAll_cons hA
 obtain ⟨rfl, rfl, rfl⟩ := trodAll_nil r0
 obtain rfl : args = #[v0] := by cases args; simp_all
 obtain ⟨rfl, rfl⟩ := trodVars_none hV
 have k0 := h0
 have lt0 : ∀ x ∈ p0, x.block < W.heap.size := by obtain ⟨m, hm⟩ := k0; exact DataW.trod_lt m _ _ _ hm
 obtain ⟨sa0, sb0, sc0, rfl⟩ := okWide_slice Try.underlying24 (hval 0 24 v0 rfl rfl)
 obtain ⟨s0, hs0⟩ : ∃ s : (List (List Int)), zta W (· < W.heap.size) (issD s) (.slice sa0 sb0 sc0) := by
  obtain ⟨m, hm⟩ := h0
  obtain ⟨d, hr, hs⟩ := zho zk1 m _ _ _ (by rfl) hm
  obtain ⟨s, e⟩ := qcv hs
  rw [e] at hr
  obtain ⟨v', vs', e1, e2, _⟩ := hr
  cases e1
  exact ⟨s, e2⟩
 have hs : zbc W (· < W.heap.size) [issD s0] [.slice sa0 sb0 sc0] := ⟨_, _, rfl, hs0, rfl⟩
 clear hA0 hval0
 refine ((qg2 s0).use (vs := [.slice sa0 sb0 sc0]) hs).mono fun e W' ⟨us, fp, he, ho, _, _, bel⟩ => ?_
 obtain ⟨u, us', f1, f2, rfl, _, ⟨rfl, _⟩, hu⟩ := ho
 obtain ⟨rfl, _⟩ := hu
 subst he
 exact ⟨_, rfl, _, _, _, [], _, [], hW', trodAll_mk1 (shut_bool Try.underlying4 _),
  (trodAll_cons_mk (Below.trod zjv (by kernel_rfl) (of_decide_eq_true (by kernel_rfl)) k0 bel lt0) trodAll_mk0), rfl, bel.frame _, fun h => by cases h⟩
theorem zzy : (Rows.fnExactRefuteClausesRow.wf (OpenSpec.ofChange Rows.fnExactRefuteClausesSpec)) = true := by kernel_rfl
theorem qbj : (laidOutB Try.checked.prog) = true := by kernel_rfl
theorem qcg : (mapsRowed Try.checked.prog) = true := by kernel_rfl
theorem qal : (Try.f9.params.all (Try.checked.prog.readableRec ·)) = true := by kernel_rfl
theorem qby : (namedTie Try.checked.prog Rows.fnExactRefuteClausesRow.named Rows.fnExactRefuteClausesSpec.vars) = true := by kernel_rfl
theorem qcj : ((Rows.fnExactRefuteClausesRow.stops == [])) = true := by kernel_rfl
theorem qcl : ((Try.checked.prog.stops == [])) = true := by kernel_rfl
theorem zzm : ((Rows.fnExactRefuteClausesRow.knobs == [])) = true := by kernel_rfl
theorem qaf : ((Try.checked.prog.stopKnobs == [])) = true := by kernel_rfl
theorem qax : ((Rows.fnExactRefuteClausesRow.inPlace == Try.checked.prog.inPlace 9)) = true := by kernel_rfl
theorem zy2 : ((Rows.fnExactRefuteClausesRow.unfollowed == Try.checked.prog.unfollowed 9)) = true := by kernel_rfl
theorem zv4 : ((Rows.fnExactRefuteClausesRow.recurses == Try.checked.prog.recurses 9)) = true := by kernel_rfl
theorem zxc : ((Rows.fnExactRefuteClausesRow.named == Try.checked.prog.varsNamed 9)) = true := by kernel_rfl
theorem zvy : ((Rows.fnExactRefuteClausesRow.maps == (Try.f9.params.toList ++ Rows.fnExactRefuteClausesSpec.plain.varTypes Try.checked.prog).any (Try.checked.prog.mapsRec ·))) = true := by kernel_rfl
theorem zy6 : ((Rows.fnExactRefuteClausesRow.ifaces == (Try.f9.params.toList ++ Rows.fnExactRefuteClausesSpec.plain.varTypes Try.checked.prog).any (Try.checked.prog.ifacesRec ·))) = true := by kernel_rfl
theorem zx9 : ((Rows.fnExactRefuteClausesRow.mapsOut == Try.checked.prog.mapsAmong Try.f9.resultTypes.toList)) = true := by kernel_rfl
theorem zxi : ((Rows.fnExactRefuteClausesRow.loops == (Try.f9.params.toList ++ Rows.fnExactRefuteClausesSpec.plain.varTypes Try.checked.prog).any (Try.checked.prog.loopsFrom ·))) = true := by kernel_rfl
theorem zw6 : ((Rows.fnExactRefuteClausesRow.wideKeys == (Try.f9.params.toList ++ Rows.fnExactRefuteClausesSpec.plain.varTypes Try.checked.prog ++ Try.f9.resultTypes.toList).any (Try.checked.prog.wideKeysFrom ·))) = true := by kernel_rfl
theorem zye : (Rows.fnExactRefuteClausesSpec.vars.all (Try.checked.prog.varReadable ·)) = true := by kernel_rfl
theorem ztw : (Try.f9.resultTypes.all (fun t => Try.checked.prog.readableRec t && decide (t < Try.checked.prog.types.size))) = true := by kernel_rfl
theorem zwo : ((Rows.fnExactRefuteClausesRow.ifacesOut == Try.f9.resultTypes.toList.any (Try.checked.prog.ifacesRec ·))) = true := by kernel_rfl
theorem ztj : ((Rows.fnExactRefuteClausesRow.loopsOut == Try.f9.resultTypes.toList.any (Try.checked.prog.loopsFrom ·))) = true := by kernel_rfl
theorem zw0 : ((Rows.fnExactRefuteClausesRow.plainKeys == Try.checked.prog.plainKeys)) = true := by kernel_rfl
theorem ztu : (Rows.fnExactRefuteClausesRow.shortTexts.isNone) = true := by kernel_rfl
theorem zwy : (Try.checked.prog.stopsHeard) = true := by kernel_rfl
theorem zx2 : (Try.checked.prog.mayEnter) = true := by kernel_rfl
theorem zv7 : ((Rows.fnExactRefuteClausesRow.lifted == Try.checked.prog.liftsFinal)) = true := by kernel_rfl
theorem ztk : ((Try.checked.prog.make == some Rows.fnExactRefuteClausesRow.make)) = true := by kernel_rfl
theorem zvx : ((Rows.fnExactRefuteClausesRow.kinds == (if Rows.fnExactRefuteClausesRow.domain.isEmpty then [] else Try.f9.params.toList.map fun t => match Try.checked.prog.underlying t with | some (.int k) => some k | _ => none))) = true := by kernel_rfl
theorem zvm : ((Rows.fnExactRefuteClausesRow.pinned == Rows.fnExactRefuteClausesRow.pinnedBy)) = true := by kernel_rfl
theorem zu0 : ((Rows.fnExactRefuteClausesRow.veiled == (Try.f9.params.toList ++ Rows.fnExactRefuteClausesSpec.plain.varTypes Try.checked.prog ++ Try.f9.resultTypes.toList).any (Try.checked.prog.veiledRec ·))) = true := by kernel_rfl
theorem zu1 : (Rows.fnExactRefuteClausesRow.veiledFits Try.checked.prog Try.f9.params.toList (Try.f9.params.toList ++ Rows.fnExactRefuteClausesSpec.plain.varTypes Try.checked.prog ++ Try.f9.resultTypes.toList)) = true := by kernel_rfl
theorem znc : joinedFacts Try.checked.prog 9 Try.f9 Rows.fnExactRefuteClausesSpec Rows.fnExactRefuteClausesRow = true := by
 unfold joinedFacts
 simp only [Bool.and_eq_true]
 exact ⟨⟨⟨⟨⟨⟨⟨⟨⟨⟨⟨⟨⟨⟨⟨⟨⟨⟨⟨⟨⟨⟨⟨⟨⟨⟨⟨⟨⟨⟨⟨zzy, qbj⟩, qcg⟩, qal⟩, qby⟩, qcj⟩, qcl⟩, zzm⟩, qaf⟩, qax⟩, zy2⟩, zv4⟩, zxc⟩, zvy⟩, zy6⟩, zx9⟩, zxi⟩, zw6⟩, zye⟩, ztw⟩, zwo⟩, ztj⟩, zw0⟩, ztu⟩, zwy⟩, zx2⟩, zv7⟩, ztk⟩, zvx⟩, zvm⟩, zu0⟩, zu1⟩
theorem refuteclauses_holds : Rows.FnExactRefuteClausesSaid :=
 OpenClaim.holds_of_wide 9 Try.f9 rfl rfl rfl rfl rfl rfl rfl ⟨rfl, rfl, rfl, rfl, rfl⟩ rfl rfl rfl rfl rfl (by kernel_rfl) Try.func9 znc
  (of_decide_eq_true (by kernel_rfl)) (by unfold Func.isWrapper; rw [if_neg (of_decide_eq_false (by kernel_rfl))]; exact ⟨rfl, rfl⟩)
  (fun os started H enc _ => zmg os started H enc)
#print axioms refuteclauses_holds
end Go.Proofs.Yteeaofpphmhjdaa
