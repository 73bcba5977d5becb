/-
  FnPropagation returns true for all arguments, and its arguments read afterwards as they read before.
  Conditions: none.
-/
import Derived.Test.YteeaofpphmhjdaaRows
import Derived.Test.YteeaofpphmhjdaaQP1
import Derived.Test.YteeaofpphmhjdaaQP4
import Derived.Test.YteeaofpphmhjdaaQP6
import Derived.ProofKit
import Derived.OpenShut
import Derived.ShutString
import Derived.ChangeOld
namespace Go.Proofs.Yteeaofpphmhjdaa
set_option linter.unusedSimpArgs false
set_option linter.unusedVariables false
set_option linter.unusedSectionVars false
set_option maxRecDepth 4000
open Go.ChangeShapes Go.WideShapes Go.ChangeAt Go.RowKit
theorem zmy : ownKnob Try.prog.godebug = none := by kernel_rfl
theorem zgm : laidOutB Try.prog = true := by kernel_rfl
def zd7 (t : TypeId) : Bool := t == 5 || t == 22
theorem zgn : ∀ t, zd7 t = true -> zqi Try.prog zd7 t = true := by
 intro t h
 simp only [zd7, Bool.or_eq_true, beq_iff_eq] at h
 rcases h with rfl | rfl <;> kernel_rfl
set_option maxRecDepth 100000 in
theorem zhx (os : Os) (started : os.Started) (H : Type) (enc : TypeId × Value -> H) :
  ReturnsInHanded {} Try.checked os 4 .any (Rows.fnPropagationSpec.pre6 enc Try.prog Try.f4 Rows.fnPropagationRow.domain false)
   (Rows.fnPropagationSpec.post enc Try.prog Try.f4 false true false false) := by
 refine returnsInHanded_of_change (C := Try.checked) zmy started (by kernel_rfl) Try.func4
  (ChangeSpec.witness6 (enc := enc) (C := Try.checked) false ⟨#[], #[.slice none 0 0], []⟩ 8 (by kernel_rfl) (by kernel_rfl) (by kernel_rfl) (by kernel_rfl)) ?_
 intro W base args ds gs before hval0 hW hcnd _
 have hval : ∀ (j : Nat) t v, Try.f4.params[j]? = some t -> args[j]? = some v -> Value.okWide Try.prog W .any base t v := hval0
 have hW' := hW
 obtain ⟨p, q, hA0, hV, rfl, hfz, hnd⟩ := hW
 have hA : DataW.TrodAll enc Try.prog W 0 (fun _ => true) true Try.f4.params.toList args.toList ds p := hA0
 rw [Try.params4] at hA hval
 obtain ⟨v0, vs0, d0, ds0, p0, q0, hargs, rfl, rfl, h0, r0⟩ := trodAll_cons hA
 obtain ⟨rfl, rfl, rfl⟩ := trodAll_nil r0
 obtain rfl : args = #[v0] := by cases args; simp_all
 obtain ⟨rfl, rfl⟩ := trodVars_none hV
 have k0 := h0
 have lt0 : ∀ x ∈ p0, x.block < W.heap.size := by obtain ⟨m, hm⟩ := k0; exact DataW.trod_lt m _ _ _ hm
 obtain ⟨sa0, sb0, sc0, rfl⟩ := okWide_slice Try.underlying22 (hval 0 22 v0 rfl rfl)
 obtain ⟨s0, hs0⟩ : ∃ s : (List UInt8), zqs W (· < W.heap.size) (bsD s) (.slice sa0 sb0 sc0) := by
  obtain ⟨m, hm⟩ := h0
  obtain ⟨d, hr, hs⟩ := zjr zgn m _ _ _ (by rfl) hm
  obtain ⟨s, e⟩ := zsd hs
  rw [e] at hr
  obtain ⟨v', vs', e1, e2, _⟩ := hr
  cases e1
  exact ⟨s, e2⟩
 have hs : zb0 W (· < W.heap.size) [bsD s0] [.slice sa0 sb0 sc0] := ⟨_, _, rfl, hs0, rfl⟩
 clear hA0 hval0
 refine ((zes s0).use (vs := [.slice sa0 sb0 sc0]) hs).mono fun e W' ⟨us, fp, he, ho, _, _, bel⟩ => ?_
 obtain ⟨u, us', f1, f2, rfl, _, ⟨rfl, _⟩, hu⟩ := ho
 obtain ⟨rfl, _⟩ := hu
 subst he
 exact ⟨_, rfl, _, _, _, [], _, [], hW', trodAll_mk1 (shut_bool Try.underlying4 _),
  (trodAll_cons_mk (Below.trod zgm (by kernel_rfl) (of_decide_eq_true (by kernel_rfl)) k0 bel lt0) trodAll_mk0), rfl, bel.frame _, fun h => by cases h⟩
theorem zrr : (Rows.fnPropagationRow.wf (OpenSpec.ofChange Rows.fnPropagationSpec)) = true := by kernel_rfl
theorem zsa : (laidOutB Try.checked.prog) = true := by kernel_rfl
theorem zq2 : (mapsRowed Try.checked.prog) = true := by kernel_rfl
theorem zst : (Try.f4.params.all (Try.checked.prog.readableRec ·)) = true := by kernel_rfl
theorem zrl : (namedTie Try.checked.prog Rows.fnPropagationRow.named Rows.fnPropagationSpec.vars) = true := by kernel_rfl
theorem zrq : ((Rows.fnPropagationRow.stops == [])) = true := by kernel_rfl
theorem zsi : ((Try.checked.prog.stops == [])) = true := by kernel_rfl
theorem zsn : ((Rows.fnPropagationRow.knobs == [])) = true := by kernel_rfl
theorem zrt : ((Try.checked.prog.stopKnobs == [])) = true := by kernel_rfl
theorem zr9 : ((Rows.fnPropagationRow.inPlace == Try.checked.prog.inPlace 4)) = true := by kernel_rfl
theorem zpg : ((Rows.fnPropagationRow.unfollowed == Try.checked.prog.unfollowed 4)) = true := by kernel_rfl
theorem zo6 : ((Rows.fnPropagationRow.recurses == Try.checked.prog.recurses 4)) = true := by kernel_rfl
theorem zob : ((Rows.fnPropagationRow.named == Try.checked.prog.varsNamed 4)) = true := by kernel_rfl
theorem zms : ((Rows.fnPropagationRow.maps == (Try.f4.params.toList ++ Rows.fnPropagationSpec.plain.varTypes Try.checked.prog).any (Try.checked.prog.mapsRec ·))) = true := by kernel_rfl
theorem zm2 : ((Rows.fnPropagationRow.ifaces == (Try.f4.params.toList ++ Rows.fnPropagationSpec.plain.varTypes Try.checked.prog).any (Try.checked.prog.ifacesRec ·))) = true := by kernel_rfl
theorem zmz : ((Rows.fnPropagationRow.mapsOut == Try.checked.prog.mapsAmong Try.f4.resultTypes.toList)) = true := by kernel_rfl
theorem zoa : ((Rows.fnPropagationRow.loops == (Try.f4.params.toList ++ Rows.fnPropagationSpec.plain.varTypes Try.checked.prog).any (Try.checked.prog.loopsFrom ·))) = true := by kernel_rfl
theorem zpp : ((Rows.fnPropagationRow.wideKeys == (Try.f4.params.toList ++ Rows.fnPropagationSpec.plain.varTypes Try.checked.prog ++ Try.f4.resultTypes.toList).any (Try.checked.prog.wideKeysFrom ·))) = true := by kernel_rfl
theorem znj : (Rows.fnPropagationSpec.vars.all (Try.checked.prog.varReadable ·)) = true := by kernel_rfl
theorem zp3 : (Try.f4.resultTypes.all (fun t => Try.checked.prog.readableRec t && decide (t < Try.checked.prog.types.size))) = true := by kernel_rfl
theorem zo1 : ((Rows.fnPropagationRow.ifacesOut == Try.f4.resultTypes.toList.any (Try.checked.prog.ifacesRec ·))) = true := by kernel_rfl
theorem zpz : ((Rows.fnPropagationRow.loopsOut == Try.f4.resultTypes.toList.any (Try.checked.prog.loopsFrom ·))) = true := by kernel_rfl
theorem zo4 : ((Rows.fnPropagationRow.plainKeys == Try.checked.prog.plainKeys)) = true := by kernel_rfl
theorem zpk : (Rows.fnPropagationRow.shortTexts.isNone) = true := by kernel_rfl
theorem zom : (Try.checked.prog.stopsHeard) = true := by kernel_rfl
theorem zop : (Try.checked.prog.mayEnter) = true := by kernel_rfl
theorem zqn : ((Rows.fnPropagationRow.lifted == Try.checked.prog.liftsFinal)) = true := by kernel_rfl
theorem znh : ((Try.checked.prog.make == some Rows.fnPropagationRow.make)) = true := by kernel_rfl
theorem zn8 : ((Rows.fnPropagationRow.kinds == (if Rows.fnPropagationRow.domain.isEmpty then [] else Try.f4.params.toList.map fun t => match Try.checked.prog.underlying t with | some (.int k) => some k | _ => none))) = true := by kernel_rfl
theorem zm4 : ((Rows.fnPropagationRow.pinned == Rows.fnPropagationRow.pinnedBy)) = true := by kernel_rfl
theorem zqf : ((Rows.fnPropagationRow.veiled == (Try.f4.params.toList ++ Rows.fnPropagationSpec.plain.varTypes Try.checked.prog ++ Try.f4.resultTypes.toList).any (Try.checked.prog.veiledRec ·))) = true := by kernel_rfl
theorem zmr : (Rows.fnPropagationRow.veiledFits Try.checked.prog Try.f4.params.toList (Try.f4.params.toList ++ Rows.fnPropagationSpec.plain.varTypes Try.checked.prog ++ Try.f4.resultTypes.toList)) = true := by kernel_rfl
theorem zhu : joinedFacts Try.checked.prog 4 Try.f4 Rows.fnPropagationSpec Rows.fnPropagationRow = true := by
 unfold joinedFacts
 simp only [Bool.and_eq_true]
 exact ⟨⟨⟨⟨⟨⟨⟨⟨⟨⟨⟨⟨⟨⟨⟨⟨⟨⟨⟨⟨⟨⟨⟨⟨⟨⟨⟨⟨⟨⟨⟨zrr, zsa⟩, zq2⟩, zst⟩, zrl⟩, zrq⟩, zsi⟩, zsn⟩, zrt⟩, zr9⟩, zpg⟩, zo6⟩, zob⟩, zms⟩, zm2⟩, zmz⟩, zoa⟩, zpp⟩, znj⟩, zp3⟩, zo1⟩, zpz⟩, zo4⟩, zpk⟩, zom⟩, zop⟩, zqn⟩, znh⟩, zn8⟩, zm4⟩, zqf⟩, zmr⟩
theorem propagation_holds : Rows.FnPropagationSaid :=
 OpenClaim.holds_of_wide 4 Try.f4 rfl rfl rfl rfl rfl rfl rfl ⟨rfl, rfl, rfl, rfl, rfl⟩ rfl rfl rfl rfl rfl (by kernel_rfl) Try.func4 zhu
  (of_decide_eq_true (by kernel_rfl)) (by unfold Func.isWrapper; rw [if_neg (of_decide_eq_false (by kernel_rfl))]; exact ⟨rfl, rfl⟩)
  (fun os started H enc _ => zhx os started H enc)
#print axioms propagation_holds
end Go.Proofs.Yteeaofpphmhjdaa
