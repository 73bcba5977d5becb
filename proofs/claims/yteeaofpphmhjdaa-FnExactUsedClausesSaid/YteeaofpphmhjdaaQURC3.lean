/-
  FnExactUsedClauses returns true for all arguments, and its arguments read afterwards as they read before.
  Conditions: none.
-/
import Derived.Test.YteeaofpphmhjdaaRows
import Derived.Test.YteeaofpphmhjdaaQU1
import Derived.Test.YteeaofpphmhjdaaQU4
import Derived.Test.YteeaofpphmhjdaaQU6
import Derived.ProofKit
import Derived.OpenShut
import Derived.ShutString
import Derived.ChangeOld
namespace Go.Proofs.Yteeaofpphmhjdaa
set_option linter.unusedSimpArgs false
set_option linter.unusedVariables false
set_option linter.unusedSectionVars false
set_option maxRecDepth 4000
open Go.ChangeShapes Go.WideShapes Go.ChangeAt Go.RowKit
theorem zn2 : ownKnob Try.prog.godebug = none := by kernel_rfl
theorem zdv : laidOutB Try.prog = true := by kernel_rfl
def zd1 (t : TypeId) : Bool := t == 3 || t == 27 || t == 24 || t == 103 || t == 46
theorem zdy : ∀ t, zd1 t = true -> zq0 Try.prog zd1 t = true := by
 intro t h
 simp only [zd1, Bool.or_eq_true, beq_iff_eq] at h
 rcases h with (((rfl | rfl) | rfl) | rfl) | rfl <;> kernel_rfl
set_option maxRecDepth 100000 in
theorem zhy (os : Os) (started : os.Started) (H : Type) (enc : TypeId × Value -> H) :
  ReturnsInHanded {} Try.checked os 7 .any (Rows.fnExactUsedClausesSpec.pre6 enc Try.prog Try.f7 Rows.fnExactUsedClausesRow.domain false)
   (Rows.fnExactUsedClausesSpec.post enc Try.prog Try.f7 false true false false) := by
 refine returnsInHanded_of_change (C := Try.checked) zn2 started (by kernel_rfl) Try.func7
  (ChangeSpec.witness6 (enc := enc) (C := Try.checked) false ⟨#[], #[.slice none 0 0, .slice none 0 0], []⟩ 8 (by kernel_rfl) (by kernel_rfl) (by kernel_rfl) (by kernel_rfl)) ?_
 intro W base args ds gs before hval0 hW hcnd _
 have hval : ∀ (j : Nat) t v, Try.f7.params[j]? = some t -> args[j]? = some v -> Value.okWide Try.prog W .any base t v := hval0
 have hW' := hW
 obtain ⟨p, q, hA0, hV, rfl, hfz, hnd⟩ := hW
 have hA : DataW.TrodAll enc Try.prog W 0 (fun _ => true) true Try.f7.params.toList args.toList ds p := hA0
 rw [Try.params7] at hA hval
 obtain ⟨v0, vs0, d0, ds0, p0, q0, hargs, rfl, rfl, h0, r0⟩ := trodAll_cons hA
 obtain ⟨v1, vs1, d1, ds1, p1, q1, rfl, rfl, rfl, h1, r1⟩ := trodAll_cons r0
 obtain ⟨rfl, rfl, rfl⟩ := trodAll_nil r1
 obtain rfl : args = #[v0, v1] := by cases args; simp_all
 obtain ⟨rfl, rfl⟩ := trodVars_none hV
 have k0 := h0
 have k1 := h1
 have lt0 : ∀ x ∈ p0, x.block < W.heap.size := by obtain ⟨m, hm⟩ := k0; exact DataW.trod_lt m _ _ _ hm
 have lt1 : ∀ x ∈ p1, x.block < W.heap.size := by obtain ⟨m, hm⟩ := k1; exact DataW.trod_lt m _ _ _ hm
 obtain ⟨sa0, sb0, sc0, rfl⟩ := okWide_slice Try.underlying24 (hval 0 24 v0 rfl rfl)
 obtain ⟨sa1, sb1, sc1, rfl⟩ := okWide_slice Try.underlying46 (hval 1 46 v1 rfl rfl)
 obtain ⟨s0, hs0⟩ : ∃ s : (List (List Int)), zrm W (· < W.heap.size) (issD s) (.slice sa0 sb0 sc0) := by
  obtain ⟨m, hm⟩ := h0
  obtain ⟨d, hr, hs⟩ := zff zdy m _ _ _ (by rfl) hm
  obtain ⟨s, e⟩ := zr7 hs
  rw [e] at hr
  obtain ⟨v', vs', e1, e2, _⟩ := hr
  cases e1
  exact ⟨s, e2⟩
 obtain ⟨s1, hs1⟩ : ∃ s : (List Ps), zrm W (· < W.heap.size) (pssD s) (.slice sa1 sb1 sc1) := by
  obtain ⟨m, hm⟩ := h1
  obtain ⟨d, hr, hs⟩ := zff zdy m _ _ _ (by rfl) hm
  obtain ⟨s, e⟩ := zij hs
  rw [e] at hr
  obtain ⟨v', vs', e1, e2, _⟩ := hr
  cases e1
  exact ⟨s, e2⟩
 have hs : za0 W (· < W.heap.size) [issD s0, pssD s1] [.slice sa0 sb0 sc0, .slice sa1 sb1 sc1] := ⟨_, _, rfl, hs0, _, _, rfl, hs1, rfl⟩
 clear hA0 hval0
 refine ((zvj s0 s1).use (vs := [.slice sa0 sb0 sc0, .slice sa1 sb1 sc1]) hs).mono fun e W' ⟨us, fp, he, ho, _, _, bel⟩ => ?_
 obtain ⟨u, us', f1, f2, rfl, _, ⟨rfl, _⟩, hu⟩ := ho
 obtain ⟨rfl, _⟩ := hu
 subst he
 exact ⟨_, rfl, _, _, _, [], _, [], hW', trodAll_mk1 (shut_bool Try.underlying4 _),
  (trodAll_cons_mk (Below.trod zdv (by kernel_rfl) (of_decide_eq_true (by kernel_rfl)) k0 bel lt0) (trodAll_cons_mk (Below.trod zdv (by kernel_rfl) (of_decide_eq_true (by kernel_rfl)) k1 bel lt1) trodAll_mk0)), rfl, bel.frame _, fun h => by cases h⟩
theorem zr8 : (Rows.fnExactUsedClausesRow.wf (OpenSpec.ofChange Rows.fnExactUsedClausesSpec)) = true := by kernel_rfl
theorem ztf : (laidOutB Try.checked.prog) = true := by kernel_rfl
theorem zs0 : (mapsRowed Try.checked.prog) = true := by kernel_rfl
theorem zt9 : (Try.f7.params.all (Try.checked.prog.readableRec ·)) = true := by kernel_rfl
theorem zty : (namedTie Try.checked.prog Rows.fnExactUsedClausesRow.named Rows.fnExactUsedClausesSpec.vars) = true := by kernel_rfl
theorem ztb : ((Rows.fnExactUsedClausesRow.stops == [])) = true := by kernel_rfl
theorem zr5 : ((Try.checked.prog.stops == [])) = true := by kernel_rfl
theorem zta : ((Rows.fnExactUsedClausesRow.knobs == [])) = true := by kernel_rfl
theorem ztx : ((Try.checked.prog.stopKnobs == [])) = true := by kernel_rfl
theorem zs6 : ((Rows.fnExactUsedClausesRow.inPlace == Try.checked.prog.inPlace 7)) = true := by kernel_rfl
theorem znq : ((Rows.fnExactUsedClausesRow.unfollowed == Try.checked.prog.unfollowed 7)) = true := by kernel_rfl
theorem zod : ((Rows.fnExactUsedClausesRow.recurses == Try.checked.prog.recurses 7)) = true := by kernel_rfl
theorem zqn : ((Rows.fnExactUsedClausesRow.named == Try.checked.prog.varsNamed 7)) = true := by kernel_rfl
theorem zre : ((Rows.fnExactUsedClausesRow.maps == (Try.f7.params.toList ++ Rows.fnExactUsedClausesSpec.plain.varTypes Try.checked.prog).any (Try.checked.prog.mapsRec ·))) = true := by kernel_rfl
theorem znj : ((Rows.fnExactUsedClausesRow.ifaces == (Try.f7.params.toList ++ Rows.fnExactUsedClausesSpec.plain.varTypes Try.checked.prog).any (Try.checked.prog.ifacesRec ·))) = true := by kernel_rfl
theorem zq3 : ((Rows.fnExactUsedClausesRow.mapsOut == Try.checked.prog.mapsAmong Try.f7.resultTypes.toList)) = true := by kernel_rfl
theorem zqq : ((Rows.fnExactUsedClausesRow.loops == (Try.f7.params.toList ++ Rows.fnExactUsedClausesSpec.plain.varTypes Try.checked.prog).any (Try.checked.prog.loopsFrom ·))) = true := by kernel_rfl
theorem zpk : ((Rows.fnExactUsedClausesRow.wideKeys == (Try.f7.params.toList ++ Rows.fnExactUsedClausesSpec.plain.varTypes Try.checked.prog ++ Try.f7.resultTypes.toList).any (Try.checked.prog.wideKeysFrom ·))) = true := by kernel_rfl
theorem zqe : (Rows.fnExactUsedClausesSpec.vars.all (Try.checked.prog.varReadable ·)) = true := by kernel_rfl
theorem zrd : (Try.f7.resultTypes.all (fun t => Try.checked.prog.readableRec t && decide (t < Try.checked.prog.types.size))) = true := by kernel_rfl
theorem zov : ((Rows.fnExactUsedClausesRow.ifacesOut == Try.f7.resultTypes.toList.any (Try.checked.prog.ifacesRec ·))) = true := by kernel_rfl
theorem zrk : ((Rows.fnExactUsedClausesRow.loopsOut == Try.f7.resultTypes.toList.any (Try.checked.prog.loopsFrom ·))) = true := by kernel_rfl
theorem zrg : ((Rows.fnExactUsedClausesRow.plainKeys == Try.checked.prog.plainKeys)) = true := by kernel_rfl
theorem zoo : (Rows.fnExactUsedClausesRow.shortTexts.isNone) = true := by kernel_rfl
theorem zrc : (Try.checked.prog.stopsHeard) = true := by kernel_rfl
theorem zpq : (Try.checked.prog.mayEnter) = true := by kernel_rfl
theorem zrj : ((Rows.fnExactUsedClausesRow.lifted == Try.checked.prog.liftsFinal)) = true := by kernel_rfl
theorem zpw : ((Try.checked.prog.make == some Rows.fnExactUsedClausesRow.make)) = true := by kernel_rfl
theorem zob : ((Rows.fnExactUsedClausesRow.kinds == (if Rows.fnExactUsedClausesRow.domain.isEmpty then [] else Try.f7.params.toList.map fun t => match Try.checked.prog.underlying t with | some (.int k) => some k | _ => none))) = true := by kernel_rfl
theorem zpx : ((Rows.fnExactUsedClausesRow.pinned == Rows.fnExactUsedClausesRow.pinnedBy)) = true := by kernel_rfl
theorem znn : ((Rows.fnExactUsedClausesRow.veiled == (Try.f7.params.toList ++ Rows.fnExactUsedClausesSpec.plain.varTypes Try.checked.prog ++ Try.f7.resultTypes.toList).any (Try.checked.prog.veiledRec ·))) = true := by kernel_rfl
theorem zq6 : (Rows.fnExactUsedClausesRow.veiledFits Try.checked.prog Try.f7.params.toList (Try.f7.params.toList ++ Rows.fnExactUsedClausesSpec.plain.varTypes Try.checked.prog ++ Try.f7.resultTypes.toList)) = true := by kernel_rfl
theorem zia : joinedFacts Try.checked.prog 7 Try.f7 Rows.fnExactUsedClausesSpec Rows.fnExactUsedClausesRow = true := by
 unfold joinedFacts
 simp only [Bool.and_eq_true]
 exact ⟨⟨⟨⟨⟨⟨⟨⟨⟨⟨⟨⟨⟨⟨⟨⟨⟨⟨⟨⟨⟨⟨⟨⟨⟨⟨⟨⟨⟨⟨⟨zr8, ztf⟩, zs0⟩, zt9⟩, zty⟩, ztb⟩, zr5⟩, zta⟩, ztx⟩, zs6⟩, znq⟩, zod⟩, zqn⟩, zre⟩, znj⟩, zq3⟩, zqq⟩, zpk⟩, zqe⟩, zrd⟩, zov⟩, zrk⟩, zrg⟩, zoo⟩, zrc⟩, zpq⟩, zrj⟩, zpw⟩, zob⟩, zpx⟩, znn⟩, zq6⟩
theorem usedclauses_holds : Rows.FnExactUsedClausesSaid :=
 OpenClaim.holds_of_wide 7 Try.f7 rfl rfl rfl rfl rfl rfl rfl ⟨rfl, rfl, rfl, rfl, rfl⟩ rfl rfl rfl rfl rfl (by kernel_rfl) Try.func7 zia
  (of_decide_eq_true (by kernel_rfl)) (by unfold Func.isWrapper; rw [if_neg (of_decide_eq_false (by kernel_rfl))]; exact ⟨rfl, rfl⟩)
  (fun os started H enc _ => zhy os started H enc)
#print axioms usedclauses_holds
end Go.Proofs.Yteeaofpphmhjdaa
