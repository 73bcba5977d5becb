/-
  FnExactTrimRefutation returns true for all arguments, and its arguments read afterwards as they read before.
  Conditions: none.
-/
import Derived.Test.YteeaofpphmhjdaaRows
import Derived.Test.YteeaofpphmhjdaaQT1
import Derived.Test.YteeaofpphmhjdaaQT4
import Derived.Test.YteeaofpphmhjdaaQT6
import Derived.ProofKit
import Derived.OpenShut
import Derived.ShutString
import Derived.ChangeOld
namespace Go.Proofs.Yteeaofpphmhjdaa
set_option linter.unusedSimpArgs false
set_option linter.unusedVariables false
set_option linter.unusedSectionVars false
set_option maxRecDepth 4000
open Go.ChangeShapes Go.WideShapes Go.ChangeAt Go.RowKit
theorem zo9 : ownKnob Try.prog.godebug = none := by kernel_rfl
theorem zd1 : laidOutB Try.prog = true := by kernel_rfl
def zeh (t : TypeId) : Bool := t == 3 || t == 27 || t == 24 || t == 103 || t == 46
theorem zeb : ∀ t, zeh t = true -> zpu Try.prog zeh t = true := by
 intro t h
 simp only [zeh, Bool.or_eq_true, beq_iff_eq] at h
 rcases h with (((rfl | rfl) | rfl) | rfl) | rfl <;> kernel_rfl
set_option maxRecDepth 100000 in
theorem zjx (os : Os) (started : os.Started) (H : Type) (enc : TypeId × Value -> H) :
  ReturnsInHanded {} Try.checked os 8 .any (Rows.fnExactTrimRefutationSpec.pre6 enc Try.prog Try.f8 Rows.fnExactTrimRefutationRow.domain false)
   (Rows.fnExactTrimRefutationSpec.post enc Try.prog Try.f8 false true false false) := by
 refine returnsInHanded_of_change (C := Try.checked) zo9 started (by kernel_rfl) Try.func8
  (ChangeSpec.witness6 (enc := enc) (C := Try.checked) false ⟨#[], #[.slice none 0 0, .slice none 0 0], []⟩ 8 (by kernel_rfl) (by kernel_rfl) (by kernel_rfl) (by kernel_rfl)) ?_
 intro W base args ds gs before hval0 hW hcnd _
 have hval : ∀ (j : Nat) t v, Try.f8.params[j]? = some t -> args[j]? = some v -> Value.okWide Try.prog W .any base t v := hval0
 have hW' := hW
 obtain ⟨p, q, hA0, hV, rfl, hfz, hnd⟩ := hW
 have hA : DataW.TrodAll enc Try.prog W 0 (fun _ => true) true Try.f8.params.toList args.toList ds p := hA0
 rw [Try.params8] at hA hval
 obtain ⟨v0, vs0, d0, ds0, p0, q0, hargs, rfl, rfl, h0, r0⟩ := trodAll_cons hA
 obtain ⟨v1, vs1, d1, ds1, p1, q1, rfl, rfl, rfl, h1, r1⟩ := trodAll_cons r0
 obtain ⟨rfl, rfl, rfl⟩ := trodAll_nil r1
 obtain rfl : args = #[v0, v1] := by cases args; simp_all
 obtain ⟨rfl, rfl⟩ := trodVars_none hV
 have k0 := h0
 have k1 := h1
 have lt0 : ∀ x ∈ p0, x.block < W.heap.size := by obtain ⟨m, hm⟩ := k0; exact DataW.trod_lt m _ _ _ hm
 have lt1 : ∀ x ∈ p1, x.block < W.heap.size := by obtain ⟨m, hm⟩ := k1; exact DataW.trod_lt m _ _ _ hm
 obtain ⟨sa0, sb0, sc0, rfl⟩ := okWide_slice Try.underlying24 (hval 0 24 v0 rfl rfl)
 obtain ⟨sa1, sb1, sc1, rfl⟩ := okWide_slice Try.underlying46 (hval 1 46 v1 rfl rfl)
 obtain ⟨s0, hs0⟩ : ∃ s : (List (List Int)), ztc W (· < W.heap.size) (issD s) (.slice sa0 sb0 sc0) := by
  obtain ⟨m, hm⟩ := h0
  obtain ⟨d, hr, hs⟩ := zgd zeb m _ _ _ (by rfl) hm
  obtain ⟨s, e⟩ := ztj hs
  rw [e] at hr
  obtain ⟨v', vs', e1, e2, _⟩ := hr
  cases e1
  exact ⟨s, e2⟩
 obtain ⟨s1, hs1⟩ : ∃ s : (List Ps), ztc W (· < W.heap.size) (pssD s) (.slice sa1 sb1 sc1) := by
  obtain ⟨m, hm⟩ := h1
  obtain ⟨d, hr, hs⟩ := zgd zeb m _ _ _ (by rfl) hm
  obtain ⟨s, e⟩ := zi6 hs
  rw [e] at hr
  obtain ⟨v', vs', e1, e2, _⟩ := hr
  cases e1
  exact ⟨s, e2⟩
 have hs : za4 W (· < W.heap.size) [issD s0, pssD s1] [.slice sa0 sb0 sc0, .slice sa1 sb1 sc1] := ⟨_, _, rfl, hs0, _, _, rfl, hs1, rfl⟩
 clear hA0 hval0
 refine ((zx0 s0 s1).use (vs := [.slice sa0 sb0 sc0, .slice sa1 sb1 sc1]) hs).mono fun e W' ⟨us, fp, he, ho, _, _, bel⟩ => ?_
 obtain ⟨u, us', f1, f2, rfl, _, ⟨rfl, _⟩, hu⟩ := ho
 obtain ⟨rfl, _⟩ := hu
 subst he
 exact ⟨_, rfl, _, _, _, [], _, [], hW', trodAll_mk1 (shut_bool Try.underlying4 _),
  (trodAll_cons_mk (Below.trod zd1 (by kernel_rfl) (of_decide_eq_true (by kernel_rfl)) k0 bel lt0) (trodAll_cons_mk (Below.trod zd1 (by kernel_rfl) (of_decide_eq_true (by kernel_rfl)) k1 bel lt1) trodAll_mk0)), rfl, bel.frame _, fun h => by cases h⟩
theorem zti : (Rows.fnExactTrimRefutationRow.wf (OpenSpec.ofChange Rows.fnExactTrimRefutationSpec)) = true := by kernel_rfl
theorem zt8 : (laidOutB Try.checked.prog) = true := by kernel_rfl
theorem zvt : (mapsRowed Try.checked.prog) = true := by kernel_rfl
theorem zvn : (Try.f8.params.all (Try.checked.prog.readableRec ·)) = true := by kernel_rfl
theorem zuf : (namedTie Try.checked.prog Rows.fnExactTrimRefutationRow.named Rows.fnExactTrimRefutationSpec.vars) = true := by kernel_rfl
theorem zuq : ((Rows.fnExactTrimRefutationRow.stops == [])) = true := by kernel_rfl
theorem zv9 : ((Try.checked.prog.stops == [])) = true := by kernel_rfl
theorem zt0 : ((Rows.fnExactTrimRefutationRow.knobs == [])) = true := by kernel_rfl
theorem zub : ((Try.checked.prog.stopKnobs == [])) = true := by kernel_rfl
theorem zvv : ((Rows.fnExactTrimRefutationRow.inPlace == Try.checked.prog.inPlace 8)) = true := by kernel_rfl
theorem zra : ((Rows.fnExactTrimRefutationRow.unfollowed == Try.checked.prog.unfollowed 8)) = true := by kernel_rfl
theorem zpw : ((Rows.fnExactTrimRefutationRow.recurses == Try.checked.prog.recurses 8)) = true := by kernel_rfl
theorem zpr : ((Rows.fnExactTrimRefutationRow.named == Try.checked.prog.varsNamed 8)) = true := by kernel_rfl
theorem zso : ((Rows.fnExactTrimRefutationRow.maps == (Try.f8.params.toList ++ Rows.fnExactTrimRefutationSpec.plain.varTypes Try.checked.prog).any (Try.checked.prog.mapsRec ·))) = true := by kernel_rfl
theorem zp1 : ((Rows.fnExactTrimRefutationRow.ifaces == (Try.f8.params.toList ++ Rows.fnExactTrimRefutationSpec.plain.varTypes Try.checked.prog).any (Try.checked.prog.ifacesRec ·))) = true := by kernel_rfl
theorem zre : ((Rows.fnExactTrimRefutationRow.mapsOut == Try.checked.prog.mapsAmong Try.f8.resultTypes.toList)) = true := by kernel_rfl
theorem zqn : ((Rows.fnExactTrimRefutationRow.loops == (Try.f8.params.toList ++ Rows.fnExactTrimRefutationSpec.plain.varTypes Try.checked.prog).any (Try.checked.prog.loopsFrom ·))) = true := by kernel_rfl
theorem zrn : ((Rows.fnExactTrimRefutationRow.wideKeys == (Try.f8.params.toList ++ Rows.fnExactTrimRefutationSpec.plain.varTypes Try.checked.prog ++ Try.f8.resultTypes.toList).any (Try.checked.prog.wideKeysFrom ·))) = true := by kernel_rfl
theorem zpt : (Rows.fnExactTrimRefutationSpec.vars.all (Try.checked.prog.varReadable ·)) = true := by kernel_rfl
theorem zpd : (Try.f8.resultTypes.all (fun t => Try.checked.prog.readableRec t && decide (t < Try.checked.prog.types.size))) = true := by kernel_rfl
theorem zos : ((Rows.fnExactTrimRefutationRow.ifacesOut == Try.f8.resultTypes.toList.any (Try.checked.prog.ifacesRec ·))) = true := by kernel_rfl
theorem zsn : ((Rows.fnExactTrimRefutationRow.loopsOut == Try.f8.resultTypes.toList.any (Try.checked.prog.loopsFrom ·))) = true := by kernel_rfl
theorem zr7 : ((Rows.fnExactTrimRefutationRow.plainKeys == Try.checked.prog.plainKeys)) = true := by kernel_rfl
theorem zsh : (Rows.fnExactTrimRefutationRow.shortTexts.isNone) = true := by kernel_rfl
theorem zpn : (Try.checked.prog.stopsHeard) = true := by kernel_rfl
theorem zql : (Try.checked.prog.mayEnter) = true := by kernel_rfl
theorem zp7 : ((Rows.fnExactTrimRefutationRow.lifted == Try.checked.prog.liftsFinal)) = true := by kernel_rfl
theorem zs6 : ((Try.checked.prog.make == some Rows.fnExactTrimRefutationRow.make)) = true := by kernel_rfl
theorem zs0 : ((Rows.fnExactTrimRefutationRow.kinds == (if Rows.fnExactTrimRefutationRow.domain.isEmpty then [] else Try.f8.params.toList.map fun t => match Try.checked.prog.underlying t with | some (.int k) => some k | _ => none))) = true := by kernel_rfl
theorem zqv : ((Rows.fnExactTrimRefutationRow.pinned == Rows.fnExactTrimRefutationRow.pinnedBy)) = true := by kernel_rfl
theorem zpp : ((Rows.fnExactTrimRefutationRow.veiled == (Try.f8.params.toList ++ Rows.fnExactTrimRefutationSpec.plain.varTypes Try.checked.prog ++ Try.f8.resultTypes.toList).any (Try.checked.prog.veiledRec ·))) = true := by kernel_rfl
theorem zq5 : (Rows.fnExactTrimRefutationRow.veiledFits Try.checked.prog Try.f8.params.toList (Try.f8.params.toList ++ Rows.fnExactTrimRefutationSpec.plain.varTypes Try.checked.prog ++ Try.f8.resultTypes.toList)) = true := by kernel_rfl
theorem zjj : joinedFacts Try.checked.prog 8 Try.f8 Rows.fnExactTrimRefutationSpec Rows.fnExactTrimRefutationRow = true := by
 unfold joinedFacts
 simp only [Bool.and_eq_true]
 exact ⟨⟨⟨⟨⟨⟨⟨⟨⟨⟨⟨⟨⟨⟨⟨⟨⟨⟨⟨⟨⟨⟨⟨⟨⟨⟨⟨⟨⟨⟨⟨zti, zt8⟩, zvt⟩, zvn⟩, zuf⟩, zuq⟩, zv9⟩, zt0⟩, zub⟩, zvv⟩, zra⟩, zpw⟩, zpr⟩, zso⟩, zp1⟩, zre⟩, zqn⟩, zrn⟩, zpt⟩, zpd⟩, zos⟩, zsn⟩, zr7⟩, zsh⟩, zpn⟩, zql⟩, zp7⟩, zs6⟩, zs0⟩, zqv⟩, zpp⟩, zq5⟩
theorem trimrefutation_holds : Rows.FnExactTrimRefutationSaid :=
 OpenClaim.holds_of_wide 8 Try.f8 rfl rfl rfl rfl rfl rfl rfl ⟨rfl, rfl, rfl, rfl, rfl⟩ rfl rfl rfl rfl rfl (by kernel_rfl) Try.func8 zjj
  (of_decide_eq_true (by kernel_rfl)) (by unfold Func.isWrapper; rw [if_neg (of_decide_eq_false (by kernel_rfl))]; exact ⟨rfl, rfl⟩)
  (fun os started H enc _ => zjx os started H enc)
#print axioms trimrefutation_holds
end Go.Proofs.Yteeaofpphmhjdaa
