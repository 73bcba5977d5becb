/-
  FnExactHerbrandTerms returns true for all arguments, and its arguments read afterwards as they read before.
  Conditions: none.
-/
import Derived.Test.YtmhbmpbgpjljeaaGreatRows
import Derived.Test.YtmhbmpbgpjljeaaGreatQT1
import Derived.Test.YtmhbmpbgpjljeaaGreatQT4
import Derived.Test.YtmhbmpbgpjljeaaGreatQT9
import Derived.ProofKit
import Derived.OpenShut
import Derived.ShutString
import Derived.ChangeOld
namespace Go.Proofs.YtmhbmpbgpjljeaaGreat
set_option linter.unusedSimpArgs false
set_option linter.unusedVariables false
set_option linter.unusedSectionVars false
set_option maxRecDepth 4000
open Go.ChangeShapes Go.WideShapes Go.ChangeAt Go.RowKit
theorem zz2 : ownKnob Tryz.prog.godebug = none := by kernel_rfl
theorem zf0 : laidOutB Tryz.prog = true := by kernel_rfl
def zgl (t : TypeId) : Bool := t == 3 || t == 9 || t == 139 || t == 137 || t == 4 || t == 141 || t == 39 || t == 41 || t == 22
theorem zgf : ∀ t, zgl t = true -> zxu Tryz.prog zgl t = true := by
 intro t h
 simp only [zgl, Bool.or_eq_true, beq_iff_eq] at h
 rcases h with (((((((rfl | rfl) | rfl) | rfl) | rfl) | rfl) | rfl) | rfl) | rfl <;> kernel_rfl
set_option maxRecDepth 100000 in
theorem znr (os : Os) (started : os.Started) (H : Type) (enc : TypeId × Value -> H) :
  ReturnsInHanded {} Tryz.checked os 4 .any (Rows.fnExactHerbrandTermsSpec.pre6 enc Tryz.prog Tryz.f4 Rows.fnExactHerbrandTermsRow.domain false)
   (Rows.fnExactHerbrandTermsSpec.post enc Tryz.prog Tryz.f4 false true false false) := by
 refine returnsInHanded_of_change (C := Tryz.checked) zz2 started (by kernel_rfl) Tryz.func4
  (ChangeSpec.witness6 (enc := enc) (C := Tryz.checked) false ⟨#[], #[.slice none 0 0, .int .i64 0], []⟩ 8 (by kernel_rfl) (by kernel_rfl) (by kernel_rfl) (by kernel_rfl)) ?_
 intro W base args ds gs before hval0 hW hcnd _
 have hval : ∀ (j : Nat) t v, Tryz.f4.params[j]? = some t -> args[j]? = some v -> Value.okWide Tryz.prog W .any base t v := hval0
 have hW' := hW
 obtain ⟨p, q, hA0, hV, rfl, hfz, hnd⟩ := hW
 have hA : DataW.TrodAll enc Tryz.prog W 0 (fun _ => true) true Tryz.f4.params.toList args.toList ds p := hA0
 rw [Tryz.params4] at hA hval
 obtain ⟨v0, vs0, d0, ds0, p0, q0, hargs, rfl, rfl, h0, r0⟩ := trodAll_cons hA
 obtain ⟨v1, vs1, d1, ds1, p1, q1, rfl, rfl, rfl, h1, r1⟩ := trodAll_cons r0
 obtain ⟨rfl, rfl, rfl⟩ := trodAll_nil r1
 obtain rfl : args = #[v0, v1] := by cases args; simp_all
 obtain ⟨rfl, rfl⟩ := trodVars_none hV
 have k0 := h0
 have k1 := h1
 have lt0 : ∀ x ∈ p0, x.block < W.heap.size := by obtain ⟨m, hm⟩ := k0; exact DataW.trod_lt m _ _ _ hm
 have lt1 : ∀ x ∈ p1, x.block < W.heap.size := by obtain ⟨m, hm⟩ := k1; exact DataW.trod_lt m _ _ _ hm
 obtain ⟨sa0, sb0, sc0, rfl⟩ := okWide_slice Tryz.underlying22 (hval 0 22 v0 rfl rfl)
 obtain ⟨s1, rfl⟩ := okWide_int Tryz.underlying3 (hval 1 3 v1 rfl rfl)
 obtain ⟨s0, hs0⟩ : ∃ s : (List Cq), zvy W (· < W.heap.size) (cqsD s) (.slice sa0 sb0 sc0) := by
  obtain ⟨m, hm⟩ := h0
  obtain ⟨d, hr, hs⟩ := ziy zgf m _ _ _ (by rfl) hm
  obtain ⟨s, e⟩ := zur hs
  rw [e] at hr
  obtain ⟨v', vs', e1, e2, _⟩ := hr
  cases e1
  exact ⟨s, e2⟩
 have hs1 : zvy W (· < W.heap.size) (iD s1) (.int .i64 s1) := by
  obtain ⟨m, hm⟩ := h1
  obtain ⟨d, hr, hs⟩ := ziy zgf m _ _ _ (by rfl) hm
  obtain ⟨z, rfl⟩ := hs.int Tryz.underlying3
  obtain ⟨v', vs', e1, e2, _⟩ := (show zac W (· < W.heap.size) [.int .i64 z] [.int .i64 s1] from hr)
  cases e1
  have e3 := e2
  unfold zai at e3
  obtain ⟨e4, _⟩ := e3
  cases e4
  exact e2
 have hs : zaz W (· < W.heap.size) [cqsD s0, iD s1] [.slice sa0 sb0 sc0, .int .i64 s1] := ⟨_, _, rfl, hs0, _, _, rfl, hs1, rfl⟩
 clear hA0 hval0
 refine ((qh9 s0 s1).use (vs := [.slice sa0 sb0 sc0, .int .i64 s1]) hs).mono fun e W' ⟨us, fp, he, ho, _, _, bel⟩ => ?_
 obtain ⟨u, us', f1, f2, rfl, _, ⟨rfl, _⟩, hu⟩ := ho
 obtain ⟨rfl, _⟩ := hu
 subst he
 exact ⟨_, rfl, _, _, _, [], _, [], hW', trodAll_mk1 (shut_bool Tryz.underlying4 _),
  (trodAll_cons_mk (Below.trod zf0 (by kernel_rfl) (of_decide_eq_true (by kernel_rfl)) k0 bel lt0) (trodAll_cons_mk (Below.trod zf0 (by kernel_rfl) (of_decide_eq_true (by kernel_rfl)) k1 bel lt1) trodAll_mk0)), rfl, bel.frame _, fun h => by cases h⟩
theorem qef : (Rows.fnExactHerbrandTermsRow.wf (OpenSpec.ofChange Rows.fnExactHerbrandTermsSpec)) = true := by kernel_rfl
theorem qbe : (laidOutB Tryz.checked.prog) = true := by kernel_rfl
theorem qck : (mapsRowed Tryz.checked.prog) = true := by kernel_rfl
theorem qe3 : (Tryz.f4.params.all (Tryz.checked.prog.readableRec ·)) = true := by kernel_rfl
theorem qbm : (namedTie Tryz.checked.prog Rows.fnExactHerbrandTermsRow.named Rows.fnExactHerbrandTermsSpec.vars) = true := by kernel_rfl
theorem qdy : ((Rows.fnExactHerbrandTermsRow.stops == [])) = true := by kernel_rfl
theorem qcs : ((Tryz.checked.prog.stops == [])) = true := by kernel_rfl
theorem qcn : ((Rows.fnExactHerbrandTermsRow.knobs == [])) = true := by kernel_rfl
theorem qbv : ((Tryz.checked.prog.stopKnobs == [])) = true := by kernel_rfl
theorem qds : ((Rows.fnExactHerbrandTermsRow.inPlace == Tryz.checked.prog.inPlace 4)) = true := by kernel_rfl
theorem qak : ((Rows.fnExactHerbrandTermsRow.unfollowed == Tryz.checked.prog.unfollowed 4)) = true := by kernel_rfl
theorem zyf : ((Rows.fnExactHerbrandTermsRow.recurses == Tryz.checked.prog.recurses 4)) = true := by kernel_rfl
theorem zw7 : ((Rows.fnExactHerbrandTermsRow.named == Tryz.checked.prog.varsNamed 4)) = true := by kernel_rfl
theorem zxj : ((Rows.fnExactHerbrandTermsRow.maps == (Tryz.f4.params.toList ++ Rows.fnExactHerbrandTermsSpec.plain.varTypes Tryz.checked.prog).any (Tryz.checked.prog.mapsRec ·))) = true := by kernel_rfl
theorem qah : ((Rows.fnExactHerbrandTermsRow.ifaces == (Tryz.f4.params.toList ++ Rows.fnExactHerbrandTermsSpec.plain.varTypes Tryz.checked.prog).any (Tryz.checked.prog.ifacesRec ·))) = true := by kernel_rfl
theorem qa4 : ((Rows.fnExactHerbrandTermsRow.mapsOut == Tryz.checked.prog.mapsAmong Tryz.f4.resultTypes.toList)) = true := by kernel_rfl
theorem zze : ((Rows.fnExactHerbrandTermsRow.loops == (Tryz.f4.params.toList ++ Rows.fnExactHerbrandTermsSpec.plain.varTypes Tryz.checked.prog).any (Tryz.checked.prog.loopsFrom ·))) = true := by kernel_rfl
theorem zws : ((Rows.fnExactHerbrandTermsRow.wideKeys == (Tryz.f4.params.toList ++ Rows.fnExactHerbrandTermsSpec.plain.varTypes Tryz.checked.prog ++ Tryz.f4.resultTypes.toList).any (Tryz.checked.prog.wideKeysFrom ·))) = true := by kernel_rfl
theorem qa3 : (Rows.fnExactHerbrandTermsSpec.vars.all (Tryz.checked.prog.varReadable ·)) = true := by kernel_rfl
theorem zx9 : (Tryz.f4.resultTypes.all (fun t => Tryz.checked.prog.readableRec t && decide (t < Tryz.checked.prog.types.size))) = true := by kernel_rfl
theorem zwn : ((Rows.fnExactHerbrandTermsRow.ifacesOut == Tryz.f4.resultTypes.toList.any (Tryz.checked.prog.ifacesRec ·))) = true := by kernel_rfl
theorem zyx : ((Rows.fnExactHerbrandTermsRow.loopsOut == Tryz.f4.resultTypes.toList.any (Tryz.checked.prog.loopsFrom ·))) = true := by kernel_rfl
theorem zzl : ((Rows.fnExactHerbrandTermsRow.plainKeys == Tryz.checked.prog.plainKeys)) = true := by kernel_rfl
theorem zwo : (Rows.fnExactHerbrandTermsRow.shortTexts.isNone) = true := by kernel_rfl
theorem qay : (Tryz.checked.prog.stopsHeard) = true := by kernel_rfl
theorem qaq : (Tryz.checked.prog.mayEnter) = true := by kernel_rfl
theorem zxy : ((Rows.fnExactHerbrandTermsRow.lifted == Tryz.checked.prog.liftsFinal)) = true := by kernel_rfl
theorem zxx : ((Tryz.checked.prog.make == some Rows.fnExactHerbrandTermsRow.make)) = true := by kernel_rfl
theorem zzq : ((Rows.fnExactHerbrandTermsRow.kinds == (if Rows.fnExactHerbrandTermsRow.domain.isEmpty then [] else Tryz.f4.params.toList.map fun t => match Tryz.checked.prog.underlying t with | some (.int k) => some k | _ => none))) = true := by kernel_rfl
theorem zy3 : ((Rows.fnExactHerbrandTermsRow.pinned == Rows.fnExactHerbrandTermsRow.pinnedBy)) = true := by kernel_rfl
theorem zwa : ((Rows.fnExactHerbrandTermsRow.veiled == (Tryz.f4.params.toList ++ Rows.fnExactHerbrandTermsSpec.plain.varTypes Tryz.checked.prog ++ Tryz.f4.resultTypes.toList).any (Tryz.checked.prog.veiledRec ·))) = true := by kernel_rfl
theorem zza : (Rows.fnExactHerbrandTermsRow.veiledFits Tryz.checked.prog Tryz.f4.params.toList (Tryz.f4.params.toList ++ Rows.fnExactHerbrandTermsSpec.plain.varTypes Tryz.checked.prog ++ Tryz.f4.resultTypes.toList)) = true := by kernel_rfl
theorem zm7 : joinedFacts Tryz.checked.prog 4 Tryz.f4 Rows.fnExactHerbrandTermsSpec Rows.fnExactHerbrandTermsRow = true := by
 unfold joinedFacts
 simp only [Bool.and_eq_true]
 exact ⟨⟨⟨⟨⟨⟨⟨⟨⟨⟨⟨⟨⟨⟨⟨⟨⟨⟨⟨⟨⟨⟨⟨⟨⟨⟨⟨⟨⟨⟨⟨qef, qbe⟩, qck⟩, qe3⟩, qbm⟩, qdy⟩, qcs⟩, qcn⟩, qbv⟩, qds⟩, qak⟩, zyf⟩, zw7⟩, zxj⟩, qah⟩, qa4⟩, zze⟩, zws⟩, qa3⟩, zx9⟩, zwn⟩, zyx⟩, zzl⟩, zwo⟩, qay⟩, qaq⟩, zxy⟩, zxx⟩, zzq⟩, zy3⟩, zwa⟩, zza⟩
theorem herbrandTerms_holds : Rows.FnExactHerbrandTermsSaid :=
 OpenClaim.holds_of_wide 4 Tryz.f4 rfl rfl rfl rfl rfl rfl rfl ⟨rfl, rfl, rfl, rfl, rfl⟩ rfl rfl rfl rfl rfl (by kernel_rfl) Tryz.func4 zm7
  (of_decide_eq_true (by kernel_rfl)) (by unfold Func.isWrapper; rw [if_neg (of_decide_eq_false (by kernel_rfl))]; exact ⟨rfl, rfl⟩)
  (fun os started H enc _ => znr os started H enc)
#print axioms herbrandTerms_holds
end Go.Proofs.YtmhbmpbgpjljeaaGreat
