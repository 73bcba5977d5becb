/-
  FnRefutations returns true for all arguments, and its arguments read afterwards as they read before.
  Conditions: none.
-/
import Derived.Test.YteeaofpphmhjdaaRows
import Derived.Test.YteeaofpphmhjdaaQRC1
import Derived.Test.YteeaofpphmhjdaaQRC4
import Derived.Test.YteeaofpphmhjdaaQRC5
import Derived.Test.YteeaofpphmhjdaaQRC8
import Derived.ProofKit
import Derived.OpenShut
import Derived.ShutString
import Derived.ChangeOld
namespace Go.Proofs.Yteeaofpphmhjdaa
set_option linter.unusedSimpArgs false
set_option linter.unusedVariables false
set_option linter.unusedSectionVars false
set_option maxRecDepth 4000
open Go.ChangeShapes Go.WideShapes Go.ChangeAt Go.RowKit
theorem zyz : ownKnob Try.prog.godebug = none := by kernel_rfl
theorem zjg : laidOutB Try.prog = true := by kernel_rfl
def zfz (t : TypeId) : Bool := t == 5 || t == 22
theorem zkr : ∀ t, zfz t = true -> zq7 Try.prog zfz t = true := by
 intro t h
 simp only [zfz, Bool.or_eq_true, beq_iff_eq] at h
 rcases h with rfl | rfl <;> kernel_rfl
set_option maxRecDepth 100000 in
theorem zm8 (os : Os) (started : os.Started) (H : Type) (enc : TypeId × Value -> H) :
  ReturnsInHanded {} Try.checked os 6 .any (Rows.fnRefutationsSpec.pre6 enc Try.prog Try.f6 Rows.fnRefutationsRow.domain false)
   (Rows.fnRefutationsSpec.post enc Try.prog Try.f6 false true false false) := by
 refine returnsInHanded_of_change (C := Try.checked) zyz started (by kernel_rfl) Try.func6
  (ChangeSpec.witness6 (enc := enc) (C := Try.checked) false ⟨#[], #[.slice none 0 0], []⟩ 8 (by kernel_rfl) (by kernel_rfl) (by kernel_rfl) (by kernel_rfl)) ?_
 intro W base args ds gs before hval0 hW hcnd _
 have hval : ∀ (j : Nat) t v, Try.f6.params[j]? = some t -> args[j]? = some v -> Value.okWide Try.prog W .any base t v := hval0
 have hW' := hW
 obtain ⟨p, q, hA0, hV, rfl, hfz, hnd⟩ := hW
 have hA : DataW.TrodAll enc Try.prog W 0 (fun _ => true) true Try.f6.params.toList args.toList ds p := hA0
 rw [Try.params6] at hA hval
 obtain ⟨v0, vs0, d0, ds0, p0, q0, hargs, rfl, rfl, h0, r0⟩ := trodAll_cons hA
 obtain ⟨rfl, rfl, rfl⟩ := trodAll_nil r0
 obtain rfl : args = #[v0] := by cases args; simp_all
 obtain ⟨rfl, rfl⟩ := trodVars_none hV
 have k0 := h0
 have lt0 : ∀ x ∈ p0, x.block < W.heap.size := by obtain ⟨m, hm⟩ := k0; exact DataW.trod_lt m _ _ _ hm
 obtain ⟨sa0, sb0, sc0, rfl⟩ := okWide_slice Try.underlying22 (hval 0 22 v0 rfl rfl)
 obtain ⟨s0, hs0⟩ : ∃ s : (List UInt8), zta W (· < W.heap.size) (bsD s) (.slice sa0 sb0 sc0) := by
  obtain ⟨m, hm⟩ := h0
  obtain ⟨d, hr, hs⟩ := zho zkr m _ _ _ (by rfl) hm
  obtain ⟨s, e⟩ := qcu hs
  rw [e] at hr
  obtain ⟨v', vs', e1, e2, _⟩ := hr
  cases e1
  exact ⟨s, e2⟩
 have hs : zbc W (· < W.heap.size) [bsD s0] [.slice sa0 sb0 sc0] := ⟨_, _, rfl, hs0, rfl⟩
 clear hA0 hval0
 refine ((zgx s0).use (vs := [.slice sa0 sb0 sc0]) hs).mono fun e W' ⟨us, fp, he, ho, _, _, bel⟩ => ?_
 obtain ⟨u, us', f1, f2, rfl, _, ⟨rfl, _⟩, hu⟩ := ho
 obtain ⟨rfl, _⟩ := hu
 subst he
 exact ⟨_, rfl, _, _, _, [], _, [], hW', trodAll_mk1 (shut_bool Try.underlying4 _),
  (trodAll_cons_mk (Below.trod zjg (by kernel_rfl) (of_decide_eq_true (by kernel_rfl)) k0 bel lt0) trodAll_mk0), rfl, bel.frame _, fun h => by cases h⟩
theorem qam : (Rows.fnRefutationsRow.wf (OpenSpec.ofChange Rows.fnRefutationsSpec)) = true := by kernel_rfl
theorem qbk : (laidOutB Try.checked.prog) = true := by kernel_rfl
theorem qbz : (mapsRowed Try.checked.prog) = true := by kernel_rfl
theorem qdk : (Try.f6.params.all (Try.checked.prog.readableRec ·)) = true := by kernel_rfl
theorem qb4 : (namedTie Try.checked.prog Rows.fnRefutationsRow.named Rows.fnRefutationsSpec.vars) = true := by kernel_rfl
theorem qag : ((Rows.fnRefutationsRow.stops == [])) = true := by kernel_rfl
theorem qb8 : ((Try.checked.prog.stops == [])) = true := by kernel_rfl
theorem qcb : ((Rows.fnRefutationsRow.knobs == [])) = true := by kernel_rfl
theorem zzv : ((Try.checked.prog.stopKnobs == [])) = true := by kernel_rfl
theorem qb9 : ((Rows.fnRefutationsRow.inPlace == Try.checked.prog.inPlace 6)) = true := by kernel_rfl
theorem zvj : ((Rows.fnRefutationsRow.unfollowed == Try.checked.prog.unfollowed 6)) = true := by kernel_rfl
theorem zv2 : ((Rows.fnRefutationsRow.recurses == Try.checked.prog.recurses 6)) = true := by kernel_rfl
theorem zub : ((Rows.fnRefutationsRow.named == Try.checked.prog.varsNamed 6)) = true := by kernel_rfl
theorem zya : ((Rows.fnRefutationsRow.maps == (Try.f6.params.toList ++ Rows.fnRefutationsSpec.plain.varTypes Try.checked.prog).any (Try.checked.prog.mapsRec ·))) = true := by kernel_rfl
theorem zu9 : ((Rows.fnRefutationsRow.ifaces == (Try.f6.params.toList ++ Rows.fnRefutationsSpec.plain.varTypes Try.checked.prog).any (Try.checked.prog.ifacesRec ·))) = true := by kernel_rfl
theorem zuu : ((Rows.fnRefutationsRow.mapsOut == Try.checked.prog.mapsAmong Try.f6.resultTypes.toList)) = true := by kernel_rfl
theorem zx0 : ((Rows.fnRefutationsRow.loops == (Try.f6.params.toList ++ Rows.fnRefutationsSpec.plain.varTypes Try.checked.prog).any (Try.checked.prog.loopsFrom ·))) = true := by kernel_rfl
theorem zw2 : ((Rows.fnRefutationsRow.wideKeys == (Try.f6.params.toList ++ Rows.fnRefutationsSpec.plain.varTypes Try.checked.prog ++ Try.f6.resultTypes.toList).any (Try.checked.prog.wideKeysFrom ·))) = true := by kernel_rfl
theorem zyg : (Rows.fnRefutationsSpec.vars.all (Try.checked.prog.varReadable ·)) = true := by kernel_rfl
theorem zt4 : (Try.f6.resultTypes.all (fun t => Try.checked.prog.readableRec t && decide (t < Try.checked.prog.types.size))) = true := by kernel_rfl
theorem zul : ((Rows.fnRefutationsRow.ifacesOut == Try.f6.resultTypes.toList.any (Try.checked.prog.ifacesRec ·))) = true := by kernel_rfl
theorem zwq : ((Rows.fnRefutationsRow.loopsOut == Try.f6.resultTypes.toList.any (Try.checked.prog.loopsFrom ·))) = true := by kernel_rfl
theorem zvu : ((Rows.fnRefutationsRow.plainKeys == Try.checked.prog.plainKeys)) = true := by kernel_rfl
theorem zx6 : (Rows.fnRefutationsRow.shortTexts.isNone) = true := by kernel_rfl
theorem zu4 : (Try.checked.prog.stopsHeard) = true := by kernel_rfl
theorem ztm : (Try.checked.prog.mayEnter) = true := by kernel_rfl
theorem zxe : ((Rows.fnRefutationsRow.lifted == Try.checked.prog.liftsFinal)) = true := by kernel_rfl
theorem zxs : ((Try.checked.prog.make == some Rows.fnRefutationsRow.make)) = true := by kernel_rfl
theorem zza : ((Rows.fnRefutationsRow.kinds == (if Rows.fnRefutationsRow.domain.isEmpty then [] else Try.f6.params.toList.map fun t => match Try.checked.prog.underlying t with | some (.int k) => some k | _ => none))) = true := by kernel_rfl
theorem zvv : ((Rows.fnRefutationsRow.pinned == Rows.fnRefutationsRow.pinnedBy)) = true := by kernel_rfl
theorem zzb : ((Rows.fnRefutationsRow.veiled == (Try.f6.params.toList ++ Rows.fnRefutationsSpec.plain.varTypes Try.checked.prog ++ Try.f6.resultTypes.toList).any (Try.checked.prog.veiledRec ·))) = true := by kernel_rfl
theorem zuz : (Rows.fnRefutationsRow.veiledFits Try.checked.prog Try.f6.params.toList (Try.f6.params.toList ++ Rows.fnRefutationsSpec.plain.varTypes Try.checked.prog ++ Try.f6.resultTypes.toList)) = true := by kernel_rfl
theorem zm9 : joinedFacts Try.checked.prog 6 Try.f6 Rows.fnRefutationsSpec Rows.fnRefutationsRow = true := by
 unfold joinedFacts
 simp only [Bool.and_eq_true]
 exact ⟨⟨⟨⟨⟨⟨⟨⟨⟨⟨⟨⟨⟨⟨⟨⟨⟨⟨⟨⟨⟨⟨⟨⟨⟨⟨⟨⟨⟨⟨⟨qam, qbk⟩, qbz⟩, qdk⟩, qb4⟩, qag⟩, qb8⟩, qcb⟩, zzv⟩, qb9⟩, zvj⟩, zv2⟩, zub⟩, zya⟩, zu9⟩, zuu⟩, zx0⟩, zw2⟩, zyg⟩, zt4⟩, zul⟩, zwq⟩, zvu⟩, zx6⟩, zu4⟩, ztm⟩, zxe⟩, zxs⟩, zza⟩, zvv⟩, zzb⟩, zuz⟩
theorem refutations_holds : Rows.FnRefutationsSaid :=
 OpenClaim.holds_of_wide 6 Try.f6 rfl rfl rfl rfl rfl rfl rfl ⟨rfl, rfl, rfl, rfl, rfl⟩ rfl rfl rfl rfl rfl (by kernel_rfl) Try.func6 zm9
  (of_decide_eq_true (by kernel_rfl)) (by unfold Func.isWrapper; rw [if_neg (of_decide_eq_false (by kernel_rfl))]; exact ⟨rfl, rfl⟩)
  (fun os started H enc _ => zm8 os started H enc)
#print axioms refutations_holds
end Go.Proofs.Yteeaofpphmhjdaa
