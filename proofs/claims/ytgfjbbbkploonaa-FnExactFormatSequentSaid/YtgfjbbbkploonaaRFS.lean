/-
  FnExactFormatSequent returns true for all arguments, and its arguments read afterwards as they read before.
  Conditions: none.
-/
import Derived.Test.YtgfjbbbkploonaaRows
import Derived.Test.YtgfjbbbkploonaaF9
import Derived.Test.YtgfjbbbkploonaaSh
import Derived.ProofKit
import Derived.OpenShut
import Derived.ShutString
import Derived.ChangeOld
namespace Go.Proofs.Ytgfjbbbkploonaa
set_option linter.unusedSimpArgs false
set_option linter.unusedVariables false
open Go.ChangeShapes Go.WideShapes Go.ChangeAt Go.RowKit
theorem rfs_own : ownKnob Try.prog.godebug = none := by kernel_rfl
theorem rfs_laidOut : laidOutB Try.prog = true := by kernel_rfl
def rfsTypes (t : TypeId) : Bool := t == 3 || t == 9 || t == 47 || t == 45 || t == 49 || t == 22 || t == 24
theorem rfsTypes_ok : ∀ t, rfsTypes t = true → typeOk Try.prog rfsTypes t = true := by
  intro t h
  simp only [rfsTypes, Bool.or_eq_true, beq_iff_eq] at h
  rcases h with (((((rfl | rfl) | rfl) | rfl) | rfl) | rfl) | rfl <;> kernel_rfl
set_option maxRecDepth 100000 in
theorem rfs_lifted (os : Os) (started : os.Started) (H : Type) (enc : TypeId × Value → H) :
    ReturnsInHanded {} Try.checked os 5 .any (Rows.fnExactFormatSequentSpec.pre6 enc Try.prog Try.f5 Rows.fnExactFormatSequentRow.domain false)
      (Rows.fnExactFormatSequentSpec.post enc Try.prog Try.f5 false true false false) := by
  refine returnsInHanded_of_change (C := Try.checked) rfs_own started (by kernel_rfl) Try.func5
    (ChangeSpec.witness6 (enc := enc) (C := Try.checked) false ⟨#[], #[.agg #[.slice none 0 0, .slice none 0 0]], []⟩ 8 (by kernel_rfl) (by kernel_rfl) (by kernel_rfl) (by kernel_rfl)) ?_
  intro W base args ds gs before hval0 hW hcnd _
  have hval : ∀ (j : Nat) t v, Try.f5.params[j]? = some t → args[j]? = some v → Value.okWide Try.prog W .any base t v := hval0
  have hW' := hW
  obtain ⟨p, q, hA0, hV, rfl, hfz, hnd⟩ := hW
  have hA : DataW.TrodAll enc Try.prog W 0 (fun _ => true) true Try.f5.params.toList args.toList ds p := hA0
  rw [Try.params5] at hA hval
  obtain ⟨v0, vs0, d0, ds0, p0, q0, hargs, rfl, rfl, h0, r0⟩ := trodAll_cons hA
  obtain ⟨rfl, rfl, rfl⟩ := trodAll_nil r0
  obtain rfl : args = #[v0] := by cases args; simp_all
  obtain ⟨rfl, rfl⟩ := trodVars_none hV
  have k0 := h0
  have lt0 : ∀ x ∈ p0, x.block < W.heap.size := by obtain ⟨m, hm⟩ := k0; exact DataW.trod_lt m _ _ _ hm
  obtain ⟨cs0, rfl, _⟩ := okWide_struct Try.underlying24 (hval 0 24 v0 rfl rfl)
  obtain ⟨s, hs⟩ : ∃ s : Sq, RepDs W (· < W.heap.size) [sqD s] [.agg cs0] := by
    obtain ⟨m, hm⟩ := h0
    obtain ⟨d, hr, hs⟩ := rep_of_trod rfsTypes_ok m _ _ _ (by rfl) hm
    obtain ⟨s, e⟩ := sh_sequent hs
    exact ⟨s, _, [], rfl, ⟨cs0.toList, rfl, e ▸ hr⟩, rfl⟩
  clear hA0 hval0
  refine ((lawFormatSequent_c s).use (vs := [.agg cs0]) hs).mono fun e W' ⟨us, fp, he, ho, _, _, bel⟩ => ?_
  obtain ⟨u, us', f1, f2, rfl, _, ⟨rfl, _⟩, hu⟩ := ho
  obtain ⟨rfl, _⟩ := hu
  subst he
  exact ⟨_, rfl, _, _, _, [], _, [], hW', trodAll_mk1 (shut_bool Try.underlying4 _),
    (trodAll_cons_mk (Below.trod rfs_laidOut (by kernel_rfl) (of_decide_eq_true (by kernel_rfl)) k0 bel lt0) trodAll_mk0), rfl, bel.frame _, fun h => by cases h⟩

theorem formatSequent_holds : Rows.FnExactFormatSequentSaid :=
  OpenClaim.holds_of_wide 5 Try.f5 rfl rfl rfl rfl rfl rfl rfl ⟨rfl, rfl, rfl, rfl, rfl⟩ rfl rfl rfl rfl rfl (by kernel_rfl) Try.func5 (by kernel_rfl)
    (of_decide_eq_true (by kernel_rfl)) (by unfold Func.isWrapper; rw [if_neg (of_decide_eq_false (by kernel_rfl))]; exact ⟨rfl, rfl⟩)
    (fun os started H enc _ => rfs_lifted os started H enc)
#print axioms formatSequent_holds
end Go.Proofs.Ytgfjbbbkploonaa
