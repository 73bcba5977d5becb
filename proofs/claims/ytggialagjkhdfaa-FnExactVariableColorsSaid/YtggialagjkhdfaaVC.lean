/-
  FnExactVariableColors returns true for all arguments, and its arguments read afterwards as they read before.
  Conditions: none.
-/
import Derived.Test.YtggialagjkhdfaaRows
import Derived.Test.YtggialagjkhdfaaW13
import Derived.Test.YtggialagjkhdfaaTrod
import Derived.ProofKit
import Derived.OpenShut
import Derived.ShutString
import Derived.ChangeOld
namespace Go.Proofs.Ytggialagjkhdfaa
open Go.ChangeShapes Go.WideShapes Go.ChangeAt Go.RowKit

theorem vc_own : ownKnob Try.prog.godebug = none := by kernel_rfl
theorem vc_laidOut : laidOutB Try.prog = true := by kernel_rfl
def vcTypes (t : TypeId) : Bool := t == 3 || t == 24 || t == 22
theorem vcTypes_ok : ∀ t, vcTypes t = true → typeOk Try.prog vcTypes t = true := by
  intro t h
  simp only [vcTypes, Bool.or_eq_true, beq_iff_eq] at h
  rcases h with (rfl | rfl) | rfl <;> kernel_rfl

set_option maxRecDepth 100000 in
theorem vc_lifted (os : Os) (started : os.Started) (H : Type) (enc : TypeId × Value → H) :
    ReturnsInHanded {} Try.checked os 3 .any (Rows.fnExactVariableColorsSpec.pre6 enc Try.prog Try.f3 Rows.fnExactVariableColorsRow.domain false)
      (Rows.fnExactVariableColorsSpec.post enc Try.prog Try.f3 false true false false) := by
  refine returnsInHanded_of_change (C := Try.checked) vc_own started (by kernel_rfl) Try.func3
    (ChangeSpec.witness6 (enc := enc) (C := Try.checked) false ⟨#[], #[.slice none 0 0, .int .i64 0], []⟩ 8 (by kernel_rfl) (by kernel_rfl) (by kernel_rfl) (by kernel_rfl)) ?_
  intro W base args ds gs before hval0 hW hcnd _
  have hval : ∀ (j : Nat) t v, Try.f3.params[j]? = some t → args[j]? = some v → Value.okWide Try.prog W .any base t v := hval0
  have hW' := hW
  obtain ⟨p, q, hA0, hV, rfl, hfz, hnd⟩ := hW
  have hA : DataW.TrodAll enc Try.prog W 0 (fun _ => true) true Try.f3.params.toList args.toList ds p := hA0
  rw [Try.params3] at hA hval
  obtain ⟨v0, vs0, d0, ds0, p0, q0, hargs, rfl, rfl, h0, r0⟩ := trodAll_cons hA
  obtain ⟨v1, vs1, d1, ds1, p1, q1, rfl, rfl, rfl, h1, r1⟩ := trodAll_cons r0
  obtain ⟨rfl, rfl, rfl⟩ := trodAll_nil r1
  obtain rfl : args = #[v0, v1] := by cases args; simp_all
  obtain ⟨rfl, rfl⟩ := trodVars_none hV
  have k0 := h0
  have k1 := h1
  have lt0 : ∀ x ∈ p0, x.block < W.heap.size := by obtain ⟨m, hm⟩ := k0; exact DataW.trod_lt m _ _ _ hm
  have lt1 : ∀ x ∈ p1, x.block < W.heap.size := by obtain ⟨m, hm⟩ := k1; exact DataW.trod_lt m _ _ _ hm
  obtain ⟨a0, len0, cap0, rfl⟩ := okWide_slice Try.underlying22 (hval 0 22 v0 rfl rfl)
  obtain ⟨set, hset⟩ : ∃ set, Rows2 W (.slice a0 len0 cap0) set := by
    obtain ⟨m, hm⟩ := h0
    obtain ⟨d, hr, hs⟩ := rep_of_trod vcTypes_ok m _ _ _ (by rfl) hm
    obtain ⟨xs, rfl⟩ := shape_rows hs Try.underlying22 Try.underlying24 Try.underlying3 (by kernel_rfl) (by kernel_rfl)
    exact ⟨xs, hr⟩
  obtain ⟨z1, e0, e1, e2, wz⟩ := open_int Try.underlying3 (hval 1 3 v1 rfl rfl) h1
  subst e0
  clear hA0 hval0
  refine (lawColors_any _ set z1 W hset).mono fun e W' ⟨he, bel⟩ => ?_
  subst he
  exact ⟨_, rfl, _, _, _, [], _, [], hW', trodAll_mk1 (shut_bool Try.underlying4 _),
    (trodAll_cons_mk (Below.trod vc_laidOut (by kernel_rfl) (of_decide_eq_true (by kernel_rfl)) k0 bel lt0) (trodAll_cons_mk (Below.trod vc_laidOut (by kernel_rfl) (of_decide_eq_true (by kernel_rfl)) k1 bel lt1) trodAll_mk0)), rfl, bel.frame _, fun h => by cases h⟩

theorem variableColors_holds : Rows.FnExactVariableColorsSaid :=
  OpenClaim.holds_of_wide 3 Try.f3 rfl rfl rfl rfl rfl rfl rfl ⟨rfl, rfl, rfl, rfl, rfl⟩ rfl rfl rfl rfl rfl (by kernel_rfl) Try.func3 (by kernel_rfl)
    (of_decide_eq_true (by kernel_rfl)) (by unfold Func.isWrapper; rw [if_neg (of_decide_eq_false (by kernel_rfl))]; exact ⟨rfl, rfl⟩)
    (fun os started H enc _ => vc_lifted os started H enc)
#print axioms variableColors_holds
end Go.Proofs.Ytggialagjkhdfaa
