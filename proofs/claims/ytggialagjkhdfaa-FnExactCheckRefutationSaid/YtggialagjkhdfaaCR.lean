/-
  FnExactCheckRefutation returns true for all arguments, and its arguments read afterwards as they read before.
  Conditions: none.
-/
import Derived.Test.YtggialagjkhdfaaRows
import Derived.Test.YtggialagjkhdfaaW28
import Derived.Test.YtggialagjkhdfaaTrod
import Derived.ProofKit
import Derived.OpenShut
import Derived.ShutString
import Derived.ChangeOld
namespace Go.Proofs.Ytggialagjkhdfaa
open Go.ChangeShapes Go.WideShapes Go.ChangeAt Go.RowKit

theorem shape_steps {P : Program} {t e i r : TypeId} {fl : Array Field} {d : D} (h : Shape P t d) (hu : P.underlying t = some (.slice e)) (he : P.underlying e = some (.struct fl)) (hi : P.underlying i = some (.int .i64)) (hr : P.underlying r = some (.slice i))
    (hf : fl.toList.map (·.type) = [i, i, i, r]) (hc : P.cellsOf e = 4) (hc2 : P.cellsOf i = 1) : ∃ ss, d = steps ss := by
  obtain ⟨xs, rfl, hx⟩ := h.sl hu
  obtain ⟨l, rfl⟩ := list_form PStep.toD xs fun x hx' => by
    obtain ⟨fs, rfl, hfs⟩ := (hx x hx').st he
    rw [hf] at hfs
    cases fs with
    | nil => rw [ShapeF] at hfs; cases hfs
    | cons f1 fs =>
    rw [ShapeF] at hfs
    obtain ⟨_, _, h0, s1, hfs⟩ := hfs
    cases h0
    cases fs with
    | nil => rw [ShapeF] at hfs; cases hfs
    | cons f2 fs =>
    rw [ShapeF] at hfs
    obtain ⟨_, _, h0, s2, hfs⟩ := hfs
    cases h0
    cases fs with
    | nil => rw [ShapeF] at hfs; cases hfs
    | cons f3 fs =>
    rw [ShapeF] at hfs
    obtain ⟨_, _, h0, s3, hfs⟩ := hfs
    cases h0
    cases fs with
    | nil => rw [ShapeF] at hfs; cases hfs
    | cons f4 fs =>
    rw [ShapeF] at hfs
    obtain ⟨_, _, h0, s4, hfs⟩ := hfs
    cases h0
    cases fs with
    | cons f5 fs => rw [ShapeF] at hfs; obtain ⟨_, _, h0, _⟩ := hfs; cases h0
    | nil =>
      obtain ⟨n1, rfl⟩ := s1.int hi
      obtain ⟨n2, rfl⟩ := s2.int hi
      obtain ⟨n3, rfl⟩ := s3.int hi
      obtain ⟨c, rfl⟩ := shape_ints s4 hr hi hc2
      exact ⟨⟨n1, n2, n3, c⟩, rfl⟩
  exact ⟨l, by rw [hc]; rfl⟩
theorem cr_own : ownKnob Try.prog.godebug = none := by kernel_rfl
theorem cr_laidOut : laidOutB Try.prog = true := by kernel_rfl
def crTypes (t : TypeId) : Bool := t == 3 || t == 24 || t == 22 || t == 86 || t == 44
theorem crTypes_ok : ∀ t, crTypes t = true → typeOk Try.prog crTypes t = true := by
  intro t h
  simp only [crTypes, Bool.or_eq_true, beq_iff_eq] at h
  rcases h with (((rfl | rfl) | rfl) | rfl) | rfl <;> kernel_rfl

set_option maxRecDepth 100000 in
theorem cr_lifted (os : Os) (started : os.Started) (H : Type) (enc : TypeId × Value → H) :
    ReturnsInHanded {} Try.checked os 7 .any (Rows.fnExactCheckRefutationSpec.pre6 enc Try.prog Try.f7 Rows.fnExactCheckRefutationRow.domain false)
      (Rows.fnExactCheckRefutationSpec.post enc Try.prog Try.f7 false true false false) := by
  refine returnsInHanded_of_change (C := Try.checked) cr_own started (by kernel_rfl) Try.func7
    (ChangeSpec.witness6 (enc := enc) (C := Try.checked) false ⟨#[], #[.slice none 0 0, .slice none 0 0], []⟩ 8 (by kernel_rfl) (by kernel_rfl) (by kernel_rfl) (by kernel_rfl)) ?_
  intro W base args ds gs before hval0 hW hcnd _
  have hval : ∀ (j : Nat) t v, Try.f7.params[j]? = some t → args[j]? = some v → Value.okWide Try.prog W .any base t v := hval0
  have hW' := hW
  obtain ⟨p, q, hA0, hV, rfl, hfz, hnd⟩ := hW
  have hA : DataW.TrodAll enc Try.prog W 0 (fun _ => true) true Try.f7.params.toList args.toList ds p := hA0
  rw [Try.params7] at hA hval
  obtain ⟨v0, vs0, d0, ds0, p0, q0, hargs, rfl, rfl, h0, r0⟩ := trodAll_cons hA
  obtain ⟨v1, vs1, d1, ds1, p1, q1, rfl, rfl, rfl, h1, r1⟩ := trodAll_cons r0
  obtain ⟨rfl, rfl, rfl⟩ := trodAll_nil r1
  obtain rfl : args = #[v0, v1] := by cases args; simp_all
  obtain ⟨rfl, rfl⟩ := trodVars_none hV
  have k0 := h0
  have k1 := h1
  have lt0 : ∀ x ∈ p0, x.block < W.heap.size := by obtain ⟨m, hm⟩ := k0; exact DataW.trod_lt m _ _ _ hm
  have lt1 : ∀ x ∈ p1, x.block < W.heap.size := by obtain ⟨m, hm⟩ := k1; exact DataW.trod_lt m _ _ _ hm
  obtain ⟨a0, len0, cap0, rfl⟩ := okWide_slice Try.underlying22 (hval 0 22 v0 rfl rfl)
  obtain ⟨set, hset⟩ : ∃ set, Rows2 W (.slice a0 len0 cap0) set := by
    obtain ⟨m, hm⟩ := h0
    obtain ⟨d, hr, hs⟩ := rep_of_trod crTypes_ok m _ _ _ (by rfl) hm
    obtain ⟨xs, rfl⟩ := shape_rows hs Try.underlying22 Try.underlying24 Try.underlying3 (by kernel_rfl) (by kernel_rfl)
    exact ⟨xs, hr⟩
  obtain ⟨a1, len1, cap1, rfl⟩ := okWide_slice Try.underlying44 (hval 1 44 v1 rfl rfl)
  obtain ⟨ss, hss⟩ : ∃ ss, Steps W (.slice a1 len1 cap1) ss := by
    obtain ⟨m, hm⟩ := h1
    obtain ⟨d, hr, hs⟩ := rep_of_trod crTypes_ok m _ _ _ (by rfl) hm
    obtain ⟨xs, rfl⟩ := shape_steps hs Try.underlying44 Try.underlying86 Try.underlying3 Try.underlying24 (by rfl) (by kernel_rfl) (by kernel_rfl)
    exact ⟨xs, hr⟩
  clear hA0 hval0
  refine (lawCheck_any _ _ set ss W hset hss).mono fun e W' ⟨he, bel⟩ => ?_
  subst he
  exact ⟨_, rfl, _, _, _, [], _, [], hW', trodAll_mk1 (shut_bool Try.underlying4 _),
    (trodAll_cons_mk (Below.trod cr_laidOut (by kernel_rfl) (of_decide_eq_true (by kernel_rfl)) k0 bel lt0) (trodAll_cons_mk (Below.trod cr_laidOut (by kernel_rfl) (of_decide_eq_true (by kernel_rfl)) k1 bel lt1) trodAll_mk0)), rfl, bel.frame _, fun h => by cases h⟩

theorem checkRefutation_holds : Rows.FnExactCheckRefutationSaid :=
  OpenClaim.holds_of_wide 7 Try.f7 rfl rfl rfl rfl rfl rfl rfl ⟨rfl, rfl, rfl, rfl, rfl⟩ rfl rfl rfl rfl rfl (by kernel_rfl) Try.func7 (by kernel_rfl)
    (of_decide_eq_true (by kernel_rfl)) (by unfold Func.isWrapper; rw [if_neg (of_decide_eq_false (by kernel_rfl))]; exact ⟨rfl, rfl⟩)
    (fun os started H enc _ => cr_lifted os started H enc)
#print axioms checkRefutation_holds
end Go.Proofs.Ytggialagjkhdfaa
