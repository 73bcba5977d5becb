/-
  Contracts of functions of the program and of its laws, over plain data.
  Conditions: those that each theorem names.
-/
import Derived.Test.YtgfjbbbkploonaaF6
namespace Go.Proofs.Ytgfjbbbkploonaa
set_option linter.unusedSimpArgs false
set_option linter.unusedVariables false
open Go.RowKit
theorem names_ne {a : Tm} (h : a.names = true) : a.name ≠ [61] := fun e => by
  rw [Tm.names_eq, e, show varOk [61] = false by decide, show symOk [61] = false by decide] at h
  simp at h
theorem names_fine : ∀ a : Tm, a.names = true → a.fine = true := tm_ind fun n xs ih h => by
  have hn := names_ne h
  have hx : xs.all Tm.names = true := by
    rw [Tm.names_eq] at h
    change (if varOk n = true then decide (xs.length = 0) else symOk n && decide (xs.length ≤ 4) && xs.all Tm.names) = true at h
    split at h
    · have : xs = [] := List.length_eq_zero_iff.1 (by simpa using h)
      rw [this]; rfl
    · rw [Bool.and_eq_true] at h; exact h.2
  rw [List.all_eq_true] at hx
  rw [Tm.fine_eq, Bool.and_eq_true, List.all_eq_true]
  refine ⟨?_, fun x h => ih x h (hx x h)⟩
  rw [show decide ((Tm.mk n xs).name ≠ [61]) = true by simpa using hn]; rfl
theorem atom_fine {a : Tm} (h : a.atomOk = true) : a.fine = true := by
  unfold Tm.atomOk at h
  split at h
  · rw [Bool.and_eq_true, Bool.and_eq_true] at h
    have h1 : a.args.length = 2 := by simpa using h.1.1
    have h2 := List.all_eq_true.1 h.2
    rw [Tm.fine_eq, Bool.and_eq_true, List.all_eq_true]
    refine ⟨?_, fun x hx => names_fine x (h2 x hx)⟩
    rw [show decide (2 ≤ a.args.length) = true by simp; omega, Bool.or_true]
  · rw [Bool.and_eq_true] at h
    have h2 := h.2
    unfold Tm.good at h2
    rw [Bool.and_eq_true] at h2
    exact names_fine a h2.2
theorem none_ne {a : Tm} (h : a.none = true) : (a.name == [61]) = false := by
  unfold Tm.none at h
  rw [Bool.and_eq_true] at h
  have : a.name = [] := by simpa using h.1
  rw [this]; rfl
theorem here_eq {f : Fm} (h : f.here = true) (hn : (f.atom.name == [61]) = true) : f.op = 3 := by
  have K : ∀ {x y : Bool}, (x && f.atom.none && y) = true → False := fun hh => by
    rw [Bool.and_eq_true, Bool.and_eq_true] at hh
    have := none_ne hh.1.2
    rw [hn] at this; cases this
  unfold Fm.here at h
  split at h
  · exact (K h).elim
  · split at h
    · rename_i h3; simpa using h3
    · split at h
      · exact (K h).elim
      · split at h
        · exact (K h).elim
        · split at h
          · exact (K h).elim
          · cases h
theorem here_opFine {f : Fm} (h : f.here = true) (hp : ∀ x ∈ f.parts, x.here = true) : opFine f.op f.atom f.parts = true := by
  unfold opFine
  have hh := h
  rcases op_cases f.op with e | e | e | e | e | e | e | e | e | e
  · simp [e]
  · simp [e]
  · have : f.atom.atomOk = true := by
      unfold Fm.here at h
      simp [e] at h
      exact h.1.2
    simp [e, atom_fine this]
  · have hl : f.parts.length = 1 := by
      unfold Fm.here at h
      simp [e] at h
      exact h.1.1
    have h0 : 0 < f.parts.length := by omega
    rw [if_neg (by omega), if_neg (by omega), if_neg (by omega), if_pos e, headOk_at f.parts h0]
    cases hq : (f.parts[0].atom.name == [61])
    · rfl
    · rw [here_eq (hp _ (List.getElem_mem h0)) hq]; rfl
  · have hl : f.parts.length = 2 := by
      unfold Fm.here at h
      simp [e, isBi] at h
      exact h.1.1
    simp [e, hl]
  · have hl : f.parts.length = 2 := by
      unfold Fm.here at h
      simp [e, isBi] at h
      exact h.1.1
    simp [e, hl]
  · have hl : f.parts.length = 2 := by
      unfold Fm.here at h
      simp [e, isBi] at h
      exact h.1.1
    simp [e, hl]
  · have hl : f.parts.length = 1 := by
      unfold Fm.here at h
      simp [e, isBi, isQ] at h
      exact h.1.1
    simp [e, hl]
  · have hl : f.parts.length = 1 := by
      unfold Fm.here at h
      simp [e, isBi, isQ] at h
      exact h.1.1
    simp [e, hl]
  · exfalso
    unfold Fm.here at h
    simp [e, isBi, isQ] at h
theorem forms_fine : ∀ f : Fm, f.forms = true → f.fine = true := fm_ind fun o a v ps ih h => by
  rw [Fm.forms_eq, Bool.and_eq_true, List.all_eq_true] at h
  rw [Fm.fine_eq, Bool.and_eq_true, List.all_eq_true]
  refine ⟨here_opFine h.1 fun x hx => ?_, fun x hx => ih x hx (h.2 x hx)⟩
  have := h.2 x hx
  rw [Fm.forms_eq, Bool.and_eq_true] at this
  exact this.1
theorem good_fine {f : Fm} (h : f.good = true) : f.fine = true := by
  unfold Fm.good at h
  rw [Bool.and_eq_true] at h
  exact forms_fine f h.2
/-- The text of a formula that is not too long. -/
def Fm.format (f : Fm) : Option Str := if f.good = true ∧ f.text.length ≤ 4000 then some f.text else none
def fmtS (o : Option Str) : Str := o.getD []
theorem formatFormulaTop_c (f : Fm) (hs : f.wt ≤ 1073741824) : FC Try.prog 62 [fmD f] [sD (fmtS f.format), bD f.format.isSome] := by
  have hF : f.format = if f.good = true ∧ f.text.length ≤ 4000 then some f.text else none := rfl
  simp only [fmD, fmC_eq]
  refine FC_of Try.call62 Try.func62 rfl (by kernel_rfl) (by simp only [rd, List.map_cons, List.map_nil, List.length_cons, List.length_nil, Try.ntmps62]; omega) ?_
  simp -implicitDefEqProofs only [go_sem, Nat.reduceEqDiff, reduceIte, reduceCtorEq, Nat.reduceAdd, Nat.reduceMul, Int.reduceLE, Int.reduceNeg, Int.reduceToNat, Nat.reduceLeDiff, Nat.reduceSub, Nat.reduceLT, Nat.le_refl, Int.cast_ofNat_Int, Int.reduceLT, Int.reduceGT, Int.reduceGE, Int.reduceEq, Int.reduceBEq, Int.reduceBNe, Int.reduceAdd, Int.reduceSub, gt_iff_lt, ge_iff_le, Try.results62]
  refine callF (isValidFormula_c f (by omega)) (by simp -implicitDefEqProofs only [go_sem, Nat.reduceEqDiff, reduceIte, reduceCtorEq, Nat.reduceAdd, Nat.reduceMul, Int.reduceLE, Int.reduceNeg, Int.reduceToNat, Nat.reduceLeDiff, Nat.reduceSub, Nat.reduceLT, Nat.le_refl, Int.cast_ofNat_Int, Int.reduceLT, Int.reduceGT, Int.reduceGE, Int.reduceEq, Int.reduceBEq, Int.reduceBNe, Int.reduceAdd, Int.reduceSub, gt_iff_lt, ge_iff_le, fmC_eq]) ?_
  simp -implicitDefEqProofs only [go_sem, Nat.reduceEqDiff, reduceIte, reduceCtorEq, Nat.reduceAdd, Nat.reduceMul, Int.reduceLE, Int.reduceNeg, Int.reduceToNat, Nat.reduceLeDiff, Nat.reduceSub, Nat.reduceLT, Nat.le_refl, Int.cast_ofNat_Int, Int.reduceLT, Int.reduceGT, Int.reduceGE, Int.reduceEq, Int.reduceBEq, Int.reduceBNe, Int.reduceAdd, Int.reduceSub, gt_iff_lt, ge_iff_le, fmC_eq]
  refine ⟨fun h => ?_, fun h => ?_⟩
  · have : f.good = false := by simpa using h
    rw [hF, if_neg (by simp [this])]
    exact ⟨rfl, rfl⟩
  · have hg : f.good = true := by simpa using h
    refine callF (formatFormula_c f hs (good_fine hg)) (by simp -implicitDefEqProofs only [go_sem, Nat.reduceEqDiff, reduceIte, reduceCtorEq, Nat.reduceAdd, Nat.reduceMul, Int.reduceLE, Int.reduceNeg, Int.reduceToNat, Nat.reduceLeDiff, Nat.reduceSub, Nat.reduceLT, Nat.le_refl, Int.cast_ofNat_Int, Int.reduceLT, Int.reduceGT, Int.reduceGE, Int.reduceEq, Int.reduceBEq, Int.reduceBNe, Int.reduceAdd, Int.reduceSub, gt_iff_lt, ge_iff_le, fmC_eq]) ?_
    simp -implicitDefEqProofs only [go_sem, Nat.reduceEqDiff, reduceIte, reduceCtorEq, Nat.reduceAdd, Nat.reduceMul, Int.reduceLE, Int.reduceNeg, Int.reduceToNat, Nat.reduceLeDiff, Nat.reduceSub, Nat.reduceLT, Nat.le_refl, Int.cast_ofNat_Int, Int.reduceLT, Int.reduceGT, Int.reduceGE, Int.reduceEq, Int.reduceBEq, Int.reduceBNe, Int.reduceAdd, Int.reduceSub, gt_iff_lt, ge_iff_le, fmC_eq]
    refine ⟨fun h2 => ?_, fun h2 => ?_⟩
    · rw [hF, if_neg (by simp at h2; omega)]
      exact ⟨rfl, rfl⟩
    · rw [hF, if_pos ⟨hg, by simp at h2; omega⟩]
      exact ⟨rfl, rfl⟩
end Go.Proofs.Ytgfjbbbkploonaa
