/-
  Contracts of functions of the program and of its laws, over plain data.
  Conditions: those that each theorem names.
-/
import Derived.Test.YtgfjbbbkploonaaF7
namespace Go.Proofs.Ytgfjbbbkploonaa
set_option linter.unusedSimpArgs false
set_option linter.unusedVariables false
open Go.RowKit
def sideTxt (xs : List Fm) : Str := Lib.join (xs.map Fm.text) [44, 32]
theorem sideTxt_succ (xs : List Fm) (k : Nat) (h : k < xs.length) (h0 : k ≠ 0) : sideTxt (xs.take (k + 1)) = sideTxt (xs.take k) ++ ([44, 32] : Str) ++ xs[k].text := by
  unfold sideTxt
  rw [List.take_succ_eq_append_getElem h, List.map_append, List.map_cons, List.map_nil, join_snoc _ _ _ (by
    intro e
    have : ((xs.take k).map Fm.text).length = 0 := by rw [e]; rfl
    rw [List.length_map, List.length_take] at this; omega)]
theorem sideTxt_one (xs : List Fm) (h : 0 < xs.length) : sideTxt (xs.take 1) = xs[0].text := by
  cases xs with
  | nil => simp at h
  | cons a r => simp [sideTxt, Lib.join_one]
theorem texts_le {xs : List Fm} (hf : ∀ x ∈ xs, x.fine = true) : ((xs.map Fm.text).map List.length).sum ≤ 8 * fmsW xs := by
  have h1 : ((xs.map Fm.text).map List.length).sum ≤ (xs.map fun x => 8 * (x.wt + 1)).sum := by
    rw [List.map_map]
    exact sum_map_le _ _ xs fun x h => ftext_len x (hf x h)
  have h2 : (xs.map fun x : Fm => x.wt + 1).sum = fmsW xs := by
    unfold fmsW
    clear hf h1
    induction xs with
    | nil => rfl
    | cons a xs ih => simp only [List.map_cons, List.sum_cons, List.length_cons, ih]; omega
  rw [sum_mul, h2] at h1
  exact h1
theorem sideTxt_le {xs : List Fm} (hf : ∀ x ∈ xs, x.fine = true) (hs : fmsW xs ≤ 1073741824) (k : Nat) : (sideTxt (xs.take k)).length ≤ 10737418240 := by
  have h1 := texts_le hf
  have h2 := join_take_le [44, 32] (xs.map Fm.text) k
  rw [← List.map_take] at h2
  unfold sideTxt
  rw [List.length_map] at h2
  simp only [List.length_cons, List.length_nil] at h2
  have h3 : xs.length ≤ fmsW xs := by unfold fmsW; omega
  omega
theorem l18List_c (xs : List Fm) (hs : fmsW xs ≤ 1073741824) (hf : ∀ x ∈ xs, x.fine = true) : FC Try.prog 42 [.one (fmS xs)] [sD (sideTxt xs)] := by
  have hl : xs.length ≤ 1073741824 := by unfold fmsW at hs; omega
  refine FC_of Try.call42 Try.func42 rfl (by kernel_rfl) (by simp only [rd, List.map_cons, List.map_nil, List.length_cons, List.length_nil, Try.ntmps42]; omega) ?_
  simp -implicitDefEqProofs only [go_sem, Nat.reduceEqDiff, reduceIte, reduceCtorEq, Nat.reduceAdd, Nat.reduceMul, Int.reduceLE, Int.reduceNeg, Int.reduceToNat, Nat.reduceLeDiff, Nat.reduceSub, Nat.reduceLT, Nat.le_refl, Int.cast_ofNat_Int, Int.reduceLT, Int.reduceGT, Int.reduceGE, Int.reduceEq, Int.reduceBEq, Int.reduceBNe, Int.reduceAdd, Int.reduceSub, gt_iff_lt, ge_iff_le, Try.results42]
  refine loop_rule (fun k : Nat => hd [(0, vT (fmS xs)), (3, vT (.str (sideTxt (xs.take k)))), (4, vI k)] [] []) (fun k => k ≤ xs.length) (fun k => xs.length - k) 0 (weak_hd ?_) ?_ ?_
  · simp -implicitDefEqProofs only [go_sem, Nat.reduceEqDiff, reduceIte, reduceCtorEq, Nat.reduceAdd, Nat.reduceMul, Int.reduceLE, Int.reduceNeg, Int.reduceToNat, Nat.reduceLeDiff, Nat.reduceSub, Nat.reduceLT, Nat.le_refl, Int.cast_ofNat_Int, Int.reduceLT, Int.reduceGT, Int.reduceGE, Int.reduceEq, Int.reduceBEq, Int.reduceBNe, Int.reduceAdd, Int.reduceSub, gt_iff_lt, ge_iff_le]
    rfl
  · omega
  · intro k hk
    have hb := sideTxt_le hf hs k
    by_cases hlt : k < xs.length
    · have hwk : xs[k].wt ≤ 1073741824 := by have := mem_sum Fm.wt xs xs[k] (List.getElem_mem hlt); unfold fmsW at hs; omega
      have ht := ftext_len xs[k] (hf _ (List.getElem_mem hlt))
      by_cases h0 : k = 0
      · subst h0
        have hli : (0 : Int) < xs.length := by omega
        simp -implicitDefEqProofs only [go_sem, Nat.reduceEqDiff, reduceIte, reduceCtorEq, Nat.reduceAdd, Nat.reduceMul, Int.reduceLE, Int.reduceNeg, Int.reduceToNat, Nat.reduceLeDiff, Nat.reduceSub, Nat.reduceLT, Nat.le_refl, Int.cast_ofNat_Int, Int.reduceLT, Int.reduceGT, Int.reduceGE, Int.reduceEq, Int.reduceBEq, Int.reduceBNe, Int.reduceAdd, Int.reduceSub, gt_iff_lt, ge_iff_le, getD_at, hlt, hli, fmC_eq]
        refine callF (l8Text_c xs[0] hwk (hf _ (List.getElem_mem hlt))) (by simp -implicitDefEqProofs only [go_sem, Nat.reduceEqDiff, reduceIte, reduceCtorEq, Nat.reduceAdd, Nat.reduceMul, Int.reduceLE, Int.reduceNeg, Int.reduceToNat, Nat.reduceLeDiff, Nat.reduceSub, Nat.reduceLT, Nat.le_refl, Int.cast_ofNat_Int, Int.reduceLT, Int.reduceGT, Int.reduceGE, Int.reduceEq, Int.reduceBEq, Int.reduceBNe, Int.reduceAdd, Int.reduceSub, gt_iff_lt, ge_iff_le, fmC_eq]) ?_
        simp -implicitDefEqProofs only [go_sem, Nat.reduceEqDiff, reduceIte, reduceCtorEq, Nat.reduceAdd, Nat.reduceMul, Int.reduceLE, Int.reduceNeg, Int.reduceToNat, Nat.reduceLeDiff, Nat.reduceSub, Nat.reduceLT, Nat.le_refl, Int.cast_ofNat_Int, Int.reduceLT, Int.reduceGT, Int.reduceGE, Int.reduceEq, Int.reduceBEq, Int.reduceBNe, Int.reduceAdd, Int.reduceSub, gt_iff_lt, ge_iff_le, fmC_eq]
        have e0 : sideTxt [] = [] := rfl
        refine ⟨by rw [e0]; simp only [List.length_nil]; omega, 1, by omega, by omega, weak_hd ?_⟩
        simp -implicitDefEqProofs only [go_sem, Nat.reduceEqDiff, reduceIte, reduceCtorEq, Nat.reduceAdd, Nat.reduceMul, Int.reduceLE, Int.reduceNeg, Int.reduceToNat, Nat.reduceLeDiff, Nat.reduceSub, Nat.reduceLT, Nat.le_refl, Int.cast_ofNat_Int, Int.reduceLT, Int.reduceGT, Int.reduceGE, Int.reduceEq, Int.reduceBEq, Int.reduceBNe, Int.reduceAdd, Int.reduceSub, gt_iff_lt, ge_iff_le]
        rw [sideTxt_one xs hlt, e0]
        exact ⟨rfl, rfl⟩
      · have h0' : (0 : Int) < (k : Int) := by omega
        have h0n : 0 < k := by omega
        simp -implicitDefEqProofs only [go_sem, Nat.reduceEqDiff, reduceIte, reduceCtorEq, Nat.reduceAdd, Nat.reduceMul, Int.reduceLE, Int.reduceNeg, Int.reduceToNat, Nat.reduceLeDiff, Nat.reduceSub, Nat.reduceLT, Nat.le_refl, Int.cast_ofNat_Int, Int.reduceLT, Int.reduceGT, Int.reduceGE, Int.reduceEq, Int.reduceBEq, Int.reduceBNe, Int.reduceAdd, Int.reduceSub, gt_iff_lt, ge_iff_le, getD_at, hlt, h0', h0n, fmC_eq]
        refine ⟨by omega, ?_⟩
        refine callF (l8Text_c xs[k] hwk (hf _ (List.getElem_mem hlt))) (by simp -implicitDefEqProofs only [go_sem, Nat.reduceEqDiff, reduceIte, reduceCtorEq, Nat.reduceAdd, Nat.reduceMul, Int.reduceLE, Int.reduceNeg, Int.reduceToNat, Nat.reduceLeDiff, Nat.reduceSub, Nat.reduceLT, Nat.le_refl, Int.cast_ofNat_Int, Int.reduceLT, Int.reduceGT, Int.reduceGE, Int.reduceEq, Int.reduceBEq, Int.reduceBNe, Int.reduceAdd, Int.reduceSub, gt_iff_lt, ge_iff_le, fmC_eq]) ?_
        simp -implicitDefEqProofs only [go_sem, Nat.reduceEqDiff, reduceIte, reduceCtorEq, Nat.reduceAdd, Nat.reduceMul, Int.reduceLE, Int.reduceNeg, Int.reduceToNat, Nat.reduceLeDiff, Nat.reduceSub, Nat.reduceLT, Nat.le_refl, Int.cast_ofNat_Int, Int.reduceLT, Int.reduceGT, Int.reduceGE, Int.reduceEq, Int.reduceBEq, Int.reduceBNe, Int.reduceAdd, Int.reduceSub, gt_iff_lt, ge_iff_le, fmC_eq]
        refine ⟨by simp only [List.length_append, List.length_cons, List.length_nil]; omega, k + 1, by omega, by omega, weak_hd ?_⟩
        simp -implicitDefEqProofs only [go_sem, Nat.reduceEqDiff, reduceIte, reduceCtorEq, Nat.reduceAdd, Nat.reduceMul, Int.reduceLE, Int.reduceNeg, Int.reduceToNat, Nat.reduceLeDiff, Nat.reduceSub, Nat.reduceLT, Nat.le_refl, Int.cast_ofNat_Int, Int.reduceLT, Int.reduceGT, Int.reduceGE, Int.reduceEq, Int.reduceBEq, Int.reduceBNe, Int.reduceAdd, Int.reduceSub, gt_iff_lt, ge_iff_le]
        rw [sideTxt_succ xs k hlt h0, wrap_s (by omega)]
        exact ⟨rfl, rfl⟩
    · simp -implicitDefEqProofs only [go_sem, Nat.reduceEqDiff, reduceIte, reduceCtorEq, Nat.reduceAdd, Nat.reduceMul, Int.reduceLE, Int.reduceNeg, Int.reduceToNat, Nat.reduceLeDiff, Nat.reduceSub, Nat.reduceLT, Nat.le_refl, Int.cast_ofNat_Int, Int.reduceLT, Int.reduceGT, Int.reduceGE, Int.reduceEq, Int.reduceBEq, Int.reduceBNe, Int.reduceAdd, Int.reduceSub, gt_iff_lt, ge_iff_le, hlt]
      rw [List.take_of_length_le (by omega)]
/-- The texts of a side, all of them not too long. -/
def sideF (xs : List Fm) : Option Str := if (xs.all fun x => x.format.isSome) = true then some (sideTxt xs) else none
theorem format_some {x : Fm} (h : x.format.isSome = true) : x.format = some x.text ∧ x.good = true ∧ x.text.length ≤ 4000 := by
  unfold Fm.format at h ⊢
  split at h
  · rename_i h1; rw [if_pos h1]; exact ⟨rfl, h1.1, h1.2⟩
  · cases h
theorem sideText_c (xs : List Fm) (hs : fmsW xs ≤ 1073741824) : FC Try.prog 43 [.one (fmS xs)] [sD (fmtS (sideF xs)), bD (sideF xs).isSome] := by
  have hl : xs.length ≤ 1073741824 := by unfold fmsW at hs; omega
  have hS : sideF xs = if (xs.all fun x => x.format.isSome) = true then some (sideTxt xs) else none := rfl
  refine FC_of Try.call43 Try.func43 rfl (by kernel_rfl) (by simp only [rd, List.map_cons, List.map_nil, List.length_cons, List.length_nil, Try.ntmps43]; omega) ?_
  simp -implicitDefEqProofs only [go_sem, Nat.reduceEqDiff, reduceIte, reduceCtorEq, Nat.reduceAdd, Nat.reduceMul, Int.reduceLE, Int.reduceNeg, Int.reduceToNat, Nat.reduceLeDiff, Nat.reduceSub, Nat.reduceLT, Nat.le_refl, Int.cast_ofNat_Int, Int.reduceLT, Int.reduceGT, Int.reduceGE, Int.reduceEq, Int.reduceBEq, Int.reduceBNe, Int.reduceAdd, Int.reduceSub, gt_iff_lt, ge_iff_le, Try.results43]
  refine buildDc (by simp -implicitDefEqProofs only [go_sem, Nat.reduceEqDiff, reduceIte, reduceCtorEq, Nat.reduceAdd, Nat.reduceMul, Int.reduceLE, Int.reduceNeg, Int.reduceToNat, Nat.reduceLeDiff, Nat.reduceSub, Nat.reduceLT, Nat.le_refl, Int.cast_ofNat_Int, Int.reduceLT, Int.reduceGT, Int.reduceGE, Int.reduceEq, Int.reduceBEq, Int.reduceBNe, Int.reduceAdd, Int.reduceSub, gt_iff_lt, ge_iff_le]) ?_
  simp -implicitDefEqProofs only [go_sem, Nat.reduceEqDiff, reduceIte, reduceCtorEq, Nat.reduceAdd, Nat.reduceMul, Int.reduceLE, Int.reduceNeg, Int.reduceToNat, Nat.reduceLeDiff, Nat.reduceSub, Nat.reduceLT, Nat.le_refl, Int.cast_ofNat_Int, Int.reduceLT, Int.reduceGT, Int.reduceGE, Int.reduceEq, Int.reduceBEq, Int.reduceBNe, Int.reduceAdd, Int.reduceSub, gt_iff_lt, ge_iff_le]
  refine loop_rule (fun k : Nat => hd [(4, .one (.ow 288 k)), (10, vT (fmS xs)), (11, vI xs.length), (12, vI k)] [] [(288, ⟨true, 1, ((xs.take k).map Fm.text).map fun s => [.str s], k, true⟩)]) (fun k => k ≤ xs.length ∧ (xs.all fun x => x.format.isSome) = ((xs.drop k).all fun x => x.format.isSome) ∧ ∀ x ∈ xs.take k, x.format.isSome = true) (fun k => xs.length - k) 0 (weak_hd ?_) ?_ ?_
  · simp -implicitDefEqProofs only [go_sem, Nat.reduceEqDiff, reduceIte, reduceCtorEq, Nat.reduceAdd, Nat.reduceMul, Int.reduceLE, Int.reduceNeg, Int.reduceToNat, Nat.reduceLeDiff, Nat.reduceSub, Nat.reduceLT, Nat.le_refl, Int.cast_ofNat_Int, Int.reduceLT, Int.reduceGT, Int.reduceGE, Int.reduceEq, Int.reduceBEq, Int.reduceBNe, Int.reduceAdd, Int.reduceSub, gt_iff_lt, ge_iff_le]
  · exact ⟨by omega, rfl, by simp⟩
  · intro k ⟨hk, hr, hq⟩
    by_cases hlt : k < xs.length
    · have hwk : xs[k].wt ≤ 1073741824 := by have := mem_sum Fm.wt xs xs[k] (List.getElem_mem hlt); unfold fmsW at hs; omega
      have hmin : min k xs.length ≤ 4294967295 := by omega
      rw [List.drop_eq_getElem_cons hlt, List.all_cons] at hr
      simp -implicitDefEqProofs only [go_sem, Nat.reduceEqDiff, reduceIte, reduceCtorEq, Nat.reduceAdd, Nat.reduceMul, Int.reduceLE, Int.reduceNeg, Int.reduceToNat, Nat.reduceLeDiff, Nat.reduceSub, Nat.reduceLT, Nat.le_refl, Int.cast_ofNat_Int, Int.reduceLT, Int.reduceGT, Int.reduceGE, Int.reduceEq, Int.reduceBEq, Int.reduceBNe, Int.reduceAdd, Int.reduceSub, gt_iff_lt, ge_iff_le, getD_at, hlt, fmC_eq]
      refine callF (formatFormulaTop_c xs[k] hwk) (by simp -implicitDefEqProofs only [go_sem, Nat.reduceEqDiff, reduceIte, reduceCtorEq, Nat.reduceAdd, Nat.reduceMul, Int.reduceLE, Int.reduceNeg, Int.reduceToNat, Nat.reduceLeDiff, Nat.reduceSub, Nat.reduceLT, Nat.le_refl, Int.cast_ofNat_Int, Int.reduceLT, Int.reduceGT, Int.reduceGE, Int.reduceEq, Int.reduceBEq, Int.reduceBNe, Int.reduceAdd, Int.reduceSub, gt_iff_lt, ge_iff_le, fmC_eq]) ?_
      simp -implicitDefEqProofs only [go_sem, Nat.reduceEqDiff, reduceIte, reduceCtorEq, Nat.reduceAdd, Nat.reduceMul, Int.reduceLE, Int.reduceNeg, Int.reduceToNat, Nat.reduceLeDiff, Nat.reduceSub, Nat.reduceLT, Nat.le_refl, Int.cast_ofNat_Int, Int.reduceLT, Int.reduceGT, Int.reduceGE, Int.reduceEq, Int.reduceBEq, Int.reduceBNe, Int.reduceAdd, Int.reduceSub, gt_iff_lt, ge_iff_le, fmC_eq]
      refine ⟨fun h => ?_, fun h => ?_⟩
      · have h : xs[k].format.isSome = false := by simpa using h
        rw [hS, if_neg (by rw [hr, h]; simp)]
        exact ⟨rfl, rfl⟩
      · have h : xs[k].format.isSome = true := by simpa using h
        have hfm : fmtS xs[k].format = xs[k].text := by rw [(format_some h).1]; rfl
        refine buildDc (by simp -implicitDefEqProofs only [go_sem, Nat.reduceEqDiff, reduceIte, reduceCtorEq, Nat.reduceAdd, Nat.reduceMul, Int.reduceLE, Int.reduceNeg, Int.reduceToNat, Nat.reduceLeDiff, Nat.reduceSub, Nat.reduceLT, Nat.le_refl, Int.cast_ofNat_Int, Int.reduceLT, Int.reduceGT, Int.reduceGE, Int.reduceEq, Int.reduceBEq, Int.reduceBNe, Int.reduceAdd, Int.reduceSub, gt_iff_lt, ge_iff_le, hfm]) ?_
        simp -implicitDefEqProofs only [go_sem, Nat.reduceEqDiff, reduceIte, reduceCtorEq, Nat.reduceAdd, Nat.reduceMul, Int.reduceLE, Int.reduceNeg, Int.reduceToNat, Nat.reduceLeDiff, Nat.reduceSub, Nat.reduceLT, Nat.le_refl, Int.cast_ofNat_Int, Int.reduceLT, Int.reduceGT, Int.reduceGE, Int.reduceEq, Int.reduceBEq, Int.reduceBNe, Int.reduceAdd, Int.reduceSub, gt_iff_lt, ge_iff_le, hfm]
        refine apD true (by simp -implicitDefEqProofs only [go_sem, Nat.reduceEqDiff, reduceIte, reduceCtorEq, Nat.reduceAdd, Nat.reduceMul, Int.reduceLE, Int.reduceNeg, Int.reduceToNat, Nat.reduceLeDiff, Nat.reduceSub, Nat.reduceLT, Nat.le_refl, Int.cast_ofNat_Int, Int.reduceLT, Int.reduceGT, Int.reduceGE, Int.reduceEq, Int.reduceBEq, Int.reduceBNe, Int.reduceAdd, Int.reduceSub, gt_iff_lt, ge_iff_le, ne_eq, List.length_map, List.length_take, hmin, hfm]) ?_
        simp -implicitDefEqProofs only [go_sem, Nat.reduceEqDiff, reduceIte, reduceCtorEq, Nat.reduceAdd, Nat.reduceMul, Int.reduceLE, Int.reduceNeg, Int.reduceToNat, Nat.reduceLeDiff, Nat.reduceSub, Nat.reduceLT, Nat.le_refl, Int.cast_ofNat_Int, Int.reduceLT, Int.reduceGT, Int.reduceGE, Int.reduceEq, Int.reduceBEq, Int.reduceBNe, Int.reduceAdd, Int.reduceSub, gt_iff_lt, ge_iff_le, ne_eq, List.length_map, List.length_take, hmin, hfm]
        refine ⟨k + 1, ⟨hlt, ?_, ?_⟩, by omega, weak_hd ?_⟩
        · rw [hr, h, Bool.true_and]
        · intro x hx
          rw [List.take_succ_eq_append_getElem hlt] at hx
          rcases List.mem_append.1 hx with hx | hx
          · exact hq x hx
          · rw [List.mem_singleton.1 hx]; exact h
        · simp -implicitDefEqProofs only [go_sem, Nat.reduceEqDiff, reduceIte, reduceCtorEq, Nat.reduceAdd, Nat.reduceMul, Int.reduceLE, Int.reduceNeg, Int.reduceToNat, Nat.reduceLeDiff, Nat.reduceSub, Nat.reduceLT, Nat.le_refl, Int.cast_ofNat_Int, Int.reduceLT, Int.reduceGT, Int.reduceGE, Int.reduceEq, Int.reduceBEq, Int.reduceBNe, Int.reduceAdd, Int.reduceSub, gt_iff_lt, ge_iff_le]
          rw [wrap_s (by omega), List.take_succ_eq_append_getElem hlt, List.map_append]
          exact ⟨rfl, rfl⟩
    · rw [List.drop_of_length_le (by omega)] at hr
      have hall : (xs.all fun x => x.format.isSome) = true := by rw [hr]; rfl
      have htk : xs.take k = xs := List.take_of_length_le (by omega)
      have hfine : ∀ x ∈ xs, x.fine = true := fun x hx => good_fine (format_some (List.all_eq_true.1 hall x hx)).2.1
      have hJ := sideTxt_le hfine hs xs.length
      rw [List.take_of_length_le (by omega)] at hJ
      unfold sideTxt at hJ
      simp -implicitDefEqProofs only [go_sem, Nat.reduceEqDiff, reduceIte, reduceCtorEq, Nat.reduceAdd, Nat.reduceMul, Int.reduceLE, Int.reduceNeg, Int.reduceToNat, Nat.reduceLeDiff, Nat.reduceSub, Nat.reduceLT, Nat.le_refl, Int.cast_ofNat_Int, Int.reduceLT, Int.reduceGT, Int.reduceGE, Int.reduceEq, Int.reduceBEq, Int.reduceBNe, Int.reduceAdd, Int.reduceSub, gt_iff_lt, ge_iff_le, hlt, htk]
      refine callF (strings_join (xs.map Fm.text) [44, 32] (by omega) (by rw [List.length_map]; omega)) (by simp -implicitDefEqProofs only [go_sem, Nat.reduceEqDiff, reduceIte, reduceCtorEq, Nat.reduceAdd, Nat.reduceMul, Int.reduceLE, Int.reduceNeg, Int.reduceToNat, Nat.reduceLeDiff, Nat.reduceSub, Nat.reduceLT, Nat.le_refl, Int.cast_ofNat_Int, Int.reduceLT, Int.reduceGT, Int.reduceGE, Int.reduceEq, Int.reduceBEq, Int.reduceBNe, Int.reduceAdd, Int.reduceSub, gt_iff_lt, ge_iff_le]) ?_
      simp -implicitDefEqProofs only [go_sem, Nat.reduceEqDiff, reduceIte, reduceCtorEq, Nat.reduceAdd, Nat.reduceMul, Int.reduceLE, Int.reduceNeg, Int.reduceToNat, Nat.reduceLeDiff, Nat.reduceSub, Nat.reduceLT, Nat.le_refl, Int.cast_ofNat_Int, Int.reduceLT, Int.reduceGT, Int.reduceGE, Int.reduceEq, Int.reduceBEq, Int.reduceBNe, Int.reduceAdd, Int.reduceSub, gt_iff_lt, ge_iff_le]
      rw [hS, if_pos hall]
      exact ⟨rfl, rfl⟩
end Go.Proofs.Ytgfjbbbkploonaa
