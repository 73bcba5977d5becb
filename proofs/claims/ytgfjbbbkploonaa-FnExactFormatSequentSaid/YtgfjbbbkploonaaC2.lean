/-
  Contracts of functions of the program and of its laws, over plain data.
  Conditions: those that each theorem names.
-/
import Derived.Test.YtgfjbbbkploonaaC1
namespace Go.Proofs.Ytgfjbbbkploonaa
set_option linter.unusedSimpArgs false
set_option linter.unusedVariables false
open Go.RowKit

set_option maxHeartbeats 400000 in
theorem szFormulaS_of (xs : List Fm) (H : ∀ x ∈ xs, ∀ l : Int, 0 ≤ l → l ≤ 1048576 → FC Try.prog 20 [fmD x, iD l] [iD (szR x.wt l)]) (l : Int) (h0 : 0 ≤ l) (h1 : l ≤ 1048576) :
    FC Try.prog 24 [.one (fmS xs), iD l] [iD (szR (fmsW xs) l)] := by
  refine FC_wf (fun hw => ?_) Try.call24
  have hl : xs.length ≤ 9223372036854775807 := by simpa [wfDs, wfT] using hw.1.1
  refine FC_of Try.call24 Try.func24 rfl (by kernel_rfl) (by simp only [rd, List.map_cons, List.map_nil, List.length_cons, List.length_nil, Try.ntmps24]; omega) ?_
  simp -implicitDefEqProofs only [go_sem, Nat.reduceEqDiff, reduceIte, reduceCtorEq, Nat.reduceAdd, Nat.reduceMul, Int.reduceLE, Int.reduceNeg, Int.reduceToNat, Nat.reduceLeDiff, Nat.reduceSub, Nat.reduceLT, Nat.le_refl, Int.cast_ofNat_Int, Int.reduceLT, Int.reduceGT, Int.reduceGE, Int.reduceEq, Int.reduceBEq, Int.reduceBNe, Int.reduceAdd, Int.reduceSub, gt_iff_lt, ge_iff_le, Try.results24]
  rw [wrap_in (by omega) (by omega)]
  have hW : fmsW xs = xs.length + (xs.map Fm.wt).sum := rfl
  refine ⟨fun h => ?_, fun h => ?_⟩
  · rw [szR_big (by simp at h; omega)]
  · have hlen : (xs.length : Int) ≤ l := by simp at h; omega
    refine loop_rule (fun k : Nat => hd [(0, vT (fmS xs)), (1, vI (l - xs.length - psum Fm.wt xs k)), (5, vI k)] [] []) (fun k => k ≤ xs.length ∧ 0 ≤ l - xs.length - psum Fm.wt xs k) (fun k => xs.length - k) 0 (weak_hd ?_) ?_ ?_
    · simp -implicitDefEqProofs only [go_sem, Nat.reduceEqDiff, reduceIte, reduceCtorEq, Nat.reduceAdd, Nat.reduceMul, Int.reduceLE, Int.reduceNeg, Int.reduceToNat, Nat.reduceLeDiff, Nat.reduceSub, Nat.reduceLT, Nat.le_refl, Int.cast_ofNat_Int, Int.reduceLT, Int.reduceGT, Int.reduceGE, Int.reduceEq, Int.reduceBEq, Int.reduceBNe, Int.reduceAdd, Int.reduceSub, gt_iff_lt, ge_iff_le]
      simp [psum_zero]
    · simpa [psum_zero] using hlen
    · intro k ⟨hk, hp⟩
      by_cases hlt : k < xs.length
      · have hs := psum_succ Fm.wt xs k hlt
        have hs2 := psum_le Fm.wt xs (k + 1)
        simp -implicitDefEqProofs only [go_sem, Nat.reduceEqDiff, reduceIte, reduceCtorEq, Nat.reduceAdd, Nat.reduceMul, Int.reduceLE, Int.reduceNeg, Int.reduceToNat, Nat.reduceLeDiff, Nat.reduceSub, Nat.reduceLT, Nat.le_refl, Int.cast_ofNat_Int, Int.reduceLT, Int.reduceGT, Int.reduceGE, Int.reduceEq, Int.reduceBEq, Int.reduceBNe, Int.reduceAdd, Int.reduceSub, gt_iff_lt, ge_iff_le, List.length_map, getD_at, hlt, fmC_eq, tmC_eq]
        refine callF (H xs[k] (List.getElem_mem hlt) (l - xs.length - psum Fm.wt xs k) hp (by omega)) (by simp -implicitDefEqProofs only [go_sem, Nat.reduceEqDiff, reduceIte, reduceCtorEq, Nat.reduceAdd, Nat.reduceMul, Int.reduceLE, Int.reduceNeg, Int.reduceToNat, Nat.reduceLeDiff, Nat.reduceSub, Nat.reduceLT, Nat.le_refl, Int.cast_ofNat_Int, Int.reduceLT, Int.reduceGT, Int.reduceGE, Int.reduceEq, Int.reduceBEq, Int.reduceBNe, Int.reduceAdd, Int.reduceSub, gt_iff_lt, ge_iff_le, fmC_eq, tmC_eq]) ?_
        simp -implicitDefEqProofs only [go_sem, Nat.reduceEqDiff, reduceIte, reduceCtorEq, Nat.reduceAdd, Nat.reduceMul, Int.reduceLE, Int.reduceNeg, Int.reduceToNat, Nat.reduceLeDiff, Nat.reduceSub, Nat.reduceLT, Nat.le_refl, Int.cast_ofNat_Int, Int.reduceLT, Int.reduceGT, Int.reduceGE, Int.reduceEq, Int.reduceBEq, Int.reduceBNe, Int.reduceAdd, Int.reduceSub, gt_iff_lt, ge_iff_le, fmC_eq, tmC_eq]
        refine ⟨fun h => ?_, fun h => ?_⟩
        · have := szR_neg hp (by simpa using h)
          rw [szR_big (by omega)]
        · obtain ⟨h2, h3⟩ := szR_pos (by simpa using h)
          rw [wrap_s (by omega)]
          exact ⟨k + 1, ⟨hlt, by omega⟩, by omega, weak_hd (by simp -implicitDefEqProofs only [go_sem, Nat.reduceEqDiff, reduceIte, reduceCtorEq, Nat.reduceAdd, Nat.reduceMul, Int.reduceLE, Int.reduceNeg, Int.reduceToNat, Nat.reduceLeDiff, Nat.reduceSub, Nat.reduceLT, Nat.le_refl, Int.cast_ofNat_Int, Int.reduceLT, Int.reduceGT, Int.reduceGE, Int.reduceEq, Int.reduceBEq, Int.reduceBNe, Int.reduceAdd, Int.reduceSub, gt_iff_lt, ge_iff_le]; rw [h3]; congr 1; omega)⟩
      · simp -implicitDefEqProofs only [go_sem, Nat.reduceEqDiff, reduceIte, reduceCtorEq, Nat.reduceAdd, Nat.reduceMul, Int.reduceLE, Int.reduceNeg, Int.reduceToNat, Nat.reduceLeDiff, Nat.reduceSub, Nat.reduceLT, Nat.le_refl, Int.cast_ofNat_Int, Int.reduceLT, Int.reduceGT, Int.reduceGE, Int.reduceEq, Int.reduceBEq, Int.reduceBNe, Int.reduceAdd, Int.reduceSub, gt_iff_lt, ge_iff_le, List.length_map, hlt]
        have hall := psum_all Fm.wt xs k (by omega)
        rw [hall, szR_ok (by omega)]; congr 1; omega

set_option maxHeartbeats 400000 in
theorem toFormulaS_of (xs : List Fm) (H : ∀ x ∈ xs, FC Try.prog 22 [fmD x] [fmD x]) (hs : xs.length ≤ 1048576) :
    FC Try.prog 26 [.one (fmS xs)] [.one (fmS xs)] := by
  refine FC_wf (fun hw => ?_) Try.call26
  refine FC_of Try.call26 Try.func26 rfl (by kernel_rfl) (by simp only [rd, List.map_cons, List.map_nil, List.length_cons, List.length_nil, Try.ntmps26]; omega) ?_
  simp -implicitDefEqProofs only [go_sem, Nat.reduceEqDiff, reduceIte, reduceCtorEq, Nat.reduceAdd, Nat.reduceMul, Int.reduceLE, Int.reduceNeg, Int.reduceToNat, Nat.reduceLeDiff, Nat.reduceSub, Nat.reduceLT, Nat.le_refl, Int.cast_ofNat_Int, Int.reduceLT, Int.reduceGT, Int.reduceGE, Int.reduceEq, Int.reduceBEq, Int.reduceBNe, Int.reduceAdd, Int.reduceSub, gt_iff_lt, ge_iff_le, Try.results26]
  refine makeD (by simp -implicitDefEqProofs only [go_sem, Nat.reduceEqDiff, reduceIte, reduceCtorEq, Nat.reduceAdd, Nat.reduceMul, Int.reduceLE, Int.reduceNeg, Int.reduceToNat, Nat.reduceLeDiff, Nat.reduceSub, Nat.reduceLT, Nat.le_refl, Int.cast_ofNat_Int, Int.reduceLT, Int.reduceGT, Int.reduceGE, Int.reduceEq, Int.reduceBEq, Int.reduceBNe, Int.reduceAdd, Int.reduceSub, gt_iff_lt, ge_iff_le]; omega) ?_
  simp -implicitDefEqProofs only [go_sem, Nat.reduceEqDiff, reduceIte, reduceCtorEq, Nat.reduceAdd, Nat.reduceMul, Int.reduceLE, Int.reduceNeg, Int.reduceToNat, Nat.reduceLeDiff, Nat.reduceSub, Nat.reduceLT, Nat.le_refl, Int.cast_ofNat_Int, Int.reduceLT, Int.reduceGT, Int.reduceGE, Int.reduceEq, Int.reduceBEq, Int.reduceBNe, Int.reduceAdd, Int.reduceSub, gt_iff_lt, ge_iff_le]
  refine loop_rule (fun k : Nat => hd [(0, vT (fmS xs)), (3, .one (.ow 224 0)), (4, vI k)] [] [(224, ⟨true, 5, (xs.take k).map fmC ++ List.replicate (xs.length - k) [T.int .i64 0, T.str [], T.sl 2 [], T.str [], T.sl 5 []], 0, true⟩)]) (fun k => k ≤ xs.length) (fun k => xs.length - k) 0 (weak_hd ?_) ?_ ?_
  · simp -implicitDefEqProofs only [go_sem, Nat.reduceEqDiff, reduceIte, reduceCtorEq, Nat.reduceAdd, Nat.reduceMul, Int.reduceLE, Int.reduceNeg, Int.reduceToNat, Nat.reduceLeDiff, Nat.reduceSub, Nat.reduceLT, Nat.le_refl, Int.cast_ofNat_Int, Int.reduceLT, Int.reduceGT, Int.reduceGE, Int.reduceEq, Int.reduceBEq, Int.reduceBNe, Int.reduceAdd, Int.reduceSub, gt_iff_lt, ge_iff_le]
    simp
  · simp
  · intro k hk
    by_cases hlt : k < xs.length
    · have hlen : ((xs.take k).map fmC ++ List.replicate (xs.length - k) [T.int .i64 0, T.str [], T.sl 2 [], T.str [], T.sl 5 []]).length = xs.length := by simp; omega
      have hlt2 : k < k + (xs.length - k) := by omega
      simp -implicitDefEqProofs only [go_sem, Nat.reduceEqDiff, reduceIte, reduceCtorEq, Nat.reduceAdd, Nat.reduceMul, Int.reduceLE, Int.reduceNeg, Int.reduceToNat, Nat.reduceLeDiff, Nat.reduceSub, Nat.reduceLT, Nat.le_refl, Int.cast_ofNat_Int, Int.reduceLT, Int.reduceGT, Int.reduceGE, Int.reduceEq, Int.reduceBEq, Int.reduceBNe, Int.reduceAdd, Int.reduceSub, gt_iff_lt, ge_iff_le, List.length_map, getD_at, hlt, fmC_eq, tmC_eq]
      refine callF (H xs[k] (List.getElem_mem hlt)) (by simp -implicitDefEqProofs only [go_sem, Nat.reduceEqDiff, reduceIte, reduceCtorEq, Nat.reduceAdd, Nat.reduceMul, Int.reduceLE, Int.reduceNeg, Int.reduceToNat, Nat.reduceLeDiff, Nat.reduceSub, Nat.reduceLT, Nat.le_refl, Int.cast_ofNat_Int, Int.reduceLT, Int.reduceGT, Int.reduceGE, Int.reduceEq, Int.reduceBEq, Int.reduceBNe, Int.reduceAdd, Int.reduceSub, gt_iff_lt, ge_iff_le, fmC_eq, tmC_eq, hlen, hlt, List.length_append, List.length_map, List.length_take, List.length_replicate, Nat.min_eq_left hk, hlt2]) ?_
      simp -implicitDefEqProofs only [go_sem, Nat.reduceEqDiff, reduceIte, reduceCtorEq, Nat.reduceAdd, Nat.reduceMul, Int.reduceLE, Int.reduceNeg, Int.reduceToNat, Nat.reduceLeDiff, Nat.reduceSub, Nat.reduceLT, Nat.le_refl, Int.cast_ofNat_Int, Int.reduceLT, Int.reduceGT, Int.reduceGE, Int.reduceEq, Int.reduceBEq, Int.reduceBNe, Int.reduceAdd, Int.reduceSub, gt_iff_lt, ge_iff_le, fmC_eq, tmC_eq, hlen, hlt, List.length_append, List.length_map, List.length_take, List.length_replicate, Nat.min_eq_left hk, hlt2]
      refine storeD (by simp -implicitDefEqProofs only [go_sem, Nat.reduceEqDiff, reduceIte, reduceCtorEq, Nat.reduceAdd, Nat.reduceMul, Int.reduceLE, Int.reduceNeg, Int.reduceToNat, Nat.reduceLeDiff, Nat.reduceSub, Nat.reduceLT, Nat.le_refl, Int.cast_ofNat_Int, Int.reduceLT, Int.reduceGT, Int.reduceGE, Int.reduceEq, Int.reduceBEq, Int.reduceBNe, Int.reduceAdd, Int.reduceSub, gt_iff_lt, ge_iff_le]; simp) ?_
      simp -implicitDefEqProofs only [go_sem, Nat.reduceEqDiff, reduceIte, reduceCtorEq, Nat.reduceAdd, Nat.reduceMul, Int.reduceLE, Int.reduceNeg, Int.reduceToNat, Nat.reduceLeDiff, Nat.reduceSub, Nat.reduceLT, Nat.le_refl, Int.cast_ofNat_Int, Int.reduceLT, Int.reduceGT, Int.reduceGE, Int.reduceEq, Int.reduceBEq, Int.reduceBNe, Int.reduceAdd, Int.reduceSub, gt_iff_lt, ge_iff_le]
      rw [wrap_s (by omega)]
      refine ⟨k + 1, by omega, by omega, weak_hd ?_⟩
      simp -implicitDefEqProofs only [go_sem, Nat.reduceEqDiff, reduceIte, reduceCtorEq, Nat.reduceAdd, Nat.reduceMul, Int.reduceLE, Int.reduceNeg, Int.reduceToNat, Nat.reduceLeDiff, Nat.reduceSub, Nat.reduceLT, Nat.le_refl, Int.cast_ofNat_Int, Int.reduceLT, Int.reduceGT, Int.reduceGE, Int.reduceEq, Int.reduceBEq, Int.reduceBNe, Int.reduceAdd, Int.reduceSub, gt_iff_lt, ge_iff_le]
      have hf := fill_next ((xs.take k).map fmC) xs.length k [T.int .i64 0, T.str [], T.sl 2 [], T.str [], T.sl 5 []] (fmC xs[k]) (by simp; omega) hlt (by simp [fmC_eq, tmC_eq])
      simp only [fmC_eq, tmC_eq] at hf
      rw [hf, List.take_succ_eq_append_getElem hlt, List.map_append, List.map_singleton]
      simp only [fmC_eq, tmC_eq]
    · simp -implicitDefEqProofs only [go_sem, Nat.reduceEqDiff, reduceIte, reduceCtorEq, Nat.reduceAdd, Nat.reduceMul, Int.reduceLE, Int.reduceNeg, Int.reduceToNat, Nat.reduceLeDiff, Nat.reduceSub, Nat.reduceLT, Nat.le_refl, Int.cast_ofNat_Int, Int.reduceLT, Int.reduceGT, Int.reduceGE, Int.reduceEq, Int.reduceBEq, Int.reduceBNe, Int.reduceAdd, Int.reduceSub, gt_iff_lt, ge_iff_le, List.length_map, hlt]
      simp [List.take_of_length_le (show xs.length ≤ k by omega), show xs.length - k = 0 by omega]

set_option maxHeartbeats 400000 in
theorem eqFormulaS_of (xs ys : List Fm) (H : ∀ x ∈ xs, ∀ y, FC Try.prog 14 [fmD x, fmD y] [bD (same x y)]) :
    FC Try.prog 30 [.one (fmS xs), .one (fmS ys)] [bD (same xs ys)] := by
  refine FC_wf (fun hw => ?_) Try.call30
  have hl : xs.length ≤ 9223372036854775807 := by simpa [wfDs, wfT] using hw.1.1
  have hl2 : ys.length ≤ 9223372036854775807 := by simpa [wfDs, wfT] using hw.2.1.1
  refine FC_of Try.call30 Try.func30 rfl (by kernel_rfl) (by simp only [rd, List.map_cons, List.map_nil, List.length_cons, List.length_nil, Try.ntmps30]; omega) ?_
  simp -implicitDefEqProofs only [go_sem, Nat.reduceEqDiff, reduceIte, reduceCtorEq, Nat.reduceAdd, Nat.reduceMul, Int.reduceLE, Int.reduceNeg, Int.reduceToNat, Nat.reduceLeDiff, Nat.reduceSub, Nat.reduceLT, Nat.le_refl, Int.cast_ofNat_Int, Int.reduceLT, Int.reduceGT, Int.reduceGE, Int.reduceEq, Int.reduceBEq, Int.reduceBNe, Int.reduceAdd, Int.reduceSub, gt_iff_lt, ge_iff_le, Try.results30]
  refine ⟨fun h => ?_, fun h => ?_⟩
  · rw [same_no.2 (by rintro rfl; simp at h)]
  · have hlen : xs.length = ys.length := by simp at h; omega
    refine loop_rule (fun k : Nat => hd [(0, vT (fmS xs)), (1, vT (fmS ys)), (4, vB false), (5, vI k)] [] []) (fun k => k ≤ xs.length ∧ same xs ys = same (xs.drop k) (ys.drop k)) (fun k => xs.length - k) 0 (weak_hd ?_) ?_ ?_
    · simp -implicitDefEqProofs only [go_sem, Nat.reduceEqDiff, reduceIte, reduceCtorEq, Nat.reduceAdd, Nat.reduceMul, Int.reduceLE, Int.reduceNeg, Int.reduceToNat, Nat.reduceLeDiff, Nat.reduceSub, Nat.reduceLT, Nat.le_refl, Int.cast_ofNat_Int, Int.reduceLT, Int.reduceGT, Int.reduceGE, Int.reduceEq, Int.reduceBEq, Int.reduceBNe, Int.reduceAdd, Int.reduceSub, gt_iff_lt, ge_iff_le]
    · simp
    · intro k ⟨hk, hr⟩
      by_cases hlt : k < xs.length
      · have hk2 : k < ys.length := by omega
        simp -implicitDefEqProofs only [go_sem, Nat.reduceEqDiff, reduceIte, reduceCtorEq, Nat.reduceAdd, Nat.reduceMul, Int.reduceLE, Int.reduceNeg, Int.reduceToNat, Nat.reduceLeDiff, Nat.reduceSub, Nat.reduceLT, Nat.le_refl, Int.cast_ofNat_Int, Int.reduceLT, Int.reduceGT, Int.reduceGE, Int.reduceEq, Int.reduceBEq, Int.reduceBNe, Int.reduceAdd, Int.reduceSub, gt_iff_lt, ge_iff_le, List.length_map, hlt]
        refine drawn (by kernel_rfl) ?_
        simp -implicitDefEqProofs only [go_sem, Nat.reduceEqDiff, reduceIte, reduceCtorEq, Nat.reduceAdd, Nat.reduceMul, Int.reduceLE, Int.reduceNeg, Int.reduceToNat, Nat.reduceLeDiff, Nat.reduceSub, Nat.reduceLT, Nat.le_refl, Int.cast_ofNat_Int, Int.reduceLT, Int.reduceGT, Int.reduceGE, Int.reduceEq, Int.reduceBEq, Int.reduceBNe, Int.reduceAdd, Int.reduceSub, gt_iff_lt, ge_iff_le, List.length_map, getD_at, hlt, hk2, fmC_eq, tmC_eq]
        refine dCallF (H xs[k] (List.getElem_mem hlt) ys[k]) (by simp -implicitDefEqProofs only [go_sem, Nat.reduceEqDiff, reduceIte, reduceCtorEq, Nat.reduceAdd, Nat.reduceMul, Int.reduceLE, Int.reduceNeg, Int.reduceToNat, Nat.reduceLeDiff, Nat.reduceSub, Nat.reduceLT, Nat.le_refl, Int.cast_ofNat_Int, Int.reduceLT, Int.reduceGT, Int.reduceGE, Int.reduceEq, Int.reduceBEq, Int.reduceBNe, Int.reduceAdd, Int.reduceSub, gt_iff_lt, ge_iff_le, fmC_eq, tmC_eq]) ?_
        simp -implicitDefEqProofs only [go_sem, Nat.reduceEqDiff, reduceIte, reduceCtorEq, Nat.reduceAdd, Nat.reduceMul, Int.reduceLE, Int.reduceNeg, Int.reduceToNat, Nat.reduceLeDiff, Nat.reduceSub, Nat.reduceLT, Nat.le_refl, Int.cast_ofNat_Int, Int.reduceLT, Int.reduceGT, Int.reduceGE, Int.reduceEq, Int.reduceBEq, Int.reduceBNe, Int.reduceAdd, Int.reduceSub, gt_iff_lt, ge_iff_le, fmC_eq, tmC_eq]
        refine ⟨by kernel_rfl, fun h => ?_, fun h => ?_⟩
        · rw [hr, List.drop_eq_getElem_cons hlt, List.drop_eq_getElem_cons hk2, same_cons, show same xs[k] ys[k] = false by simpa using h]; rfl
        · rw [List.drop_eq_getElem_cons hlt, List.drop_eq_getElem_cons hk2, same_cons, show same xs[k] ys[k] = true by simpa using h, Bool.true_and] at hr
          rw [wrap_s (by omega)]
          exact ⟨k + 1, ⟨by omega, hr⟩, by omega, weak_hd (by simp -implicitDefEqProofs only [go_sem, Nat.reduceEqDiff, reduceIte, reduceCtorEq, Nat.reduceAdd, Nat.reduceMul, Int.reduceLE, Int.reduceNeg, Int.reduceToNat, Nat.reduceLeDiff, Nat.reduceSub, Nat.reduceLT, Nat.le_refl, Int.cast_ofNat_Int, Int.reduceLT, Int.reduceGT, Int.reduceGE, Int.reduceEq, Int.reduceBEq, Int.reduceBNe, Int.reduceAdd, Int.reduceSub, gt_iff_lt, ge_iff_le])⟩
      · simp -implicitDefEqProofs only [go_sem, Nat.reduceEqDiff, reduceIte, reduceCtorEq, Nat.reduceAdd, Nat.reduceMul, Int.reduceLE, Int.reduceNeg, Int.reduceToNat, Nat.reduceLeDiff, Nat.reduceSub, Nat.reduceLT, Nat.le_refl, Int.cast_ofNat_Int, Int.reduceLT, Int.reduceGT, Int.reduceGE, Int.reduceEq, Int.reduceBEq, Int.reduceBNe, Int.reduceAdd, Int.reduceSub, gt_iff_lt, ge_iff_le, List.length_map, hlt]
        rw [hr, List.drop_of_length_le (by omega), List.drop_of_length_le (by omega), same_nil]

set_option maxHeartbeats 400000 in
theorem szFormula_of (a : Fm) (H : ∀ l : Int, 0 ≤ l → l ≤ 1048576 → FC Try.prog 24 [.one (fmS a.parts), iD l] [iD (szR (fmsW a.parts) l)]) (l : Int) (h0 : 0 ≤ l) (h1 : l ≤ 1048576) :
    FC Try.prog 20 [fmD a, iD l] [iD (szR a.wt l)] := by
  refine FC_wf (fun hw => ?_) Try.call20
  simp only [fmD, fmC_eq, tmC_eq] at hw ⊢
  have hW := a.wt_eq
  have hls : a.var.length ≤ 9223372036854775807 ∧ True := by simp [wfDs, wfT, wfTs] at hw; simp [hw]
  refine FC_of Try.call20 Try.func20 rfl (by kernel_rfl) (by simp only [rd, List.map_cons, List.map_nil, List.length_cons, List.length_nil, Try.ntmps20]; omega) ?_
  simp -implicitDefEqProofs only [go_sem, Nat.reduceEqDiff, reduceIte, reduceCtorEq, Nat.reduceAdd, Nat.reduceMul, Int.reduceLE, Int.reduceNeg, Int.reduceToNat, Nat.reduceLeDiff, Nat.reduceSub, Nat.reduceLT, Nat.le_refl, Int.cast_ofNat_Int, Int.reduceLT, Int.reduceGT, Int.reduceGE, Int.reduceEq, Int.reduceBEq, Int.reduceBNe, Int.reduceAdd, Int.reduceSub, gt_iff_lt, ge_iff_le, Try.results20]
  refine callF (szTerm_c a.atom l (by omega) (by omega)) (by simp -implicitDefEqProofs only [go_sem, Nat.reduceEqDiff, reduceIte, reduceCtorEq, Nat.reduceAdd, Nat.reduceMul, Int.reduceLE, Int.reduceNeg, Int.reduceToNat, Nat.reduceLeDiff, Nat.reduceSub, Nat.reduceLT, Nat.le_refl, Int.cast_ofNat_Int, Int.reduceLT, Int.reduceGT, Int.reduceGE, Int.reduceEq, Int.reduceBEq, Int.reduceBNe, Int.reduceAdd, Int.reduceSub, gt_iff_lt, ge_iff_le, fmC_eq, tmC_eq, tmC_eq]) ?_
  simp -implicitDefEqProofs only [go_sem, Nat.reduceEqDiff, reduceIte, reduceCtorEq, Nat.reduceAdd, Nat.reduceMul, Int.reduceLE, Int.reduceNeg, Int.reduceToNat, Nat.reduceLeDiff, Nat.reduceSub, Nat.reduceLT, Nat.le_refl, Int.cast_ofNat_Int, Int.reduceLT, Int.reduceGT, Int.reduceGE, Int.reduceEq, Int.reduceBEq, Int.reduceBNe, Int.reduceAdd, Int.reduceSub, gt_iff_lt, ge_iff_le, fmC_eq, tmC_eq, tmC_eq]
  refine ⟨fun h1 => ?_, fun h1 => ?_⟩
  · have := szR_neg (by omega) (show szR a.atom.wt l < 0 by simpa using h1)
    rw [szR_big (by have hu0 : fmsW a.parts = a.parts.length + (a.parts.map Fm.wt).sum := rfl;  omega)]
  obtain ⟨k1, j1⟩ := szR_pos (show ¬ szR a.atom.wt l < 0 by simpa using h1)
  rw [wrap_in (by omega) (by omega)]
  refine ⟨fun h2 => ?_, fun h2 => ?_⟩
  · rw [szR_big (by simp at h2; have hu0 : fmsW a.parts = a.parts.length + (a.parts.map Fm.wt).sum := rfl;  omega)]
  have k2 : (a.var.length : Int) ≤ (szR a.atom.wt l) := by simp at h2; omega
  refine callF (H ((szR a.atom.wt l) - (a.var.length : Int)) (by omega) (by omega)) (by simp -implicitDefEqProofs only [go_sem, Nat.reduceEqDiff, reduceIte, reduceCtorEq, Nat.reduceAdd, Nat.reduceMul, Int.reduceLE, Int.reduceNeg, Int.reduceToNat, Nat.reduceLeDiff, Nat.reduceSub, Nat.reduceLT, Nat.le_refl, Int.cast_ofNat_Int, Int.reduceLT, Int.reduceGT, Int.reduceGE, Int.reduceEq, Int.reduceBEq, Int.reduceBNe, Int.reduceAdd, Int.reduceSub, gt_iff_lt, ge_iff_le, fmC_eq, tmC_eq]) ?_
  simp -implicitDefEqProofs only [go_sem, Nat.reduceEqDiff, reduceIte, reduceCtorEq, Nat.reduceAdd, Nat.reduceMul, Int.reduceLE, Int.reduceNeg, Int.reduceToNat, Nat.reduceLeDiff, Nat.reduceSub, Nat.reduceLT, Nat.le_refl, Int.cast_ofNat_Int, Int.reduceLT, Int.reduceGT, Int.reduceGE, Int.reduceEq, Int.reduceBEq, Int.reduceBNe, Int.reduceAdd, Int.reduceSub, gt_iff_lt, ge_iff_le, fmC_eq, tmC_eq]
  refine ⟨fun h3 => ?_, fun h3 => ?_⟩
  · have := szR_neg (by omega) (show szR (fmsW a.parts) ((szR a.atom.wt l) - (a.var.length : Int)) < 0 by simpa using h3)
    rw [szR_big (by have hu0 : fmsW a.parts = a.parts.length + (a.parts.map Fm.wt).sum := rfl;  omega)]
  obtain ⟨k3, j3⟩ := szR_pos (show ¬ szR (fmsW a.parts) ((szR a.atom.wt l) - (a.var.length : Int)) < 0 by simpa using h3)
  rw [show szR a.wt l = l - a.wt from szR_ok (by have hu0 : fmsW a.parts = a.parts.length + (a.parts.map Fm.wt).sum := rfl;  omega)]; exact int_eq (by have hu0 : fmsW a.parts = a.parts.length + (a.parts.map Fm.wt).sum := rfl;  omega)

set_option maxHeartbeats 400000 in
theorem toFormula_of (a : Fm) (H : FC Try.prog 26 [.one (fmS a.parts)] [.one (fmS a.parts)]) (hs : a.wt ≤ 1048576) : FC Try.prog 22 [fmD a] [fmD a] := by
  have hW := a.wt_eq
  simp only [fmD, fmC_eq, tmC_eq]
  refine FC_of Try.call22 Try.func22 rfl (by kernel_rfl) (by simp only [rd, List.map_cons, List.map_nil, List.length_cons, List.length_nil, Try.ntmps22]; omega) ?_
  simp -implicitDefEqProofs only [go_sem, Nat.reduceEqDiff, reduceIte, reduceCtorEq, Nat.reduceAdd, Nat.reduceMul, Int.reduceLE, Int.reduceNeg, Int.reduceToNat, Nat.reduceLeDiff, Nat.reduceSub, Nat.reduceLT, Nat.le_refl, Int.cast_ofNat_Int, Int.reduceLT, Int.reduceGT, Int.reduceGE, Int.reduceEq, Int.reduceBEq, Int.reduceBNe, Int.reduceAdd, Int.reduceSub, gt_iff_lt, ge_iff_le, Try.results22]
  refine callF (toTerm_c a.atom (by have hu0 : fmsW a.parts = a.parts.length + (a.parts.map Fm.wt).sum := rfl;  omega)) (by simp -implicitDefEqProofs only [go_sem, Nat.reduceEqDiff, reduceIte, reduceCtorEq, Nat.reduceAdd, Nat.reduceMul, Int.reduceLE, Int.reduceNeg, Int.reduceToNat, Nat.reduceLeDiff, Nat.reduceSub, Nat.reduceLT, Nat.le_refl, Int.cast_ofNat_Int, Int.reduceLT, Int.reduceGT, Int.reduceGE, Int.reduceEq, Int.reduceBEq, Int.reduceBNe, Int.reduceAdd, Int.reduceSub, gt_iff_lt, ge_iff_le, fmC_eq, tmC_eq, tmC_eq]) ?_
  simp -implicitDefEqProofs only [go_sem, Nat.reduceEqDiff, reduceIte, reduceCtorEq, Nat.reduceAdd, Nat.reduceMul, Int.reduceLE, Int.reduceNeg, Int.reduceToNat, Nat.reduceLeDiff, Nat.reduceSub, Nat.reduceLT, Nat.le_refl, Int.cast_ofNat_Int, Int.reduceLT, Int.reduceGT, Int.reduceGE, Int.reduceEq, Int.reduceBEq, Int.reduceBNe, Int.reduceAdd, Int.reduceSub, gt_iff_lt, ge_iff_le, fmC_eq, tmC_eq, tmC_eq]
  refine callF (H) (by simp -implicitDefEqProofs only [go_sem, Nat.reduceEqDiff, reduceIte, reduceCtorEq, Nat.reduceAdd, Nat.reduceMul, Int.reduceLE, Int.reduceNeg, Int.reduceToNat, Nat.reduceLeDiff, Nat.reduceSub, Nat.reduceLT, Nat.le_refl, Int.cast_ofNat_Int, Int.reduceLT, Int.reduceGT, Int.reduceGE, Int.reduceEq, Int.reduceBEq, Int.reduceBNe, Int.reduceAdd, Int.reduceSub, gt_iff_lt, ge_iff_le, fmC_eq, tmC_eq]) ?_
  simp -implicitDefEqProofs only [go_sem, Nat.reduceEqDiff, reduceIte, reduceCtorEq, Nat.reduceAdd, Nat.reduceMul, Int.reduceLE, Int.reduceNeg, Int.reduceToNat, Nat.reduceLeDiff, Nat.reduceSub, Nat.reduceLT, Nat.le_refl, Int.cast_ofNat_Int, Int.reduceLT, Int.reduceGT, Int.reduceGE, Int.reduceEq, Int.reduceBEq, Int.reduceBNe, Int.reduceAdd, Int.reduceSub, gt_iff_lt, ge_iff_le, fmC_eq, tmC_eq]

set_option maxHeartbeats 400000 in
theorem eqFormula_of (a b : Fm) (H : FC Try.prog 30 [.one (fmS a.parts), .one (fmS b.parts)] [bD (same a.parts b.parts)]) : FC Try.prog 14 [fmD a, fmD b] [bD (same a b)] := by
  simp only [fmD, fmC_eq, tmC_eq]
  refine FC_of Try.call14 Try.func14 rfl (by kernel_rfl) (by simp only [rd, List.map_cons, List.map_nil, List.length_cons, List.length_nil, Try.ntmps14]; omega) ?_
  simp -implicitDefEqProofs only [go_sem, Nat.reduceEqDiff, reduceIte, reduceCtorEq, Nat.reduceAdd, Nat.reduceMul, Int.reduceLE, Int.reduceNeg, Int.reduceToNat, Nat.reduceLeDiff, Nat.reduceSub, Nat.reduceLT, Nat.le_refl, Int.cast_ofNat_Int, Int.reduceLT, Int.reduceGT, Int.reduceGE, Int.reduceEq, Int.reduceBEq, Int.reduceBNe, Int.reduceAdd, Int.reduceSub, gt_iff_lt, ge_iff_le, Try.results14]
  refine ⟨fun h1 => ?_, fun h1 => ?_⟩
  · rw [same_no.2 (by rintro rfl; simp [same_self] at h1)]
  refine callF (eqTerm_c a.atom b.atom) (by simp -implicitDefEqProofs only [go_sem, Nat.reduceEqDiff, reduceIte, reduceCtorEq, Nat.reduceAdd, Nat.reduceMul, Int.reduceLE, Int.reduceNeg, Int.reduceToNat, Nat.reduceLeDiff, Nat.reduceSub, Nat.reduceLT, Nat.le_refl, Int.cast_ofNat_Int, Int.reduceLT, Int.reduceGT, Int.reduceGE, Int.reduceEq, Int.reduceBEq, Int.reduceBNe, Int.reduceAdd, Int.reduceSub, gt_iff_lt, ge_iff_le, fmC_eq, tmC_eq, tmC_eq]) ?_
  simp -implicitDefEqProofs only [go_sem, Nat.reduceEqDiff, reduceIte, reduceCtorEq, Nat.reduceAdd, Nat.reduceMul, Int.reduceLE, Int.reduceNeg, Int.reduceToNat, Nat.reduceLeDiff, Nat.reduceSub, Nat.reduceLT, Nat.le_refl, Int.cast_ofNat_Int, Int.reduceLT, Int.reduceGT, Int.reduceGE, Int.reduceEq, Int.reduceBEq, Int.reduceBNe, Int.reduceAdd, Int.reduceSub, gt_iff_lt, ge_iff_le, fmC_eq, tmC_eq, tmC_eq]
  refine ⟨fun h2 => ?_, fun h2 => ?_⟩
  · rw [same_no.2 (by rintro rfl; simp [same_self] at h2)]
  refine ⟨fun h3 => ?_, fun h3 => ?_⟩
  · rw [same_no.2 (by rintro rfl; simp [same_self] at h3)]
  refine callF (H) (by simp -implicitDefEqProofs only [go_sem, Nat.reduceEqDiff, reduceIte, reduceCtorEq, Nat.reduceAdd, Nat.reduceMul, Int.reduceLE, Int.reduceNeg, Int.reduceToNat, Nat.reduceLeDiff, Nat.reduceSub, Nat.reduceLT, Nat.le_refl, Int.cast_ofNat_Int, Int.reduceLT, Int.reduceGT, Int.reduceGE, Int.reduceEq, Int.reduceBEq, Int.reduceBNe, Int.reduceAdd, Int.reduceSub, gt_iff_lt, ge_iff_le, fmC_eq, tmC_eq]) ?_
  simp -implicitDefEqProofs only [go_sem, Nat.reduceEqDiff, reduceIte, reduceCtorEq, Nat.reduceAdd, Nat.reduceMul, Int.reduceLE, Int.reduceNeg, Int.reduceToNat, Nat.reduceLeDiff, Nat.reduceSub, Nat.reduceLT, Nat.le_refl, Int.cast_ofNat_Int, Int.reduceLT, Int.reduceGT, Int.reduceGE, Int.reduceEq, Int.reduceBEq, Int.reduceBNe, Int.reduceAdd, Int.reduceSub, gt_iff_lt, ge_iff_le, fmC_eq, tmC_eq]
  refine ⟨fun h4 => ?_, fun h4 => ?_⟩
  · rw [same_no.2 (by rintro rfl; simp [same_self] at h4)]
  rw [same_iff.2 (by cases a; cases b; simp [same_iff, Fm.op, Fm.atom, Fm.var, Fm.parts] at h1 h2 h3 h4 ⊢; simp [h1, h2, h3, h4])]

theorem szFormula_c : ∀ a : Fm, ∀ l : Int, 0 ≤ l → l ≤ 1048576 → FC Try.prog 20 [fmD a, iD l] [iD (szR a.wt l)] :=
  fm_ind fun b0 b1 b2 xs ih l h0 h1 => szFormula_of (.mk b0 b1 b2 xs) (fun l h0 h1 => szFormulaS_of xs ih l h0 h1) l h0 h1
theorem szFormulaS_c (xs : List Fm) (l : Int) (h0 : 0 ≤ l) (h1 : l ≤ 1048576) : FC Try.prog 24 [.one (fmS xs), iD l] [iD (szR (fmsW xs) l)] := szFormulaS_of xs (fun x _ => szFormula_c x) l h0 h1
theorem toFormula_c : ∀ a : Fm, a.wt ≤ 1048576 → FC Try.prog 22 [fmD a] [fmD a] := by
  refine fm_ind fun b0 b1 b2 xs ih hs => ?_
  have hW := Fm.wt_eq (.mk b0 b1 b2 xs)
  simp only [Fm.op, Fm.atom, Fm.var, Fm.parts] at hW
  refine toFormula_of _ (toFormulaS_of xs (fun x hx => ih x hx ?_) (by omega)) hs
  have := mem_sum Fm.wt xs x hx
  omega
theorem toFormulaS_c (xs : List Fm) (hs : fmsW xs ≤ 1048576) : FC Try.prog 26 [.one (fmS xs)] [.one (fmS xs)] :=
  toFormulaS_of xs (fun x hx => toFormula_c x (by have := mem_sum Fm.wt xs x hx; unfold fmsW at hs; omega)) (by unfold fmsW at hs; omega)
theorem eqFormula_c : ∀ a b : Fm, FC Try.prog 14 [fmD a, fmD b] [bD (same a b)] :=
  fm_ind fun b0 b1 b2 xs ih b => eqFormula_of (.mk b0 b1 b2 xs) b (eqFormulaS_of xs b.parts ih)
theorem eqFormulaS_c (xs ys : List Fm) : FC Try.prog 30 [.one (fmS xs), .one (fmS ys)] [bD (same xs ys)] := eqFormulaS_of xs ys fun x _ => eqFormula_c x

set_option maxHeartbeats 400000 in
theorem szSequent_of (a : Sq) (l : Int) (h0 : 0 ≤ l) (h1 : l ≤ 1048576) :
    FC Try.prog 7 [sqD a, iD l] [iD (szR a.wt l)] := by
  refine FC_wf (fun hw => ?_) Try.call7
  simp only [sqD, sqC_eq] at hw ⊢
  have hW := a.wt_eq
  have hls : True := by simp [wfDs, wfT, wfTs] at hw; simp [hw]
  refine FC_of Try.call7 Try.func7 rfl (by kernel_rfl) (by simp only [rd, List.map_cons, List.map_nil, List.length_cons, List.length_nil, Try.ntmps7]; omega) ?_
  simp -implicitDefEqProofs only [go_sem, Nat.reduceEqDiff, reduceIte, reduceCtorEq, Nat.reduceAdd, Nat.reduceMul, Int.reduceLE, Int.reduceNeg, Int.reduceToNat, Nat.reduceLeDiff, Nat.reduceSub, Nat.reduceLT, Nat.le_refl, Int.cast_ofNat_Int, Int.reduceLT, Int.reduceGT, Int.reduceGE, Int.reduceEq, Int.reduceBEq, Int.reduceBNe, Int.reduceAdd, Int.reduceSub, gt_iff_lt, ge_iff_le, Try.results7]
  refine callF (szFormulaS_c a.left l (by omega) (by omega)) (by simp -implicitDefEqProofs only [go_sem, Nat.reduceEqDiff, reduceIte, reduceCtorEq, Nat.reduceAdd, Nat.reduceMul, Int.reduceLE, Int.reduceNeg, Int.reduceToNat, Nat.reduceLeDiff, Nat.reduceSub, Nat.reduceLT, Nat.le_refl, Int.cast_ofNat_Int, Int.reduceLT, Int.reduceGT, Int.reduceGE, Int.reduceEq, Int.reduceBEq, Int.reduceBNe, Int.reduceAdd, Int.reduceSub, gt_iff_lt, ge_iff_le, sqC_eq]) ?_
  simp -implicitDefEqProofs only [go_sem, Nat.reduceEqDiff, reduceIte, reduceCtorEq, Nat.reduceAdd, Nat.reduceMul, Int.reduceLE, Int.reduceNeg, Int.reduceToNat, Nat.reduceLeDiff, Nat.reduceSub, Nat.reduceLT, Nat.le_refl, Int.cast_ofNat_Int, Int.reduceLT, Int.reduceGT, Int.reduceGE, Int.reduceEq, Int.reduceBEq, Int.reduceBNe, Int.reduceAdd, Int.reduceSub, gt_iff_lt, ge_iff_le, sqC_eq]
  refine ⟨fun h1 => ?_, fun h1 => ?_⟩
  · have := szR_neg (by omega) (show szR (fmsW a.left) l < 0 by simpa using h1)
    rw [szR_big (by have hu0 : fmsW a.left = a.left.length + (a.left.map Fm.wt).sum := rfl; have hu1 : fmsW a.right = a.right.length + (a.right.map Fm.wt).sum := rfl;  omega)]
  obtain ⟨k1, j1⟩ := szR_pos (show ¬ szR (fmsW a.left) l < 0 by simpa using h1)
  refine callF (szFormulaS_c a.right (szR (fmsW a.left) l) (by omega) (by omega)) (by simp -implicitDefEqProofs only [go_sem, Nat.reduceEqDiff, reduceIte, reduceCtorEq, Nat.reduceAdd, Nat.reduceMul, Int.reduceLE, Int.reduceNeg, Int.reduceToNat, Nat.reduceLeDiff, Nat.reduceSub, Nat.reduceLT, Nat.le_refl, Int.cast_ofNat_Int, Int.reduceLT, Int.reduceGT, Int.reduceGE, Int.reduceEq, Int.reduceBEq, Int.reduceBNe, Int.reduceAdd, Int.reduceSub, gt_iff_lt, ge_iff_le, sqC_eq]) ?_
  simp -implicitDefEqProofs only [go_sem, Nat.reduceEqDiff, reduceIte, reduceCtorEq, Nat.reduceAdd, Nat.reduceMul, Int.reduceLE, Int.reduceNeg, Int.reduceToNat, Nat.reduceLeDiff, Nat.reduceSub, Nat.reduceLT, Nat.le_refl, Int.cast_ofNat_Int, Int.reduceLT, Int.reduceGT, Int.reduceGE, Int.reduceEq, Int.reduceBEq, Int.reduceBNe, Int.reduceAdd, Int.reduceSub, gt_iff_lt, ge_iff_le, sqC_eq]
  refine ⟨fun h2 => ?_, fun h2 => ?_⟩
  · have := szR_neg (by omega) (show szR (fmsW a.right) (szR (fmsW a.left) l) < 0 by simpa using h2)
    rw [szR_big (by have hu0 : fmsW a.left = a.left.length + (a.left.map Fm.wt).sum := rfl; have hu1 : fmsW a.right = a.right.length + (a.right.map Fm.wt).sum := rfl;  omega)]
  obtain ⟨k2, j2⟩ := szR_pos (show ¬ szR (fmsW a.right) (szR (fmsW a.left) l) < 0 by simpa using h2)
  rw [show szR a.wt l = l - a.wt from szR_ok (by have hu0 : fmsW a.left = a.left.length + (a.left.map Fm.wt).sum := rfl; have hu1 : fmsW a.right = a.right.length + (a.right.map Fm.wt).sum := rfl;  omega)]; exact int_eq (by have hu0 : fmsW a.left = a.left.length + (a.left.map Fm.wt).sum := rfl; have hu1 : fmsW a.right = a.right.length + (a.right.map Fm.wt).sum := rfl;  omega)

set_option maxHeartbeats 400000 in
theorem toSequent_of (a : Sq) (hs : a.wt ≤ 1048576) : FC Try.prog 9 [sqD a] [sqD a] := by
  have hW := a.wt_eq
  simp only [sqD, sqC_eq]
  refine FC_of Try.call9 Try.func9 rfl (by kernel_rfl) (by simp only [rd, List.map_cons, List.map_nil, List.length_cons, List.length_nil, Try.ntmps9]; omega) ?_
  simp -implicitDefEqProofs only [go_sem, Nat.reduceEqDiff, reduceIte, reduceCtorEq, Nat.reduceAdd, Nat.reduceMul, Int.reduceLE, Int.reduceNeg, Int.reduceToNat, Nat.reduceLeDiff, Nat.reduceSub, Nat.reduceLT, Nat.le_refl, Int.cast_ofNat_Int, Int.reduceLT, Int.reduceGT, Int.reduceGE, Int.reduceEq, Int.reduceBEq, Int.reduceBNe, Int.reduceAdd, Int.reduceSub, gt_iff_lt, ge_iff_le, Try.results9]
  refine callF (toFormulaS_c a.left (by have hu0 : fmsW a.left = a.left.length + (a.left.map Fm.wt).sum := rfl; have hu1 : fmsW a.right = a.right.length + (a.right.map Fm.wt).sum := rfl;  omega)) (by simp -implicitDefEqProofs only [go_sem, Nat.reduceEqDiff, reduceIte, reduceCtorEq, Nat.reduceAdd, Nat.reduceMul, Int.reduceLE, Int.reduceNeg, Int.reduceToNat, Nat.reduceLeDiff, Nat.reduceSub, Nat.reduceLT, Nat.le_refl, Int.cast_ofNat_Int, Int.reduceLT, Int.reduceGT, Int.reduceGE, Int.reduceEq, Int.reduceBEq, Int.reduceBNe, Int.reduceAdd, Int.reduceSub, gt_iff_lt, ge_iff_le, sqC_eq]) ?_
  simp -implicitDefEqProofs only [go_sem, Nat.reduceEqDiff, reduceIte, reduceCtorEq, Nat.reduceAdd, Nat.reduceMul, Int.reduceLE, Int.reduceNeg, Int.reduceToNat, Nat.reduceLeDiff, Nat.reduceSub, Nat.reduceLT, Nat.le_refl, Int.cast_ofNat_Int, Int.reduceLT, Int.reduceGT, Int.reduceGE, Int.reduceEq, Int.reduceBEq, Int.reduceBNe, Int.reduceAdd, Int.reduceSub, gt_iff_lt, ge_iff_le, sqC_eq]
  refine callF (toFormulaS_c a.right (by have hu0 : fmsW a.left = a.left.length + (a.left.map Fm.wt).sum := rfl; have hu1 : fmsW a.right = a.right.length + (a.right.map Fm.wt).sum := rfl;  omega)) (by simp -implicitDefEqProofs only [go_sem, Nat.reduceEqDiff, reduceIte, reduceCtorEq, Nat.reduceAdd, Nat.reduceMul, Int.reduceLE, Int.reduceNeg, Int.reduceToNat, Nat.reduceLeDiff, Nat.reduceSub, Nat.reduceLT, Nat.le_refl, Int.cast_ofNat_Int, Int.reduceLT, Int.reduceGT, Int.reduceGE, Int.reduceEq, Int.reduceBEq, Int.reduceBNe, Int.reduceAdd, Int.reduceSub, gt_iff_lt, ge_iff_le, sqC_eq]) ?_
  simp -implicitDefEqProofs only [go_sem, Nat.reduceEqDiff, reduceIte, reduceCtorEq, Nat.reduceAdd, Nat.reduceMul, Int.reduceLE, Int.reduceNeg, Int.reduceToNat, Nat.reduceLeDiff, Nat.reduceSub, Nat.reduceLT, Nat.le_refl, Int.cast_ofNat_Int, Int.reduceLT, Int.reduceGT, Int.reduceGE, Int.reduceEq, Int.reduceBEq, Int.reduceBNe, Int.reduceAdd, Int.reduceSub, gt_iff_lt, ge_iff_le, sqC_eq]

set_option maxHeartbeats 400000 in
theorem eqSequent_of (a b : Sq) : FC Try.prog 11 [sqD a, sqD b] [bD (same a b)] := by
  simp only [sqD, sqC_eq]
  refine FC_of Try.call11 Try.func11 rfl (by kernel_rfl) (by simp only [rd, List.map_cons, List.map_nil, List.length_cons, List.length_nil, Try.ntmps11]; omega) ?_
  simp -implicitDefEqProofs only [go_sem, Nat.reduceEqDiff, reduceIte, reduceCtorEq, Nat.reduceAdd, Nat.reduceMul, Int.reduceLE, Int.reduceNeg, Int.reduceToNat, Nat.reduceLeDiff, Nat.reduceSub, Nat.reduceLT, Nat.le_refl, Int.cast_ofNat_Int, Int.reduceLT, Int.reduceGT, Int.reduceGE, Int.reduceEq, Int.reduceBEq, Int.reduceBNe, Int.reduceAdd, Int.reduceSub, gt_iff_lt, ge_iff_le, Try.results11]
  refine callF (eqFormulaS_c a.left b.left) (by simp -implicitDefEqProofs only [go_sem, Nat.reduceEqDiff, reduceIte, reduceCtorEq, Nat.reduceAdd, Nat.reduceMul, Int.reduceLE, Int.reduceNeg, Int.reduceToNat, Nat.reduceLeDiff, Nat.reduceSub, Nat.reduceLT, Nat.le_refl, Int.cast_ofNat_Int, Int.reduceLT, Int.reduceGT, Int.reduceGE, Int.reduceEq, Int.reduceBEq, Int.reduceBNe, Int.reduceAdd, Int.reduceSub, gt_iff_lt, ge_iff_le, sqC_eq]) ?_
  simp -implicitDefEqProofs only [go_sem, Nat.reduceEqDiff, reduceIte, reduceCtorEq, Nat.reduceAdd, Nat.reduceMul, Int.reduceLE, Int.reduceNeg, Int.reduceToNat, Nat.reduceLeDiff, Nat.reduceSub, Nat.reduceLT, Nat.le_refl, Int.cast_ofNat_Int, Int.reduceLT, Int.reduceGT, Int.reduceGE, Int.reduceEq, Int.reduceBEq, Int.reduceBNe, Int.reduceAdd, Int.reduceSub, gt_iff_lt, ge_iff_le, sqC_eq]
  refine ⟨fun h1 => ?_, fun h1 => ?_⟩
  · rw [same_no.2 (by rintro rfl; simp [same_self] at h1)]
  refine callF (eqFormulaS_c a.right b.right) (by simp -implicitDefEqProofs only [go_sem, Nat.reduceEqDiff, reduceIte, reduceCtorEq, Nat.reduceAdd, Nat.reduceMul, Int.reduceLE, Int.reduceNeg, Int.reduceToNat, Nat.reduceLeDiff, Nat.reduceSub, Nat.reduceLT, Nat.le_refl, Int.cast_ofNat_Int, Int.reduceLT, Int.reduceGT, Int.reduceGE, Int.reduceEq, Int.reduceBEq, Int.reduceBNe, Int.reduceAdd, Int.reduceSub, gt_iff_lt, ge_iff_le, sqC_eq]) ?_
  simp -implicitDefEqProofs only [go_sem, Nat.reduceEqDiff, reduceIte, reduceCtorEq, Nat.reduceAdd, Nat.reduceMul, Int.reduceLE, Int.reduceNeg, Int.reduceToNat, Nat.reduceLeDiff, Nat.reduceSub, Nat.reduceLT, Nat.le_refl, Int.cast_ofNat_Int, Int.reduceLT, Int.reduceGT, Int.reduceGE, Int.reduceEq, Int.reduceBEq, Int.reduceBNe, Int.reduceAdd, Int.reduceSub, gt_iff_lt, ge_iff_le, sqC_eq]
  refine ⟨fun h2 => ?_, fun h2 => ?_⟩
  · rw [same_no.2 (by rintro rfl; simp [same_self] at h2)]
  rw [same_iff.2 (by cases a; cases b; simp [same_iff, Sq.left, Sq.right] at h1 h2 ⊢; simp [h1, h2])]

theorem szSequent_c (a : Sq) (l : Int) (h0 : 0 ≤ l) (h1 : l ≤ 1048576) : FC Try.prog 7 [sqD a, iD l] [iD (szR a.wt l)] := szSequent_of a l h0 h1
theorem toSequent_c (a : Sq) (hs : a.wt ≤ 1048576) : FC Try.prog 9 [sqD a] [sqD a] := toSequent_of a hs
theorem eqSequent_c (a b : Sq) : FC Try.prog 11 [sqD a, sqD b] [bD (same a b)] := eqSequent_of a b

end Go.Proofs.Ytgfjbbbkploonaa
