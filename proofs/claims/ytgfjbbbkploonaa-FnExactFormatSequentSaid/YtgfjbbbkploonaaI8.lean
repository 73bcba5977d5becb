/-
  Contracts of functions of the program and of its laws, over plain data.
  Conditions: those that each theorem names.
-/
import Derived.Test.YtgfjbbbkploonaaI7
namespace Go.Proofs.Ytgfjbbbkploonaa
set_option linter.unusedSimpArgs false
set_option linter.unusedVariables false
open Go.RowKit
set_option maxHeartbeats 400000 in
theorem l2Depth_of (a : Tm) (hs : a.wt ≤ 1099511627776) (H : ∀ x ∈ a.args, FC Try.prog 130 [tmD x] [iD x.depth]) : FC Try.prog 130 [tmD a] [iD a.depth] := by
  have hl : a.args.length ≤ 9223372036854775807 := by rw [Tm.wt_eq] at hs; omega
  have hn := nodes_wt a
  have hdn := depth_nodes a
  have hD := a.depth_eq
  simp only [tmD, tmC_eq]
  refine FC_of Try.call130 Try.func130 rfl (by kernel_rfl) (by simp only [rd, List.map_cons, List.map_nil, List.length_cons, List.length_nil, Try.ntmps130]; omega) ?_
  simp -implicitDefEqProofs only [go_sem, Nat.reduceEqDiff, reduceIte, reduceCtorEq, Nat.reduceAdd, Nat.reduceMul, Int.reduceLE, Int.reduceNeg, Int.reduceToNat, Nat.reduceLeDiff, Nat.reduceSub, Nat.reduceLT, Nat.le_refl, Int.cast_ofNat_Int, Int.reduceLT, Int.reduceGT, Int.reduceGE, Int.reduceEq, Int.reduceBEq, Int.reduceBNe, Int.reduceAdd, Int.reduceSub, gt_iff_lt, ge_iff_le, Try.results130]
  refine loop_rule (fun p : Nat × Nat => hd [(1, .one (.bx 1 0)), (3, vI p.2), (4, vI p.1)] [(1, [.t (.str a.name), .t (tmS a.args)])] []) (fun p => p.1 ≤ a.args.length ∧ a.depth = ((a.args.drop p.1).map Tm.depth).foldl max p.2 + 1) (fun p => a.args.length - p.1) (0, 0) (weak_hd ?_) ?_ ?_
  · simp -implicitDefEqProofs only [go_sem, Nat.reduceEqDiff, reduceIte, reduceCtorEq, Nat.reduceAdd, Nat.reduceMul, Int.reduceLE, Int.reduceNeg, Int.reduceToNat, Nat.reduceLeDiff, Nat.reduceSub, Nat.reduceLT, Nat.le_refl, Int.cast_ofNat_Int, Int.reduceLT, Int.reduceGT, Int.reduceGE, Int.reduceEq, Int.reduceBEq, Int.reduceBNe, Int.reduceAdd, Int.reduceSub, gt_iff_lt, ge_iff_le]
  · exact ⟨by simp, hD⟩
  · intro ⟨k, n⟩ ⟨hk, hr⟩
    simp only at hk hr
    by_cases hlt : k < a.args.length
    · rw [List.drop_eq_getElem_cons hlt, List.map_cons, List.foldl_cons] at hr
      simp -implicitDefEqProofs only [go_sem, Nat.reduceEqDiff, reduceIte, reduceCtorEq, Nat.reduceAdd, Nat.reduceMul, Int.reduceLE, Int.reduceNeg, Int.reduceToNat, Nat.reduceLeDiff, Nat.reduceSub, Nat.reduceLT, Nat.le_refl, Int.cast_ofNat_Int, Int.reduceLT, Int.reduceGT, Int.reduceGE, Int.reduceEq, Int.reduceBEq, Int.reduceBNe, Int.reduceAdd, Int.reduceSub, gt_iff_lt, ge_iff_le, getD_at, hlt, tmC_eq]
      refine callF (H a.args[k] (List.getElem_mem hlt)) (by simp -implicitDefEqProofs only [go_sem, Nat.reduceEqDiff, reduceIte, reduceCtorEq, Nat.reduceAdd, Nat.reduceMul, Int.reduceLE, Int.reduceNeg, Int.reduceToNat, Nat.reduceLeDiff, Nat.reduceSub, Nat.reduceLT, Nat.le_refl, Int.cast_ofNat_Int, Int.reduceLT, Int.reduceGT, Int.reduceGE, Int.reduceEq, Int.reduceBEq, Int.reduceBNe, Int.reduceAdd, Int.reduceSub, gt_iff_lt, ge_iff_le, tmC_eq]) ?_
      simp -implicitDefEqProofs only [go_sem, Nat.reduceEqDiff, reduceIte, reduceCtorEq, Nat.reduceAdd, Nat.reduceMul, Int.reduceLE, Int.reduceNeg, Int.reduceToNat, Nat.reduceLeDiff, Nat.reduceSub, Nat.reduceLT, Nat.le_refl, Int.cast_ofNat_Int, Int.reduceLT, Int.reduceGT, Int.reduceGE, Int.reduceEq, Int.reduceBEq, Int.reduceBNe, Int.reduceAdd, Int.reduceSub, gt_iff_lt, ge_iff_le, tmC_eq]
      refine callF (l1Most_c n a.args[k].depth) (by simp -implicitDefEqProofs only [go_sem, Nat.reduceEqDiff, reduceIte, reduceCtorEq, Nat.reduceAdd, Nat.reduceMul, Int.reduceLE, Int.reduceNeg, Int.reduceToNat, Nat.reduceLeDiff, Nat.reduceSub, Nat.reduceLT, Nat.le_refl, Int.cast_ofNat_Int, Int.reduceLT, Int.reduceGT, Int.reduceGE, Int.reduceEq, Int.reduceBEq, Int.reduceBNe, Int.reduceAdd, Int.reduceSub, gt_iff_lt, ge_iff_le, tmC_eq]) ?_
      simp -implicitDefEqProofs only [go_sem, Nat.reduceEqDiff, reduceIte, reduceCtorEq, Nat.reduceAdd, Nat.reduceMul, Int.reduceLE, Int.reduceNeg, Int.reduceToNat, Nat.reduceLeDiff, Nat.reduceSub, Nat.reduceLT, Nat.le_refl, Int.cast_ofNat_Int, Int.reduceLT, Int.reduceGT, Int.reduceGE, Int.reduceEq, Int.reduceBEq, Int.reduceBNe, Int.reduceAdd, Int.reduceSub, gt_iff_lt, ge_iff_le, tmC_eq]
      exact ⟨(k + 1, max n a.args[k].depth), ⟨hlt, hr⟩, by simp only; omega, weak_hd (by simp -implicitDefEqProofs only [go_sem, Nat.reduceEqDiff, reduceIte, reduceCtorEq, Nat.reduceAdd, Nat.reduceMul, Int.reduceLE, Int.reduceNeg, Int.reduceToNat, Nat.reduceLeDiff, Nat.reduceSub, Nat.reduceLT, Nat.le_refl, Int.cast_ofNat_Int, Int.reduceLT, Int.reduceGT, Int.reduceGE, Int.reduceEq, Int.reduceBEq, Int.reduceBNe, Int.reduceAdd, Int.reduceSub, gt_iff_lt, ge_iff_le]; rw [wrap_s (by omega)]; exact ⟨by congr 1; omega, rfl⟩)⟩
    · simp -implicitDefEqProofs only [go_sem, Nat.reduceEqDiff, reduceIte, reduceCtorEq, Nat.reduceAdd, Nat.reduceMul, Int.reduceLE, Int.reduceNeg, Int.reduceToNat, Nat.reduceLeDiff, Nat.reduceSub, Nat.reduceLT, Nat.le_refl, Int.cast_ofNat_Int, Int.reduceLT, Int.reduceGT, Int.reduceGE, Int.reduceEq, Int.reduceBEq, Int.reduceBNe, Int.reduceAdd, Int.reduceSub, gt_iff_lt, ge_iff_le, hlt]
      rw [List.drop_of_length_le (by omega)] at hr
      simp only [List.map_nil, List.foldl_nil] at hr
      rw [hr, wrap_s (by omega)]
theorem l2Depth_c : ∀ a : Tm, a.wt ≤ 1099511627776 → FC Try.prog 130 [tmD a] [iD a.depth] :=
  tm_ind fun n xs ih hs => l2Depth_of (.mk n xs) hs fun x hx => ih x hx (Nat.le_trans (args_wt (a := .mk n xs) hx) hs)
theorem l2Fits_c (a : Tm) (hs : a.wt ≤ 1099511627776) : FC Try.prog 118 [tmD a] [bD (smallT a)] := by
  simp only [tmD, tmC_eq]
  refine FC_of Try.call118 Try.func118 rfl (by kernel_rfl) (by simp only [rd, List.map_cons, List.map_nil, List.length_cons, List.length_nil, Try.ntmps118]; omega) ?_
  simp -implicitDefEqProofs only [go_sem, Nat.reduceEqDiff, reduceIte, reduceCtorEq, Nat.reduceAdd, Nat.reduceMul, Int.reduceLE, Int.reduceNeg, Int.reduceToNat, Nat.reduceLeDiff, Nat.reduceSub, Nat.reduceLT, Nat.le_refl, Int.cast_ofNat_Int, Int.reduceLT, Int.reduceGT, Int.reduceGE, Int.reduceEq, Int.reduceBEq, Int.reduceBNe, Int.reduceAdd, Int.reduceSub, gt_iff_lt, ge_iff_le, Try.results118]
  refine callF (l2Many_c a hs 30 (by omega) (by omega)) (by simp -implicitDefEqProofs only [go_sem, Nat.reduceEqDiff, reduceIte, reduceCtorEq, Nat.reduceAdd, Nat.reduceMul, Int.reduceLE, Int.reduceNeg, Int.reduceToNat, Nat.reduceLeDiff, Nat.reduceSub, Nat.reduceLT, Nat.le_refl, Int.cast_ofNat_Int, Int.reduceLT, Int.reduceGT, Int.reduceGE, Int.reduceEq, Int.reduceBEq, Int.reduceBNe, Int.reduceAdd, Int.reduceSub, gt_iff_lt, ge_iff_le, tmC_eq]) ?_
  simp -implicitDefEqProofs only [go_sem, Nat.reduceEqDiff, reduceIte, reduceCtorEq, Nat.reduceAdd, Nat.reduceMul, Int.reduceLE, Int.reduceNeg, Int.reduceToNat, Nat.reduceLeDiff, Nat.reduceSub, Nat.reduceLT, Nat.le_refl, Int.cast_ofNat_Int, Int.reduceLT, Int.reduceGT, Int.reduceGE, Int.reduceEq, Int.reduceBEq, Int.reduceBNe, Int.reduceAdd, Int.reduceSub, gt_iff_lt, ge_iff_le, tmC_eq]
  rw [show decide (manyT a 30 ≤ 30) = decide (a.nodes ≤ 30) from manyT_le a 30]
  refine ⟨fun h => ?_, fun h => ?_⟩
  · refine callF (l2Depth_c a hs) (by simp -implicitDefEqProofs only [go_sem, Nat.reduceEqDiff, reduceIte, reduceCtorEq, Nat.reduceAdd, Nat.reduceMul, Int.reduceLE, Int.reduceNeg, Int.reduceToNat, Nat.reduceLeDiff, Nat.reduceSub, Nat.reduceLT, Nat.le_refl, Int.cast_ofNat_Int, Int.reduceLT, Int.reduceGT, Int.reduceGE, Int.reduceEq, Int.reduceBEq, Int.reduceBNe, Int.reduceAdd, Int.reduceSub, gt_iff_lt, ge_iff_le, tmC_eq]) ?_
    simp -implicitDefEqProofs only [go_sem, Nat.reduceEqDiff, reduceIte, reduceCtorEq, Nat.reduceAdd, Nat.reduceMul, Int.reduceLE, Int.reduceNeg, Int.reduceToNat, Nat.reduceLeDiff, Nat.reduceSub, Nat.reduceLT, Nat.le_refl, Int.cast_ofNat_Int, Int.reduceLT, Int.reduceGT, Int.reduceGE, Int.reduceEq, Int.reduceBEq, Int.reduceBNe, Int.reduceAdd, Int.reduceSub, gt_iff_lt, ge_iff_le, tmC_eq]
    rw [smallT, h, Bool.true_and]
    congr 1
    rw [decide_eq_decide]; omega
  · rw [smallT, h]; rfl
theorem l2Nodes_of (a : Tm) (H : ∀ x ∈ a.args, FC Try.prog 119 [tmD x] [bD x.names]) : FC Try.prog 119 [tmD a] [bD a.names] := by
  refine FC_wf (fun hw => ?_) Try.call119
  have hl : a.args.length ≤ 9223372036854775807 := by simp only [tmD, tmC_eq] at hw; simp [wfDs, wfT, wfTs] at hw; exact hw.2.1
  have hN := a.names_eq
  simp only [tmD, tmC_eq]
  refine FC_of Try.call119 Try.func119 rfl (by kernel_rfl) (by simp only [rd, List.map_cons, List.map_nil, List.length_cons, List.length_nil, Try.ntmps119]; omega) ?_
  simp -implicitDefEqProofs only [go_sem, Nat.reduceEqDiff, reduceIte, reduceCtorEq, Nat.reduceAdd, Nat.reduceMul, Int.reduceLE, Int.reduceNeg, Int.reduceToNat, Nat.reduceLeDiff, Nat.reduceSub, Nat.reduceLT, Nat.le_refl, Int.cast_ofNat_Int, Int.reduceLT, Int.reduceGT, Int.reduceGE, Int.reduceEq, Int.reduceBEq, Int.reduceBNe, Int.reduceAdd, Int.reduceSub, gt_iff_lt, ge_iff_le, Try.results119]
  refine callF (l2Var_c a.name) (by simp -implicitDefEqProofs only [go_sem, Nat.reduceEqDiff, reduceIte, reduceCtorEq, Nat.reduceAdd, Nat.reduceMul, Int.reduceLE, Int.reduceNeg, Int.reduceToNat, Nat.reduceLeDiff, Nat.reduceSub, Nat.reduceLT, Nat.le_refl, Int.cast_ofNat_Int, Int.reduceLT, Int.reduceGT, Int.reduceGE, Int.reduceEq, Int.reduceBEq, Int.reduceBNe, Int.reduceAdd, Int.reduceSub, gt_iff_lt, ge_iff_le]) ?_
  simp -implicitDefEqProofs only [go_sem, Nat.reduceEqDiff, reduceIte, reduceCtorEq, Nat.reduceAdd, Nat.reduceMul, Int.reduceLE, Int.reduceNeg, Int.reduceToNat, Nat.reduceLeDiff, Nat.reduceSub, Nat.reduceLT, Nat.le_refl, Int.cast_ofNat_Int, Int.reduceLT, Int.reduceGT, Int.reduceGE, Int.reduceEq, Int.reduceBEq, Int.reduceBNe, Int.reduceAdd, Int.reduceSub, gt_iff_lt, ge_iff_le]
  refine ⟨fun h => ?_, fun h => ?_⟩
  · rw [hN, if_pos h]
    congr 1
    rw [Bool.eq_iff_iff]; simp
  · rw [h] at hN
    simp only [Bool.false_eq_true, if_false] at hN
    refine callF (l2Symbol_c a.name) (by simp -implicitDefEqProofs only [go_sem, Nat.reduceEqDiff, reduceIte, reduceCtorEq, Nat.reduceAdd, Nat.reduceMul, Int.reduceLE, Int.reduceNeg, Int.reduceToNat, Nat.reduceLeDiff, Nat.reduceSub, Nat.reduceLT, Nat.le_refl, Int.cast_ofNat_Int, Int.reduceLT, Int.reduceGT, Int.reduceGE, Int.reduceEq, Int.reduceBEq, Int.reduceBNe, Int.reduceAdd, Int.reduceSub, gt_iff_lt, ge_iff_le]) ?_
    simp -implicitDefEqProofs only [go_sem, Nat.reduceEqDiff, reduceIte, reduceCtorEq, Nat.reduceAdd, Nat.reduceMul, Int.reduceLE, Int.reduceNeg, Int.reduceToNat, Nat.reduceLeDiff, Nat.reduceSub, Nat.reduceLT, Nat.le_refl, Int.cast_ofNat_Int, Int.reduceLT, Int.reduceGT, Int.reduceGE, Int.reduceEq, Int.reduceBEq, Int.reduceBNe, Int.reduceAdd, Int.reduceSub, gt_iff_lt, ge_iff_le]
    by_cases hy : symOk a.name = true
    · by_cases h4 : a.args.length ≤ 4
      · rw [hy, show decide (a.args.length ≤ 4) = true by simpa using h4, Bool.true_and, Bool.true_and] at hN
        refine ⟨fun _ => ⟨fun h => by simp at h; omega, fun _ => ?_⟩, fun h => by simp [hy] at h⟩
        refine loop_rule (fun k : Nat => hd [(1, .one (.bx 1 0)), (3, vI k)] [(1, [.t (.str a.name), .t (tmS a.args)])] []) (fun k => k ≤ a.args.length ∧ a.names = (a.args.drop k).all Tm.names) (fun k => a.args.length - k) 0 (weak_hd ?_) ?_ ?_
        · simp -implicitDefEqProofs only [go_sem, Nat.reduceEqDiff, reduceIte, reduceCtorEq, Nat.reduceAdd, Nat.reduceMul, Int.reduceLE, Int.reduceNeg, Int.reduceToNat, Nat.reduceLeDiff, Nat.reduceSub, Nat.reduceLT, Nat.le_refl, Int.cast_ofNat_Int, Int.reduceLT, Int.reduceGT, Int.reduceGE, Int.reduceEq, Int.reduceBEq, Int.reduceBNe, Int.reduceAdd, Int.reduceSub, gt_iff_lt, ge_iff_le]
        · exact ⟨by simp, hN⟩
        · intro k ⟨hk, hr⟩
          by_cases hlt : k < a.args.length
          · rw [List.drop_eq_getElem_cons hlt, List.all_cons] at hr
            simp -implicitDefEqProofs only [go_sem, Nat.reduceEqDiff, reduceIte, reduceCtorEq, Nat.reduceAdd, Nat.reduceMul, Int.reduceLE, Int.reduceNeg, Int.reduceToNat, Nat.reduceLeDiff, Nat.reduceSub, Nat.reduceLT, Nat.le_refl, Int.cast_ofNat_Int, Int.reduceLT, Int.reduceGT, Int.reduceGE, Int.reduceEq, Int.reduceBEq, Int.reduceBNe, Int.reduceAdd, Int.reduceSub, gt_iff_lt, ge_iff_le, getD_at, hlt, tmC_eq]
            refine callF (H a.args[k] (List.getElem_mem hlt)) (by simp -implicitDefEqProofs only [go_sem, Nat.reduceEqDiff, reduceIte, reduceCtorEq, Nat.reduceAdd, Nat.reduceMul, Int.reduceLE, Int.reduceNeg, Int.reduceToNat, Nat.reduceLeDiff, Nat.reduceSub, Nat.reduceLT, Nat.le_refl, Int.cast_ofNat_Int, Int.reduceLT, Int.reduceGT, Int.reduceGE, Int.reduceEq, Int.reduceBEq, Int.reduceBNe, Int.reduceAdd, Int.reduceSub, gt_iff_lt, ge_iff_le, tmC_eq]) ?_
            simp -implicitDefEqProofs only [go_sem, Nat.reduceEqDiff, reduceIte, reduceCtorEq, Nat.reduceAdd, Nat.reduceMul, Int.reduceLE, Int.reduceNeg, Int.reduceToNat, Nat.reduceLeDiff, Nat.reduceSub, Nat.reduceLT, Nat.le_refl, Int.cast_ofNat_Int, Int.reduceLT, Int.reduceGT, Int.reduceGE, Int.reduceEq, Int.reduceBEq, Int.reduceBNe, Int.reduceAdd, Int.reduceSub, gt_iff_lt, ge_iff_le, tmC_eq]
            refine ⟨fun h => ?_, fun h => ⟨k + 1, ⟨hlt, ?_⟩, by omega, weak_hd (by simp -implicitDefEqProofs only [go_sem, Nat.reduceEqDiff, reduceIte, reduceCtorEq, Nat.reduceAdd, Nat.reduceMul, Int.reduceLE, Int.reduceNeg, Int.reduceToNat, Nat.reduceLeDiff, Nat.reduceSub, Nat.reduceLT, Nat.le_refl, Int.cast_ofNat_Int, Int.reduceLT, Int.reduceGT, Int.reduceGE, Int.reduceEq, Int.reduceBEq, Int.reduceBNe, Int.reduceAdd, Int.reduceSub, gt_iff_lt, ge_iff_le]; rw [wrap_s (by omega)])⟩⟩
            · rw [hr, show a.args[k].names = false by simpa using h]; rfl
            · rw [hr, show a.args[k].names = true by simpa using h]; rfl
          · simp -implicitDefEqProofs only [go_sem, Nat.reduceEqDiff, reduceIte, reduceCtorEq, Nat.reduceAdd, Nat.reduceMul, Int.reduceLE, Int.reduceNeg, Int.reduceToNat, Nat.reduceLeDiff, Nat.reduceSub, Nat.reduceLT, Nat.le_refl, Int.cast_ofNat_Int, Int.reduceLT, Int.reduceGT, Int.reduceGE, Int.reduceEq, Int.reduceBEq, Int.reduceBNe, Int.reduceAdd, Int.reduceSub, gt_iff_lt, ge_iff_le, hlt]
            rw [hr, List.drop_of_length_le (by omega)]; rfl
      · refine ⟨fun _ => ⟨fun _ => ?_, fun h => by simp at h; omega⟩, fun h => by simp [hy] at h⟩
        rw [hN, show decide (a.args.length ≤ 4) = false by simpa using h4, Bool.and_false]; rfl
    · have hy' : symOk a.name = false := by simpa using hy
      refine ⟨fun h => by simp [hy'] at h, fun _ => ?_⟩
      rw [hN, hy']; rfl
theorem l2Nodes_c : ∀ a : Tm, FC Try.prog 119 [tmD a] [bD a.names] := tm_ind fun n xs ih => l2Nodes_of (.mk n xs) ih
theorem l2Good_c (a : Tm) (hs : a.wt ≤ 1099511627776) : FC Try.prog 121 [tmD a] [bD a.good] := by
  simp only [tmD, tmC_eq]
  refine FC_of Try.call121 Try.func121 rfl (by kernel_rfl) (by simp only [rd, List.map_cons, List.map_nil, List.length_cons, List.length_nil, Try.ntmps121]; omega) ?_
  simp -implicitDefEqProofs only [go_sem, Nat.reduceEqDiff, reduceIte, reduceCtorEq, Nat.reduceAdd, Nat.reduceMul, Int.reduceLE, Int.reduceNeg, Int.reduceToNat, Nat.reduceLeDiff, Nat.reduceSub, Nat.reduceLT, Nat.le_refl, Int.cast_ofNat_Int, Int.reduceLT, Int.reduceGT, Int.reduceGE, Int.reduceEq, Int.reduceBEq, Int.reduceBNe, Int.reduceAdd, Int.reduceSub, gt_iff_lt, ge_iff_le, Try.results121]
  refine callF (l2Fits_c a hs) (by simp -implicitDefEqProofs only [go_sem, Nat.reduceEqDiff, reduceIte, reduceCtorEq, Nat.reduceAdd, Nat.reduceMul, Int.reduceLE, Int.reduceNeg, Int.reduceToNat, Nat.reduceLeDiff, Nat.reduceSub, Nat.reduceLT, Nat.le_refl, Int.cast_ofNat_Int, Int.reduceLT, Int.reduceGT, Int.reduceGE, Int.reduceEq, Int.reduceBEq, Int.reduceBNe, Int.reduceAdd, Int.reduceSub, gt_iff_lt, ge_iff_le, tmC_eq]) ?_
  simp -implicitDefEqProofs only [go_sem, Nat.reduceEqDiff, reduceIte, reduceCtorEq, Nat.reduceAdd, Nat.reduceMul, Int.reduceLE, Int.reduceNeg, Int.reduceToNat, Nat.reduceLeDiff, Nat.reduceSub, Nat.reduceLT, Nat.le_refl, Int.cast_ofNat_Int, Int.reduceLT, Int.reduceGT, Int.reduceGE, Int.reduceEq, Int.reduceBEq, Int.reduceBNe, Int.reduceAdd, Int.reduceSub, gt_iff_lt, ge_iff_le, tmC_eq]
  refine ⟨fun h => ?_, fun h => ?_⟩
  · refine callF (l2Nodes_c a) (by simp -implicitDefEqProofs only [go_sem, Nat.reduceEqDiff, reduceIte, reduceCtorEq, Nat.reduceAdd, Nat.reduceMul, Int.reduceLE, Int.reduceNeg, Int.reduceToNat, Nat.reduceLeDiff, Nat.reduceSub, Nat.reduceLT, Nat.le_refl, Int.cast_ofNat_Int, Int.reduceLT, Int.reduceGT, Int.reduceGE, Int.reduceEq, Int.reduceBEq, Int.reduceBNe, Int.reduceAdd, Int.reduceSub, gt_iff_lt, ge_iff_le, tmC_eq]) ?_
    simp -implicitDefEqProofs only [go_sem, Nat.reduceEqDiff, reduceIte, reduceCtorEq, Nat.reduceAdd, Nat.reduceMul, Int.reduceLE, Int.reduceNeg, Int.reduceToNat, Nat.reduceLeDiff, Nat.reduceSub, Nat.reduceLT, Nat.le_refl, Int.cast_ofNat_Int, Int.reduceLT, Int.reduceGT, Int.reduceGE, Int.reduceEq, Int.reduceBEq, Int.reduceBNe, Int.reduceAdd, Int.reduceSub, gt_iff_lt, ge_iff_le, tmC_eq]
    rw [Tm.good, h, Bool.true_and]
  · rw [Tm.good, h, Bool.false_and]
theorem l2Atom_c (a : Tm) (hs : a.wt ≤ 1099511627776) : FC Try.prog 103 [tmD a] [bD a.atomOk] := by
  have hN : a.atomOk = if (a.name == [61]) = true then decide (a.args.length = 2) && smallT a && a.args.all Tm.names else symOk a.name && a.good := rfl
  simp only [tmD, tmC_eq]
  refine FC_of Try.call103 Try.func103 rfl (by kernel_rfl) (by simp only [rd, List.map_cons, List.map_nil, List.length_cons, List.length_nil, Try.ntmps103]; omega) ?_
  simp -implicitDefEqProofs only [go_sem, Nat.reduceEqDiff, reduceIte, reduceCtorEq, Nat.reduceAdd, Nat.reduceMul, Int.reduceLE, Int.reduceNeg, Int.reduceToNat, Nat.reduceLeDiff, Nat.reduceSub, Nat.reduceLT, Nat.le_refl, Int.cast_ofNat_Int, Int.reduceLT, Int.reduceGT, Int.reduceGE, Int.reduceEq, Int.reduceBEq, Int.reduceBNe, Int.reduceAdd, Int.reduceSub, gt_iff_lt, ge_iff_le, Try.results103]
  refine ⟨fun h => ?_, fun h => ?_⟩
  · rw [if_pos h] at hN
    by_cases h2 : a.args.length = 2
    · have k0 : 0 < a.args.length := by omega
      have k1 : 1 < a.args.length := by omega
      have e2 : ((a.args.length : Int) == 2) = true := by simp [h2]
      have l0 : (0 : Int) < a.args.length := by omega
      have l1 : (1 : Int) < a.args.length := by omega
      rw [all_two h2, show decide (a.args.length = 2) = true by simp [h2]] at hN
      simp only [Bool.true_and] at hN
      simp only [e2, tt_eq, imp_self', tf_eq, imp_false', and_true]
      refine callF (l2Fits_c a hs) (by simp -implicitDefEqProofs only [go_sem, Nat.reduceEqDiff, reduceIte, reduceCtorEq, Nat.reduceAdd, Nat.reduceMul, Int.reduceLE, Int.reduceNeg, Int.reduceToNat, Nat.reduceLeDiff, Nat.reduceSub, Nat.reduceLT, Nat.le_refl, Int.cast_ofNat_Int, Int.reduceLT, Int.reduceGT, Int.reduceGE, Int.reduceEq, Int.reduceBEq, Int.reduceBNe, Int.reduceAdd, Int.reduceSub, gt_iff_lt, ge_iff_le, tmC_eq, l0, getD_at, k0]) ?_
      simp -implicitDefEqProofs only [go_sem, Nat.reduceEqDiff, reduceIte, reduceCtorEq, Nat.reduceAdd, Nat.reduceMul, Int.reduceLE, Int.reduceNeg, Int.reduceToNat, Nat.reduceLeDiff, Nat.reduceSub, Nat.reduceLT, Nat.le_refl, Int.cast_ofNat_Int, Int.reduceLT, Int.reduceGT, Int.reduceGE, Int.reduceEq, Int.reduceBEq, Int.reduceBNe, Int.reduceAdd, Int.reduceSub, gt_iff_lt, ge_iff_le, tmC_eq, l0, getD_at, k0]
      refine ⟨fun h3 => ?_, fun h3 => ?_⟩
      · refine callF (l2Nodes_c a.args[0]) (by simp -implicitDefEqProofs only [go_sem, Nat.reduceEqDiff, reduceIte, reduceCtorEq, Nat.reduceAdd, Nat.reduceMul, Int.reduceLE, Int.reduceNeg, Int.reduceToNat, Nat.reduceLeDiff, Nat.reduceSub, Nat.reduceLT, Nat.le_refl, Int.cast_ofNat_Int, Int.reduceLT, Int.reduceGT, Int.reduceGE, Int.reduceEq, Int.reduceBEq, Int.reduceBNe, Int.reduceAdd, Int.reduceSub, gt_iff_lt, ge_iff_le, tmC_eq, l1, getD_at, k1]) ?_
        simp -implicitDefEqProofs only [go_sem, Nat.reduceEqDiff, reduceIte, reduceCtorEq, Nat.reduceAdd, Nat.reduceMul, Int.reduceLE, Int.reduceNeg, Int.reduceToNat, Nat.reduceLeDiff, Nat.reduceSub, Nat.reduceLT, Nat.le_refl, Int.cast_ofNat_Int, Int.reduceLT, Int.reduceGT, Int.reduceGE, Int.reduceEq, Int.reduceBEq, Int.reduceBNe, Int.reduceAdd, Int.reduceSub, gt_iff_lt, ge_iff_le, tmC_eq, l1, getD_at, k1]
        refine ⟨fun h4 => ?_, fun h4 => ?_⟩
        · refine callF (l2Nodes_c a.args[1]) (by simp -implicitDefEqProofs only [go_sem, Nat.reduceEqDiff, reduceIte, reduceCtorEq, Nat.reduceAdd, Nat.reduceMul, Int.reduceLE, Int.reduceNeg, Int.reduceToNat, Nat.reduceLeDiff, Nat.reduceSub, Nat.reduceLT, Nat.le_refl, Int.cast_ofNat_Int, Int.reduceLT, Int.reduceGT, Int.reduceGE, Int.reduceEq, Int.reduceBEq, Int.reduceBNe, Int.reduceAdd, Int.reduceSub, gt_iff_lt, ge_iff_le, tmC_eq]) ?_
          simp -implicitDefEqProofs only [go_sem, Nat.reduceEqDiff, reduceIte, reduceCtorEq, Nat.reduceAdd, Nat.reduceMul, Int.reduceLE, Int.reduceNeg, Int.reduceToNat, Nat.reduceLeDiff, Nat.reduceSub, Nat.reduceLT, Nat.le_refl, Int.cast_ofNat_Int, Int.reduceLT, Int.reduceGT, Int.reduceGE, Int.reduceEq, Int.reduceBEq, Int.reduceBNe, Int.reduceAdd, Int.reduceSub, gt_iff_lt, ge_iff_le, tmC_eq]
          rw [hN, h3, h4]; rfl
        · rw [hN, h3, h4]; rfl
      · rw [hN, h3]; rfl
    · have e2 : ((a.args.length : Int) == 2) = false := by simp; omega
      simp only [e2, tt_eq, ft_eq, imp_self', imp_false', and_true, true_and, ff_eq]
      rw [hN, show decide (a.args.length = 2) = false by simpa using h2]; rfl
  · rw [h] at hN
    simp only [Bool.false_eq_true, if_false] at hN
    refine callF (l2Symbol_c a.name) (by simp -implicitDefEqProofs only [go_sem, Nat.reduceEqDiff, reduceIte, reduceCtorEq, Nat.reduceAdd, Nat.reduceMul, Int.reduceLE, Int.reduceNeg, Int.reduceToNat, Nat.reduceLeDiff, Nat.reduceSub, Nat.reduceLT, Nat.le_refl, Int.cast_ofNat_Int, Int.reduceLT, Int.reduceGT, Int.reduceGE, Int.reduceEq, Int.reduceBEq, Int.reduceBNe, Int.reduceAdd, Int.reduceSub, gt_iff_lt, ge_iff_le]) ?_
    simp -implicitDefEqProofs only [go_sem, Nat.reduceEqDiff, reduceIte, reduceCtorEq, Nat.reduceAdd, Nat.reduceMul, Int.reduceLE, Int.reduceNeg, Int.reduceToNat, Nat.reduceLeDiff, Nat.reduceSub, Nat.reduceLT, Nat.le_refl, Int.cast_ofNat_Int, Int.reduceLT, Int.reduceGT, Int.reduceGE, Int.reduceEq, Int.reduceBEq, Int.reduceBNe, Int.reduceAdd, Int.reduceSub, gt_iff_lt, ge_iff_le]
    refine ⟨fun h3 => ?_, fun h3 => ?_⟩
    · refine callF (l2Good_c a hs) (by simp -implicitDefEqProofs only [go_sem, Nat.reduceEqDiff, reduceIte, reduceCtorEq, Nat.reduceAdd, Nat.reduceMul, Int.reduceLE, Int.reduceNeg, Int.reduceToNat, Nat.reduceLeDiff, Nat.reduceSub, Nat.reduceLT, Nat.le_refl, Int.cast_ofNat_Int, Int.reduceLT, Int.reduceGT, Int.reduceGE, Int.reduceEq, Int.reduceBEq, Int.reduceBNe, Int.reduceAdd, Int.reduceSub, gt_iff_lt, ge_iff_le, tmC_eq]) ?_
      simp -implicitDefEqProofs only [go_sem, Nat.reduceEqDiff, reduceIte, reduceCtorEq, Nat.reduceAdd, Nat.reduceMul, Int.reduceLE, Int.reduceNeg, Int.reduceToNat, Nat.reduceLeDiff, Nat.reduceSub, Nat.reduceLT, Nat.le_refl, Int.cast_ofNat_Int, Int.reduceLT, Int.reduceGT, Int.reduceGE, Int.reduceEq, Int.reduceBEq, Int.reduceBNe, Int.reduceAdd, Int.reduceSub, gt_iff_lt, ge_iff_le, tmC_eq]
      rw [hN, h3, Bool.true_and]
    · rw [hN, h3, Bool.false_and]
theorem l8None_c (a : Tm) : FC Try.prog 102 [tmD a] [bD a.none] := by
  simp only [tmD, tmC_eq]
  refine FC_of Try.call102 Try.func102 rfl (by kernel_rfl) (by simp only [rd, List.map_cons, List.map_nil, List.length_cons, List.length_nil, Try.ntmps102]; omega) ?_
  simp -implicitDefEqProofs only [go_sem, Nat.reduceEqDiff, reduceIte, reduceCtorEq, Nat.reduceAdd, Nat.reduceMul, Int.reduceLE, Int.reduceNeg, Int.reduceToNat, Nat.reduceLeDiff, Nat.reduceSub, Nat.reduceLT, Nat.le_refl, Int.cast_ofNat_Int, Int.reduceLT, Int.reduceGT, Int.reduceGE, Int.reduceEq, Int.reduceBEq, Int.reduceBNe, Int.reduceAdd, Int.reduceSub, gt_iff_lt, ge_iff_le, Try.results102]
  unfold Tm.none
  refine ⟨fun h => ?_, fun h => ?_⟩
  · rw [h, Bool.true_and]
    congr 1
    rw [Bool.eq_iff_iff]; simp
  · rw [h]; rfl
/-- A formula without its parts has a form. -/
def Fm.here (f : Fm) : Bool :=
  if (f.op == 1 || f.op == 2) = true then decide (f.parts.length = 0) && f.atom.none && (f.var == [])
  else if (f.op == 3) = true then decide (f.parts.length = 0) && f.atom.atomOk && (f.var == [])
  else if (f.op == 4) = true then decide (f.parts.length = 1) && f.atom.none && (f.var == [])
  else if isBi f.op = true then decide (f.parts.length = 2) && f.atom.none && (f.var == [])
  else if isQ f.op = true then decide (f.parts.length = 1) && f.atom.none && varOk f.var
  else false
theorem len_beq (n m : Nat) : ((n : Int) == (m : Int)) = decide (n = m) := by
  rw [Bool.eq_iff_iff]; simp only [beq_iff_eq, decide_eq_true_eq]; omega
theorem len_bne (n m : Nat) : ((n : Int) != (m : Int)) = !decide (n = m) := by
  rw [bne, len_beq]
theorem op_cases (o : Int) : o = 1 ∨ o = 2 ∨ o = 3 ∨ o = 4 ∨ o = 5 ∨ o = 6 ∨ o = 7 ∨ o = 8 ∨ o = 9 ∨ (o ≠ 1 ∧ o ≠ 2 ∧ o ≠ 3 ∧ o ≠ 4 ∧ o ≠ 5 ∧ o ≠ 6 ∧ o ≠ 7 ∧ o ≠ 8 ∧ o ≠ 9) := by omega
set_option maxHeartbeats 4000000 in
theorem l8Form_c (f : Fm) (hs : f.wt ≤ 1099511627776) : FC Try.prog 81 [fmD f] [bD f.here] := by
  obtain ⟨o, a, v, ps⟩ := f
  have ha : a.wt ≤ 1099511627776 := Nat.le_trans (atom_wt (.mk o a v ps)) hs
  have e0 : ((ps.length : Int) == 0) = decide (ps.length = 0) := len_beq _ 0
  have e1 : ((ps.length : Int) == 1) = decide (ps.length = 1) := len_beq _ 1
  have e2 : ((ps.length : Int) == 2) = decide (ps.length = 2) := len_beq _ 2
  rcases op_cases o with rfl | rfl | rfl | rfl | rfl | rfl | rfl | rfl | rfl | ⟨n1, n2, n3, n4, n5, n6, n7, n8, n9⟩
  · have hN : Fm.here (.mk 1 a v ps) = (decide (ps.length = 0) && a.none && (v == [])) := rfl
    simp only [fmD, fmC_eq, Fm.op, Fm.atom, Fm.var, Fm.parts]
    refine FC_of Try.call81 Try.func81 rfl (by kernel_rfl) (by simp only [rd, List.map_cons, List.map_nil, List.length_cons, List.length_nil, Try.ntmps81]; omega) ?_
    simp -implicitDefEqProofs only [go_sem, Nat.reduceEqDiff, reduceIte, reduceCtorEq, Nat.reduceAdd, Nat.reduceMul, Int.reduceLE, Int.reduceNeg, Int.reduceToNat, Nat.reduceLeDiff, Nat.reduceSub, Nat.reduceLT, Nat.le_refl, Int.cast_ofNat_Int, Int.reduceLT, Int.reduceGT, Int.reduceGE, Int.reduceEq, Int.reduceBEq, Int.reduceBNe, Int.reduceAdd, Int.reduceSub, gt_iff_lt, ge_iff_le, Try.results81]
    simp only [e0]
    refine ⟨fun h => ?_, fun h => ?_⟩
    · refine callF (l8None_c a) (by simp -implicitDefEqProofs only [go_sem, Nat.reduceEqDiff, reduceIte, reduceCtorEq, Nat.reduceAdd, Nat.reduceMul, Int.reduceLE, Int.reduceNeg, Int.reduceToNat, Nat.reduceLeDiff, Nat.reduceSub, Nat.reduceLT, Nat.le_refl, Int.cast_ofNat_Int, Int.reduceLT, Int.reduceGT, Int.reduceGE, Int.reduceEq, Int.reduceBEq, Int.reduceBNe, Int.reduceAdd, Int.reduceSub, gt_iff_lt, ge_iff_le, tmC_eq]) ?_
      simp -implicitDefEqProofs only [go_sem, Nat.reduceEqDiff, reduceIte, reduceCtorEq, Nat.reduceAdd, Nat.reduceMul, Int.reduceLE, Int.reduceNeg, Int.reduceToNat, Nat.reduceLeDiff, Nat.reduceSub, Nat.reduceLT, Nat.le_refl, Int.cast_ofNat_Int, Int.reduceLT, Int.reduceGT, Int.reduceGE, Int.reduceEq, Int.reduceBEq, Int.reduceBNe, Int.reduceAdd, Int.reduceSub, gt_iff_lt, ge_iff_le, tmC_eq]
      refine ⟨fun h1 => ?_, fun h1 => ?_⟩
      · rw [hN, h, h1]; rfl
      · rw [hN, h, h1]; rfl
    · rw [hN, h]; rfl
  · have hN : Fm.here (.mk 2 a v ps) = (decide (ps.length = 0) && a.none && (v == [])) := rfl
    simp only [fmD, fmC_eq, Fm.op, Fm.atom, Fm.var, Fm.parts]
    refine FC_of Try.call81 Try.func81 rfl (by kernel_rfl) (by simp only [rd, List.map_cons, List.map_nil, List.length_cons, List.length_nil, Try.ntmps81]; omega) ?_
    simp -implicitDefEqProofs only [go_sem, Nat.reduceEqDiff, reduceIte, reduceCtorEq, Nat.reduceAdd, Nat.reduceMul, Int.reduceLE, Int.reduceNeg, Int.reduceToNat, Nat.reduceLeDiff, Nat.reduceSub, Nat.reduceLT, Nat.le_refl, Int.cast_ofNat_Int, Int.reduceLT, Int.reduceGT, Int.reduceGE, Int.reduceEq, Int.reduceBEq, Int.reduceBNe, Int.reduceAdd, Int.reduceSub, gt_iff_lt, ge_iff_le, Try.results81]
    simp only [e0]
    refine ⟨fun h => ?_, fun h => ?_⟩
    · refine callF (l8None_c a) (by simp -implicitDefEqProofs only [go_sem, Nat.reduceEqDiff, reduceIte, reduceCtorEq, Nat.reduceAdd, Nat.reduceMul, Int.reduceLE, Int.reduceNeg, Int.reduceToNat, Nat.reduceLeDiff, Nat.reduceSub, Nat.reduceLT, Nat.le_refl, Int.cast_ofNat_Int, Int.reduceLT, Int.reduceGT, Int.reduceGE, Int.reduceEq, Int.reduceBEq, Int.reduceBNe, Int.reduceAdd, Int.reduceSub, gt_iff_lt, ge_iff_le, tmC_eq]) ?_
      simp -implicitDefEqProofs only [go_sem, Nat.reduceEqDiff, reduceIte, reduceCtorEq, Nat.reduceAdd, Nat.reduceMul, Int.reduceLE, Int.reduceNeg, Int.reduceToNat, Nat.reduceLeDiff, Nat.reduceSub, Nat.reduceLT, Nat.le_refl, Int.cast_ofNat_Int, Int.reduceLT, Int.reduceGT, Int.reduceGE, Int.reduceEq, Int.reduceBEq, Int.reduceBNe, Int.reduceAdd, Int.reduceSub, gt_iff_lt, ge_iff_le, tmC_eq]
      refine ⟨fun h1 => ?_, fun h1 => ?_⟩
      · rw [hN, h, h1]; rfl
      · rw [hN, h, h1]; rfl
    · rw [hN, h]; rfl
  · have hN : Fm.here (.mk 3 a v ps) = (decide (ps.length = 0) && a.atomOk && (v == [])) := rfl
    simp only [fmD, fmC_eq, Fm.op, Fm.atom, Fm.var, Fm.parts]
    refine FC_of Try.call81 Try.func81 rfl (by kernel_rfl) (by simp only [rd, List.map_cons, List.map_nil, List.length_cons, List.length_nil, Try.ntmps81]; omega) ?_
    simp -implicitDefEqProofs only [go_sem, Nat.reduceEqDiff, reduceIte, reduceCtorEq, Nat.reduceAdd, Nat.reduceMul, Int.reduceLE, Int.reduceNeg, Int.reduceToNat, Nat.reduceLeDiff, Nat.reduceSub, Nat.reduceLT, Nat.le_refl, Int.cast_ofNat_Int, Int.reduceLT, Int.reduceGT, Int.reduceGE, Int.reduceEq, Int.reduceBEq, Int.reduceBNe, Int.reduceAdd, Int.reduceSub, gt_iff_lt, ge_iff_le, Try.results81]
    simp only [e0]
    refine ⟨fun h => ?_, fun h => ?_⟩
    · refine callF (l2Atom_c a ha) (by simp -implicitDefEqProofs only [go_sem, Nat.reduceEqDiff, reduceIte, reduceCtorEq, Nat.reduceAdd, Nat.reduceMul, Int.reduceLE, Int.reduceNeg, Int.reduceToNat, Nat.reduceLeDiff, Nat.reduceSub, Nat.reduceLT, Nat.le_refl, Int.cast_ofNat_Int, Int.reduceLT, Int.reduceGT, Int.reduceGE, Int.reduceEq, Int.reduceBEq, Int.reduceBNe, Int.reduceAdd, Int.reduceSub, gt_iff_lt, ge_iff_le, tmC_eq]) ?_
      simp -implicitDefEqProofs only [go_sem, Nat.reduceEqDiff, reduceIte, reduceCtorEq, Nat.reduceAdd, Nat.reduceMul, Int.reduceLE, Int.reduceNeg, Int.reduceToNat, Nat.reduceLeDiff, Nat.reduceSub, Nat.reduceLT, Nat.le_refl, Int.cast_ofNat_Int, Int.reduceLT, Int.reduceGT, Int.reduceGE, Int.reduceEq, Int.reduceBEq, Int.reduceBNe, Int.reduceAdd, Int.reduceSub, gt_iff_lt, ge_iff_le, tmC_eq]
      refine ⟨fun h1 => ?_, fun h1 => ?_⟩
      · rw [hN, h, h1]; rfl
      · rw [hN, h, h1]; rfl
    · rw [hN, h]; rfl
  · have hN : Fm.here (.mk 4 a v ps) = (decide (ps.length = 1) && a.none && (v == [])) := rfl
    simp only [fmD, fmC_eq, Fm.op, Fm.atom, Fm.var, Fm.parts]
    refine FC_of Try.call81 Try.func81 rfl (by kernel_rfl) (by simp only [rd, List.map_cons, List.map_nil, List.length_cons, List.length_nil, Try.ntmps81]; omega) ?_
    simp -implicitDefEqProofs only [go_sem, Nat.reduceEqDiff, reduceIte, reduceCtorEq, Nat.reduceAdd, Nat.reduceMul, Int.reduceLE, Int.reduceNeg, Int.reduceToNat, Nat.reduceLeDiff, Nat.reduceSub, Nat.reduceLT, Nat.le_refl, Int.cast_ofNat_Int, Int.reduceLT, Int.reduceGT, Int.reduceGE, Int.reduceEq, Int.reduceBEq, Int.reduceBNe, Int.reduceAdd, Int.reduceSub, gt_iff_lt, ge_iff_le, Try.results81]
    simp only [e1]
    refine ⟨fun h => ?_, fun h => ?_⟩
    · refine callF (l8None_c a) (by simp -implicitDefEqProofs only [go_sem, Nat.reduceEqDiff, reduceIte, reduceCtorEq, Nat.reduceAdd, Nat.reduceMul, Int.reduceLE, Int.reduceNeg, Int.reduceToNat, Nat.reduceLeDiff, Nat.reduceSub, Nat.reduceLT, Nat.le_refl, Int.cast_ofNat_Int, Int.reduceLT, Int.reduceGT, Int.reduceGE, Int.reduceEq, Int.reduceBEq, Int.reduceBNe, Int.reduceAdd, Int.reduceSub, gt_iff_lt, ge_iff_le, tmC_eq]) ?_
      simp -implicitDefEqProofs only [go_sem, Nat.reduceEqDiff, reduceIte, reduceCtorEq, Nat.reduceAdd, Nat.reduceMul, Int.reduceLE, Int.reduceNeg, Int.reduceToNat, Nat.reduceLeDiff, Nat.reduceSub, Nat.reduceLT, Nat.le_refl, Int.cast_ofNat_Int, Int.reduceLT, Int.reduceGT, Int.reduceGE, Int.reduceEq, Int.reduceBEq, Int.reduceBNe, Int.reduceAdd, Int.reduceSub, gt_iff_lt, ge_iff_le, tmC_eq]
      refine ⟨fun h1 => ?_, fun h1 => ?_⟩
      · rw [hN, h, h1]; rfl
      · rw [hN, h, h1]; rfl
    · rw [hN, h]; rfl
  · have hN : Fm.here (.mk 5 a v ps) = (decide (ps.length = 2) && a.none && (v == [])) := rfl
    simp only [fmD, fmC_eq, Fm.op, Fm.atom, Fm.var, Fm.parts]
    refine FC_of Try.call81 Try.func81 rfl (by kernel_rfl) (by simp only [rd, List.map_cons, List.map_nil, List.length_cons, List.length_nil, Try.ntmps81]; omega) ?_
    simp -implicitDefEqProofs only [go_sem, Nat.reduceEqDiff, reduceIte, reduceCtorEq, Nat.reduceAdd, Nat.reduceMul, Int.reduceLE, Int.reduceNeg, Int.reduceToNat, Nat.reduceLeDiff, Nat.reduceSub, Nat.reduceLT, Nat.le_refl, Int.cast_ofNat_Int, Int.reduceLT, Int.reduceGT, Int.reduceGE, Int.reduceEq, Int.reduceBEq, Int.reduceBNe, Int.reduceAdd, Int.reduceSub, gt_iff_lt, ge_iff_le, Try.results81]
    simp only [e2]
    refine ⟨fun h => ?_, fun h => ?_⟩
    · refine callF (l8None_c a) (by simp -implicitDefEqProofs only [go_sem, Nat.reduceEqDiff, reduceIte, reduceCtorEq, Nat.reduceAdd, Nat.reduceMul, Int.reduceLE, Int.reduceNeg, Int.reduceToNat, Nat.reduceLeDiff, Nat.reduceSub, Nat.reduceLT, Nat.le_refl, Int.cast_ofNat_Int, Int.reduceLT, Int.reduceGT, Int.reduceGE, Int.reduceEq, Int.reduceBEq, Int.reduceBNe, Int.reduceAdd, Int.reduceSub, gt_iff_lt, ge_iff_le, tmC_eq]) ?_
      simp -implicitDefEqProofs only [go_sem, Nat.reduceEqDiff, reduceIte, reduceCtorEq, Nat.reduceAdd, Nat.reduceMul, Int.reduceLE, Int.reduceNeg, Int.reduceToNat, Nat.reduceLeDiff, Nat.reduceSub, Nat.reduceLT, Nat.le_refl, Int.cast_ofNat_Int, Int.reduceLT, Int.reduceGT, Int.reduceGE, Int.reduceEq, Int.reduceBEq, Int.reduceBNe, Int.reduceAdd, Int.reduceSub, gt_iff_lt, ge_iff_le, tmC_eq]
      refine ⟨fun h1 => ?_, fun h1 => ?_⟩
      · rw [hN, h, h1]; rfl
      · rw [hN, h, h1]; rfl
    · rw [hN, h]; rfl
  · have hN : Fm.here (.mk 6 a v ps) = (decide (ps.length = 2) && a.none && (v == [])) := rfl
    simp only [fmD, fmC_eq, Fm.op, Fm.atom, Fm.var, Fm.parts]
    refine FC_of Try.call81 Try.func81 rfl (by kernel_rfl) (by simp only [rd, List.map_cons, List.map_nil, List.length_cons, List.length_nil, Try.ntmps81]; omega) ?_
    simp -implicitDefEqProofs only [go_sem, Nat.reduceEqDiff, reduceIte, reduceCtorEq, Nat.reduceAdd, Nat.reduceMul, Int.reduceLE, Int.reduceNeg, Int.reduceToNat, Nat.reduceLeDiff, Nat.reduceSub, Nat.reduceLT, Nat.le_refl, Int.cast_ofNat_Int, Int.reduceLT, Int.reduceGT, Int.reduceGE, Int.reduceEq, Int.reduceBEq, Int.reduceBNe, Int.reduceAdd, Int.reduceSub, gt_iff_lt, ge_iff_le, Try.results81]
    simp only [e2]
    refine ⟨fun h => ?_, fun h => ?_⟩
    · refine callF (l8None_c a) (by simp -implicitDefEqProofs only [go_sem, Nat.reduceEqDiff, reduceIte, reduceCtorEq, Nat.reduceAdd, Nat.reduceMul, Int.reduceLE, Int.reduceNeg, Int.reduceToNat, Nat.reduceLeDiff, Nat.reduceSub, Nat.reduceLT, Nat.le_refl, Int.cast_ofNat_Int, Int.reduceLT, Int.reduceGT, Int.reduceGE, Int.reduceEq, Int.reduceBEq, Int.reduceBNe, Int.reduceAdd, Int.reduceSub, gt_iff_lt, ge_iff_le, tmC_eq]) ?_
      simp -implicitDefEqProofs only [go_sem, Nat.reduceEqDiff, reduceIte, reduceCtorEq, Nat.reduceAdd, Nat.reduceMul, Int.reduceLE, Int.reduceNeg, Int.reduceToNat, Nat.reduceLeDiff, Nat.reduceSub, Nat.reduceLT, Nat.le_refl, Int.cast_ofNat_Int, Int.reduceLT, Int.reduceGT, Int.reduceGE, Int.reduceEq, Int.reduceBEq, Int.reduceBNe, Int.reduceAdd, Int.reduceSub, gt_iff_lt, ge_iff_le, tmC_eq]
      refine ⟨fun h1 => ?_, fun h1 => ?_⟩
      · rw [hN, h, h1]; rfl
      · rw [hN, h, h1]; rfl
    · rw [hN, h]; rfl
  · have hN : Fm.here (.mk 7 a v ps) = (decide (ps.length = 2) && a.none && (v == [])) := rfl
    simp only [fmD, fmC_eq, Fm.op, Fm.atom, Fm.var, Fm.parts]
    refine FC_of Try.call81 Try.func81 rfl (by kernel_rfl) (by simp only [rd, List.map_cons, List.map_nil, List.length_cons, List.length_nil, Try.ntmps81]; omega) ?_
    simp -implicitDefEqProofs only [go_sem, Nat.reduceEqDiff, reduceIte, reduceCtorEq, Nat.reduceAdd, Nat.reduceMul, Int.reduceLE, Int.reduceNeg, Int.reduceToNat, Nat.reduceLeDiff, Nat.reduceSub, Nat.reduceLT, Nat.le_refl, Int.cast_ofNat_Int, Int.reduceLT, Int.reduceGT, Int.reduceGE, Int.reduceEq, Int.reduceBEq, Int.reduceBNe, Int.reduceAdd, Int.reduceSub, gt_iff_lt, ge_iff_le, Try.results81]
    simp only [e2]
    refine ⟨fun h => ?_, fun h => ?_⟩
    · refine callF (l8None_c a) (by simp -implicitDefEqProofs only [go_sem, Nat.reduceEqDiff, reduceIte, reduceCtorEq, Nat.reduceAdd, Nat.reduceMul, Int.reduceLE, Int.reduceNeg, Int.reduceToNat, Nat.reduceLeDiff, Nat.reduceSub, Nat.reduceLT, Nat.le_refl, Int.cast_ofNat_Int, Int.reduceLT, Int.reduceGT, Int.reduceGE, Int.reduceEq, Int.reduceBEq, Int.reduceBNe, Int.reduceAdd, Int.reduceSub, gt_iff_lt, ge_iff_le, tmC_eq]) ?_
      simp -implicitDefEqProofs only [go_sem, Nat.reduceEqDiff, reduceIte, reduceCtorEq, Nat.reduceAdd, Nat.reduceMul, Int.reduceLE, Int.reduceNeg, Int.reduceToNat, Nat.reduceLeDiff, Nat.reduceSub, Nat.reduceLT, Nat.le_refl, Int.cast_ofNat_Int, Int.reduceLT, Int.reduceGT, Int.reduceGE, Int.reduceEq, Int.reduceBEq, Int.reduceBNe, Int.reduceAdd, Int.reduceSub, gt_iff_lt, ge_iff_le, tmC_eq]
      refine ⟨fun h1 => ?_, fun h1 => ?_⟩
      · rw [hN, h, h1]; rfl
      · rw [hN, h, h1]; rfl
    · rw [hN, h]; rfl
  · have hN : Fm.here (.mk 8 a v ps) = (decide (ps.length = 1) && a.none && varOk v) := rfl
    simp only [fmD, fmC_eq, Fm.op, Fm.atom, Fm.var, Fm.parts]
    refine FC_of Try.call81 Try.func81 rfl (by kernel_rfl) (by simp only [rd, List.map_cons, List.map_nil, List.length_cons, List.length_nil, Try.ntmps81]; omega) ?_
    simp -implicitDefEqProofs only [go_sem, Nat.reduceEqDiff, reduceIte, reduceCtorEq, Nat.reduceAdd, Nat.reduceMul, Int.reduceLE, Int.reduceNeg, Int.reduceToNat, Nat.reduceLeDiff, Nat.reduceSub, Nat.reduceLT, Nat.le_refl, Int.cast_ofNat_Int, Int.reduceLT, Int.reduceGT, Int.reduceGE, Int.reduceEq, Int.reduceBEq, Int.reduceBNe, Int.reduceAdd, Int.reduceSub, gt_iff_lt, ge_iff_le, Try.results81]
    simp only [e1]
    refine ⟨fun h => ?_, fun h => ?_⟩
    · refine callF (l8None_c a) (by simp -implicitDefEqProofs only [go_sem, Nat.reduceEqDiff, reduceIte, reduceCtorEq, Nat.reduceAdd, Nat.reduceMul, Int.reduceLE, Int.reduceNeg, Int.reduceToNat, Nat.reduceLeDiff, Nat.reduceSub, Nat.reduceLT, Nat.le_refl, Int.cast_ofNat_Int, Int.reduceLT, Int.reduceGT, Int.reduceGE, Int.reduceEq, Int.reduceBEq, Int.reduceBNe, Int.reduceAdd, Int.reduceSub, gt_iff_lt, ge_iff_le, tmC_eq]) ?_
      simp -implicitDefEqProofs only [go_sem, Nat.reduceEqDiff, reduceIte, reduceCtorEq, Nat.reduceAdd, Nat.reduceMul, Int.reduceLE, Int.reduceNeg, Int.reduceToNat, Nat.reduceLeDiff, Nat.reduceSub, Nat.reduceLT, Nat.le_refl, Int.cast_ofNat_Int, Int.reduceLT, Int.reduceGT, Int.reduceGE, Int.reduceEq, Int.reduceBEq, Int.reduceBNe, Int.reduceAdd, Int.reduceSub, gt_iff_lt, ge_iff_le, tmC_eq]
      refine ⟨fun h1 => ?_, fun h1 => ?_⟩
      · refine callF (l2Var_c v) (by simp -implicitDefEqProofs only [go_sem, Nat.reduceEqDiff, reduceIte, reduceCtorEq, Nat.reduceAdd, Nat.reduceMul, Int.reduceLE, Int.reduceNeg, Int.reduceToNat, Nat.reduceLeDiff, Nat.reduceSub, Nat.reduceLT, Nat.le_refl, Int.cast_ofNat_Int, Int.reduceLT, Int.reduceGT, Int.reduceGE, Int.reduceEq, Int.reduceBEq, Int.reduceBNe, Int.reduceAdd, Int.reduceSub, gt_iff_lt, ge_iff_le]) ?_
        simp -implicitDefEqProofs only [go_sem, Nat.reduceEqDiff, reduceIte, reduceCtorEq, Nat.reduceAdd, Nat.reduceMul, Int.reduceLE, Int.reduceNeg, Int.reduceToNat, Nat.reduceLeDiff, Nat.reduceSub, Nat.reduceLT, Nat.le_refl, Int.cast_ofNat_Int, Int.reduceLT, Int.reduceGT, Int.reduceGE, Int.reduceEq, Int.reduceBEq, Int.reduceBNe, Int.reduceAdd, Int.reduceSub, gt_iff_lt, ge_iff_le]
        rw [hN, h, h1]; rfl
      · rw [hN, h, h1]; rfl
    · rw [hN, h]; rfl
  · have hN : Fm.here (.mk 9 a v ps) = (decide (ps.length = 1) && a.none && varOk v) := rfl
    simp only [fmD, fmC_eq, Fm.op, Fm.atom, Fm.var, Fm.parts]
    refine FC_of Try.call81 Try.func81 rfl (by kernel_rfl) (by simp only [rd, List.map_cons, List.map_nil, List.length_cons, List.length_nil, Try.ntmps81]; omega) ?_
    simp -implicitDefEqProofs only [go_sem, Nat.reduceEqDiff, reduceIte, reduceCtorEq, Nat.reduceAdd, Nat.reduceMul, Int.reduceLE, Int.reduceNeg, Int.reduceToNat, Nat.reduceLeDiff, Nat.reduceSub, Nat.reduceLT, Nat.le_refl, Int.cast_ofNat_Int, Int.reduceLT, Int.reduceGT, Int.reduceGE, Int.reduceEq, Int.reduceBEq, Int.reduceBNe, Int.reduceAdd, Int.reduceSub, gt_iff_lt, ge_iff_le, Try.results81]
    simp only [e1]
    refine ⟨fun h => ?_, fun h => ?_⟩
    · refine callF (l8None_c a) (by simp -implicitDefEqProofs only [go_sem, Nat.reduceEqDiff, reduceIte, reduceCtorEq, Nat.reduceAdd, Nat.reduceMul, Int.reduceLE, Int.reduceNeg, Int.reduceToNat, Nat.reduceLeDiff, Nat.reduceSub, Nat.reduceLT, Nat.le_refl, Int.cast_ofNat_Int, Int.reduceLT, Int.reduceGT, Int.reduceGE, Int.reduceEq, Int.reduceBEq, Int.reduceBNe, Int.reduceAdd, Int.reduceSub, gt_iff_lt, ge_iff_le, tmC_eq]) ?_
      simp -implicitDefEqProofs only [go_sem, Nat.reduceEqDiff, reduceIte, reduceCtorEq, Nat.reduceAdd, Nat.reduceMul, Int.reduceLE, Int.reduceNeg, Int.reduceToNat, Nat.reduceLeDiff, Nat.reduceSub, Nat.reduceLT, Nat.le_refl, Int.cast_ofNat_Int, Int.reduceLT, Int.reduceGT, Int.reduceGE, Int.reduceEq, Int.reduceBEq, Int.reduceBNe, Int.reduceAdd, Int.reduceSub, gt_iff_lt, ge_iff_le, tmC_eq]
      refine ⟨fun h1 => ?_, fun h1 => ?_⟩
      · refine callF (l2Var_c v) (by simp -implicitDefEqProofs only [go_sem, Nat.reduceEqDiff, reduceIte, reduceCtorEq, Nat.reduceAdd, Nat.reduceMul, Int.reduceLE, Int.reduceNeg, Int.reduceToNat, Nat.reduceLeDiff, Nat.reduceSub, Nat.reduceLT, Nat.le_refl, Int.cast_ofNat_Int, Int.reduceLT, Int.reduceGT, Int.reduceGE, Int.reduceEq, Int.reduceBEq, Int.reduceBNe, Int.reduceAdd, Int.reduceSub, gt_iff_lt, ge_iff_le]) ?_
        simp -implicitDefEqProofs only [go_sem, Nat.reduceEqDiff, reduceIte, reduceCtorEq, Nat.reduceAdd, Nat.reduceMul, Int.reduceLE, Int.reduceNeg, Int.reduceToNat, Nat.reduceLeDiff, Nat.reduceSub, Nat.reduceLT, Nat.le_refl, Int.cast_ofNat_Int, Int.reduceLT, Int.reduceGT, Int.reduceGE, Int.reduceEq, Int.reduceBEq, Int.reduceBNe, Int.reduceAdd, Int.reduceSub, gt_iff_lt, ge_iff_le]
        rw [hN, h, h1]; rfl
      · rw [hN, h, h1]; rfl
    · rw [hN, h]; rfl
  · have hN : Fm.here (.mk o a v ps) = false := by simp [Fm.here, isBi, isQ, Fm.op, *]
    have f1 : (o == 1) = false := by simpa using n1
    have f2 : (o == 2) = false := by simpa using n2
    have f3 : (o == 3) = false := by simpa using n3
    have f4 : (o == 4) = false := by simpa using n4
    have f5 : (o == 5) = false := by simpa using n5
    have f6 : (o == 6) = false := by simpa using n6
    have f7 : (o == 7) = false := by simpa using n7
    have f8 : (o == 8) = false := by simpa using n8
    have f9 : (o == 9) = false := by simpa using n9
    simp only [fmD, fmC_eq, Fm.op, Fm.atom, Fm.var, Fm.parts]
    refine FC_of Try.call81 Try.func81 rfl (by kernel_rfl) (by simp only [rd, List.map_cons, List.map_nil, List.length_cons, List.length_nil, Try.ntmps81]; omega) ?_
    simp -implicitDefEqProofs only [go_sem, Nat.reduceEqDiff, reduceIte, reduceCtorEq, Nat.reduceAdd, Nat.reduceMul, Int.reduceLE, Int.reduceNeg, Int.reduceToNat, Nat.reduceLeDiff, Nat.reduceSub, Nat.reduceLT, Nat.le_refl, Int.cast_ofNat_Int, Int.reduceLT, Int.reduceGT, Int.reduceGE, Int.reduceEq, Int.reduceBEq, Int.reduceBNe, Int.reduceAdd, Int.reduceSub, gt_iff_lt, ge_iff_le, Try.results81, f1, f2, f3, f4, f5, f6, f7, f8, f9]
    rw [hN]
def Fm.forms : Fm → Bool := Fm.fold fun o a v ps rs => (Fm.mk o a v ps).here && rs.all id
theorem Fm.forms_eq (f : Fm) : f.forms = (f.here && f.parts.all Fm.forms) := by
  unfold Fm.forms
  rw [Fm.fold_eq]
  simp only [List.all_map, Fm.eta]
  rfl
theorem l8Forms_of (a : Fm) (hs : a.wt ≤ 1099511627776) (H : ∀ x ∈ a.parts, FC Try.prog 54 [fmD x] [bD x.forms]) : FC Try.prog 54 [fmD a] [bD a.forms] := by
  have hl : a.parts.length ≤ 9223372036854775807 := by rw [Fm.wt_eq] at hs; omega
  have hN := a.forms_eq
  simp only [fmD, fmC_eq]
  refine FC_of Try.call54 Try.func54 rfl (by kernel_rfl) (by simp only [rd, List.map_cons, List.map_nil, List.length_cons, List.length_nil, Try.ntmps54]; omega) ?_
  simp -implicitDefEqProofs only [go_sem, Nat.reduceEqDiff, reduceIte, reduceCtorEq, Nat.reduceAdd, Nat.reduceMul, Int.reduceLE, Int.reduceNeg, Int.reduceToNat, Nat.reduceLeDiff, Nat.reduceSub, Nat.reduceLT, Nat.le_refl, Int.cast_ofNat_Int, Int.reduceLT, Int.reduceGT, Int.reduceGE, Int.reduceEq, Int.reduceBEq, Int.reduceBNe, Int.reduceAdd, Int.reduceSub, gt_iff_lt, ge_iff_le, Try.results54]
  refine callF (l8Form_c a hs) (by simp -implicitDefEqProofs only [go_sem, Nat.reduceEqDiff, reduceIte, reduceCtorEq, Nat.reduceAdd, Nat.reduceMul, Int.reduceLE, Int.reduceNeg, Int.reduceToNat, Nat.reduceLeDiff, Nat.reduceSub, Nat.reduceLT, Nat.le_refl, Int.cast_ofNat_Int, Int.reduceLT, Int.reduceGT, Int.reduceGE, Int.reduceEq, Int.reduceBEq, Int.reduceBNe, Int.reduceAdd, Int.reduceSub, gt_iff_lt, ge_iff_le, fmC_eq]) ?_
  simp -implicitDefEqProofs only [go_sem, Nat.reduceEqDiff, reduceIte, reduceCtorEq, Nat.reduceAdd, Nat.reduceMul, Int.reduceLE, Int.reduceNeg, Int.reduceToNat, Nat.reduceLeDiff, Nat.reduceSub, Nat.reduceLT, Nat.le_refl, Int.cast_ofNat_Int, Int.reduceLT, Int.reduceGT, Int.reduceGE, Int.reduceEq, Int.reduceBEq, Int.reduceBNe, Int.reduceAdd, Int.reduceSub, gt_iff_lt, ge_iff_le, fmC_eq]
  refine ⟨fun h => ?_, fun h => ?_⟩
  · rw [hN, show a.here = false by simpa using h]; rfl
  · rw [show a.here = true by simpa using h, Bool.true_and] at hN
    refine loop_rule (fun k : Nat => hd [(1, .one (.bx 1 0)), (3, vI k)] [(1, [.t (.int .i64 a.op), .t (.str a.atom.name), .t (tmS a.atom.args), .t (.str a.var), .t (fmS a.parts)])] []) (fun k => k ≤ a.parts.length ∧ a.forms = (a.parts.drop k).all Fm.forms) (fun k => a.parts.length - k) 0 (weak_hd ?_) ?_ ?_
    · simp -implicitDefEqProofs only [go_sem, Nat.reduceEqDiff, reduceIte, reduceCtorEq, Nat.reduceAdd, Nat.reduceMul, Int.reduceLE, Int.reduceNeg, Int.reduceToNat, Nat.reduceLeDiff, Nat.reduceSub, Nat.reduceLT, Nat.le_refl, Int.cast_ofNat_Int, Int.reduceLT, Int.reduceGT, Int.reduceGE, Int.reduceEq, Int.reduceBEq, Int.reduceBNe, Int.reduceAdd, Int.reduceSub, gt_iff_lt, ge_iff_le]
    · exact ⟨by simp, hN⟩
    · intro k ⟨hk, hr⟩
      by_cases hlt : k < a.parts.length
      · rw [List.drop_eq_getElem_cons hlt, List.all_cons] at hr
        simp -implicitDefEqProofs only [go_sem, Nat.reduceEqDiff, reduceIte, reduceCtorEq, Nat.reduceAdd, Nat.reduceMul, Int.reduceLE, Int.reduceNeg, Int.reduceToNat, Nat.reduceLeDiff, Nat.reduceSub, Nat.reduceLT, Nat.le_refl, Int.cast_ofNat_Int, Int.reduceLT, Int.reduceGT, Int.reduceGE, Int.reduceEq, Int.reduceBEq, Int.reduceBNe, Int.reduceAdd, Int.reduceSub, gt_iff_lt, ge_iff_le, getD_at, hlt, fmC_eq]
        refine callF (H a.parts[k] (List.getElem_mem hlt)) (by simp -implicitDefEqProofs only [go_sem, Nat.reduceEqDiff, reduceIte, reduceCtorEq, Nat.reduceAdd, Nat.reduceMul, Int.reduceLE, Int.reduceNeg, Int.reduceToNat, Nat.reduceLeDiff, Nat.reduceSub, Nat.reduceLT, Nat.le_refl, Int.cast_ofNat_Int, Int.reduceLT, Int.reduceGT, Int.reduceGE, Int.reduceEq, Int.reduceBEq, Int.reduceBNe, Int.reduceAdd, Int.reduceSub, gt_iff_lt, ge_iff_le, fmC_eq]) ?_
        simp -implicitDefEqProofs only [go_sem, Nat.reduceEqDiff, reduceIte, reduceCtorEq, Nat.reduceAdd, Nat.reduceMul, Int.reduceLE, Int.reduceNeg, Int.reduceToNat, Nat.reduceLeDiff, Nat.reduceSub, Nat.reduceLT, Nat.le_refl, Int.cast_ofNat_Int, Int.reduceLT, Int.reduceGT, Int.reduceGE, Int.reduceEq, Int.reduceBEq, Int.reduceBNe, Int.reduceAdd, Int.reduceSub, gt_iff_lt, ge_iff_le, fmC_eq]
        refine ⟨fun h => ?_, fun h => ⟨k + 1, ⟨hlt, ?_⟩, by omega, weak_hd (by simp -implicitDefEqProofs only [go_sem, Nat.reduceEqDiff, reduceIte, reduceCtorEq, Nat.reduceAdd, Nat.reduceMul, Int.reduceLE, Int.reduceNeg, Int.reduceToNat, Nat.reduceLeDiff, Nat.reduceSub, Nat.reduceLT, Nat.le_refl, Int.cast_ofNat_Int, Int.reduceLT, Int.reduceGT, Int.reduceGE, Int.reduceEq, Int.reduceBEq, Int.reduceBNe, Int.reduceAdd, Int.reduceSub, gt_iff_lt, ge_iff_le]; rw [wrap_s (by omega)])⟩⟩
        · rw [hr, show a.parts[k].forms = false by simpa using h]; rfl
        · rw [hr, show a.parts[k].forms = true by simpa using h]; rfl
      · simp -implicitDefEqProofs only [go_sem, Nat.reduceEqDiff, reduceIte, reduceCtorEq, Nat.reduceAdd, Nat.reduceMul, Int.reduceLE, Int.reduceNeg, Int.reduceToNat, Nat.reduceLeDiff, Nat.reduceSub, Nat.reduceLT, Nat.le_refl, Int.cast_ofNat_Int, Int.reduceLT, Int.reduceGT, Int.reduceGE, Int.reduceEq, Int.reduceBEq, Int.reduceBNe, Int.reduceAdd, Int.reduceSub, gt_iff_lt, ge_iff_le, hlt]
        rw [hr, List.drop_of_length_le (by omega)]; rfl
theorem l8Forms_c : ∀ a : Fm, a.wt ≤ 1099511627776 → FC Try.prog 54 [fmD a] [bD a.forms] :=
  fm_ind fun o a v xs ih hs => l8Forms_of (.mk o a v xs) hs fun x hx => ih x hx (Nat.le_trans (fparts_wt (a := .mk o a v xs) hx) hs)
def Fm.good (a : Fm) : Bool := decide (a.nodes ≤ 40) && a.forms
theorem l8Good_c (a : Fm) (hs : a.wt ≤ 1099511627776) : FC Try.prog 32 [fmD a] [bD a.good] := by
  simp only [fmD, fmC_eq]
  refine FC_of Try.call32 Try.func32 rfl (by kernel_rfl) (by simp only [rd, List.map_cons, List.map_nil, List.length_cons, List.length_nil, Try.ntmps32]; omega) ?_
  simp -implicitDefEqProofs only [go_sem, Nat.reduceEqDiff, reduceIte, reduceCtorEq, Nat.reduceAdd, Nat.reduceMul, Int.reduceLE, Int.reduceNeg, Int.reduceToNat, Nat.reduceLeDiff, Nat.reduceSub, Nat.reduceLT, Nat.le_refl, Int.cast_ofNat_Int, Int.reduceLT, Int.reduceGT, Int.reduceGE, Int.reduceEq, Int.reduceBEq, Int.reduceBNe, Int.reduceAdd, Int.reduceSub, gt_iff_lt, ge_iff_le, Try.results32]
  refine callF (l8Many_c a hs 40 (by omega) (by omega)) (by simp -implicitDefEqProofs only [go_sem, Nat.reduceEqDiff, reduceIte, reduceCtorEq, Nat.reduceAdd, Nat.reduceMul, Int.reduceLE, Int.reduceNeg, Int.reduceToNat, Nat.reduceLeDiff, Nat.reduceSub, Nat.reduceLT, Nat.le_refl, Int.cast_ofNat_Int, Int.reduceLT, Int.reduceGT, Int.reduceGE, Int.reduceEq, Int.reduceBEq, Int.reduceBNe, Int.reduceAdd, Int.reduceSub, gt_iff_lt, ge_iff_le, fmC_eq]) ?_
  simp -implicitDefEqProofs only [go_sem, Nat.reduceEqDiff, reduceIte, reduceCtorEq, Nat.reduceAdd, Nat.reduceMul, Int.reduceLE, Int.reduceNeg, Int.reduceToNat, Nat.reduceLeDiff, Nat.reduceSub, Nat.reduceLT, Nat.le_refl, Int.cast_ofNat_Int, Int.reduceLT, Int.reduceGT, Int.reduceGE, Int.reduceEq, Int.reduceBEq, Int.reduceBNe, Int.reduceAdd, Int.reduceSub, gt_iff_lt, ge_iff_le, fmC_eq]
  rw [show decide (manyF a 40 ≤ 40) = decide (a.nodes ≤ 40) from manyF_le a 40]
  refine ⟨fun h => ?_, fun h => ?_⟩
  · refine callF (l8Forms_c a hs) (by simp -implicitDefEqProofs only [go_sem, Nat.reduceEqDiff, reduceIte, reduceCtorEq, Nat.reduceAdd, Nat.reduceMul, Int.reduceLE, Int.reduceNeg, Int.reduceToNat, Nat.reduceLeDiff, Nat.reduceSub, Nat.reduceLT, Nat.le_refl, Int.cast_ofNat_Int, Int.reduceLT, Int.reduceGT, Int.reduceGE, Int.reduceEq, Int.reduceBEq, Int.reduceBNe, Int.reduceAdd, Int.reduceSub, gt_iff_lt, ge_iff_le, fmC_eq]) ?_
    simp -implicitDefEqProofs only [go_sem, Nat.reduceEqDiff, reduceIte, reduceCtorEq, Nat.reduceAdd, Nat.reduceMul, Int.reduceLE, Int.reduceNeg, Int.reduceToNat, Nat.reduceLeDiff, Nat.reduceSub, Nat.reduceLT, Nat.le_refl, Int.cast_ofNat_Int, Int.reduceLT, Int.reduceGT, Int.reduceGE, Int.reduceEq, Int.reduceBEq, Int.reduceBNe, Int.reduceAdd, Int.reduceSub, gt_iff_lt, ge_iff_le, fmC_eq]
    rw [Fm.good, h, Bool.true_and]
  · rw [Fm.good, h, Bool.false_and]
end Go.Proofs.Ytgfjbbbkploonaa
