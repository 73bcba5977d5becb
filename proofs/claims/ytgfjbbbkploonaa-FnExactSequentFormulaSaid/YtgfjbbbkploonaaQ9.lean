import Derived.Test.YtgfjbbbkploonaaQ8
import Derived.Test.YtgfjbbbkploonaaQ1
import Derived.ProofKit
import Derived.Test.YtgfjbbbkploonaaQ5
import Derived.Test.YtgfjbbbkploonaaRows
import Derived.OpenShut
import Derived.ShutString
import Derived.ChangeOld
/-
  SequentFormula: the law.
  Conditions: none.
-/
namespace Go.Proofs.Ytgfjbbbkploonaa
set_option linter.unusedSimpArgs false
set_option linter.unusedVariables false
set_option maxRecDepth 4000
open Go.RowKit
theorem ctTSequent_wt (s : Sq) : ctTSequent s ≤ 4 * s.wt := by
  have h1 := ctFms_wt s.left
  have h2 := ctFms_wt s.right
  have hW := s.wt_eq
  obtain ⟨l, r⟩ := s
  simp only [ctTSequent]
  simp only at h1 h2 hW
  omega
set_option maxHeartbeats 4000000 in
theorem lawSequentFormula_c (s : Sq) : FC Try.prog 4 [sqD s] [bD true] := by
  simp only [sqD, sqC_eq]
  refine FC_ofN Try.call4 Try.func4 rfl (by kernel_rfl) (by simp only [rd, List.map_cons, List.map_nil, List.length_cons, List.length_nil, Try.ntmps4]; omega) ?_
  simp -implicitDefEqProofs only [go_sem, Nat.reduceEqDiff, reduceIte, reduceCtorEq, Nat.reduceAdd, Nat.reduceMul, Int.reduceLE, Int.reduceNeg, Int.reduceToNat, Nat.reduceLeDiff, Nat.reduceSub, Nat.reduceLT, Nat.le_refl, Int.cast_ofNat_Int, Int.reduceLT, Int.reduceGT, Int.reduceGE, Int.reduceEq, Int.reduceBEq, Nat.reduceBEq, Int.reduceBNe, Int.reduceAdd, Int.reduceSub, gt_iff_lt, ge_iff_le, Try.results4]
  refine callF (szSequent_c s 1048576 (by omega) (by omega)) (by simp -implicitDefEqProofs only [go_sem, Nat.reduceEqDiff, reduceIte, reduceCtorEq, Nat.reduceAdd, Nat.reduceMul, Int.reduceLE, Int.reduceNeg, Int.reduceToNat, Nat.reduceLeDiff, Nat.reduceSub, Nat.reduceLT, Nat.le_refl, Int.cast_ofNat_Int, Int.reduceLT, Int.reduceGT, Int.reduceGE, Int.reduceEq, Int.reduceBEq, Nat.reduceBEq, Int.reduceBNe, Int.reduceAdd, Int.reduceSub, gt_iff_lt, ge_iff_le, sqC_eq]) ?_
  simp -implicitDefEqProofs only [go_sem, Nat.reduceEqDiff, reduceIte, reduceCtorEq, Nat.reduceAdd, Nat.reduceMul, Int.reduceLE, Int.reduceNeg, Int.reduceToNat, Nat.reduceLeDiff, Nat.reduceSub, Nat.reduceLT, Nat.le_refl, Int.cast_ofNat_Int, Int.reduceLT, Int.reduceGT, Int.reduceGE, Int.reduceEq, Int.reduceBEq, Nat.reduceBEq, Int.reduceBNe, Int.reduceAdd, Int.reduceSub, gt_iff_lt, ge_iff_le, sqC_eq]
  refine ⟨fun h => trivial, fun h => ?_⟩
  have hw : s.wt ≤ 1048576 := by have := (szR_pos (by simpa using h)).1; omega
  have hrw := sqR_wt s
  have HS := specSequentFormula_c s hw
  have HI := implSequentFormula_c s hw
  generalize sqR s = R at HS HI hrw
  generalize (s.good && (sqF s).good) = G at HS HI
  simp only [fmD, sqD, sqC_eq, fmC_eq R] at HS HI
  refine callF (toSequent_c s (by omega)) (by simp -implicitDefEqProofs only [go_sem, Nat.reduceEqDiff, reduceIte, reduceCtorEq, Nat.reduceAdd, Nat.reduceMul, Int.reduceLE, Int.reduceNeg, Int.reduceToNat, Nat.reduceLeDiff, Nat.reduceSub, Nat.reduceLT, Nat.le_refl, Int.cast_ofNat_Int, Int.reduceLT, Int.reduceGT, Int.reduceGE, Int.reduceEq, Int.reduceBEq, Nat.reduceBEq, Int.reduceBNe, Int.reduceAdd, Int.reduceSub, gt_iff_lt, ge_iff_le, sqC_eq]) ?_
  simp -implicitDefEqProofs only [go_sem, Nat.reduceEqDiff, reduceIte, reduceCtorEq, Nat.reduceAdd, Nat.reduceMul, Int.reduceLE, Int.reduceNeg, Int.reduceToNat, Nat.reduceLeDiff, Nat.reduceSub, Nat.reduceLT, Nat.le_refl, Int.cast_ofNat_Int, Int.reduceLT, Int.reduceGT, Int.reduceGE, Int.reduceEq, Int.reduceBEq, Nat.reduceBEq, Int.reduceBNe, Int.reduceAdd, Int.reduceSub, gt_iff_lt, ge_iff_le, sqC_eq]
  refine callF (HS) (by simp -implicitDefEqProofs only [go_sem, Nat.reduceEqDiff, reduceIte, reduceCtorEq, Nat.reduceAdd, Nat.reduceMul, Int.reduceLE, Int.reduceNeg, Int.reduceToNat, Nat.reduceLeDiff, Nat.reduceSub, Nat.reduceLT, Nat.le_refl, Int.cast_ofNat_Int, Int.reduceLT, Int.reduceGT, Int.reduceGE, Int.reduceEq, Int.reduceBEq, Nat.reduceBEq, Int.reduceBNe, Int.reduceAdd, Int.reduceSub, gt_iff_lt, ge_iff_le, sqC_eq]) ?_
  simp -implicitDefEqProofs only [go_sem, Nat.reduceEqDiff, reduceIte, reduceCtorEq, Nat.reduceAdd, Nat.reduceMul, Int.reduceLE, Int.reduceNeg, Int.reduceToNat, Nat.reduceLeDiff, Nat.reduceSub, Nat.reduceLT, Nat.le_refl, Int.cast_ofNat_Int, Int.reduceLT, Int.reduceGT, Int.reduceGE, Int.reduceEq, Int.reduceBEq, Nat.reduceBEq, Int.reduceBNe, Int.reduceAdd, Int.reduceSub, gt_iff_lt, ge_iff_le, sqC_eq]
  refine callF (toSequent_c s (by omega)) (by simp -implicitDefEqProofs only [go_sem, Nat.reduceEqDiff, reduceIte, reduceCtorEq, Nat.reduceAdd, Nat.reduceMul, Int.reduceLE, Int.reduceNeg, Int.reduceToNat, Nat.reduceLeDiff, Nat.reduceSub, Nat.reduceLT, Nat.le_refl, Int.cast_ofNat_Int, Int.reduceLT, Int.reduceGT, Int.reduceGE, Int.reduceEq, Int.reduceBEq, Nat.reduceBEq, Int.reduceBNe, Int.reduceAdd, Int.reduceSub, gt_iff_lt, ge_iff_le, sqC_eq]) ?_
  simp -implicitDefEqProofs only [go_sem, Nat.reduceEqDiff, reduceIte, reduceCtorEq, Nat.reduceAdd, Nat.reduceMul, Int.reduceLE, Int.reduceNeg, Int.reduceToNat, Nat.reduceLeDiff, Nat.reduceSub, Nat.reduceLT, Nat.le_refl, Int.cast_ofNat_Int, Int.reduceLT, Int.reduceGT, Int.reduceGE, Int.reduceEq, Int.reduceBEq, Nat.reduceBEq, Int.reduceBNe, Int.reduceAdd, Int.reduceSub, gt_iff_lt, ge_iff_le, sqC_eq]
  refine callF (HI) (by simp -implicitDefEqProofs only [go_sem, Nat.reduceEqDiff, reduceIte, reduceCtorEq, Nat.reduceAdd, Nat.reduceMul, Int.reduceLE, Int.reduceNeg, Int.reduceToNat, Nat.reduceLeDiff, Nat.reduceSub, Nat.reduceLT, Nat.le_refl, Int.cast_ofNat_Int, Int.reduceLT, Int.reduceGT, Int.reduceGE, Int.reduceEq, Int.reduceBEq, Nat.reduceBEq, Int.reduceBNe, Int.reduceAdd, Int.reduceSub, gt_iff_lt, ge_iff_le, sqC_eq]) ?_
  simp -implicitDefEqProofs only [go_sem, Nat.reduceEqDiff, reduceIte, reduceCtorEq, Nat.reduceAdd, Nat.reduceMul, Int.reduceLE, Int.reduceNeg, Int.reduceToNat, Nat.reduceLeDiff, Nat.reduceSub, Nat.reduceLT, Nat.le_refl, Int.cast_ofNat_Int, Int.reduceLT, Int.reduceGT, Int.reduceGE, Int.reduceEq, Int.reduceBEq, Nat.reduceBEq, Int.reduceBNe, Int.reduceAdd, Int.reduceSub, gt_iff_lt, ge_iff_le, sqC_eq]
  refine callF (eqFormula_c R R) (by simp -implicitDefEqProofs only [go_sem, Nat.reduceEqDiff, reduceIte, reduceCtorEq, Nat.reduceAdd, Nat.reduceMul, Int.reduceLE, Int.reduceNeg, Int.reduceToNat, Nat.reduceLeDiff, Nat.reduceSub, Nat.reduceLT, Nat.le_refl, Int.cast_ofNat_Int, Int.reduceLT, Int.reduceGT, Int.reduceGE, Int.reduceEq, Int.reduceBEq, Nat.reduceBEq, Int.reduceBNe, Int.reduceAdd, Int.reduceSub, gt_iff_lt, ge_iff_le, fmC_eq R, same_self]) ?_
  simp -implicitDefEqProofs only [go_sem, Nat.reduceEqDiff, reduceIte, reduceCtorEq, Nat.reduceAdd, Nat.reduceMul, Int.reduceLE, Int.reduceNeg, Int.reduceToNat, Nat.reduceLeDiff, Nat.reduceSub, Nat.reduceLT, Nat.le_refl, Int.cast_ofNat_Int, Int.reduceLT, Int.reduceGT, Int.reduceGE, Int.reduceEq, Int.reduceBEq, Nat.reduceBEq, Int.reduceBNe, Int.reduceAdd, Int.reduceSub, gt_iff_lt, ge_iff_le, fmC_eq R, same_self]
  refine ⟨fun h => by simp at h, fun _ => ?_⟩
  refine drawn (by kernel_rfl) ?_
  simp -implicitDefEqProofs only [go_sem, Nat.reduceEqDiff, reduceIte, reduceCtorEq, Nat.reduceAdd, Nat.reduceMul, Int.reduceLE, Int.reduceNeg, Int.reduceToNat, Nat.reduceLeDiff, Nat.reduceSub, Nat.reduceLT, Nat.le_refl, Int.cast_ofNat_Int, Int.reduceLT, Int.reduceGT, Int.reduceGE, Int.reduceEq, Int.reduceBEq, Nat.reduceBEq, Int.reduceBNe, Int.reduceAdd, Int.reduceSub, gt_iff_lt, ge_iff_le]
  refine dCallF (toSequent_c s (by omega)) (by simp -implicitDefEqProofs only [go_sem, Nat.reduceEqDiff, reduceIte, reduceCtorEq, Nat.reduceAdd, Nat.reduceMul, Int.reduceLE, Int.reduceNeg, Int.reduceToNat, Nat.reduceLeDiff, Nat.reduceSub, Nat.reduceLT, Nat.le_refl, Int.cast_ofNat_Int, Int.reduceLT, Int.reduceGT, Int.reduceGE, Int.reduceEq, Int.reduceBEq, Nat.reduceBEq, Int.reduceBNe, Int.reduceAdd, Int.reduceSub, gt_iff_lt, ge_iff_le, sqC_eq]) ?_
  simp -implicitDefEqProofs only [go_sem, Nat.reduceEqDiff, reduceIte, reduceCtorEq, Nat.reduceAdd, Nat.reduceMul, Int.reduceLE, Int.reduceNeg, Int.reduceToNat, Nat.reduceLeDiff, Nat.reduceSub, Nat.reduceLT, Nat.le_refl, Int.cast_ofNat_Int, Int.reduceLT, Int.reduceGT, Int.reduceGE, Int.reduceEq, Int.reduceBEq, Nat.reduceBEq, Int.reduceBNe, Int.reduceAdd, Int.reduceSub, gt_iff_lt, ge_iff_le, sqC_eq]
  refine dCallF (eqSequent_c s s) (by simp -implicitDefEqProofs only [go_sem, Nat.reduceEqDiff, reduceIte, reduceCtorEq, Nat.reduceAdd, Nat.reduceMul, Int.reduceLE, Int.reduceNeg, Int.reduceToNat, Nat.reduceLeDiff, Nat.reduceSub, Nat.reduceLT, Nat.le_refl, Int.cast_ofNat_Int, Int.reduceLT, Int.reduceGT, Int.reduceGE, Int.reduceEq, Int.reduceBEq, Nat.reduceBEq, Int.reduceBNe, Int.reduceAdd, Int.reduceSub, gt_iff_lt, ge_iff_le, sqC_eq]) ?_
  simp -implicitDefEqProofs only [go_sem, Nat.reduceEqDiff, reduceIte, reduceCtorEq, Nat.reduceAdd, Nat.reduceMul, Int.reduceLE, Int.reduceNeg, Int.reduceToNat, Nat.reduceLeDiff, Nat.reduceSub, Nat.reduceLT, Nat.le_refl, Int.cast_ofNat_Int, Int.reduceLT, Int.reduceGT, Int.reduceGE, Int.reduceEq, Int.reduceBEq, Nat.reduceBEq, Int.reduceBNe, Int.reduceAdd, Int.reduceSub, gt_iff_lt, ge_iff_le, sqC_eq]
  refine ⟨by kernel_rfl, fun h => ?_, fun _ => ?_⟩
  · simp [same_self] at h
  have hc := ctTSequent_wt s
  have hcR := ctTFormula_wt R
  have HM := markSequent_c s 1 (by omega) (by omega)
  have HM2 := markFormula_c R 1 (by omega) (by omega)
  have HL := heldFormula_c R 1 (by omega) (by omega)
  have hm := (mkTSequent_ct s 1).1
  have hmR := (mkTFormula_ct R 1).1
  rw [mkTFormula_cells] at HM2 HL
  simp only [sqC_eq] at HM
  generalize (mkTSequent s 1).2 = k1 at HM hm
  generalize (mkTFormula R 1).2 = k2 at HM2 HL hmR
  generalize (mkTSequent s 1).1.left = f2 at HM
  generalize (mkTSequent s 1).1.right = f5 at HM
  generalize (mkTFormula R 1).1.atom.args = r2 at HM2 HL
  generalize (mkTFormula R 1).1.parts = r5 at HM2 HL
  rw [fmC_eq] at HM2
  refine callId (l := [(1, .one (.bx 1 0)), (2, vT (.bool false)), (4, .one (.bx 4 0)), (5, vT (.bool G)), (6, .one (.bx 6 0)), (7, .one (.bx 7 0)), (8, vT (.bool G)), (46, .agg [.ow 832 0, .ow 833 0]), (47, vI 1)]) (bl := [(1, [.rn (fmS s.left), .rn (fmS s.right)]), (4, [.t (.int .i64 R.op), .t (.str R.atom.name), .ow 706 0, .t (.str R.var), .ow 708 0]), (6, [.ow 832 0, .ow 833 0]), (7, [.t (.int .i64 R.op), .t (.str R.atom.name), .ow 930 0, .t (.str R.var), .ow 932 0])]) (el := [(706, ⟨true, 2, R.atom.args.map tmC, 0, true⟩), (708, ⟨true, 5, R.parts.map fmC, 0, true⟩), (832, ⟨true, 5, s.left.map fmC, 0, true⟩), (833, ⟨true, 5, s.right.map fmC, 0, true⟩), (930, ⟨true, 2, R.atom.args.map tmC, 0, true⟩), (932, ⟨true, 5, R.parts.map fmC, 0, true⟩)]) HM (by simp -implicitDefEqProofs only [go_sem, Nat.reduceEqDiff, reduceIte, reduceCtorEq, Nat.reduceAdd, Nat.reduceMul, Int.reduceLE, Int.reduceNeg, Int.reduceToNat, Nat.reduceLeDiff, Nat.reduceSub, Nat.reduceLT, Nat.le_refl, Int.cast_ofNat_Int, Int.reduceLT, Int.reduceGT, Int.reduceGE, Int.reduceEq, Int.reduceBEq, Nat.reduceBEq, Int.reduceBNe, Int.reduceAdd, Int.reduceSub, gt_iff_lt, ge_iff_le, fmS]) rfl rfl rfl (by simp -implicitDefEqProofs only [go_sem, Nat.reduceEqDiff, reduceIte, reduceCtorEq, Nat.reduceAdd, Nat.reduceMul, Int.reduceLE, Int.reduceNeg, Int.reduceToNat, Nat.reduceLeDiff, Nat.reduceSub, Nat.reduceLT, Nat.le_refl, Int.cast_ofNat_Int, Int.reduceLT, Int.reduceGT, Int.reduceGE, Int.reduceEq, Int.reduceBEq, Nat.reduceBEq, Int.reduceBNe, Int.reduceAdd, Int.reduceSub, gt_iff_lt, ge_iff_le, fmS]) rfl ?_
  simp -implicitDefEqProofs only [go_sem, Nat.reduceEqDiff, reduceIte, reduceCtorEq, Nat.reduceAdd, Nat.reduceMul, Int.reduceLE, Int.reduceNeg, Int.reduceToNat, Nat.reduceLeDiff, Nat.reduceSub, Nat.reduceLT, Nat.le_refl, Int.cast_ofNat_Int, Int.reduceLT, Int.reduceGT, Int.reduceGE, Int.reduceEq, Int.reduceBEq, Nat.reduceBEq, Int.reduceBNe, Int.reduceAdd, Int.reduceSub, gt_iff_lt, ge_iff_le, fmS]
  refine callF (eqFormula_c R R) (by simp -implicitDefEqProofs only [go_sem, Nat.reduceEqDiff, reduceIte, reduceCtorEq, Nat.reduceAdd, Nat.reduceMul, Int.reduceLE, Int.reduceNeg, Int.reduceToNat, Nat.reduceLeDiff, Nat.reduceSub, Nat.reduceLT, Nat.le_refl, Int.cast_ofNat_Int, Int.reduceLT, Int.reduceGT, Int.reduceGE, Int.reduceEq, Int.reduceBEq, Nat.reduceBEq, Int.reduceBNe, Int.reduceAdd, Int.reduceSub, gt_iff_lt, ge_iff_le, fmC_eq R, same_self, fmS]) ?_
  simp -implicitDefEqProofs only [go_sem, Nat.reduceEqDiff, reduceIte, reduceCtorEq, Nat.reduceAdd, Nat.reduceMul, Int.reduceLE, Int.reduceNeg, Int.reduceToNat, Nat.reduceLeDiff, Nat.reduceSub, Nat.reduceLT, Nat.le_refl, Int.cast_ofNat_Int, Int.reduceLT, Int.reduceGT, Int.reduceGE, Int.reduceEq, Int.reduceBEq, Nat.reduceBEq, Int.reduceBNe, Int.reduceAdd, Int.reduceSub, gt_iff_lt, ge_iff_le, fmC_eq R, same_self, fmS]
  refine ⟨fun h => by simp at h, fun _ => ?_⟩
  refine callId (l := [(1, .one (.bx 1 0)), (2, vT (.bool false)), (4, .one (.bx 4 0)), (5, vT (.bool G)), (7, .one (.bx 7 0)), (8, vT (.bool G)), (62, .agg [.t (.int .i64 R.op), .t (.str R.atom.name), .ow 930 0, .t (.str R.var), .ow 932 0]), (63, vI 1)]) (bl := [(1, [.rn (fmS s.left), .rn (fmS s.right)]), (4, [.t (.int .i64 R.op), .t (.str R.atom.name), .ow 706 0, .t (.str R.var), .ow 708 0]), (7, [.t (.int .i64 R.op), .t (.str R.atom.name), .ow 930 0, .t (.str R.var), .ow 932 0])]) (el := [(706, ⟨true, 2, R.atom.args.map tmC, 0, true⟩), (708, ⟨true, 5, R.parts.map fmC, 0, true⟩), (930, ⟨true, 2, R.atom.args.map tmC, 0, true⟩), (932, ⟨true, 5, R.parts.map fmC, 0, true⟩)]) HM2 (by simp -implicitDefEqProofs only [go_sem, Nat.reduceEqDiff, reduceIte, reduceCtorEq, Nat.reduceAdd, Nat.reduceMul, Int.reduceLE, Int.reduceNeg, Int.reduceToNat, Nat.reduceLeDiff, Nat.reduceSub, Nat.reduceLT, Nat.le_refl, Int.cast_ofNat_Int, Int.reduceLT, Int.reduceGT, Int.reduceGE, Int.reduceEq, Int.reduceBEq, Nat.reduceBEq, Int.reduceBNe, Int.reduceAdd, Int.reduceSub, gt_iff_lt, ge_iff_le, fmC_eq R, fmS]) rfl rfl rfl (by simp -implicitDefEqProofs only [go_sem, Nat.reduceEqDiff, reduceIte, reduceCtorEq, Nat.reduceAdd, Nat.reduceMul, Int.reduceLE, Int.reduceNeg, Int.reduceToNat, Nat.reduceLeDiff, Nat.reduceSub, Nat.reduceLT, Nat.le_refl, Int.cast_ofNat_Int, Int.reduceLT, Int.reduceGT, Int.reduceGE, Int.reduceEq, Int.reduceBEq, Nat.reduceBEq, Int.reduceBNe, Int.reduceAdd, Int.reduceSub, gt_iff_lt, ge_iff_le, fmC_eq R, fmS]) rfl ?_
  simp -implicitDefEqProofs only [go_sem, Nat.reduceEqDiff, reduceIte, reduceCtorEq, Nat.reduceAdd, Nat.reduceMul, Int.reduceLE, Int.reduceNeg, Int.reduceToNat, Nat.reduceLeDiff, Nat.reduceSub, Nat.reduceLT, Nat.le_refl, Int.cast_ofNat_Int, Int.reduceLT, Int.reduceGT, Int.reduceGE, Int.reduceEq, Int.reduceBEq, Nat.reduceBEq, Int.reduceBNe, Int.reduceAdd, Int.reduceSub, gt_iff_lt, ge_iff_le, fmC_eq R, fmS]
  refine callF (HL) (by simp -implicitDefEqProofs only [go_sem, Nat.reduceEqDiff, reduceIte, reduceCtorEq, Nat.reduceAdd, Nat.reduceMul, Int.reduceLE, Int.reduceNeg, Int.reduceToNat, Nat.reduceLeDiff, Nat.reduceSub, Nat.reduceLT, Nat.le_refl, Int.cast_ofNat_Int, Int.reduceLT, Int.reduceGT, Int.reduceGE, Int.reduceEq, Int.reduceBEq, Nat.reduceBEq, Int.reduceBNe, Int.reduceAdd, Int.reduceSub, gt_iff_lt, ge_iff_le]) ?_
  simp -implicitDefEqProofs only [go_sem, Nat.reduceEqDiff, reduceIte, reduceCtorEq, Nat.reduceAdd, Nat.reduceMul, Int.reduceLE, Int.reduceNeg, Int.reduceToNat, Nat.reduceLeDiff, Nat.reduceSub, Nat.reduceLT, Nat.le_refl, Int.cast_ofNat_Int, Int.reduceLT, Int.reduceGT, Int.reduceGE, Int.reduceEq, Int.reduceBEq, Nat.reduceBEq, Int.reduceBNe, Int.reduceAdd, Int.reduceSub, gt_iff_lt, ge_iff_le]
  refine ⟨fun h => by simp at h, fun _ => ?_⟩
  refine callF (toSequent_c s (by omega)) (by simp -implicitDefEqProofs only [go_sem, Nat.reduceEqDiff, reduceIte, reduceCtorEq, Nat.reduceAdd, Nat.reduceMul, Int.reduceLE, Int.reduceNeg, Int.reduceToNat, Nat.reduceLeDiff, Nat.reduceSub, Nat.reduceLT, Nat.le_refl, Int.cast_ofNat_Int, Int.reduceLT, Int.reduceGT, Int.reduceGE, Int.reduceEq, Int.reduceBEq, Nat.reduceBEq, Int.reduceBNe, Int.reduceAdd, Int.reduceSub, gt_iff_lt, ge_iff_le, sqC_eq, fmS]) ?_
  simp -implicitDefEqProofs only [go_sem, Nat.reduceEqDiff, reduceIte, reduceCtorEq, Nat.reduceAdd, Nat.reduceMul, Int.reduceLE, Int.reduceNeg, Int.reduceToNat, Nat.reduceLeDiff, Nat.reduceSub, Nat.reduceLT, Nat.le_refl, Int.cast_ofNat_Int, Int.reduceLT, Int.reduceGT, Int.reduceGE, Int.reduceEq, Int.reduceBEq, Nat.reduceBEq, Int.reduceBNe, Int.reduceAdd, Int.reduceSub, gt_iff_lt, ge_iff_le, sqC_eq, fmS]
  refine callF (HI) (by simp -implicitDefEqProofs only [go_sem, Nat.reduceEqDiff, reduceIte, reduceCtorEq, Nat.reduceAdd, Nat.reduceMul, Int.reduceLE, Int.reduceNeg, Int.reduceToNat, Nat.reduceLeDiff, Nat.reduceSub, Nat.reduceLT, Nat.le_refl, Int.cast_ofNat_Int, Int.reduceLT, Int.reduceGT, Int.reduceGE, Int.reduceEq, Int.reduceBEq, Nat.reduceBEq, Int.reduceBNe, Int.reduceAdd, Int.reduceSub, gt_iff_lt, ge_iff_le, sqC_eq, fmS]) ?_
  simp -implicitDefEqProofs only [go_sem, Nat.reduceEqDiff, reduceIte, reduceCtorEq, Nat.reduceAdd, Nat.reduceMul, Int.reduceLE, Int.reduceNeg, Int.reduceToNat, Nat.reduceLeDiff, Nat.reduceSub, Nat.reduceLT, Nat.le_refl, Int.cast_ofNat_Int, Int.reduceLT, Int.reduceGT, Int.reduceGE, Int.reduceEq, Int.reduceBEq, Nat.reduceBEq, Int.reduceBNe, Int.reduceAdd, Int.reduceSub, gt_iff_lt, ge_iff_le, sqC_eq, fmS]
  refine callF (eqFormula_c R R) (by simp -implicitDefEqProofs only [go_sem, Nat.reduceEqDiff, reduceIte, reduceCtorEq, Nat.reduceAdd, Nat.reduceMul, Int.reduceLE, Int.reduceNeg, Int.reduceToNat, Nat.reduceLeDiff, Nat.reduceSub, Nat.reduceLT, Nat.le_refl, Int.cast_ofNat_Int, Int.reduceLT, Int.reduceGT, Int.reduceGE, Int.reduceEq, Int.reduceBEq, Nat.reduceBEq, Int.reduceBNe, Int.reduceAdd, Int.reduceSub, gt_iff_lt, ge_iff_le, fmC_eq R, same_self]) ?_
  simp -implicitDefEqProofs only [go_sem, Nat.reduceEqDiff, reduceIte, reduceCtorEq, Nat.reduceAdd, Nat.reduceMul, Int.reduceLE, Int.reduceNeg, Int.reduceToNat, Nat.reduceLeDiff, Nat.reduceSub, Nat.reduceLT, Nat.le_refl, Int.cast_ofNat_Int, Int.reduceLT, Int.reduceGT, Int.reduceGE, Int.reduceEq, Int.reduceBEq, Nat.reduceBEq, Int.reduceBNe, Int.reduceAdd, Int.reduceSub, gt_iff_lt, ge_iff_le, fmC_eq R, same_self]
  refine ⟨fun h => by simp at h, fun _ => ?_⟩
  refine callF (HL) (by simp -implicitDefEqProofs only [go_sem, Nat.reduceEqDiff, reduceIte, reduceCtorEq, Nat.reduceAdd, Nat.reduceMul, Int.reduceLE, Int.reduceNeg, Int.reduceToNat, Nat.reduceLeDiff, Nat.reduceSub, Nat.reduceLT, Nat.le_refl, Int.cast_ofNat_Int, Int.reduceLT, Int.reduceGT, Int.reduceGE, Int.reduceEq, Int.reduceBEq, Nat.reduceBEq, Int.reduceBNe, Int.reduceAdd, Int.reduceSub, gt_iff_lt, ge_iff_le]) ?_
  simp -implicitDefEqProofs only [go_sem, Nat.reduceEqDiff, reduceIte, reduceCtorEq, Nat.reduceAdd, Nat.reduceMul, Int.reduceLE, Int.reduceNeg, Int.reduceToNat, Nat.reduceLeDiff, Nat.reduceSub, Nat.reduceLT, Nat.le_refl, Int.cast_ofNat_Int, Int.reduceLT, Int.reduceGT, Int.reduceGE, Int.reduceEq, Int.reduceBEq, Nat.reduceBEq, Int.reduceBNe, Int.reduceAdd, Int.reduceSub, gt_iff_lt, ge_iff_le]
  refine ⟨fun h => by simp at h, fun _ => trivial⟩
end Go.Proofs.Ytgfjbbbkploonaa
/-
  What a row's reading of an argument gives: the reading of plain data.
  Conditions: none.
-/
namespace Go.Proofs.Ytgfjbbbkploonaa
set_option linter.unusedSimpArgs false
set_option linter.unusedVariables false
set_option maxRecDepth 4000
open Go.RowKit

/-- A plain datum as a tree. -/
inductive PD where
  | int (n : Int)
  | bool (b : Bool)
  | str (s : List UInt8)
  | sl (sz : Nat) (xs : List PD)
  | st (fs : List PD)
mutual
/-- Its cells. -/
def PD.cells : PD → List T
  | .int n => [.int .i64 n]
  | .bool b => [.bool b]
  | .str s => [.str s]
  | .sl sz xs => [.sl sz (PD.rows xs)]
  | .st fs => PD.flat fs
def PD.rows : List PD → List (List T)
  | [] => []
  | x :: xs => x.cells :: PD.rows xs
def PD.flat : List PD → List T
  | [] => []
  | x :: xs => x.cells ++ PD.flat xs
end
theorem PD.rows_map (xs : List PD) : PD.rows xs = xs.map PD.cells := by
  induction xs with
  | nil => rfl
  | cons x xs ih => rw [PD.rows, ih]; rfl
theorem repAll_append {w : World} {A : Nat → Prop} : ∀ {t1 t2 : List T} {v1 v2 : List Value}, RepAll w A t1 v1 → RepAll w A t2 v2 → RepAll w A (t1 ++ t2) (v1 ++ v2)
  | [], _, v1, _, h, k => by unfold RepAll at h; subst h; exact k
  | t :: ts, _, v1, _, h, k => by
    unfold RepAll at h
    obtain ⟨v, vs', rfl, h1, h2⟩ := h
    rw [List.cons_append, List.cons_append]
    unfold RepAll
    exact ⟨v, _, rfl, h1, repAll_append h2 k⟩
theorem repAll_one {w : World} {A : Nat → Prop} {t : T} {v : Value} (h : RepV w A t v) : RepAll w A [t] [v] := by
  unfold RepAll
  exact ⟨v, [], rfl, h, by unfold RepAll; rfl⟩
/-- The fields lie one behind the other, from offset o to n, their types among ok. -/
def fieldsOk (P : Program) (ok : TypeId → Bool) : List Field → Nat → Nat → Bool
  | [], o, n => o == n
  | f :: fs, o, n => f.offset == o && ok f.type && fieldsOk P ok fs (o + P.cellsOf f.type) n
/-- A type of plain data: int, bool, string, slice, struct. -/
def typeOk (P : Program) (ok : TypeId → Bool) (t : TypeId) : Bool :=
  match P.underlying t with
  | some (.int k) => k == .i64
  | some .bool | some .string => true
  | some (.slice e) => ok e && decide (0 < P.cellsOf e)
  | some (.struct fs) => fieldsOk P ok fs.toList 0 (P.cellsOf t)
  | _ => false

mutual
/-- The datum is of the type. -/
def Shape (P : Program) : TypeId → PD → Prop
  | t, .int _ => P.underlying t = some (.int .i64)
  | t, .bool _ => P.underlying t = some .bool
  | t, .str _ => P.underlying t = some .string
  | t, .sl sz xs => ∃ e, P.underlying t = some (.slice e) ∧ sz = P.cellsOf e ∧ ShapeL P e xs
  | t, .st fs => ∃ fl, P.underlying t = some (.struct fl) ∧ ShapeF P (fl.toList.map (·.type)) fs
def ShapeL (P : Program) : TypeId → List PD → Prop
  | _, [] => True
  | e, x :: xs => Shape P e x ∧ ShapeL P e xs
def ShapeF (P : Program) : List TypeId → List PD → Prop
  | ts, [] => ts = []
  | ts, x :: xs => ∃ t ts', ts = t :: ts' ∧ Shape P t x ∧ ShapeF P ts' xs
end

theorem ShapeL.of_mem {P : Program} {e : TypeId} : ∀ {xs : List PD}, (∀ x ∈ xs, Shape P e x) → ShapeL P e xs
  | [], _ => by simp [ShapeL]
  | x :: xs, h => by rw [ShapeL]; exact ⟨h x (by simp), ShapeL.of_mem fun y hy => h y (by simp [hy])⟩
theorem ShapeL.mem {P : Program} {e : TypeId} : ∀ {xs : List PD}, ShapeL P e xs → ∀ x ∈ xs, Shape P e x
  | [], _, x, hx => by simp at hx
  | y :: xs, h, x, hx => by
    rw [ShapeL] at h
    rcases List.mem_cons.1 hx with rfl | hx
    · exact h.1
    · exact ShapeL.mem h.2 x hx

theorem build_list {α : Type} (n : Nat) (p : Nat → α → Prop) (h : ∀ i, i < n → ∃ a, p i a) : ∃ l : List α, l.length = n ∧ ∀ i (hi : i < l.length), p i l[i] := by
  induction n with
  | zero => exact ⟨[], rfl, fun i hi => by simp at hi⟩
  | succ n ih =>
    obtain ⟨l, h1, h2⟩ := ih fun i hi => h i (by omega)
    obtain ⟨a, ha⟩ := h n (by omega)
    refine ⟨l ++ [a], by simp [h1], fun i hi => ?_⟩
    rcases Nat.lt_or_ge i l.length with hl | hl
    · rw [List.getElem_append_left hl]; exact h2 i hl
    · have : i = n := by simp at hi; omega
      subst this
      rw [List.getElem_append_right (by omega)]
      simpa [h1] using ha

section
variable {H : Type} {enc : TypeId × Value → H} {P : Program} {w : World} {ok : TypeId → Bool}

theorem rep_fields {n : Nat} (ih : ∀ t cs x, ok t = true → DataW.trod enc P w 0 (fun _ => true) true n t cs = some x → ∃ d : PD, RepAll w (· < w.heap.size) d.cells cs ∧ Shape P t d) : ∀ (fs : List Field) (o m : Nat) (cs : List Value), fieldsOk P ok fs o m = true → cs.length = m →
    (∀ f ∈ fs, ∃ x, DataW.trod enc P w 0 (fun _ => true) true n f.type ((cs.drop f.offset).take (P.cellsOf f.type)) = some x) → ∃ ds : List PD, RepAll w (· < w.heap.size) (PD.flat ds) (cs.drop o) ∧ ShapeF P (fs.map (·.type)) ds
  | [], o, m, cs, h, hl, _ => by
    rw [fieldsOk, beq_iff_eq] at h
    exact ⟨[], by rw [PD.flat, List.drop_of_length_le (by omega)]; unfold RepAll; rfl, by rw [List.map_nil, ShapeF]⟩
  | f :: fs, o, m, cs, h, hl, hx => by
    rw [fieldsOk, Bool.and_eq_true, Bool.and_eq_true, beq_iff_eq] at h
    obtain ⟨⟨h1, h2⟩, h3⟩ := h
    obtain ⟨x, hx0⟩ := hx f (by simp)
    obtain ⟨d, hd1, hd2⟩ := ih _ _ _ h2 hx0
    obtain ⟨ds, hs1, hs2⟩ := rep_fields ih fs _ m cs h3 hl fun g hg => hx g (by simp [hg])
    refine ⟨d :: ds, ?_, ?_⟩
    · rw [PD.flat]
      have := repAll_append hd1 hs1
      rw [h1, ← List.drop_drop, List.take_append_drop] at this
      exact this
    · rw [List.map_cons, ShapeF]
      exact ⟨_, _, rfl, hd2, hs2⟩

/-- An argument's reading by the row is a reading of a plain tree. -/
theorem rep_of_trod (hclosed : ∀ t, ok t = true → typeOk P ok t = true) : ∀ (fuel : Nat) (t : TypeId) (cs : List Value) (x : DataW H × List MemPlace), ok t = true → DataW.trod enc P w 0 (fun _ => true) true fuel t cs = some x →
    ∃ d : PD, RepAll w (· < w.heap.size) d.cells cs ∧ Shape P t d := by
  intro fuel
  induction fuel with
  | zero => intro t cs x _ h; simp [DataW.trod] at h
  | succ n ih =>
    intro t cs x hok h
    have ht := hclosed t hok
    unfold typeOk at ht
    split at ht
    · rename_i k hu
      have hk : k = .i64 := by simpa using ht
      subst hk
      obtain ⟨z, rfl, rfl, hw⟩ := DataW.trod_int hu h
      refine ⟨.int z, ?_, ?_⟩
      · rw [PD.cells]
        refine repAll_one ?_
        unfold RepV
        simp [Lit.wf, IntKind.min, IntKind.max, IntKind.bits, IntKind.signed] at hw
        have m1 : IntKind.min .i64 = -9223372036854775808 := by decide
        have m2 : IntKind.max .i64 = 9223372036854775807 := by decide
        exact ⟨rfl, by omega, by omega⟩
      · rw [Shape]; exact hu
    · rename_i hu
      obtain ⟨b, rfl, rfl⟩ := DataW.trod_bool hu h
      exact ⟨.bool b, by rw [PD.cells]; exact repAll_one (by unfold RepV; rfl), by rw [Shape]; exact hu⟩
    · rename_i hu
      obtain ⟨s, rfl, rfl, hs⟩ := DataW.trod_string hu h
      unfold maxLen at hs
      have hz : s.data.toList.length = s.size := by rw [Array.length_toList]; rfl
      refine ⟨.str s.data.toList, ?_, by rw [Shape]; exact hu⟩
      rw [PD.cells]
      refine repAll_one ?_
      unfold RepV
      exact ⟨rfl, by rw [hz]; omega⟩
    · rename_i e hu
      rw [Bool.and_eq_true, decide_eq_true_eq] at ht
      obtain ⟨he, hc⟩ := ht
      rcases DataW.trod_slice hu h with ⟨rfl, _⟩ | ⟨a, len, cap, elems, rest, m, hm, rfl, _, _, hl, hcap, hel, hat, _⟩
      · refine ⟨.sl (P.cellsOf e) [], ?_, ?_⟩
        · rw [PD.cells, PD.rows]
          refine repAll_one ?_
          unfold RepV
          exact ⟨none, 0, rfl, Nat.le_refl _, by omega, Or.inl rfl⟩
        · rw [Shape]; exact ⟨e, hu, rfl, by rw [ShapeL]; trivial⟩
      · obtain rfl : n = m := by omega
        unfold maxLen at hcap
        have hone : ∀ i, i < len → ∃ p : PD × List Value, p.2.length = P.cellsOf e ∧ (∀ j, j < P.cellsOf e → w.cell? ((a.add (i * P.cellsOf e)).add j) = p.2[j]?) ∧ RepAll w (· < w.heap.size) p.1.cells p.2 ∧ Shape P e p.1 := by
          intro i hi
          have h1 := hat i hi
          rw [List.getElem?_eq_getElem (by omega)] at h1
          obtain ⟨cs', hc1, hc2⟩ := Option.bind_eq_some_iff.1 h1
          obtain ⟨_, hlen, hcell⟩ := World.cells?_some hc1
          obtain ⟨d, hd1, hd2⟩ := ih e cs' _ he hc2
          exact ⟨(d, cs'), hlen, hcell, hd1, hd2⟩
        obtain ⟨l, hl1, hl2⟩ := build_list len _ hone
        refine ⟨.sl (P.cellsOf e) (l.map (·.1)), ?_, ?_⟩
        · rw [PD.cells, PD.rows_map]
          refine repAll_one ?_
          unfold RepV
          refine ⟨some a, cap, by simp [hl1], by simp; omega, by omega, ?_⟩
          by_cases hz : len = 0
          · left; rw [List.eq_nil_of_length_eq_zero (by omega : l.length = 0)]; rfl
          · right
            have h0 := hl2 0 (by omega)
            have hcell0 := h0.2.1 0 hc
            rw [List.getElem?_eq_getElem (by rw [h0.1]; exact hc)] at hcell0
            simp only [Nat.zero_mul, Addr.add, if_true] at hcell0
            have hsp : a.spot = none ∧ a.block < w.heap.size := by
              unfold World.cell? at hcell0
              split at hcell0
              · rename_i hb
                refine ⟨?_, (Array.getElem?_eq_some_iff.1 hb).1⟩
                cases hs : a.spot with
                | none => rfl
                | some s => simp [hs] at hcell0
              · cases hcell0
            obtain ⟨b, o, sp⟩ := a
            simp only at hsp
            obtain ⟨rfl, hlt⟩ := hsp
            refine ⟨b, o, rfl, hlt, RepRows.mk fun i r hi => ?_⟩
            simp only [List.getElem?_map, Option.map_eq_some_iff] at hi
            obtain ⟨y, ⟨p, hp, rfl⟩, rfl⟩ := hi
            obtain ⟨hi', rfl⟩ := List.getElem?_eq_some_iff.1 hp
            have h1 := hl2 i hi'
            refine ⟨h1.2.2.1.len ▸ h1.1, RepAt.mk fun j c hj => ?_⟩
            obtain ⟨v, hv1, hv2⟩ := h1.2.2.1.at j c hj
            refine ⟨v, ?_, hv2⟩
            have hjj : j < P.cellsOf e := by
              have := (List.getElem?_eq_some_iff.1 hv1).1
              rw [h1.1] at this; exact this
            rw [← hv1, ← h1.2.1 j hjj]
            congr 1
            simp only [Addr.add]
            split <;> split <;> simp_all [Nat.add_assoc]
        · rw [Shape]
          refine ⟨e, hu, rfl, ShapeL.of_mem fun x hx => ?_⟩
          obtain ⟨y, hy, rfl⟩ := List.mem_map.1 hx
          obtain ⟨i, hi, rfl⟩ := List.mem_iff_getElem.1 hy
          exact (hl2 i hi).2.2.2
    · rename_i fs hu
      obtain ⟨xs, m, hm, _, hlen, hxs, hf⟩ := DataW.trod_struct hu h
      obtain rfl : n = m := by omega
      obtain ⟨ds, h1, h2⟩ := rep_fields ih fs.toList 0 (P.cellsOf t) cs ht hlen fun f hfm => by
        obtain ⟨i, hi, rfl⟩ := List.mem_iff_getElem.1 hfm
        have := hf i fs[i] (by simp at hi; simp [hi])
        refine ⟨xs[i]'(by simp at hi; omega), ?_⟩
        rw [List.getElem?_eq_getElem (by simp at hi; omega)] at this
        simpa using this
      refine ⟨.st ds, ?_, ?_⟩
      · rw [PD.cells]; simpa using h1
      · rw [Shape]; exact ⟨fs, hu, by simpa using h2⟩
    · cases ht
end

theorem Shape.int {P : Program} {t : TypeId} {d : PD} (h : Shape P t d) (hu : P.underlying t = some (.int .i64)) : ∃ n, d = .int n := by
  cases d with
  | int n => exact ⟨n, rfl⟩
  | bool b => rw [Shape, hu] at h; cases h
  | str s => rw [Shape, hu] at h; cases h
  | sl sz xs => rw [Shape] at h; obtain ⟨e, h1, _⟩ := h; rw [hu] at h1; cases h1
  | st fs => rw [Shape] at h; obtain ⟨e, h1, _⟩ := h; rw [hu] at h1; cases h1
theorem Shape.bool {P : Program} {t : TypeId} {d : PD} (h : Shape P t d) (hu : P.underlying t = some .bool) : ∃ n, d = .bool n := by
  cases d with
  | int n => rw [Shape, hu] at h; cases h
  | bool b => exact ⟨b, rfl⟩
  | str s => rw [Shape, hu] at h; cases h
  | sl sz xs => rw [Shape] at h; obtain ⟨e, h1, _⟩ := h; rw [hu] at h1; cases h1
  | st fs => rw [Shape] at h; obtain ⟨e, h1, _⟩ := h; rw [hu] at h1; cases h1
theorem Shape.str {P : Program} {t : TypeId} {d : PD} (h : Shape P t d) (hu : P.underlying t = some .string) : ∃ n, d = .str n := by
  cases d with
  | int n => rw [Shape, hu] at h; cases h
  | bool b => rw [Shape, hu] at h; cases h
  | str s => exact ⟨s, rfl⟩
  | sl sz xs => rw [Shape] at h; obtain ⟨e, h1, _⟩ := h; rw [hu] at h1; cases h1
  | st fs => rw [Shape] at h; obtain ⟨e, h1, _⟩ := h; rw [hu] at h1; cases h1
theorem Shape.sl {P : Program} {t e : TypeId} {d : PD} (h : Shape P t d) (hu : P.underlying t = some (.slice e)) : ∃ xs, d = .sl (P.cellsOf e) xs ∧ ∀ x ∈ xs, Shape P e x := by
  cases d with
  | int n => rw [Shape, hu] at h; cases h
  | bool b => rw [Shape, hu] at h; cases h
  | str s => rw [Shape, hu] at h; cases h
  | sl sz xs =>
    rw [Shape] at h
    obtain ⟨e', h1, h2, h3⟩ := h
    rw [hu] at h1
    cases h1
    exact ⟨xs, by rw [h2], h3.mem⟩
  | st fs => rw [Shape] at h; obtain ⟨e, h1, _⟩ := h; rw [hu] at h1; cases h1
theorem Shape.st {P : Program} {t : TypeId} {fl : Array Field} {d : PD} (h : Shape P t d) (hu : P.underlying t = some (.struct fl)) : ∃ fs, d = .st fs ∧ ShapeF P (fl.toList.map (·.type)) fs := by
  cases d with
  | int n => rw [Shape, hu] at h; cases h
  | bool b => rw [Shape, hu] at h; cases h
  | str s => rw [Shape, hu] at h; cases h
  | sl sz xs => rw [Shape] at h; obtain ⟨e, h1, _⟩ := h; rw [hu] at h1; cases h1
  | st fs => rw [Shape] at h; obtain ⟨e, h1, h2⟩ := h; rw [hu] at h1; cases h1; exact ⟨fs, rfl, h2⟩

/-- A list whose members are all of a form. -/
theorem list_form {α : Type} (f : α → PD) : ∀ (xs : List PD), (∀ x ∈ xs, ∃ a, x = f a) → ∃ l : List α, xs = l.map f
  | [], _ => ⟨[], rfl⟩
  | x :: xs, h => by
    obtain ⟨a, rfl⟩ := h x (by simp)
    obtain ⟨l, rfl⟩ := list_form f xs fun y hy => h y (by simp [hy])
    exact ⟨a :: l, rfl⟩

end Go.Proofs.Ytgfjbbbkploonaa
/-
  Contracts of functions of the program and of its laws, over plain data.
  Conditions: those that each theorem names.
-/
namespace Go.Proofs.Ytgfjbbbkploonaa
set_option linter.unusedSimpArgs false
set_option linter.unusedVariables false
set_option maxRecDepth 4000
open Go.RowKit
theorem ShapeF.cons {P : Program} {t : TypeId} {ts : List TypeId} {xs : List PD} (h : ShapeF P (t :: ts) xs) : ∃ x xs', xs = x :: xs' ∧ Shape P t x ∧ ShapeF P ts xs' := by
  cases xs with
  | nil => rw [ShapeF] at h; cases h
  | cons x xs =>
    rw [ShapeF] at h
    obtain ⟨t', ts', e, h1, h2⟩ := h
    cases e
    exact ⟨x, xs, rfl, h1, h2⟩
theorem ShapeF.nil {P : Program} {xs : List PD} (h : ShapeF P [] xs) : xs = [] := by
  cases xs with
  | nil => rfl
  | cons x xs =>
    rw [ShapeF] at h
    obtain ⟨t', ts', e, _⟩ := h
    cases e
theorem pd_strong {Q : PD → Prop} (h : ∀ d, (∀ d', SizeOf.sizeOf d' < SizeOf.sizeOf d → Q d') → Q d) (d : PD) : Q d := by
  have : ∀ n (d : PD), SizeOf.sizeOf d < n → Q d := by
    intro n
    induction n with
    | zero => intro d hd; omega
    | succ n ih => intro d hd; exact h d fun d' hd' => ih d' (by omega)
  exact this _ d (Nat.lt_succ_self _)
theorem list_cells {α : Type} (c : α → List T) : ∀ (xs : List PD), (∀ x ∈ xs, ∃ a, x.cells = c a) → ∃ l : List α, PD.rows xs = l.map c
  | [], _ => ⟨[], rfl⟩
  | x :: xs, h => by
    obtain ⟨a, ha⟩ := h x (by simp)
    obtain ⟨l, hl⟩ := list_cells c xs fun y hy => h y (by simp [hy])
    exact ⟨a :: l, by rw [PD.rows, ha, hl]; rfl⟩
theorem sh_term : ∀ d, Shape Try.prog 47 d → ∃ a : Tm, d.cells = tmC a :=
  pd_strong fun d ih h => by
    obtain ⟨fs, rfl, hf⟩ := h.st Try.underlying47
    have hf : ShapeF Try.prog [9, 45] fs := hf
    obtain ⟨x1, r1, rfl, h1, hf⟩ := hf.cons
    obtain ⟨x2, r2, rfl, h2, hf⟩ := hf.cons
    obtain rfl := hf.nil
    obtain ⟨n, rfl⟩ := h1.str Try.underlying9
    obtain ⟨xs, rfl, hx⟩ := h2.sl Try.underlying45
    obtain ⟨l, hl⟩ := list_cells tmC xs fun x hx' => ih x (by have := List.sizeOf_lt_of_mem hx'; simp; omega) (hx x hx')
    exact ⟨.mk n l, by
      rw [tmC_eq, PD.cells, PD.flat, PD.flat, PD.flat, PD.cells, PD.cells, hl, show Try.prog.cellsOf 47 = 2 from by kernel_rfl]; rfl⟩
theorem sh_terms {d : PD} (h : Shape Try.prog 45 d) : ∃ l : List Tm, d.cells = [tmS l] := by
  obtain ⟨xs, rfl, hx⟩ := h.sl Try.underlying45
  obtain ⟨l, hl⟩ := list_cells tmC xs fun x hx' => sh_term x (hx x hx')
  exact ⟨l, by rw [PD.cells, hl, show Try.prog.cellsOf 47 = 2 from by kernel_rfl]⟩
theorem sh_formula : ∀ d, Shape Try.prog 49 d → ∃ a : Fm, d.cells = fmC a :=
  pd_strong fun d ih h => by
    obtain ⟨fs, rfl, hf⟩ := h.st Try.underlying49
    have hf : ShapeF Try.prog [3, 47, 9, 22] fs := hf
    obtain ⟨x1, r1, rfl, h1, hf⟩ := hf.cons
    obtain ⟨x2, r2, rfl, h2, hf⟩ := hf.cons
    obtain ⟨x3, r3, rfl, h3, hf⟩ := hf.cons
    obtain ⟨x4, r4, rfl, h4, hf⟩ := hf.cons
    obtain rfl := hf.nil
    obtain ⟨o, rfl⟩ := h1.int Try.underlying3
    obtain ⟨a, ha⟩ := sh_term _ h2
    obtain ⟨v, rfl⟩ := h3.str Try.underlying9
    obtain ⟨xs, rfl, hx⟩ := h4.sl Try.underlying22
    obtain ⟨l, hl⟩ := list_cells fmC xs fun x hx' => ih x (by have := List.sizeOf_lt_of_mem hx'; simp; omega) (hx x hx')
    exact ⟨.mk o a v l, by
      rw [fmC_eq, PD.cells, PD.flat, PD.flat, PD.flat, PD.flat, PD.flat, PD.cells, PD.cells, PD.cells, hl, ha, tmC_eq, show Try.prog.cellsOf 49 = 5 from by kernel_rfl]; rfl⟩
theorem sh_formulas {d : PD} (h : Shape Try.prog 22 d) : ∃ l : List Fm, d.cells = [fmS l] := by
  obtain ⟨xs, rfl, hx⟩ := h.sl Try.underlying22
  obtain ⟨l, hl⟩ := list_cells fmC xs fun x hx' => sh_formula x (hx x hx')
  exact ⟨l, by rw [PD.cells, hl, show Try.prog.cellsOf 49 = 5 from by kernel_rfl]⟩
theorem sh_sequent {d : PD} (h : Shape Try.prog 24 d) : ∃ a : Sq, d.cells = sqC a := by
  obtain ⟨fs, rfl, hf⟩ := h.st Try.underlying24
  have hf : ShapeF Try.prog [22, 22] fs := hf
  obtain ⟨x1, r1, rfl, h1, hf⟩ := hf.cons
  obtain ⟨x2, r2, rfl, h2, hf⟩ := hf.cons
  obtain rfl := hf.nil
  obtain ⟨l1, e1⟩ := sh_formulas h1
  obtain ⟨l2, e2⟩ := sh_formulas h2
  exact ⟨⟨l1, l2⟩, by rw [PD.cells, PD.flat, PD.flat, PD.flat, e1, e2]; rfl⟩
end Go.Proofs.Ytgfjbbbkploonaa
/-
  FnExactSequentFormula returns true for all arguments, and its arguments read afterwards as they read before.
  Conditions: none.
-/
namespace Go.Proofs.Ytgfjbbbkploonaa
set_option linter.unusedSimpArgs false
set_option linter.unusedVariables false
set_option maxRecDepth 4000
open Go.ChangeShapes Go.WideShapes Go.ChangeAt Go.RowKit
theorem rqf_own : ownKnob Try.prog.godebug = none := by kernel_rfl
theorem rqf_laidOut : laidOutB Try.prog = true := by kernel_rfl
def rqfTypes (t : TypeId) : Bool := t == 3 || t == 9 || t == 47 || t == 45 || t == 49 || t == 22 || t == 24
theorem rqfTypes_ok : ∀ t, rqfTypes t = true → typeOk Try.prog rqfTypes t = true := by
  intro t h
  simp only [rqfTypes, Bool.or_eq_true, beq_iff_eq] at h
  rcases h with (((((rfl | rfl) | rfl) | rfl) | rfl) | rfl) | rfl <;> kernel_rfl
set_option maxRecDepth 100000 in
theorem rqf_lifted (os : Os) (started : os.Started) (H : Type) (enc : TypeId × Value → H) :
    ReturnsInHanded {} Try.checked os 4 .any (Rows.fnExactSequentFormulaSpec.pre6 enc Try.prog Try.f4 Rows.fnExactSequentFormulaRow.domain false)
      (Rows.fnExactSequentFormulaSpec.post enc Try.prog Try.f4 false true false false) := by
  refine returnsInHanded_of_change (C := Try.checked) rqf_own started (by kernel_rfl) Try.func4
    (ChangeSpec.witness6 (enc := enc) (C := Try.checked) false ⟨#[], #[.agg #[.slice none 0 0, .slice none 0 0]], []⟩ 8 (by kernel_rfl) (by kernel_rfl) (by kernel_rfl) (by kernel_rfl)) ?_
  intro W base args ds gs before hval0 hW hcnd _
  have hval : ∀ (j : Nat) t v, Try.f4.params[j]? = some t → args[j]? = some v → Value.okWide Try.prog W .any base t v := hval0
  have hW' := hW
  obtain ⟨p, q, hA0, hV, rfl, hfz, hnd⟩ := hW
  have hA : DataW.TrodAll enc Try.prog W 0 (fun _ => true) true Try.f4.params.toList args.toList ds p := hA0
  rw [Try.params4] at hA hval
  obtain ⟨v0, vs0, d0, ds0, p0, q0, hargs, rfl, rfl, h0, r0⟩ := trodAll_cons hA
  obtain ⟨rfl, rfl, rfl⟩ := trodAll_nil r0
  obtain rfl : args = #[v0] := by cases args; simp_all
  obtain ⟨rfl, rfl⟩ := trodVars_none hV
  have k0 := h0
  have lt0 : ∀ x ∈ p0, x.block < W.heap.size := by obtain ⟨m, hm⟩ := k0; exact DataW.trod_lt m _ _ _ hm
  obtain ⟨cs0, rfl, _⟩ := okWide_struct Try.underlying24 (hval 0 24 v0 rfl rfl)
  obtain ⟨s, hs⟩ : ∃ s : Sq, RepDs W (· < W.heap.size) [sqD s] [.agg cs0] := by
    obtain ⟨m, hm⟩ := h0
    obtain ⟨d, hr, hs⟩ := rep_of_trod rqfTypes_ok m _ _ _ (by rfl) hm
    obtain ⟨s, e⟩ := sh_sequent hs
    exact ⟨s, _, [], rfl, ⟨cs0.toList, rfl, e ▸ hr⟩, rfl⟩
  clear hA0 hval0
  refine ((lawSequentFormula_c s).use (vs := [.agg cs0]) hs).mono fun e W' ⟨us, fp, he, ho, _, _, bel⟩ => ?_
  obtain ⟨u, us', f1, f2, rfl, _, ⟨rfl, _⟩, hu⟩ := ho
  obtain ⟨rfl, _⟩ := hu
  subst he
  exact ⟨_, rfl, _, _, _, [], _, [], hW', trodAll_mk1 (shut_bool Try.underlying4 _),
    (trodAll_cons_mk (Below.trod rqf_laidOut (by kernel_rfl) (of_decide_eq_true (by kernel_rfl)) k0 bel lt0) trodAll_mk0), rfl, bel.frame _, fun h => by cases h⟩

theorem sequentFormula_holds : Rows.FnExactSequentFormulaSaid :=
  OpenClaim.holds_of_wide 4 Try.f4 rfl rfl rfl rfl rfl rfl rfl ⟨rfl, rfl, rfl, rfl, rfl⟩ rfl rfl rfl rfl rfl (by kernel_rfl) Try.func4 (by kernel_rfl)
    (of_decide_eq_true (by kernel_rfl)) (by unfold Func.isWrapper; rw [if_neg (of_decide_eq_false (by kernel_rfl))]; exact ⟨rfl, rfl⟩)
    (fun os started H enc _ => rqf_lifted os started H enc)
#print axioms sequentFormula_holds
end Go.Proofs.Ytgfjbbbkploonaa
