/-
  Contracts of functions of the program and of its laws, over plain data.
  Conditions: those that each theorem names.
-/
import Derived.Test.YtgfjbbbkploonaaI2
namespace Go.Proofs.Ytgfjbbbkploonaa
set_option linter.unusedSimpArgs false
set_option linter.unusedVariables false
open Go.RowKit
theorem isUp_of {b : UInt8} (h1 : decide ((b.toNat : Int) < 65) = false) (h2 : decide ((90 : Int) < b.toNat) = false) : isUp b = true := by
  simp [isUp] at *; omega
theorem isUp_no1 {b : UInt8} (h1 : decide ((b.toNat : Int) < 65) = true) : isUp b = false := by
  simp [isUp] at *; omega
theorem isUp_no2 {b : UInt8} (h2 : decide ((90 : Int) < b.toNat) = true) : isUp b = false := by
  simp [isUp] at *; omega
theorem isLow_of {b : UInt8} (h1 : decide ((b.toNat : Int) < 97) = false) (h2 : decide ((122 : Int) < b.toNat) = false) : isLow b = true := by
  simp [isLow] at *; omega
theorem isLow_no1 {b : UInt8} (h1 : decide ((b.toNat : Int) < 97) = true) : isLow b = false := by
  simp [isLow] at *; omega
theorem isLow_no2 {b : UInt8} (h2 : decide ((122 : Int) < b.toNat) = true) : isLow b = false := by
  simp [isLow] at *; omega
theorem okAll_eq {s : Str} (h : 0 < s.length) : okAll s = (isUp (s.getD 0 0) && (s.drop 1).all isSm) := by
  cases s
  · exact absurd h (by simp)
  · rfl
theorem symAll_eq {s : Str} (h : 0 < s.length) : symAll s = (isLow (s.getD 0 0) && (s.drop 1).all isNx) := by
  cases s
  · exact absurd h (by simp)
  · rfl
theorem l2Var_c (s : Str) : FC Try.prog 104 [sD s] [bD (varOk s)] := by
  refine FC_wf (fun hw => ?_) Try.call104
  have hl : s.length ≤ 9223372036854775807 := by simpa [wfDs, wfT] using hw.1
  refine FC_of Try.call104 Try.func104 rfl (by kernel_rfl) (by simp only [rd, List.map_cons, List.map_nil, List.length_cons, List.length_nil, Try.ntmps104]; omega) ?_
  simp -implicitDefEqProofs only [go_sem, Nat.reduceEqDiff, reduceIte, reduceCtorEq, Nat.reduceAdd, Nat.reduceMul, Int.reduceLE, Int.reduceNeg, Int.reduceToNat, Nat.reduceLeDiff, Nat.reduceSub, Nat.reduceLT, Nat.le_refl, Int.cast_ofNat_Int, Int.reduceLT, Int.reduceGT, Int.reduceGE, Int.reduceEq, Int.reduceBEq, Int.reduceBNe, Int.reduceAdd, Int.reduceSub, gt_iff_lt, ge_iff_le, Try.results104]
  refine callF (l1In_c s.length 1 4) (by simp -implicitDefEqProofs only [go_sem, Nat.reduceEqDiff, reduceIte, reduceCtorEq, Nat.reduceAdd, Nat.reduceMul, Int.reduceLE, Int.reduceNeg, Int.reduceToNat, Nat.reduceLeDiff, Nat.reduceSub, Nat.reduceLT, Nat.le_refl, Int.cast_ofNat_Int, Int.reduceLT, Int.reduceGT, Int.reduceGE, Int.reduceEq, Int.reduceBEq, Int.reduceBNe, Int.reduceAdd, Int.reduceSub, gt_iff_lt, ge_iff_le]) ?_
  simp -implicitDefEqProofs only [go_sem, Nat.reduceEqDiff, reduceIte, reduceCtorEq, Nat.reduceAdd, Nat.reduceMul, Int.reduceLE, Int.reduceNeg, Int.reduceToNat, Nat.reduceLeDiff, Nat.reduceSub, Nat.reduceLT, Nat.le_refl, Int.cast_ofNat_Int, Int.reduceLT, Int.reduceGT, Int.reduceGE, Int.reduceEq, Int.reduceBEq, Int.reduceBNe, Int.reduceAdd, Int.reduceSub, gt_iff_lt, ge_iff_le]
  by_cases hb : inB s.length 1 4 = true
  · have hp : 0 < s.length := by simp [inB] at hb; omega
    have hp' : (0 : Int) < s.length := by omega
    have he := okAll_eq hp
    refine ⟨fun h => ⟨hp', fun h1 => ⟨hp', fun h2 => ?_, fun h2 => ?_⟩, fun h1 => ?_⟩, fun h => by simp [hb] at h⟩
    · rw [varOk, he, isUp_no2 h2]; rfl
    · rw [isUp_of h1 h2, Bool.true_and] at he
      refine loop_rule (fun k : Nat => hd [(0, vT (.str s)), (3, vI k)] [] []) (fun k => k ≤ s.length ∧ okAll s = (s.drop k).all isSm) (fun k => s.length - k) 1 (weak_hd ?_) ?_ ?_
      · simp -implicitDefEqProofs only [go_sem, Nat.reduceEqDiff, reduceIte, reduceCtorEq, Nat.reduceAdd, Nat.reduceMul, Int.reduceLE, Int.reduceNeg, Int.reduceToNat, Nat.reduceLeDiff, Nat.reduceSub, Nat.reduceLT, Nat.le_refl, Int.cast_ofNat_Int, Int.reduceLT, Int.reduceGT, Int.reduceGE, Int.reduceEq, Int.reduceBEq, Int.reduceBNe, Int.reduceAdd, Int.reduceSub, gt_iff_lt, ge_iff_le]
      · exact ⟨hp, he⟩
      · intro k ⟨hk, hr⟩
        by_cases hlt : k < s.length
        · have hg : s.getD k 0 = s[k] := by simp [List.getD, hlt]
          rw [List.drop_eq_getElem_cons hlt, List.all_cons] at hr
          simp -implicitDefEqProofs only [go_sem, Nat.reduceEqDiff, reduceIte, reduceCtorEq, Nat.reduceAdd, Nat.reduceMul, Int.reduceLE, Int.reduceNeg, Int.reduceToNat, Nat.reduceLeDiff, Nat.reduceSub, Nat.reduceLT, Nat.le_refl, Int.cast_ofNat_Int, Int.reduceLT, Int.reduceGT, Int.reduceGE, Int.reduceEq, Int.reduceBEq, Int.reduceBNe, Int.reduceAdd, Int.reduceSub, gt_iff_lt, ge_iff_le, hlt]
          simp only [hg]
          refine callF (l2Small_c s[k]) (by simp -implicitDefEqProofs only [go_sem, Nat.reduceEqDiff, reduceIte, reduceCtorEq, Nat.reduceAdd, Nat.reduceMul, Int.reduceLE, Int.reduceNeg, Int.reduceToNat, Nat.reduceLeDiff, Nat.reduceSub, Nat.reduceLT, Nat.le_refl, Int.cast_ofNat_Int, Int.reduceLT, Int.reduceGT, Int.reduceGE, Int.reduceEq, Int.reduceBEq, Int.reduceBNe, Int.reduceAdd, Int.reduceSub, gt_iff_lt, ge_iff_le]) ?_
          simp -implicitDefEqProofs only [go_sem, Nat.reduceEqDiff, reduceIte, reduceCtorEq, Nat.reduceAdd, Nat.reduceMul, Int.reduceLE, Int.reduceNeg, Int.reduceToNat, Nat.reduceLeDiff, Nat.reduceSub, Nat.reduceLT, Nat.le_refl, Int.cast_ofNat_Int, Int.reduceLT, Int.reduceGT, Int.reduceGE, Int.reduceEq, Int.reduceBEq, Int.reduceBNe, Int.reduceAdd, Int.reduceSub, gt_iff_lt, ge_iff_le]
          refine ⟨fun h => ?_, fun h => ⟨k + 1, ⟨hlt, ?_⟩, by omega, weak_hd (by simp -implicitDefEqProofs only [go_sem, Nat.reduceEqDiff, reduceIte, reduceCtorEq, Nat.reduceAdd, Nat.reduceMul, Int.reduceLE, Int.reduceNeg, Int.reduceToNat, Nat.reduceLeDiff, Nat.reduceSub, Nat.reduceLT, Nat.le_refl, Int.cast_ofNat_Int, Int.reduceLT, Int.reduceGT, Int.reduceGE, Int.reduceEq, Int.reduceBEq, Int.reduceBNe, Int.reduceAdd, Int.reduceSub, gt_iff_lt, ge_iff_le]; rw [wrap_s (by omega)])⟩⟩
          · have : isSm s[k] = false := by simpa using h
            rw [varOk, hr, this]; rfl
          · have : isSm s[k] = true := by simpa using h
            rw [hr, this]; rfl
        · simp -implicitDefEqProofs only [go_sem, Nat.reduceEqDiff, reduceIte, reduceCtorEq, Nat.reduceAdd, Nat.reduceMul, Int.reduceLE, Int.reduceNeg, Int.reduceToNat, Nat.reduceLeDiff, Nat.reduceSub, Nat.reduceLT, Nat.le_refl, Int.cast_ofNat_Int, Int.reduceLT, Int.reduceGT, Int.reduceGE, Int.reduceEq, Int.reduceBEq, Int.reduceBNe, Int.reduceAdd, Int.reduceSub, gt_iff_lt, ge_iff_le, hlt]
          rw [varOk, hr, List.drop_of_length_le (by omega), hb]; rfl
    · rw [varOk, he, isUp_no1 h1]; rfl
  · have hb' : inB s.length 1 4 = false := by simpa using hb
    refine ⟨fun h => by simp [hb'] at h, fun h => ?_⟩
    rw [varOk, hb', Bool.and_false]
set_option maxHeartbeats 1000000 in
theorem l2Symbol_c (s : Str) : FC Try.prog 120 [sD s] [bD (symOk s)] := by
  refine FC_wf (fun hw => ?_) Try.call120
  have hl : s.length ≤ 9223372036854775807 := by simpa [wfDs, wfT] using hw.1
  refine FC_of Try.call120 Try.func120 rfl (by kernel_rfl) (by simp only [rd, List.map_cons, List.map_nil, List.length_cons, List.length_nil, Try.ntmps120]; omega) ?_
  simp -implicitDefEqProofs only [go_sem, Nat.reduceEqDiff, reduceIte, reduceCtorEq, Nat.reduceAdd, Nat.reduceMul, Int.reduceLE, Int.reduceNeg, Int.reduceToNat, Nat.reduceLeDiff, Nat.reduceSub, Nat.reduceLT, Nat.le_refl, Int.cast_ofNat_Int, Int.reduceLT, Int.reduceGT, Int.reduceGE, Int.reduceEq, Int.reduceBEq, Int.reduceBNe, Int.reduceAdd, Int.reduceSub, gt_iff_lt, ge_iff_le, Try.results120]
  refine callF (l1In_c s.length 1 6) (by simp -implicitDefEqProofs only [go_sem, Nat.reduceEqDiff, reduceIte, reduceCtorEq, Nat.reduceAdd, Nat.reduceMul, Int.reduceLE, Int.reduceNeg, Int.reduceToNat, Nat.reduceLeDiff, Nat.reduceSub, Nat.reduceLT, Nat.le_refl, Int.cast_ofNat_Int, Int.reduceLT, Int.reduceGT, Int.reduceGE, Int.reduceEq, Int.reduceBEq, Int.reduceBNe, Int.reduceAdd, Int.reduceSub, gt_iff_lt, ge_iff_le]) ?_
  simp -implicitDefEqProofs only [go_sem, Nat.reduceEqDiff, reduceIte, reduceCtorEq, Nat.reduceAdd, Nat.reduceMul, Int.reduceLE, Int.reduceNeg, Int.reduceToNat, Nat.reduceLeDiff, Nat.reduceSub, Nat.reduceLT, Nat.le_refl, Int.cast_ofNat_Int, Int.reduceLT, Int.reduceGT, Int.reduceGE, Int.reduceEq, Int.reduceBEq, Int.reduceBNe, Int.reduceAdd, Int.reduceSub, gt_iff_lt, ge_iff_le]
  by_cases hb : inB s.length 1 6 = true
  · have hp : 0 < s.length := by simp [inB] at hb; omega
    have hp' : (0 : Int) < s.length := by omega
    have he := symAll_eq hp
    refine ⟨fun h => ⟨hp', fun h1 => ⟨hp', fun h2 => ?_, fun h2 => ?_⟩, fun h1 => ?_⟩, fun h => by simp [hb] at h⟩
    · rw [symOk, he, isLow_no2 h2]; rfl
    · rw [isLow_of h1 h2, Bool.true_and] at he
      have leaf : ∀ l, l ∈ resW → (s == l) = true → T.bool false = T.bool (symOk s) := fun l hl e => by
        have : resW.contains s = true := by rw [List.contains_iff_mem, beq_iff_eq.1 e]; exact hl
        rw [symOk, this, Bool.not_true, Bool.and_false]
      refine ⟨fun e => ⟨fun _ => leaf _ (by simp [resW]) e, fun e' => absurd (e.symm.trans e') (by simp)⟩, fun n1 => ?_⟩
      refine ⟨fun e => ⟨fun _ => leaf _ (by simp [resW]) e, fun e' => absurd (e.symm.trans e') (by simp)⟩, fun n2 => ?_⟩
      refine ⟨fun e => ⟨fun _ => leaf _ (by simp [resW]) e, fun e' => absurd (e.symm.trans e') (by simp)⟩, fun n3 => ?_⟩
      refine ⟨fun e => ⟨fun _ => leaf _ (by simp [resW]) e, fun e' => absurd (e.symm.trans e') (by simp)⟩, fun n4 => ?_⟩
      refine ⟨fun e => ⟨fun _ => leaf _ (by simp [resW]) e, fun e' => absurd (e.symm.trans e') (by simp)⟩, fun n5 => ?_⟩
      refine ⟨fun e => ⟨fun _ => leaf _ (by simp [resW]) e, fun e' => absurd (e.symm.trans e') (by simp)⟩, fun n6 => ?_⟩
      refine ⟨fun e => ⟨fun _ => leaf _ (by simp [resW]) e, fun e' => absurd (e.symm.trans e') (by simp)⟩, fun n7 => ?_⟩
      refine ⟨fun e => leaf _ (by simp [resW]) e, fun n8 => ?_⟩
      have hnc : resW.contains s = false := by
        simp only [beq_eq_false_iff_ne, ne_eq] at n1 n2 n3 n4 n5 n6 n7 n8
        rw [Bool.eq_false_iff, ne_eq, List.contains_iff_mem]
        simp only [resW, List.mem_cons, List.not_mem_nil, or_false, not_or]
        exact ⟨n1, n2, n3, n4, n5, n6, n7, n8⟩
      refine loop_rule (fun k : Nat => hd [(0, vT (.str s)), (3, vI k)] [] []) (fun k => k ≤ s.length ∧ symAll s = (s.drop k).all isNx) (fun k => s.length - k) 1 (weak_hd ?_) ?_ ?_
      · simp -implicitDefEqProofs only [go_sem, Nat.reduceEqDiff, reduceIte, reduceCtorEq, Nat.reduceAdd, Nat.reduceMul, Int.reduceLE, Int.reduceNeg, Int.reduceToNat, Nat.reduceLeDiff, Nat.reduceSub, Nat.reduceLT, Nat.le_refl, Int.cast_ofNat_Int, Int.reduceLT, Int.reduceGT, Int.reduceGE, Int.reduceEq, Int.reduceBEq, Int.reduceBNe, Int.reduceAdd, Int.reduceSub, gt_iff_lt, ge_iff_le]
      · exact ⟨hp, he⟩
      · intro k ⟨hk, hr⟩
        by_cases hlt : k < s.length
        · have hg : s.getD k 0 = s[k] := by simp [List.getD, hlt]
          rw [List.drop_eq_getElem_cons hlt, List.all_cons] at hr
          simp -implicitDefEqProofs only [go_sem, Nat.reduceEqDiff, reduceIte, reduceCtorEq, Nat.reduceAdd, Nat.reduceMul, Int.reduceLE, Int.reduceNeg, Int.reduceToNat, Nat.reduceLeDiff, Nat.reduceSub, Nat.reduceLT, Nat.le_refl, Int.cast_ofNat_Int, Int.reduceLT, Int.reduceGT, Int.reduceGE, Int.reduceEq, Int.reduceBEq, Int.reduceBNe, Int.reduceAdd, Int.reduceSub, gt_iff_lt, ge_iff_le, hlt]
          simp only [hg]
          refine callF (l2Small_c s[k]) (by simp -implicitDefEqProofs only [go_sem, Nat.reduceEqDiff, reduceIte, reduceCtorEq, Nat.reduceAdd, Nat.reduceMul, Int.reduceLE, Int.reduceNeg, Int.reduceToNat, Nat.reduceLeDiff, Nat.reduceSub, Nat.reduceLT, Nat.le_refl, Int.cast_ofNat_Int, Int.reduceLT, Int.reduceGT, Int.reduceGE, Int.reduceEq, Int.reduceBEq, Int.reduceBNe, Int.reduceAdd, Int.reduceSub, gt_iff_lt, ge_iff_le]) ?_
          simp -implicitDefEqProofs only [go_sem, Nat.reduceEqDiff, reduceIte, reduceCtorEq, Nat.reduceAdd, Nat.reduceMul, Int.reduceLE, Int.reduceNeg, Int.reduceToNat, Nat.reduceLeDiff, Nat.reduceSub, Nat.reduceLT, Nat.le_refl, Int.cast_ofNat_Int, Int.reduceLT, Int.reduceGT, Int.reduceGE, Int.reduceEq, Int.reduceBEq, Int.reduceBNe, Int.reduceAdd, Int.reduceSub, gt_iff_lt, ge_iff_le]
          simp only [hg]
          refine ⟨fun h => ⟨hlt, fun h' => ?_, fun h' => ⟨k + 1, ⟨hlt, ?_⟩, by omega, weak_hd (by simp -implicitDefEqProofs only [go_sem, Nat.reduceEqDiff, reduceIte, reduceCtorEq, Nat.reduceAdd, Nat.reduceMul, Int.reduceLE, Int.reduceNeg, Int.reduceToNat, Nat.reduceLeDiff, Nat.reduceSub, Nat.reduceLT, Nat.le_refl, Int.cast_ofNat_Int, Int.reduceLT, Int.reduceGT, Int.reduceGE, Int.reduceEq, Int.reduceBEq, Int.reduceBNe, Int.reduceAdd, Int.reduceSub, gt_iff_lt, ge_iff_le]; rw [wrap_s (by omega)])⟩⟩, fun h => ⟨k + 1, ⟨hlt, ?_⟩, by omega, weak_hd (by simp -implicitDefEqProofs only [go_sem, Nat.reduceEqDiff, reduceIte, reduceCtorEq, Nat.reduceAdd, Nat.reduceMul, Int.reduceLE, Int.reduceNeg, Int.reduceToNat, Nat.reduceLeDiff, Nat.reduceSub, Nat.reduceLT, Nat.le_refl, Int.cast_ofNat_Int, Int.reduceLT, Int.reduceGT, Int.reduceGE, Int.reduceEq, Int.reduceBEq, Int.reduceBNe, Int.reduceAdd, Int.reduceSub, gt_iff_lt, ge_iff_le]; rw [wrap_s (by omega)])⟩⟩
          · have : isNx s[k] = false := by
              simp [isNx] at h ⊢
              refine ⟨h, fun e => ?_⟩
              rw [e] at h'
              simp at h'
            rw [symOk, hr, this]; rfl
          · have : isNx s[k] = true := by
              have := u8_eq (b := s[k]) (n := 95) (by omega)
              simp [isNx] at h' ⊢
              right
              simpa [h'] using this
            rw [hr, this]; rfl
          · have : isNx s[k] = true := by simp [isNx]; simp at h; simp [h]
            rw [hr, this]; rfl
        · simp -implicitDefEqProofs only [go_sem, Nat.reduceEqDiff, reduceIte, reduceCtorEq, Nat.reduceAdd, Nat.reduceMul, Int.reduceLE, Int.reduceNeg, Int.reduceToNat, Nat.reduceLeDiff, Nat.reduceSub, Nat.reduceLT, Nat.le_refl, Int.cast_ofNat_Int, Int.reduceLT, Int.reduceGT, Int.reduceGE, Int.reduceEq, Int.reduceBEq, Int.reduceBNe, Int.reduceAdd, Int.reduceSub, gt_iff_lt, ge_iff_le, hlt]
          rw [symOk, hr, List.drop_of_length_le (by omega), hb, hnc]; rfl
    · rw [symOk, he, isLow_no1 h1]; rfl
  · have hb' : inB s.length 1 6 = false := by simpa using hb
    refine ⟨fun h => by simp [hb'] at h, fun h => ?_⟩
    rw [symOk, hb', Bool.and_false]; rfl
end Go.Proofs.Ytgfjbbbkploonaa
