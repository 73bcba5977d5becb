import Derived.Test.YtgfjbbbkploonaaQ5
import Derived.RangeFuncNested
import Derived.RangeFuncBound
import Derived.RangeFuncCalls
import Derived.TacticsInMore
import Derived.LoopNIn
import Derived.LoopIn
/-
  Contracts of functions of the program and of its laws, over plain data.
  Conditions: those that each theorem names.
-/
namespace Go.Proofs.Ytgfjbbbkploonaa
set_option linter.unusedSimpArgs false
set_option linter.unusedVariables false
set_option maxRecDepth 4000
open Go.RowKit
theorem isUp_of {b : UInt8} (h1 : decide ((b.toNat : Int) < 65) = false) (h2 : decide ((90 : Int) < b.toNat) = false) : isUp b = true := by
  simp [isUp] at *; omega
theorem isUp_no1 {b : UInt8} (h1 : decide ((b.toNat : Int) < 65) = true) : isUp b = false := by
  simp [isUp] at *; omega
theorem isUp_no2 {b : UInt8} (h2 : decide ((90 : Int) < b.toNat) = true) : isUp b = false := by
  simp [isUp] at *; omega
theorem isLow_of {b : UInt8} (h1 : decide ((b.toNat : Int) < 97) = false) (h2 : decide ((122 : Int) < b.toNat) = false) : isLow b = true := by
  simp [isLow] at *; omega
theorem isLow_no1 {b : UInt8} (h1 : decide ((b.toNat : Int) < 97) = true) : isLow b = false := by
  simp [isLow] at *; omega
theorem isLow_no2 {b : UInt8} (h2 : decide ((122 : Int) < b.toNat) = true) : isLow b = false := by
  simp [isLow] at *; omega
theorem okAll_eq {s : Str} (h : 0 < s.length) : okAll s = (isUp (s.getD 0 0) && (s.drop 1).all isSm) := by
  cases s
  · exact absurd h (by simp)
  · rfl
theorem symAll_eq {s : Str} (h : 0 < s.length) : symAll s = (isLow (s.getD 0 0) && (s.drop 1).all isNx) := by
  cases s
  · exact absurd h (by simp)
  · rfl
theorem l2Var_c (s : Str) : FC Try.prog 104 [sD s] [bD (varOk s)] := by
  refine FC_wf (fun hw => ?_) Try.call104
  have hl : s.length ≤ 9223372036854775807 := by simpa [wfDs, wfT] using hw.1
  refine FC_of Try.call104 Try.func104 rfl (by kernel_rfl) (by simp only [rd, List.map_cons, List.map_nil, List.length_cons, List.length_nil, Try.ntmps104]; omega) ?_
  simp -implicitDefEqProofs only [go_sem, Nat.reduceEqDiff, reduceIte, reduceCtorEq, Nat.reduceAdd, Nat.reduceMul, Int.reduceLE, Int.reduceNeg, Int.reduceToNat, Nat.reduceLeDiff, Nat.reduceSub, Nat.reduceLT, Nat.le_refl, Int.cast_ofNat_Int, Int.reduceLT, Int.reduceGT, Int.reduceGE, Int.reduceEq, Int.reduceBEq, Nat.reduceBEq, Int.reduceBNe, Int.reduceAdd, Int.reduceSub, gt_iff_lt, ge_iff_le, Try.results104]
  refine callF (l1In_c s.length 1 4) (by simp -implicitDefEqProofs only [go_sem, Nat.reduceEqDiff, reduceIte, reduceCtorEq, Nat.reduceAdd, Nat.reduceMul, Int.reduceLE, Int.reduceNeg, Int.reduceToNat, Nat.reduceLeDiff, Nat.reduceSub, Nat.reduceLT, Nat.le_refl, Int.cast_ofNat_Int, Int.reduceLT, Int.reduceGT, Int.reduceGE, Int.reduceEq, Int.reduceBEq, Nat.reduceBEq, Int.reduceBNe, Int.reduceAdd, Int.reduceSub, gt_iff_lt, ge_iff_le]) ?_
  simp -implicitDefEqProofs only [go_sem, Nat.reduceEqDiff, reduceIte, reduceCtorEq, Nat.reduceAdd, Nat.reduceMul, Int.reduceLE, Int.reduceNeg, Int.reduceToNat, Nat.reduceLeDiff, Nat.reduceSub, Nat.reduceLT, Nat.le_refl, Int.cast_ofNat_Int, Int.reduceLT, Int.reduceGT, Int.reduceGE, Int.reduceEq, Int.reduceBEq, Nat.reduceBEq, Int.reduceBNe, Int.reduceAdd, Int.reduceSub, gt_iff_lt, ge_iff_le]
  by_cases hb : inB s.length 1 4 = true
  · have hp : 0 < s.length := by simp [inB] at hb; omega
    have hp' : (0 : Int) < s.length := by omega
    have he := okAll_eq hp
    refine ⟨fun h => ⟨hp', fun h1 => ⟨hp', fun h2 => ?_, fun h2 => ?_⟩, fun h1 => ?_⟩, fun h => by simp [hb] at h⟩
    · rw [varOk, he, isUp_no2 h2]; rfl
    · rw [isUp_of h1 h2, Bool.true_and] at he
      refine loop_rule (fun k : Nat => hd [(0, vT (.str s)), (3, vI k)] [] []) (fun k => k ≤ s.length ∧ okAll s = (s.drop k).all isSm) (fun k => s.length - k) 1 (weak_hd ?_) ?_ ?_
      · simp -implicitDefEqProofs only [go_sem, Nat.reduceEqDiff, reduceIte, reduceCtorEq, Nat.reduceAdd, Nat.reduceMul, Int.reduceLE, Int.reduceNeg, Int.reduceToNat, Nat.reduceLeDiff, Nat.reduceSub, Nat.reduceLT, Nat.le_refl, Int.cast_ofNat_Int, Int.reduceLT, Int.reduceGT, Int.reduceGE, Int.reduceEq, Int.reduceBEq, Nat.reduceBEq, Int.reduceBNe, Int.reduceAdd, Int.reduceSub, gt_iff_lt, ge_iff_le]
      · exact ⟨hp, he⟩
      · intro k ⟨hk, hr⟩
        by_cases hlt : k < s.length
        · have hg : s.getD k 0 = s[k] := by simp [List.getD, hlt]
          rw [List.drop_eq_getElem_cons hlt, List.all_cons] at hr
          simp -implicitDefEqProofs only [go_sem, Nat.reduceEqDiff, reduceIte, reduceCtorEq, Nat.reduceAdd, Nat.reduceMul, Int.reduceLE, Int.reduceNeg, Int.reduceToNat, Nat.reduceLeDiff, Nat.reduceSub, Nat.reduceLT, Nat.le_refl, Int.cast_ofNat_Int, Int.reduceLT, Int.reduceGT, Int.reduceGE, Int.reduceEq, Int.reduceBEq, Nat.reduceBEq, Int.reduceBNe, Int.reduceAdd, Int.reduceSub, gt_iff_lt, ge_iff_le, hlt]
          simp only [hg]
          refine callF (l2Small_c s[k]) (by simp -implicitDefEqProofs only [go_sem, Nat.reduceEqDiff, reduceIte, reduceCtorEq, Nat.reduceAdd, Nat.reduceMul, Int.reduceLE, Int.reduceNeg, Int.reduceToNat, Nat.reduceLeDiff, Nat.reduceSub, Nat.reduceLT, Nat.le_refl, Int.cast_ofNat_Int, Int.reduceLT, Int.reduceGT, Int.reduceGE, Int.reduceEq, Int.reduceBEq, Nat.reduceBEq, Int.reduceBNe, Int.reduceAdd, Int.reduceSub, gt_iff_lt, ge_iff_le]) ?_
          simp -implicitDefEqProofs only [go_sem, Nat.reduceEqDiff, reduceIte, reduceCtorEq, Nat.reduceAdd, Nat.reduceMul, Int.reduceLE, Int.reduceNeg, Int.reduceToNat, Nat.reduceLeDiff, Nat.reduceSub, Nat.reduceLT, Nat.le_refl, Int.cast_ofNat_Int, Int.reduceLT, Int.reduceGT, Int.reduceGE, Int.reduceEq, Int.reduceBEq, Nat.reduceBEq, Int.reduceBNe, Int.reduceAdd, Int.reduceSub, gt_iff_lt, ge_iff_le]
          refine ⟨fun h => ?_, fun h => ⟨k + 1, ⟨hlt, ?_⟩, by omega, weak_hd (by simp -implicitDefEqProofs only [go_sem, Nat.reduceEqDiff, reduceIte, reduceCtorEq, Nat.reduceAdd, Nat.reduceMul, Int.reduceLE, Int.reduceNeg, Int.reduceToNat, Nat.reduceLeDiff, Nat.reduceSub, Nat.reduceLT, Nat.le_refl, Int.cast_ofNat_Int, Int.reduceLT, Int.reduceGT, Int.reduceGE, Int.reduceEq, Int.reduceBEq, Nat.reduceBEq, Int.reduceBNe, Int.reduceAdd, Int.reduceSub, gt_iff_lt, ge_iff_le]; rw [wrap_s (by omega)])⟩⟩
          · have : isSm s[k] = false := by simpa using h
            rw [varOk, hr, this]; rfl
          · have : isSm s[k] = true := by simpa using h
            rw [hr, this]; rfl
        · simp -implicitDefEqProofs only [go_sem, Nat.reduceEqDiff, reduceIte, reduceCtorEq, Nat.reduceAdd, Nat.reduceMul, Int.reduceLE, Int.reduceNeg, Int.reduceToNat, Nat.reduceLeDiff, Nat.reduceSub, Nat.reduceLT, Nat.le_refl, Int.cast_ofNat_Int, Int.reduceLT, Int.reduceGT, Int.reduceGE, Int.reduceEq, Int.reduceBEq, Nat.reduceBEq, Int.reduceBNe, Int.reduceAdd, Int.reduceSub, gt_iff_lt, ge_iff_le, hlt]
          rw [varOk, hr, List.drop_of_length_le (by omega), hb]; rfl
    · rw [varOk, he, isUp_no1 h1]; rfl
  · have hb' : inB s.length 1 4 = false := by simpa using hb
    refine ⟨fun h => by simp [hb'] at h, fun h => ?_⟩
    rw [varOk, hb', Bool.and_false]
set_option maxHeartbeats 1000000 in
theorem l2Symbol_c (s : Str) : FC Try.prog 120 [sD s] [bD (symOk s)] := by
  refine FC_wf (fun hw => ?_) Try.call120
  have hl : s.length ≤ 9223372036854775807 := by simpa [wfDs, wfT] using hw.1
  refine FC_of Try.call120 Try.func120 rfl (by kernel_rfl) (by simp only [rd, List.map_cons, List.map_nil, List.length_cons, List.length_nil, Try.ntmps120]; omega) ?_
  simp -implicitDefEqProofs only [go_sem, Nat.reduceEqDiff, reduceIte, reduceCtorEq, Nat.reduceAdd, Nat.reduceMul, Int.reduceLE, Int.reduceNeg, Int.reduceToNat, Nat.reduceLeDiff, Nat.reduceSub, Nat.reduceLT, Nat.le_refl, Int.cast_ofNat_Int, Int.reduceLT, Int.reduceGT, Int.reduceGE, Int.reduceEq, Int.reduceBEq, Nat.reduceBEq, Int.reduceBNe, Int.reduceAdd, Int.reduceSub, gt_iff_lt, ge_iff_le, Try.results120]
  refine callF (l1In_c s.length 1 6) (by simp -implicitDefEqProofs only [go_sem, Nat.reduceEqDiff, reduceIte, reduceCtorEq, Nat.reduceAdd, Nat.reduceMul, Int.reduceLE, Int.reduceNeg, Int.reduceToNat, Nat.reduceLeDiff, Nat.reduceSub, Nat.reduceLT, Nat.le_refl, Int.cast_ofNat_Int, Int.reduceLT, Int.reduceGT, Int.reduceGE, Int.reduceEq, Int.reduceBEq, Nat.reduceBEq, Int.reduceBNe, Int.reduceAdd, Int.reduceSub, gt_iff_lt, ge_iff_le]) ?_
  simp -implicitDefEqProofs only [go_sem, Nat.reduceEqDiff, reduceIte, reduceCtorEq, Nat.reduceAdd, Nat.reduceMul, Int.reduceLE, Int.reduceNeg, Int.reduceToNat, Nat.reduceLeDiff, Nat.reduceSub, Nat.reduceLT, Nat.le_refl, Int.cast_ofNat_Int, Int.reduceLT, Int.reduceGT, Int.reduceGE, Int.reduceEq, Int.reduceBEq, Nat.reduceBEq, Int.reduceBNe, Int.reduceAdd, Int.reduceSub, gt_iff_lt, ge_iff_le]
  by_cases hb : inB s.length 1 6 = true
  · have hp : 0 < s.length := by simp [inB] at hb; omega
    have hp' : (0 : Int) < s.length := by omega
    have he := symAll_eq hp
    refine ⟨fun h => ⟨hp', fun h1 => ⟨hp', fun h2 => ?_, fun h2 => ?_⟩, fun h1 => ?_⟩, fun h => by simp [hb] at h⟩
    · rw [symOk, he, isLow_no2 h2]; rfl
    · rw [isLow_of h1 h2, Bool.true_and] at he
      have leaf : ∀ l, l ∈ resW → (s == l) = true → T.bool false = T.bool (symOk s) := fun l hl e => by
        have : resW.contains s = true := by rw [List.contains_iff_mem, beq_iff_eq.1 e]; exact hl
        rw [symOk, this, Bool.not_true, Bool.and_false]
      refine ⟨fun e => ⟨fun _ => leaf _ (by simp [resW]) e, fun e' => absurd (e.symm.trans e') (by simp)⟩, fun n1 => ?_⟩
      refine ⟨fun e => ⟨fun _ => leaf _ (by simp [resW]) e, fun e' => absurd (e.symm.trans e') (by simp)⟩, fun n2 => ?_⟩
      refine ⟨fun e => ⟨fun _ => leaf _ (by simp [resW]) e, fun e' => absurd (e.symm.trans e') (by simp)⟩, fun n3 => ?_⟩
      refine ⟨fun e => ⟨fun _ => leaf _ (by simp [resW]) e, fun e' => absurd (e.symm.trans e') (by simp)⟩, fun n4 => ?_⟩
      refine ⟨fun e => ⟨fun _ => leaf _ (by simp [resW]) e, fun e' => absurd (e.symm.trans e') (by simp)⟩, fun n5 => ?_⟩
      refine ⟨fun e => ⟨fun _ => leaf _ (by simp [resW]) e, fun e' => absurd (e.symm.trans e') (by simp)⟩, fun n6 => ?_⟩
      refine ⟨fun e => ⟨fun _ => leaf _ (by simp [resW]) e, fun e' => absurd (e.symm.trans e') (by simp)⟩, fun n7 => ?_⟩
      refine ⟨fun e => leaf _ (by simp [resW]) e, fun n8 => ?_⟩
      have hnc : resW.contains s = false := by
        simp only [beq_eq_false_iff_ne, ne_eq] at n1 n2 n3 n4 n5 n6 n7 n8
        rw [Bool.eq_false_iff, ne_eq, List.contains_iff_mem]
        simp only [resW, List.mem_cons, List.not_mem_nil, or_false, not_or]
        exact ⟨n1, n2, n3, n4, n5, n6, n7, n8⟩
      refine loop_rule (fun k : Nat => hd [(0, vT (.str s)), (3, vI k)] [] []) (fun k => k ≤ s.length ∧ symAll s = (s.drop k).all isNx) (fun k => s.length - k) 1 (weak_hd ?_) ?_ ?_
      · simp -implicitDefEqProofs only [go_sem, Nat.reduceEqDiff, reduceIte, reduceCtorEq, Nat.reduceAdd, Nat.reduceMul, Int.reduceLE, Int.reduceNeg, Int.reduceToNat, Nat.reduceLeDiff, Nat.reduceSub, Nat.reduceLT, Nat.le_refl, Int.cast_ofNat_Int, Int.reduceLT, Int.reduceGT, Int.reduceGE, Int.reduceEq, Int.reduceBEq, Nat.reduceBEq, Int.reduceBNe, Int.reduceAdd, Int.reduceSub, gt_iff_lt, ge_iff_le]
      · exact ⟨hp, he⟩
      · intro k ⟨hk, hr⟩
        by_cases hlt : k < s.length
        · have hg : s.getD k 0 = s[k] := by simp [List.getD, hlt]
          rw [List.drop_eq_getElem_cons hlt, List.all_cons] at hr
          simp -implicitDefEqProofs only [go_sem, Nat.reduceEqDiff, reduceIte, reduceCtorEq, Nat.reduceAdd, Nat.reduceMul, Int.reduceLE, Int.reduceNeg, Int.reduceToNat, Nat.reduceLeDiff, Nat.reduceSub, Nat.reduceLT, Nat.le_refl, Int.cast_ofNat_Int, Int.reduceLT, Int.reduceGT, Int.reduceGE, Int.reduceEq, Int.reduceBEq, Nat.reduceBEq, Int.reduceBNe, Int.reduceAdd, Int.reduceSub, gt_iff_lt, ge_iff_le, hlt]
          simp only [hg]
          refine callF (l2Small_c s[k]) (by simp -implicitDefEqProofs only [go_sem, Nat.reduceEqDiff, reduceIte, reduceCtorEq, Nat.reduceAdd, Nat.reduceMul, Int.reduceLE, Int.reduceNeg, Int.reduceToNat, Nat.reduceLeDiff, Nat.reduceSub, Nat.reduceLT, Nat.le_refl, Int.cast_ofNat_Int, Int.reduceLT, Int.reduceGT, Int.reduceGE, Int.reduceEq, Int.reduceBEq, Nat.reduceBEq, Int.reduceBNe, Int.reduceAdd, Int.reduceSub, gt_iff_lt, ge_iff_le]) ?_
          simp -implicitDefEqProofs only [go_sem, Nat.reduceEqDiff, reduceIte, reduceCtorEq, Nat.reduceAdd, Nat.reduceMul, Int.reduceLE, Int.reduceNeg, Int.reduceToNat, Nat.reduceLeDiff, Nat.reduceSub, Nat.reduceLT, Nat.le_refl, Int.cast_ofNat_Int, Int.reduceLT, Int.reduceGT, Int.reduceGE, Int.reduceEq, Int.reduceBEq, Nat.reduceBEq, Int.reduceBNe, Int.reduceAdd, Int.reduceSub, gt_iff_lt, ge_iff_le]
          simp only [hg]
          refine ⟨fun h => ⟨hlt, fun h' => ?_, fun h' => ⟨k + 1, ⟨hlt, ?_⟩, by omega, weak_hd (by simp -implicitDefEqProofs only [go_sem, Nat.reduceEqDiff, reduceIte, reduceCtorEq, Nat.reduceAdd, Nat.reduceMul, Int.reduceLE, Int.reduceNeg, Int.reduceToNat, Nat.reduceLeDiff, Nat.reduceSub, Nat.reduceLT, Nat.le_refl, Int.cast_ofNat_Int, Int.reduceLT, Int.reduceGT, Int.reduceGE, Int.reduceEq, Int.reduceBEq, Nat.reduceBEq, Int.reduceBNe, Int.reduceAdd, Int.reduceSub, gt_iff_lt, ge_iff_le]; rw [wrap_s (by omega)])⟩⟩, fun h => ⟨k + 1, ⟨hlt, ?_⟩, by omega, weak_hd (by simp -implicitDefEqProofs only [go_sem, Nat.reduceEqDiff, reduceIte, reduceCtorEq, Nat.reduceAdd, Nat.reduceMul, Int.reduceLE, Int.reduceNeg, Int.reduceToNat, Nat.reduceLeDiff, Nat.reduceSub, Nat.reduceLT, Nat.le_refl, Int.cast_ofNat_Int, Int.reduceLT, Int.reduceGT, Int.reduceGE, Int.reduceEq, Int.reduceBEq, Nat.reduceBEq, Int.reduceBNe, Int.reduceAdd, Int.reduceSub, gt_iff_lt, ge_iff_le]; rw [wrap_s (by omega)])⟩⟩
          · have : isNx s[k] = false := by
              simp [isNx] at h ⊢
              refine ⟨h, fun e => ?_⟩
              rw [e] at h'
              simp at h'
            rw [symOk, hr, this]; rfl
          · have : isNx s[k] = true := by
              have := u8_eq (b := s[k]) (n := 95) (by omega)
              simp [isNx] at h' ⊢
              right
              simpa [h'] using this
            rw [hr, this]; rfl
          · have : isNx s[k] = true := by simp [isNx]; simp at h; simp [h]
            rw [hr, this]; rfl
        · simp -implicitDefEqProofs only [go_sem, Nat.reduceEqDiff, reduceIte, reduceCtorEq, Nat.reduceAdd, Nat.reduceMul, Int.reduceLE, Int.reduceNeg, Int.reduceToNat, Nat.reduceLeDiff, Nat.reduceSub, Nat.reduceLT, Nat.le_refl, Int.cast_ofNat_Int, Int.reduceLT, Int.reduceGT, Int.reduceGE, Int.reduceEq, Int.reduceBEq, Nat.reduceBEq, Int.reduceBNe, Int.reduceAdd, Int.reduceSub, gt_iff_lt, ge_iff_le, hlt]
          rw [symOk, hr, List.drop_of_length_le (by omega), hb, hnc]; rfl
    · rw [symOk, he, isLow_no1 h1]; rfl
  · have hb' : inB s.length 1 6 = false := by simpa using hb
    refine ⟨fun h => by simp [hb'] at h, fun h => ?_⟩
    rw [symOk, hb', Bool.and_false]; rfl
end Go.Proofs.Ytgfjbbbkploonaa
/-
  Contracts of functions of the program and of its laws, over plain data.
  Conditions: those that each theorem names.
-/
namespace Go.Proofs.Ytgfjbbbkploonaa
set_option linter.unusedSimpArgs false
set_option linter.unusedVariables false
set_option maxRecDepth 4000
open Go.RowKit
def Tm.nodes : Tm → Nat := Tm.fold fun _ _ rs => 1 + rs.sum
theorem Tm.nodes_eq (a : Tm) : a.nodes = 1 + (a.args.map Tm.nodes).sum := Tm.fold_eq _ a
def Tm.depth : Tm → Nat := Tm.fold fun _ _ rs => rs.foldl max 0 + 1
theorem Tm.depth_eq (a : Tm) : a.depth = (a.args.map Tm.depth).foldl max 0 + 1 := Tm.fold_eq _ a
theorem nodes_wt : ∀ a : Tm, a.nodes ≤ 1 + a.wt := by
  refine tm_ind fun n xs ih => ?_
  rw [Tm.nodes_eq, Tm.wt_eq]
  show 1 + (xs.map Tm.nodes).sum ≤ 1 + (n.length + xs.length + (xs.map Tm.wt).sum)
  have : (xs.map Tm.nodes).sum ≤ xs.length + (xs.map Tm.wt).sum := by
    clear n
    induction xs with
    | nil => simp
    | cons x xs ih2 =>
      have h1 := ih x (by simp)
      have h2 := ih2 fun y hy => ih y (by simp [hy])
      simp only [List.map_cons, List.sum_cons, List.length_cons]
      omega
  omega
theorem foldl_max_le {B : Nat} : ∀ (xs : List Nat) (m : Nat), m ≤ B → (∀ x ∈ xs, x ≤ B) → xs.foldl max m ≤ B
  | [], m, h, _ => h
  | x :: xs, m, h, h2 => foldl_max_le xs (max m x) (by have := h2 x (by simp); omega) fun y hy => h2 y (by simp [hy])
theorem depth_nodes : ∀ a : Tm, a.depth ≤ a.nodes := by
  refine tm_ind fun n xs ih => ?_
  rw [Tm.nodes_eq, Tm.depth_eq]
  show (xs.map Tm.depth).foldl max 0 + 1 ≤ 1 + (xs.map Tm.nodes).sum
  have := foldl_max_le (B := (xs.map Tm.nodes).sum) (xs.map Tm.depth) 0 (by omega) fun d hd => by
    obtain ⟨x, hx, rfl⟩ := List.mem_map.1 hd
    exact Nat.le_trans (ih x hx) (mem_sum Tm.nodes xs x hx)
  omega
/-- The size as the program counts it: it stops behind 30. -/
def szL (lim : Int) : Int → List Int → Int
  | n, [] => n
  | n, r :: rs => if n > lim then n else szL lim (n + r) rs
def sizeI : Tm → Int := Tm.fold fun _ _ rs => szL 30 1 rs
theorem sizeI_eq (a : Tm) : sizeI a = szL 30 1 (a.args.map sizeI) := Tm.fold_eq _ a
theorem szL_spec {α : Type} (f : α → Int) (g : α → Nat) (lim : Int) : ∀ (xs : List α) (n : Int), 0 ≤ n → (∀ x ∈ xs, 1 ≤ f x ∧ f x ≤ g x ∧ (f x ≤ lim → f x = g x)) → szL lim n (xs.map f) ≤ n + (xs.map g).sum ∧ n ≤ szL lim n (xs.map f) ∧ (szL lim n (xs.map f) ≤ lim → szL lim n (xs.map f) = n + (xs.map g).sum)
  | [], n, _, _ => by simp [szL]
  | x :: xs, n, hn, h => by
    obtain ⟨h1, h2, h3⟩ := h x (by simp)
    obtain ⟨k1, k2, k3⟩ := szL_spec f g lim xs (n + f x) (by omega) fun y hy => h y (by simp [hy])
    simp only [List.map_cons, szL, List.sum_cons]
    split
    · refine ⟨by omega, by omega, fun hh => by omega⟩
    · refine ⟨by omega, by omega, fun hh => ?_⟩
      have := k3 hh
      rw [this]
      have : f x = g x := h3 (by omega)
      omega
theorem sizeI_spec : ∀ a : Tm, 1 ≤ sizeI a ∧ sizeI a ≤ a.nodes ∧ (sizeI a ≤ 30 → sizeI a = a.nodes) := by
  refine tm_ind fun n xs ih => ?_
  rw [sizeI_eq, Tm.nodes_eq]
  show 1 ≤ szL 30 1 (xs.map sizeI) ∧ szL 30 1 (xs.map sizeI) ≤ ((1 + (xs.map Tm.nodes).sum : Nat) : Int) ∧ _
  obtain ⟨k1, k2, k3⟩ := szL_spec sizeI Tm.nodes 30 xs 1 (by omega) ih
  refine ⟨k2, by omega, fun h => ?_⟩
  have := k3 h
  show szL 30 1 (xs.map sizeI) = _
  rw [this]; show _ = ((1 + (xs.map Tm.nodes).sum : Nat) : Int); omega
theorem sizeI_le (a : Tm) : decide (sizeI a ≤ 30) = decide (a.nodes ≤ 30) := by
  obtain ⟨h1, h2, h3⟩ := sizeI_spec a
  rw [decide_eq_decide]
  exact ⟨fun h => by have := h3 h; omega, fun h => by omega⟩
def dsum {α : Type} (f : α → Nat) (xs : List α) (k : Nat) : Nat := ((xs.drop k).map f).sum
theorem dsum_zero {α : Type} (f : α → Nat) (xs : List α) : dsum f xs 0 = (xs.map f).sum := by simp [dsum]
theorem dsum_at {α : Type} (f : α → Nat) (xs : List α) (k : Nat) (h : k < xs.length) : dsum f xs k = f xs[k] + dsum f xs (k + 1) := by
  unfold dsum
  rw [List.drop_eq_getElem_cons h, List.map_cons, List.sum_cons]

set_option maxHeartbeats 400000 in
theorem size_of (a : Tm) (hs : a.wt ≤ 1099511627776) (H : ∀ x ∈ a.args, FC Try.prog 112 [tmD x] [iD (sizeI x)]) : FC Try.prog 112 [tmD a] [iD (sizeI a)] := by
  refine FC_wf (fun hw => ?_) Try.call112
  have hl : a.args.length ≤ 9223372036854775807 := by rw [Tm.wt_eq] at hs; omega
  have hn := nodes_wt a
  have hN := a.nodes_eq
  simp only [tmD, tmC_eq]
  refine FC_of Try.call112 Try.func112 rfl (by kernel_rfl) (by simp only [rd, List.map_cons, List.map_nil, List.length_cons, List.length_nil, Try.ntmps112]; omega) ?_
  simp -implicitDefEqProofs only [go_sem, Nat.reduceEqDiff, reduceIte, reduceCtorEq, Nat.reduceAdd, Nat.reduceMul, Int.reduceLE, Int.reduceNeg, Int.reduceToNat, Nat.reduceLeDiff, Nat.reduceSub, Nat.reduceLT, Nat.le_refl, Int.cast_ofNat_Int, Int.reduceLT, Int.reduceGT, Int.reduceGE, Int.reduceEq, Int.reduceBEq, Nat.reduceBEq, Int.reduceBNe, Int.reduceAdd, Int.reduceSub, gt_iff_lt, ge_iff_le, Try.results112]
  refine loop_rule (fun p : Nat × Int => hd [(3, vI p.2), (7, vT (tmS a.args)), (8, vI a.args.length), (9, vI p.1)] [] []) (fun p => p.1 ≤ a.args.length ∧ sizeI a = szL 30 p.2 ((a.args.drop p.1).map sizeI) ∧ 1 ≤ p.2 ∧ p.2 + dsum Tm.nodes a.args p.1 ≤ a.nodes) (fun p => a.args.length - p.1) (0, 1) (weak_hd ?_) ?_ ?_
  · simp -implicitDefEqProofs only [go_sem, Nat.reduceEqDiff, reduceIte, reduceCtorEq, Nat.reduceAdd, Nat.reduceMul, Int.reduceLE, Int.reduceNeg, Int.reduceToNat, Nat.reduceLeDiff, Nat.reduceSub, Nat.reduceLT, Nat.le_refl, Int.cast_ofNat_Int, Int.reduceLT, Int.reduceGT, Int.reduceGE, Int.reduceEq, Int.reduceBEq, Nat.reduceBEq, Int.reduceBNe, Int.reduceAdd, Int.reduceSub, gt_iff_lt, ge_iff_le]
  · exact ⟨by simp, by rw [sizeI_eq]; rfl, by omega, by rw [dsum_zero]; omega⟩
  · intro ⟨k, n⟩ ⟨hk, hr, h1, h2⟩
    simp only at hk hr h1 h2
    by_cases hlt : k < a.args.length
    · have hd := dsum_at Tm.nodes a.args k hlt
      obtain ⟨s1, s2, s3⟩ := sizeI_spec a.args[k]
      rw [List.drop_eq_getElem_cons hlt, List.map_cons, szL] at hr
      simp -implicitDefEqProofs only [go_sem, Nat.reduceEqDiff, reduceIte, reduceCtorEq, Nat.reduceAdd, Nat.reduceMul, Int.reduceLE, Int.reduceNeg, Int.reduceToNat, Nat.reduceLeDiff, Nat.reduceSub, Nat.reduceLT, Nat.le_refl, Int.cast_ofNat_Int, Int.reduceLT, Int.reduceGT, Int.reduceGE, Int.reduceEq, Int.reduceBEq, Nat.reduceBEq, Int.reduceBNe, Int.reduceAdd, Int.reduceSub, gt_iff_lt, ge_iff_le, getD_at, hlt, tmC_eq]
      refine ⟨fun h => ?_, fun h => ?_⟩
      · rw [hr, if_pos (by simpa using h)]
      · refine callF (H a.args[k] (List.getElem_mem hlt)) (by simp -implicitDefEqProofs only [go_sem, Nat.reduceEqDiff, reduceIte, reduceCtorEq, Nat.reduceAdd, Nat.reduceMul, Int.reduceLE, Int.reduceNeg, Int.reduceToNat, Nat.reduceLeDiff, Nat.reduceSub, Nat.reduceLT, Nat.le_refl, Int.cast_ofNat_Int, Int.reduceLT, Int.reduceGT, Int.reduceGE, Int.reduceEq, Int.reduceBEq, Nat.reduceBEq, Int.reduceBNe, Int.reduceAdd, Int.reduceSub, gt_iff_lt, ge_iff_le, tmC_eq]) ?_
        simp -implicitDefEqProofs only [go_sem, Nat.reduceEqDiff, reduceIte, reduceCtorEq, Nat.reduceAdd, Nat.reduceMul, Int.reduceLE, Int.reduceNeg, Int.reduceToNat, Nat.reduceLeDiff, Nat.reduceSub, Nat.reduceLT, Nat.le_refl, Int.cast_ofNat_Int, Int.reduceLT, Int.reduceGT, Int.reduceGE, Int.reduceEq, Int.reduceBEq, Nat.reduceBEq, Int.reduceBNe, Int.reduceAdd, Int.reduceSub, gt_iff_lt, ge_iff_le, tmC_eq]
        rw [if_neg (by simpa using h)] at hr
        exact ⟨(k + 1, n + sizeI a.args[k]), ⟨hlt, hr, by simp only; omega, by simp only; omega⟩, by simp only; omega, weak_hd (by simp -implicitDefEqProofs only [go_sem, Nat.reduceEqDiff, reduceIte, reduceCtorEq, Nat.reduceAdd, Nat.reduceMul, Int.reduceLE, Int.reduceNeg, Int.reduceToNat, Nat.reduceLeDiff, Nat.reduceSub, Nat.reduceLT, Nat.le_refl, Int.cast_ofNat_Int, Int.reduceLT, Int.reduceGT, Int.reduceGE, Int.reduceEq, Int.reduceBEq, Nat.reduceBEq, Int.reduceBNe, Int.reduceAdd, Int.reduceSub, gt_iff_lt, ge_iff_le]; rw [wrap_s (by omega), wrap_in (by omega) (by omega)]; exact ⟨rfl, rfl⟩)⟩
    · simp -implicitDefEqProofs only [go_sem, Nat.reduceEqDiff, reduceIte, reduceCtorEq, Nat.reduceAdd, Nat.reduceMul, Int.reduceLE, Int.reduceNeg, Int.reduceToNat, Nat.reduceLeDiff, Nat.reduceSub, Nat.reduceLT, Nat.le_refl, Int.cast_ofNat_Int, Int.reduceLT, Int.reduceGT, Int.reduceGE, Int.reduceEq, Int.reduceBEq, Nat.reduceBEq, Int.reduceBNe, Int.reduceAdd, Int.reduceSub, gt_iff_lt, ge_iff_le, hlt]
      rw [hr, List.drop_of_length_le (by omega)]; rfl
theorem size_c : ∀ a : Tm, a.wt ≤ 1099511627776 → FC Try.prog 112 [tmD a] [iD (sizeI a)] :=
  tm_ind fun n xs ih hs => size_of (.mk n xs) hs fun x hx => ih x hx (by
    have := Tm.wt_eq (.mk n xs)
    have := mem_sum Tm.wt xs x hx
    simp only [Tm.args] at *; omega)
set_option maxHeartbeats 400000 in
theorem depth_of (a : Tm) (hs : a.wt ≤ 1099511627776) (H : ∀ x ∈ a.args, FC Try.prog 113 [tmD x] [iD x.depth]) : FC Try.prog 113 [tmD a] [iD a.depth] := by
  have hl : a.args.length ≤ 9223372036854775807 := by rw [Tm.wt_eq] at hs; omega
  have hn := nodes_wt a
  have hdn := depth_nodes a
  have hD := a.depth_eq
  simp only [tmD, tmC_eq]
  refine FC_of Try.call113 Try.func113 rfl (by kernel_rfl) (by simp only [rd, List.map_cons, List.map_nil, List.length_cons, List.length_nil, Try.ntmps113]; omega) ?_
  simp -implicitDefEqProofs only [go_sem, Nat.reduceEqDiff, reduceIte, reduceCtorEq, Nat.reduceAdd, Nat.reduceMul, Int.reduceLE, Int.reduceNeg, Int.reduceToNat, Nat.reduceLeDiff, Nat.reduceSub, Nat.reduceLT, Nat.le_refl, Int.cast_ofNat_Int, Int.reduceLT, Int.reduceGT, Int.reduceGE, Int.reduceEq, Int.reduceBEq, Nat.reduceBEq, Int.reduceBNe, Int.reduceAdd, Int.reduceSub, gt_iff_lt, ge_iff_le, Try.results113]
  refine loop_rule (fun p : Nat × Nat => hd [(3, vI p.2), (7, vT (tmS a.args)), (8, vI a.args.length), (9, vI p.1)] [] []) (fun p => p.1 ≤ a.args.length ∧ a.depth = ((a.args.drop p.1).map Tm.depth).foldl max p.2 + 1) (fun p => a.args.length - p.1) (0, 0) (weak_hd ?_) ?_ ?_
  · simp -implicitDefEqProofs only [go_sem, Nat.reduceEqDiff, reduceIte, reduceCtorEq, Nat.reduceAdd, Nat.reduceMul, Int.reduceLE, Int.reduceNeg, Int.reduceToNat, Nat.reduceLeDiff, Nat.reduceSub, Nat.reduceLT, Nat.le_refl, Int.cast_ofNat_Int, Int.reduceLT, Int.reduceGT, Int.reduceGE, Int.reduceEq, Int.reduceBEq, Nat.reduceBEq, Int.reduceBNe, Int.reduceAdd, Int.reduceSub, gt_iff_lt, ge_iff_le]
  · exact ⟨by simp, hD⟩
  · intro ⟨k, n⟩ ⟨hk, hr⟩
    simp only at hk hr
    by_cases hlt : k < a.args.length
    · rw [List.drop_eq_getElem_cons hlt, List.map_cons, List.foldl_cons] at hr
      simp -implicitDefEqProofs only [go_sem, Nat.reduceEqDiff, reduceIte, reduceCtorEq, Nat.reduceAdd, Nat.reduceMul, Int.reduceLE, Int.reduceNeg, Int.reduceToNat, Nat.reduceLeDiff, Nat.reduceSub, Nat.reduceLT, Nat.le_refl, Int.cast_ofNat_Int, Int.reduceLT, Int.reduceGT, Int.reduceGE, Int.reduceEq, Int.reduceBEq, Nat.reduceBEq, Int.reduceBNe, Int.reduceAdd, Int.reduceSub, gt_iff_lt, ge_iff_le, getD_at, hlt, tmC_eq]
      refine callF (H a.args[k] (List.getElem_mem hlt)) (by simp -implicitDefEqProofs only [go_sem, Nat.reduceEqDiff, reduceIte, reduceCtorEq, Nat.reduceAdd, Nat.reduceMul, Int.reduceLE, Int.reduceNeg, Int.reduceToNat, Nat.reduceLeDiff, Nat.reduceSub, Nat.reduceLT, Nat.le_refl, Int.cast_ofNat_Int, Int.reduceLT, Int.reduceGT, Int.reduceGE, Int.reduceEq, Int.reduceBEq, Nat.reduceBEq, Int.reduceBNe, Int.reduceAdd, Int.reduceSub, gt_iff_lt, ge_iff_le, tmC_eq]) ?_
      simp -implicitDefEqProofs only [go_sem, Nat.reduceEqDiff, reduceIte, reduceCtorEq, Nat.reduceAdd, Nat.reduceMul, Int.reduceLE, Int.reduceNeg, Int.reduceToNat, Nat.reduceLeDiff, Nat.reduceSub, Nat.reduceLT, Nat.le_refl, Int.cast_ofNat_Int, Int.reduceLT, Int.reduceGT, Int.reduceGE, Int.reduceEq, Int.reduceBEq, Nat.reduceBEq, Int.reduceBNe, Int.reduceAdd, Int.reduceSub, gt_iff_lt, ge_iff_le, tmC_eq]
      exact ⟨(k + 1, max n a.args[k].depth), ⟨hlt, hr⟩, by simp only; omega, weak_hd (by simp -implicitDefEqProofs only [go_sem, Nat.reduceEqDiff, reduceIte, reduceCtorEq, Nat.reduceAdd, Nat.reduceMul, Int.reduceLE, Int.reduceNeg, Int.reduceToNat, Nat.reduceLeDiff, Nat.reduceSub, Nat.reduceLT, Nat.le_refl, Int.cast_ofNat_Int, Int.reduceLT, Int.reduceGT, Int.reduceGE, Int.reduceEq, Int.reduceBEq, Nat.reduceBEq, Int.reduceBNe, Int.reduceAdd, Int.reduceSub, gt_iff_lt, ge_iff_le]; rw [wrap_s (by omega)]; exact ⟨by congr 1; omega, rfl⟩)⟩
    · simp -implicitDefEqProofs only [go_sem, Nat.reduceEqDiff, reduceIte, reduceCtorEq, Nat.reduceAdd, Nat.reduceMul, Int.reduceLE, Int.reduceNeg, Int.reduceToNat, Nat.reduceLeDiff, Nat.reduceSub, Nat.reduceLT, Nat.le_refl, Int.cast_ofNat_Int, Int.reduceLT, Int.reduceGT, Int.reduceGE, Int.reduceEq, Int.reduceBEq, Nat.reduceBEq, Int.reduceBNe, Int.reduceAdd, Int.reduceSub, gt_iff_lt, ge_iff_le, hlt]
      rw [List.drop_of_length_le (by omega)] at hr
      simp only [List.map_nil, List.foldl_nil] at hr
      rw [hr, wrap_s (by omega)]
theorem depth_c : ∀ a : Tm, a.wt ≤ 1099511627776 → FC Try.prog 113 [tmD a] [iD a.depth] :=
  tm_ind fun n xs ih hs => depth_of (.mk n xs) hs fun x hx => ih x hx (by
    have := Tm.wt_eq (.mk n xs)
    have := mem_sum Tm.wt xs x hx
    simp only [Tm.args] at *; omega)
def smallT (a : Tm) : Bool := decide (a.nodes ≤ 30) && decide (a.depth ≤ 8)
theorem isSmall_c (a : Tm) (hs : a.wt ≤ 1099511627776) : FC Try.prog 98 [tmD a] [bD (smallT a)] := by
  simp only [tmD, tmC_eq]
  refine FC_of Try.call98 Try.func98 rfl (by kernel_rfl) (by simp only [rd, List.map_cons, List.map_nil, List.length_cons, List.length_nil, Try.ntmps98]; omega) ?_
  simp -implicitDefEqProofs only [go_sem, Nat.reduceEqDiff, reduceIte, reduceCtorEq, Nat.reduceAdd, Nat.reduceMul, Int.reduceLE, Int.reduceNeg, Int.reduceToNat, Nat.reduceLeDiff, Nat.reduceSub, Nat.reduceLT, Nat.le_refl, Int.cast_ofNat_Int, Int.reduceLT, Int.reduceGT, Int.reduceGE, Int.reduceEq, Int.reduceBEq, Nat.reduceBEq, Int.reduceBNe, Int.reduceAdd, Int.reduceSub, gt_iff_lt, ge_iff_le, Try.results98]
  refine callF (size_c a hs) (by simp -implicitDefEqProofs only [go_sem, Nat.reduceEqDiff, reduceIte, reduceCtorEq, Nat.reduceAdd, Nat.reduceMul, Int.reduceLE, Int.reduceNeg, Int.reduceToNat, Nat.reduceLeDiff, Nat.reduceSub, Nat.reduceLT, Nat.le_refl, Int.cast_ofNat_Int, Int.reduceLT, Int.reduceGT, Int.reduceGE, Int.reduceEq, Int.reduceBEq, Nat.reduceBEq, Int.reduceBNe, Int.reduceAdd, Int.reduceSub, gt_iff_lt, ge_iff_le, tmC_eq]) ?_
  simp -implicitDefEqProofs only [go_sem, Nat.reduceEqDiff, reduceIte, reduceCtorEq, Nat.reduceAdd, Nat.reduceMul, Int.reduceLE, Int.reduceNeg, Int.reduceToNat, Nat.reduceLeDiff, Nat.reduceSub, Nat.reduceLT, Nat.le_refl, Int.cast_ofNat_Int, Int.reduceLT, Int.reduceGT, Int.reduceGE, Int.reduceEq, Int.reduceBEq, Nat.reduceBEq, Int.reduceBNe, Int.reduceAdd, Int.reduceSub, gt_iff_lt, ge_iff_le, tmC_eq]
  rw [sizeI_le]
  refine ⟨fun h => ?_, fun h => ?_⟩
  · refine callF (depth_c a hs) (by simp -implicitDefEqProofs only [go_sem, Nat.reduceEqDiff, reduceIte, reduceCtorEq, Nat.reduceAdd, Nat.reduceMul, Int.reduceLE, Int.reduceNeg, Int.reduceToNat, Nat.reduceLeDiff, Nat.reduceSub, Nat.reduceLT, Nat.le_refl, Int.cast_ofNat_Int, Int.reduceLT, Int.reduceGT, Int.reduceGE, Int.reduceEq, Int.reduceBEq, Nat.reduceBEq, Int.reduceBNe, Int.reduceAdd, Int.reduceSub, gt_iff_lt, ge_iff_le, tmC_eq]) ?_
    simp -implicitDefEqProofs only [go_sem, Nat.reduceEqDiff, reduceIte, reduceCtorEq, Nat.reduceAdd, Nat.reduceMul, Int.reduceLE, Int.reduceNeg, Int.reduceToNat, Nat.reduceLeDiff, Nat.reduceSub, Nat.reduceLT, Nat.le_refl, Int.cast_ofNat_Int, Int.reduceLT, Int.reduceGT, Int.reduceGE, Int.reduceEq, Int.reduceBEq, Nat.reduceBEq, Int.reduceBNe, Int.reduceAdd, Int.reduceSub, gt_iff_lt, ge_iff_le, tmC_eq]
    rw [smallT, h, Bool.true_and]
    congr 1
    rw [decide_eq_decide]; omega
  · rw [smallT, h]; rfl
end Go.Proofs.Ytgfjbbbkploonaa
/-
  Contracts of functions of the program and of its laws, over plain data.
  Conditions: those that each theorem names.
-/
namespace Go.Proofs.Ytgfjbbbkploonaa
set_option linter.unusedSimpArgs false
set_option linter.unusedVariables false
set_option maxRecDepth 4000
open Go.RowKit
theorem VDs_caps (σ : St) (caps : List T) : VDs σ (caps.map fun t => .one (.t t)) (caps.map .one) = True := by
  induction caps with
  | nil => simp [VDs]
  | cons t ts ih => rw [List.map_cons, List.map_cons, VDs_cons, ih]; simp [VD_one, CT_t]
attribute [go_sem] VDs_caps
def idxP {α : Type} (xs : List α) (p : α → Bool) : Int := if xs.any p then xs.findIdx p else -1
theorem idxP_found {α : Type} {xs : List α} {p : α → Bool} {k : Nat} (hk : k < xs.length) (hn : ∀ x ∈ xs.take k, p x = false) (h : p xs[k] = true) : idxP xs p = k := by
  have ha : xs.any p = true := List.any_eq_true.2 ⟨xs[k], List.getElem_mem hk, h⟩
  have hf : xs.findIdx p = k := (List.findIdx_eq hk).2 ⟨h, fun j hj => hn _ (by
    rw [List.mem_take_iff_getElem]; exact ⟨j, by omega, rfl⟩)⟩
  rw [idxP, if_pos ha, hf]
theorem idxP_none {α : Type} {xs : List α} {p : α → Bool} (hn : ∀ x ∈ xs, p x = false) : idxP xs p = -1 := by
  have ha : xs.any p = false := by rw [List.any_eq_false]; exact fun x hx => by simp [hn x hx]
  rw [idxP, ha]; rfl
theorem idxP_any {α : Type} (xs : List α) (p : α → Bool) : decide (0 ≤ idxP xs p) = xs.any p := by
  unfold idxP
  cases xs.any p <;> simp
theorem idxP_ge {α : Type} (xs : List α) (p : α → Bool) : decide (idxP xs p ≥ 0) = xs.any p := idxP_any xs p
theorem take_all_succ {α : Type} {xs : List α} {p : α → Bool} {k : Nat} (hk : k < xs.length) (hn : ∀ x ∈ xs.take k, p x = false) (h : p xs[k] = false) : ∀ x ∈ xs.take (k + 1), p x = false := by
  rw [List.take_succ_eq_append_getElem hk]
  intro x hx
  rcases List.mem_append.1 hx with hx | hx
  · exact hn x hx
  · rw [List.mem_singleton.1 hx]; exact h
theorem indexFuncTerm_c (xs : List Tm) (p : Tm → Bool) (g : FuncId) (caps : List T) (H : ∀ x ∈ xs, FC Try.prog g (tmD x :: caps.map .one) [bD (p x)]) : FC Try.prog 127 [.one (tmS xs), .one (.fn g caps)] [iD (idxP xs p)] := by
  refine FC_wf (fun hw => ?_) Try.call127
  have hl : xs.length ≤ 9223372036854775807 := by simpa [wfDs, wfT] using hw.1.1
  refine FC_of Try.call127 Try.func127 rfl (by kernel_rfl) (by simp only [rd, List.map_cons, List.map_nil, List.length_cons, List.length_nil, Try.ntmps127]; omega) ?_
  simp -implicitDefEqProofs only [go_sem, Nat.reduceEqDiff, reduceIte, reduceCtorEq, Nat.reduceAdd, Nat.reduceMul, Int.reduceLE, Int.reduceNeg, Int.reduceToNat, Nat.reduceLeDiff, Nat.reduceSub, Nat.reduceLT, Nat.le_refl, Int.cast_ofNat_Int, Int.reduceLT, Int.reduceGT, Int.reduceGE, Int.reduceEq, Int.reduceBEq, Nat.reduceBEq, Int.reduceBNe, Int.reduceAdd, Int.reduceSub, gt_iff_lt, ge_iff_le, Try.results127]
  refine loop_rule (fun k : Nat => hd [(0, vT (tmS xs)), (1, vT (.fn g caps)), (7, vI xs.length), (8, vI k)] [] []) (fun k => k ≤ xs.length ∧ ∀ x ∈ xs.take k, p x = false) (fun k => xs.length - k) 0 (weak_hd ?_) ?_ ?_
  · simp -implicitDefEqProofs only [go_sem, Nat.reduceEqDiff, reduceIte, reduceCtorEq, Nat.reduceAdd, Nat.reduceMul, Int.reduceLE, Int.reduceNeg, Int.reduceToNat, Nat.reduceLeDiff, Nat.reduceSub, Nat.reduceLT, Nat.le_refl, Int.cast_ofNat_Int, Int.reduceLT, Int.reduceGT, Int.reduceGE, Int.reduceEq, Int.reduceBEq, Nat.reduceBEq, Int.reduceBNe, Int.reduceAdd, Int.reduceSub, gt_iff_lt, ge_iff_le]
  · simp
  · intro k ⟨hk, hr⟩
    by_cases hlt : k < xs.length
    · simp -implicitDefEqProofs only [go_sem, Nat.reduceEqDiff, reduceIte, reduceCtorEq, Nat.reduceAdd, Nat.reduceMul, Int.reduceLE, Int.reduceNeg, Int.reduceToNat, Nat.reduceLeDiff, Nat.reduceSub, Nat.reduceLT, Nat.le_refl, Int.cast_ofNat_Int, Int.reduceLT, Int.reduceGT, Int.reduceGE, Int.reduceEq, Int.reduceBEq, Nat.reduceBEq, Int.reduceBNe, Int.reduceAdd, Int.reduceSub, gt_iff_lt, ge_iff_le, getD_at, hlt, tmC_eq]
      refine callF (H xs[k] (List.getElem_mem hlt)) (by simp -implicitDefEqProofs only [go_sem, Nat.reduceEqDiff, reduceIte, reduceCtorEq, Nat.reduceAdd, Nat.reduceMul, Int.reduceLE, Int.reduceNeg, Int.reduceToNat, Nat.reduceLeDiff, Nat.reduceSub, Nat.reduceLT, Nat.le_refl, Int.cast_ofNat_Int, Int.reduceLT, Int.reduceGT, Int.reduceGE, Int.reduceEq, Int.reduceBEq, Nat.reduceBEq, Int.reduceBNe, Int.reduceAdd, Int.reduceSub, gt_iff_lt, ge_iff_le, tmC_eq]) ?_
      simp -implicitDefEqProofs only [go_sem, Nat.reduceEqDiff, reduceIte, reduceCtorEq, Nat.reduceAdd, Nat.reduceMul, Int.reduceLE, Int.reduceNeg, Int.reduceToNat, Nat.reduceLeDiff, Nat.reduceSub, Nat.reduceLT, Nat.le_refl, Int.cast_ofNat_Int, Int.reduceLT, Int.reduceGT, Int.reduceGE, Int.reduceEq, Int.reduceBEq, Nat.reduceBEq, Int.reduceBNe, Int.reduceAdd, Int.reduceSub, gt_iff_lt, ge_iff_le, tmC_eq]
      refine ⟨fun h => ?_, fun h => ⟨k + 1, ⟨hlt, take_all_succ hlt hr h⟩, by omega, weak_hd (by simp -implicitDefEqProofs only [go_sem, Nat.reduceEqDiff, reduceIte, reduceCtorEq, Nat.reduceAdd, Nat.reduceMul, Int.reduceLE, Int.reduceNeg, Int.reduceToNat, Nat.reduceLeDiff, Nat.reduceSub, Nat.reduceLT, Nat.le_refl, Int.cast_ofNat_Int, Int.reduceLT, Int.reduceGT, Int.reduceGE, Int.reduceEq, Int.reduceBEq, Nat.reduceBEq, Int.reduceBNe, Int.reduceAdd, Int.reduceSub, gt_iff_lt, ge_iff_le]; rw [wrap_s (by omega)])⟩⟩
      rw [idxP_found hlt hr h]
    · simp -implicitDefEqProofs only [go_sem, Nat.reduceEqDiff, reduceIte, reduceCtorEq, Nat.reduceAdd, Nat.reduceMul, Int.reduceLE, Int.reduceNeg, Int.reduceToNat, Nat.reduceLeDiff, Nat.reduceSub, Nat.reduceLT, Nat.le_refl, Int.cast_ofNat_Int, Int.reduceLT, Int.reduceGT, Int.reduceGE, Int.reduceEq, Int.reduceBEq, Nat.reduceBEq, Int.reduceBNe, Int.reduceAdd, Int.reduceSub, gt_iff_lt, ge_iff_le, hlt]
      rw [List.take_of_length_le (by omega)] at hr
      rw [idxP_none hr]
theorem containsFuncTerm_c (xs : List Tm) (p : Tm → Bool) (g : FuncId) (caps : List T) (H : ∀ x ∈ xs, FC Try.prog g (tmD x :: caps.map .one) [bD (p x)]) : FC Try.prog 114 [.one (tmS xs), .one (.fn g caps)] [bD (xs.any p)] := by
  refine FC_of Try.call114 Try.func114 rfl (by kernel_rfl) (by simp only [rd, List.map_cons, List.map_nil, List.length_cons, List.length_nil, Try.ntmps114]; omega) ?_
  simp -implicitDefEqProofs only [go_sem, Nat.reduceEqDiff, reduceIte, reduceCtorEq, Nat.reduceAdd, Nat.reduceMul, Int.reduceLE, Int.reduceNeg, Int.reduceToNat, Nat.reduceLeDiff, Nat.reduceSub, Nat.reduceLT, Nat.le_refl, Int.cast_ofNat_Int, Int.reduceLT, Int.reduceGT, Int.reduceGE, Int.reduceEq, Int.reduceBEq, Nat.reduceBEq, Int.reduceBNe, Int.reduceAdd, Int.reduceSub, gt_iff_lt, ge_iff_le, Try.results114]
  refine callF (indexFuncTerm_c xs p g caps H) (by simp -implicitDefEqProofs only [go_sem, Nat.reduceEqDiff, reduceIte, reduceCtorEq, Nat.reduceAdd, Nat.reduceMul, Int.reduceLE, Int.reduceNeg, Int.reduceToNat, Nat.reduceLeDiff, Nat.reduceSub, Nat.reduceLT, Nat.le_refl, Int.cast_ofNat_Int, Int.reduceLT, Int.reduceGT, Int.reduceGE, Int.reduceEq, Int.reduceBEq, Nat.reduceBEq, Int.reduceBNe, Int.reduceAdd, Int.reduceSub, gt_iff_lt, ge_iff_le]) ?_
  simp -implicitDefEqProofs only [go_sem, Nat.reduceEqDiff, reduceIte, reduceCtorEq, Nat.reduceAdd, Nat.reduceMul, Int.reduceLE, Int.reduceNeg, Int.reduceToNat, Nat.reduceLeDiff, Nat.reduceSub, Nat.reduceLT, Nat.le_refl, Int.cast_ofNat_Int, Int.reduceLT, Int.reduceGT, Int.reduceGE, Int.reduceEq, Int.reduceBEq, Nat.reduceBEq, Int.reduceBNe, Int.reduceAdd, Int.reduceSub, gt_iff_lt, ge_iff_le]
  rw [idxP_any]
theorem indexFuncFormula_c (xs : List Fm) (p : Fm → Bool) (g : FuncId) (caps : List T) (H : ∀ x ∈ xs, FC Try.prog g (fmD x :: caps.map .one) [bD (p x)]) : FC Try.prog 51 [.one (fmS xs), .one (.fn g caps)] [iD (idxP xs p)] := by
  refine FC_wf (fun hw => ?_) Try.call51
  have hl : xs.length ≤ 9223372036854775807 := by simpa [wfDs, wfT] using hw.1.1
  refine FC_of Try.call51 Try.func51 rfl (by kernel_rfl) (by simp only [rd, List.map_cons, List.map_nil, List.length_cons, List.length_nil, Try.ntmps51]; omega) ?_
  simp -implicitDefEqProofs only [go_sem, Nat.reduceEqDiff, reduceIte, reduceCtorEq, Nat.reduceAdd, Nat.reduceMul, Int.reduceLE, Int.reduceNeg, Int.reduceToNat, Nat.reduceLeDiff, Nat.reduceSub, Nat.reduceLT, Nat.le_refl, Int.cast_ofNat_Int, Int.reduceLT, Int.reduceGT, Int.reduceGE, Int.reduceEq, Int.reduceBEq, Nat.reduceBEq, Int.reduceBNe, Int.reduceAdd, Int.reduceSub, gt_iff_lt, ge_iff_le, Try.results51]
  refine loop_rule (fun k : Nat => hd [(0, vT (fmS xs)), (1, vT (.fn g caps)), (7, vI xs.length), (8, vI k)] [] []) (fun k => k ≤ xs.length ∧ ∀ x ∈ xs.take k, p x = false) (fun k => xs.length - k) 0 (weak_hd ?_) ?_ ?_
  · simp -implicitDefEqProofs only [go_sem, Nat.reduceEqDiff, reduceIte, reduceCtorEq, Nat.reduceAdd, Nat.reduceMul, Int.reduceLE, Int.reduceNeg, Int.reduceToNat, Nat.reduceLeDiff, Nat.reduceSub, Nat.reduceLT, Nat.le_refl, Int.cast_ofNat_Int, Int.reduceLT, Int.reduceGT, Int.reduceGE, Int.reduceEq, Int.reduceBEq, Nat.reduceBEq, Int.reduceBNe, Int.reduceAdd, Int.reduceSub, gt_iff_lt, ge_iff_le]
  · simp
  · intro k ⟨hk, hr⟩
    by_cases hlt : k < xs.length
    · simp -implicitDefEqProofs only [go_sem, Nat.reduceEqDiff, reduceIte, reduceCtorEq, Nat.reduceAdd, Nat.reduceMul, Int.reduceLE, Int.reduceNeg, Int.reduceToNat, Nat.reduceLeDiff, Nat.reduceSub, Nat.reduceLT, Nat.le_refl, Int.cast_ofNat_Int, Int.reduceLT, Int.reduceGT, Int.reduceGE, Int.reduceEq, Int.reduceBEq, Nat.reduceBEq, Int.reduceBNe, Int.reduceAdd, Int.reduceSub, gt_iff_lt, ge_iff_le, getD_at, hlt, fmC_eq, tmC_eq]
      refine callF (H xs[k] (List.getElem_mem hlt)) (by simp -implicitDefEqProofs only [go_sem, Nat.reduceEqDiff, reduceIte, reduceCtorEq, Nat.reduceAdd, Nat.reduceMul, Int.reduceLE, Int.reduceNeg, Int.reduceToNat, Nat.reduceLeDiff, Nat.reduceSub, Nat.reduceLT, Nat.le_refl, Int.cast_ofNat_Int, Int.reduceLT, Int.reduceGT, Int.reduceGE, Int.reduceEq, Int.reduceBEq, Nat.reduceBEq, Int.reduceBNe, Int.reduceAdd, Int.reduceSub, gt_iff_lt, ge_iff_le, fmC_eq, tmC_eq]) ?_
      simp -implicitDefEqProofs only [go_sem, Nat.reduceEqDiff, reduceIte, reduceCtorEq, Nat.reduceAdd, Nat.reduceMul, Int.reduceLE, Int.reduceNeg, Int.reduceToNat, Nat.reduceLeDiff, Nat.reduceSub, Nat.reduceLT, Nat.le_refl, Int.cast_ofNat_Int, Int.reduceLT, Int.reduceGT, Int.reduceGE, Int.reduceEq, Int.reduceBEq, Nat.reduceBEq, Int.reduceBNe, Int.reduceAdd, Int.reduceSub, gt_iff_lt, ge_iff_le, fmC_eq, tmC_eq]
      refine ⟨fun h => ?_, fun h => ⟨k + 1, ⟨hlt, take_all_succ hlt hr h⟩, by omega, weak_hd (by simp -implicitDefEqProofs only [go_sem, Nat.reduceEqDiff, reduceIte, reduceCtorEq, Nat.reduceAdd, Nat.reduceMul, Int.reduceLE, Int.reduceNeg, Int.reduceToNat, Nat.reduceLeDiff, Nat.reduceSub, Nat.reduceLT, Nat.le_refl, Int.cast_ofNat_Int, Int.reduceLT, Int.reduceGT, Int.reduceGE, Int.reduceEq, Int.reduceBEq, Nat.reduceBEq, Int.reduceBNe, Int.reduceAdd, Int.reduceSub, gt_iff_lt, ge_iff_le]; rw [wrap_s (by omega)])⟩⟩
      rw [idxP_found hlt hr h]
    · simp -implicitDefEqProofs only [go_sem, Nat.reduceEqDiff, reduceIte, reduceCtorEq, Nat.reduceAdd, Nat.reduceMul, Int.reduceLE, Int.reduceNeg, Int.reduceToNat, Nat.reduceLeDiff, Nat.reduceSub, Nat.reduceLT, Nat.le_refl, Int.cast_ofNat_Int, Int.reduceLT, Int.reduceGT, Int.reduceGE, Int.reduceEq, Int.reduceBEq, Nat.reduceBEq, Int.reduceBNe, Int.reduceAdd, Int.reduceSub, gt_iff_lt, ge_iff_le, hlt]
      rw [List.take_of_length_le (by omega)] at hr
      rw [idxP_none hr]
theorem containsFuncFormula_c (xs : List Fm) (p : Fm → Bool) (g : FuncId) (caps : List T) (H : ∀ x ∈ xs, FC Try.prog g (fmD x :: caps.map .one) [bD (p x)]) : FC Try.prog 29 [.one (fmS xs), .one (.fn g caps)] [bD (xs.any p)] := by
  refine FC_of Try.call29 Try.func29 rfl (by kernel_rfl) (by simp only [rd, List.map_cons, List.map_nil, List.length_cons, List.length_nil, Try.ntmps29]; omega) ?_
  simp -implicitDefEqProofs only [go_sem, Nat.reduceEqDiff, reduceIte, reduceCtorEq, Nat.reduceAdd, Nat.reduceMul, Int.reduceLE, Int.reduceNeg, Int.reduceToNat, Nat.reduceLeDiff, Nat.reduceSub, Nat.reduceLT, Nat.le_refl, Int.cast_ofNat_Int, Int.reduceLT, Int.reduceGT, Int.reduceGE, Int.reduceEq, Int.reduceBEq, Nat.reduceBEq, Int.reduceBNe, Int.reduceAdd, Int.reduceSub, gt_iff_lt, ge_iff_le, Try.results29]
  refine callF (indexFuncFormula_c xs p g caps H) (by simp -implicitDefEqProofs only [go_sem, Nat.reduceEqDiff, reduceIte, reduceCtorEq, Nat.reduceAdd, Nat.reduceMul, Int.reduceLE, Int.reduceNeg, Int.reduceToNat, Nat.reduceLeDiff, Nat.reduceSub, Nat.reduceLT, Nat.le_refl, Int.cast_ofNat_Int, Int.reduceLT, Int.reduceGT, Int.reduceGE, Int.reduceEq, Int.reduceBEq, Nat.reduceBEq, Int.reduceBNe, Int.reduceAdd, Int.reduceSub, gt_iff_lt, ge_iff_le]) ?_
  simp -implicitDefEqProofs only [go_sem, Nat.reduceEqDiff, reduceIte, reduceCtorEq, Nat.reduceAdd, Nat.reduceMul, Int.reduceLE, Int.reduceNeg, Int.reduceToNat, Nat.reduceLeDiff, Nat.reduceSub, Nat.reduceLT, Nat.le_refl, Int.cast_ofNat_Int, Int.reduceLT, Int.reduceGT, Int.reduceGE, Int.reduceEq, Int.reduceBEq, Nat.reduceBEq, Int.reduceBNe, Int.reduceAdd, Int.reduceSub, gt_iff_lt, ge_iff_le]
  rw [idxP_any]
end Go.Proofs.Ytgfjbbbkploonaa
/-
  slices.EqualFunc.
  Conditions: none.
-/
namespace Go.Proofs.Ytgfjbbbkploonaa
set_option linter.unusedSimpArgs false
set_option linter.unusedVariables false
set_option maxRecDepth 4000
open Go.RowKit
/-- Two lists, member by member. -/
def eqL {α : Type} (p : α → α → Bool) : List α → List α → Bool
  | [], [] => true
  | a :: xs, b :: ys => p a b && eqL p xs ys
  | _, _ => false
theorem eqL_len {α : Type} {p : α → α → Bool} : ∀ {xs ys : List α}, xs.length ≠ ys.length → eqL p xs ys = false
  | [], [], h => absurd rfl h
  | [], _ :: _, _ => rfl
  | _ :: _, [], _ => rfl
  | a :: xs, b :: ys, h => by simp only [eqL]; rw [eqL_len (by simpa using h), Bool.and_false]
theorem eqL_same {α : Type} {p : α → α → Bool} : ∀ {xs ys : List α}, (∀ x ∈ xs, ∀ y, p x y = same x y) → eqL p xs ys = same xs ys
  | [], [], _ => same_nil.symm
  | [], _ :: _, _ => (same_no.2 (by simp)).symm
  | _ :: _, [], _ => (same_no.2 (by simp)).symm
  | a :: xs, b :: ys, h => by simp only [eqL]; rw [same_cons, h a (by simp) b, eqL_same fun x hx y => h x (by simp [hx]) y]
set_option maxRecDepth 10000 in
set_option maxHeartbeats 400000 in
theorem equalFuncTerm_c (xs ys : List Tm) (p : Tm → Tm → Bool) (g : FuncId) (caps : List T) (H : ∀ x ∈ xs, ∀ y ∈ ys, FC Try.prog g (tmD x :: tmD y :: caps.map .one) [bD (p x y)]) : FC Try.prog 126 [.one (tmS xs), .one (tmS ys), .one (.fn g caps)] [bD (eqL p xs ys)] := by
  refine FC_wf (fun hw => ?_) Try.call126
  have hl : xs.length ≤ 9223372036854775807 := by simpa [wfDs, wfT] using hw.1.1
  have hl2 : ys.length ≤ 9223372036854775807 := by simpa [wfDs, wfT] using hw.2.1.1
  refine FC_of Try.call126 Try.func126 rfl (by kernel_rfl) (by simp only [rd, List.map_cons, List.map_nil, List.length_cons, List.length_nil, Try.ntmps126]; omega) ?_
  simp -implicitDefEqProofs only [go_sem, Nat.reduceEqDiff, reduceIte, reduceCtorEq, Nat.reduceAdd, Nat.reduceMul, Int.reduceLE, Int.reduceNeg, Int.reduceToNat, Nat.reduceLeDiff, Nat.reduceSub, Nat.reduceLT, Nat.le_refl, Int.cast_ofNat_Int, Int.reduceLT, Int.reduceGT, Int.reduceGE, Int.reduceEq, Int.reduceBEq, Nat.reduceBEq, Int.reduceBNe, Int.reduceAdd, Int.reduceSub, gt_iff_lt, ge_iff_le, Try.results126]
  refine ⟨fun h => ?_, fun h => ?_⟩
  · rw [eqL_len (by rintro e; simp [e] at h)]
  · have hlen : xs.length = ys.length := by simp at h; omega
    refine loop_rule (fun k : Nat => hd [(1, vT (tmS ys)), (2, .one (.t (.fn g caps))), (15, vT (tmS xs)), (16, vI xs.length), (17, vI k)] [] []) (fun k => k ≤ xs.length ∧ eqL p xs ys = eqL p (xs.drop k) (ys.drop k)) (fun k => xs.length - k) 0 (weak_hd ?_) ?_ ?_
    · simp -implicitDefEqProofs only [go_sem, Nat.reduceEqDiff, reduceIte, reduceCtorEq, Nat.reduceAdd, Nat.reduceMul, Int.reduceLE, Int.reduceNeg, Int.reduceToNat, Nat.reduceLeDiff, Nat.reduceSub, Nat.reduceLT, Nat.le_refl, Int.cast_ofNat_Int, Int.reduceLT, Int.reduceGT, Int.reduceGE, Int.reduceEq, Int.reduceBEq, Nat.reduceBEq, Int.reduceBNe, Int.reduceAdd, Int.reduceSub, gt_iff_lt, ge_iff_le]
    · simp
    · intro k ⟨hk, hr⟩
      by_cases hlt : k < xs.length
      · have hk2 : k < ys.length := by omega
        simp -implicitDefEqProofs only [go_sem, Nat.reduceEqDiff, reduceIte, reduceCtorEq, Nat.reduceAdd, Nat.reduceMul, Int.reduceLE, Int.reduceNeg, Int.reduceToNat, Nat.reduceLeDiff, Nat.reduceSub, Nat.reduceLT, Nat.le_refl, Int.cast_ofNat_Int, Int.reduceLT, Int.reduceGT, Int.reduceGE, Int.reduceEq, Int.reduceBEq, Nat.reduceBEq, Int.reduceBNe, Int.reduceAdd, Int.reduceSub, gt_iff_lt, ge_iff_le, List.length_map, getD_at, hlt, hk2, tmC_eq]
        refine callF (H xs[k] (List.getElem_mem hlt) ys[k] (List.getElem_mem hk2)) (by simp -implicitDefEqProofs only [go_sem, Nat.reduceEqDiff, reduceIte, reduceCtorEq, Nat.reduceAdd, Nat.reduceMul, Int.reduceLE, Int.reduceNeg, Int.reduceToNat, Nat.reduceLeDiff, Nat.reduceSub, Nat.reduceLT, Nat.le_refl, Int.cast_ofNat_Int, Int.reduceLT, Int.reduceGT, Int.reduceGE, Int.reduceEq, Int.reduceBEq, Nat.reduceBEq, Int.reduceBNe, Int.reduceAdd, Int.reduceSub, gt_iff_lt, ge_iff_le, tmC_eq]) ?_
        simp -implicitDefEqProofs only [go_sem, Nat.reduceEqDiff, reduceIte, reduceCtorEq, Nat.reduceAdd, Nat.reduceMul, Int.reduceLE, Int.reduceNeg, Int.reduceToNat, Nat.reduceLeDiff, Nat.reduceSub, Nat.reduceLT, Nat.le_refl, Int.cast_ofNat_Int, Int.reduceLT, Int.reduceGT, Int.reduceGE, Int.reduceEq, Int.reduceBEq, Nat.reduceBEq, Int.reduceBNe, Int.reduceAdd, Int.reduceSub, gt_iff_lt, ge_iff_le, tmC_eq]
        rw [List.drop_eq_getElem_cons hlt, List.drop_eq_getElem_cons hk2, eqL] at hr
        refine ⟨fun h => ?_, fun h => ?_⟩
        · rw [hr, show p xs[k] ys[k] = false by simpa using h]; rfl
        · rw [show p xs[k] ys[k] = true by simpa using h, Bool.true_and] at hr
          rw [wrap_s (by omega)]
          exact ⟨k + 1, ⟨by omega, hr⟩, by omega, weak_hd (by simp -implicitDefEqProofs only [go_sem, Nat.reduceEqDiff, reduceIte, reduceCtorEq, Nat.reduceAdd, Nat.reduceMul, Int.reduceLE, Int.reduceNeg, Int.reduceToNat, Nat.reduceLeDiff, Nat.reduceSub, Nat.reduceLT, Nat.le_refl, Int.cast_ofNat_Int, Int.reduceLT, Int.reduceGT, Int.reduceGE, Int.reduceEq, Int.reduceBEq, Nat.reduceBEq, Int.reduceBNe, Int.reduceAdd, Int.reduceSub, gt_iff_lt, ge_iff_le])⟩
      · simp -implicitDefEqProofs only [go_sem, Nat.reduceEqDiff, reduceIte, reduceCtorEq, Nat.reduceAdd, Nat.reduceMul, Int.reduceLE, Int.reduceNeg, Int.reduceToNat, Nat.reduceLeDiff, Nat.reduceSub, Nat.reduceLT, Nat.le_refl, Int.cast_ofNat_Int, Int.reduceLT, Int.reduceGT, Int.reduceGE, Int.reduceEq, Int.reduceBEq, Nat.reduceBEq, Int.reduceBNe, Int.reduceAdd, Int.reduceSub, gt_iff_lt, ge_iff_le, List.length_map, hlt]
        rw [hr, List.drop_of_length_le (by omega), List.drop_of_length_le (by omega)]; rfl
set_option maxRecDepth 10000 in
set_option maxHeartbeats 400000 in
theorem equalFuncFormula_c (xs ys : List Fm) (p : Fm → Fm → Bool) (g : FuncId) (caps : List T) (H : ∀ x ∈ xs, ∀ y ∈ ys, FC Try.prog g (fmD x :: fmD y :: caps.map .one) [bD (p x y)]) : FC Try.prog 111 [.one (fmS xs), .one (fmS ys), .one (.fn g caps)] [bD (eqL p xs ys)] := by
  refine FC_wf (fun hw => ?_) Try.call111
  have hl : xs.length ≤ 9223372036854775807 := by simpa [wfDs, wfT] using hw.1.1
  have hl2 : ys.length ≤ 9223372036854775807 := by simpa [wfDs, wfT] using hw.2.1.1
  refine FC_of Try.call111 Try.func111 rfl (by kernel_rfl) (by simp only [rd, List.map_cons, List.map_nil, List.length_cons, List.length_nil, Try.ntmps111]; omega) ?_
  simp -implicitDefEqProofs only [go_sem, Nat.reduceEqDiff, reduceIte, reduceCtorEq, Nat.reduceAdd, Nat.reduceMul, Int.reduceLE, Int.reduceNeg, Int.reduceToNat, Nat.reduceLeDiff, Nat.reduceSub, Nat.reduceLT, Nat.le_refl, Int.cast_ofNat_Int, Int.reduceLT, Int.reduceGT, Int.reduceGE, Int.reduceEq, Int.reduceBEq, Nat.reduceBEq, Int.reduceBNe, Int.reduceAdd, Int.reduceSub, gt_iff_lt, ge_iff_le, Try.results111]
  refine ⟨fun h => ?_, fun h => ?_⟩
  · rw [eqL_len (by rintro e; simp [e] at h)]
  · have hlen : xs.length = ys.length := by simp at h; omega
    refine loop_rule (fun k : Nat => hd [(1, vT (fmS ys)), (2, .one (.t (.fn g caps))), (15, vT (fmS xs)), (16, vI xs.length), (17, vI k)] [] []) (fun k => k ≤ xs.length ∧ eqL p xs ys = eqL p (xs.drop k) (ys.drop k)) (fun k => xs.length - k) 0 (weak_hd ?_) ?_ ?_
    · simp -implicitDefEqProofs only [go_sem, Nat.reduceEqDiff, reduceIte, reduceCtorEq, Nat.reduceAdd, Nat.reduceMul, Int.reduceLE, Int.reduceNeg, Int.reduceToNat, Nat.reduceLeDiff, Nat.reduceSub, Nat.reduceLT, Nat.le_refl, Int.cast_ofNat_Int, Int.reduceLT, Int.reduceGT, Int.reduceGE, Int.reduceEq, Int.reduceBEq, Nat.reduceBEq, Int.reduceBNe, Int.reduceAdd, Int.reduceSub, gt_iff_lt, ge_iff_le]
    · simp
    · intro k ⟨hk, hr⟩
      by_cases hlt : k < xs.length
      · have hk2 : k < ys.length := by omega
        simp -implicitDefEqProofs only [go_sem, Nat.reduceEqDiff, reduceIte, reduceCtorEq, Nat.reduceAdd, Nat.reduceMul, Int.reduceLE, Int.reduceNeg, Int.reduceToNat, Nat.reduceLeDiff, Nat.reduceSub, Nat.reduceLT, Nat.le_refl, Int.cast_ofNat_Int, Int.reduceLT, Int.reduceGT, Int.reduceGE, Int.reduceEq, Int.reduceBEq, Nat.reduceBEq, Int.reduceBNe, Int.reduceAdd, Int.reduceSub, gt_iff_lt, ge_iff_le, List.length_map, getD_at, hlt, hk2, fmC_eq, tmC_eq]
        refine callF (H xs[k] (List.getElem_mem hlt) ys[k] (List.getElem_mem hk2)) (by simp -implicitDefEqProofs only [go_sem, Nat.reduceEqDiff, reduceIte, reduceCtorEq, Nat.reduceAdd, Nat.reduceMul, Int.reduceLE, Int.reduceNeg, Int.reduceToNat, Nat.reduceLeDiff, Nat.reduceSub, Nat.reduceLT, Nat.le_refl, Int.cast_ofNat_Int, Int.reduceLT, Int.reduceGT, Int.reduceGE, Int.reduceEq, Int.reduceBEq, Nat.reduceBEq, Int.reduceBNe, Int.reduceAdd, Int.reduceSub, gt_iff_lt, ge_iff_le, fmC_eq, tmC_eq]) ?_
        simp -implicitDefEqProofs only [go_sem, Nat.reduceEqDiff, reduceIte, reduceCtorEq, Nat.reduceAdd, Nat.reduceMul, Int.reduceLE, Int.reduceNeg, Int.reduceToNat, Nat.reduceLeDiff, Nat.reduceSub, Nat.reduceLT, Nat.le_refl, Int.cast_ofNat_Int, Int.reduceLT, Int.reduceGT, Int.reduceGE, Int.reduceEq, Int.reduceBEq, Nat.reduceBEq, Int.reduceBNe, Int.reduceAdd, Int.reduceSub, gt_iff_lt, ge_iff_le, fmC_eq, tmC_eq]
        rw [List.drop_eq_getElem_cons hlt, List.drop_eq_getElem_cons hk2, eqL] at hr
        refine ⟨fun h => ?_, fun h => ?_⟩
        · rw [hr, show p xs[k] ys[k] = false by simpa using h]; rfl
        · rw [show p xs[k] ys[k] = true by simpa using h, Bool.true_and] at hr
          rw [wrap_s (by omega)]
          exact ⟨k + 1, ⟨by omega, hr⟩, by omega, weak_hd (by simp -implicitDefEqProofs only [go_sem, Nat.reduceEqDiff, reduceIte, reduceCtorEq, Nat.reduceAdd, Nat.reduceMul, Int.reduceLE, Int.reduceNeg, Int.reduceToNat, Nat.reduceLeDiff, Nat.reduceSub, Nat.reduceLT, Nat.le_refl, Int.cast_ofNat_Int, Int.reduceLT, Int.reduceGT, Int.reduceGE, Int.reduceEq, Int.reduceBEq, Nat.reduceBEq, Int.reduceBNe, Int.reduceAdd, Int.reduceSub, gt_iff_lt, ge_iff_le])⟩
      · simp -implicitDefEqProofs only [go_sem, Nat.reduceEqDiff, reduceIte, reduceCtorEq, Nat.reduceAdd, Nat.reduceMul, Int.reduceLE, Int.reduceNeg, Int.reduceToNat, Nat.reduceLeDiff, Nat.reduceSub, Nat.reduceLT, Nat.le_refl, Int.cast_ofNat_Int, Int.reduceLT, Int.reduceGT, Int.reduceGE, Int.reduceEq, Int.reduceBEq, Nat.reduceBEq, Int.reduceBNe, Int.reduceAdd, Int.reduceSub, gt_iff_lt, ge_iff_le, List.length_map, hlt]
        rw [hr, List.drop_of_length_le (by omega), List.drop_of_length_le (by omega)]; rfl
end Go.Proofs.Ytgfjbbbkploonaa
/-
  Equal terms and formulas.
  Conditions: those that each theorem names.
-/
namespace Go.Proofs.Ytgfjbbbkploonaa
set_option linter.unusedSimpArgs false
set_option linter.unusedVariables false
set_option maxRecDepth 4000
open Go.RowKit
theorem same_tm (a b : Tm) : same a b = (same a.name b.name && same a.args b.args) := by
  cases a; cases b
  rw [Bool.eq_iff_iff]
  simp only [Bool.and_eq_true, same_iff, Tm.name, Tm.args, Tm.mk.injEq]
theorem same_fm (a b : Fm) : same a b = (same a.op b.op && same a.atom b.atom && same a.var b.var && same a.parts b.parts) := by
  cases a; cases b
  rw [Bool.eq_iff_iff]
  simp only [Bool.and_eq_true, same_iff, Fm.op, Fm.atom, Fm.var, Fm.parts, Fm.mk.injEq, and_assoc]
theorem same_beq {α : Type} [BEq α] [LawfulBEq α] (a b : α) : (a == b) = same a b := by
  rw [Bool.eq_iff_iff, beq_iff_eq, same_iff]
theorem eqTerms_of (a b : Tm) (H : FC Try.prog 126 [.one (tmS a.args), .one (tmS b.args), .one (.fn 110 [])] [bD (same a.args b.args)]) :
    FC Try.prog 110 [tmD a, tmD b] [bD (same a b)] := by
  simp only [tmD, tmC_eq]
  refine FC_of Try.call110 Try.func110 rfl (by kernel_rfl) (by simp only [rd, List.map_cons, List.map_nil, List.length_cons, List.length_nil, Try.ntmps110]; omega) ?_
  simp -implicitDefEqProofs only [go_sem, Nat.reduceEqDiff, reduceIte, reduceCtorEq, Nat.reduceAdd, Nat.reduceMul, Int.reduceLE, Int.reduceNeg, Int.reduceToNat, Nat.reduceLeDiff, Nat.reduceSub, Nat.reduceLT, Nat.le_refl, Int.cast_ofNat_Int, Int.reduceLT, Int.reduceGT, Int.reduceGE, Int.reduceEq, Int.reduceBEq, Nat.reduceBEq, Int.reduceBNe, Int.reduceAdd, Int.reduceSub, gt_iff_lt, ge_iff_le, Try.results110]
  refine ⟨fun h => ?_, fun h => ?_⟩
  · refine callF (H) (by simp -implicitDefEqProofs only [go_sem, Nat.reduceEqDiff, reduceIte, reduceCtorEq, Nat.reduceAdd, Nat.reduceMul, Int.reduceLE, Int.reduceNeg, Int.reduceToNat, Nat.reduceLeDiff, Nat.reduceSub, Nat.reduceLT, Nat.le_refl, Int.cast_ofNat_Int, Int.reduceLT, Int.reduceGT, Int.reduceGE, Int.reduceEq, Int.reduceBEq, Nat.reduceBEq, Int.reduceBNe, Int.reduceAdd, Int.reduceSub, gt_iff_lt, ge_iff_le]) ?_
    simp -implicitDefEqProofs only [go_sem, Nat.reduceEqDiff, reduceIte, reduceCtorEq, Nat.reduceAdd, Nat.reduceMul, Int.reduceLE, Int.reduceNeg, Int.reduceToNat, Nat.reduceLeDiff, Nat.reduceSub, Nat.reduceLT, Nat.le_refl, Int.cast_ofNat_Int, Int.reduceLT, Int.reduceGT, Int.reduceGE, Int.reduceEq, Int.reduceBEq, Nat.reduceBEq, Int.reduceBNe, Int.reduceAdd, Int.reduceSub, gt_iff_lt, ge_iff_le]
    rw [same_tm, ← same_beq a.name, h, Bool.true_and]
  · rw [same_tm, ← same_beq a.name, h]; rfl
theorem equalTerms_c : ∀ a b : Tm, FC Try.prog 110 [tmD a, tmD b] [bD (same a b)] :=
  tm_ind fun n xs ih b => eqTerms_of (.mk n xs) b (by
    rw [show same (Tm.mk n xs).args b.args = eqL same (Tm.mk n xs).args b.args from (eqL_same fun _ _ _ => rfl).symm]
    exact equalFuncTerm_c xs b.args same _ [] fun x hx y _ => ih x hx y)
theorem sameFormula_of (a b : Fm) (H : FC Try.prog 111 [.one (fmS a.parts), .one (fmS b.parts), .one (.fn 91 [])] [bD (same a.parts b.parts)]) :
    FC Try.prog 91 [fmD a, fmD b] [bD (same a b)] := by
  simp only [fmD, fmC_eq]
  refine FC_of Try.call91 Try.func91 rfl (by kernel_rfl) (by simp only [rd, List.map_cons, List.map_nil, List.length_cons, List.length_nil, Try.ntmps91]; omega) ?_
  simp -implicitDefEqProofs only [go_sem, Nat.reduceEqDiff, reduceIte, reduceCtorEq, Nat.reduceAdd, Nat.reduceMul, Int.reduceLE, Int.reduceNeg, Int.reduceToNat, Nat.reduceLeDiff, Nat.reduceSub, Nat.reduceLT, Nat.le_refl, Int.cast_ofNat_Int, Int.reduceLT, Int.reduceGT, Int.reduceGE, Int.reduceEq, Int.reduceBEq, Nat.reduceBEq, Int.reduceBNe, Int.reduceAdd, Int.reduceSub, gt_iff_lt, ge_iff_le, Try.results91]
  refine ⟨fun h1 => ?_, fun h1 => by rw [same_fm, ← same_beq a.op, h1]; rfl⟩
  refine callF (equalTerms_c a.atom b.atom) (by simp -implicitDefEqProofs only [go_sem, Nat.reduceEqDiff, reduceIte, reduceCtorEq, Nat.reduceAdd, Nat.reduceMul, Int.reduceLE, Int.reduceNeg, Int.reduceToNat, Nat.reduceLeDiff, Nat.reduceSub, Nat.reduceLT, Nat.le_refl, Int.cast_ofNat_Int, Int.reduceLT, Int.reduceGT, Int.reduceGE, Int.reduceEq, Int.reduceBEq, Nat.reduceBEq, Int.reduceBNe, Int.reduceAdd, Int.reduceSub, gt_iff_lt, ge_iff_le, tmC_eq]) ?_
  simp -implicitDefEqProofs only [go_sem, Nat.reduceEqDiff, reduceIte, reduceCtorEq, Nat.reduceAdd, Nat.reduceMul, Int.reduceLE, Int.reduceNeg, Int.reduceToNat, Nat.reduceLeDiff, Nat.reduceSub, Nat.reduceLT, Nat.le_refl, Int.cast_ofNat_Int, Int.reduceLT, Int.reduceGT, Int.reduceGE, Int.reduceEq, Int.reduceBEq, Nat.reduceBEq, Int.reduceBNe, Int.reduceAdd, Int.reduceSub, gt_iff_lt, ge_iff_le, tmC_eq]
  refine ⟨fun h2 => ?_, fun h2 => by rw [same_fm, ← same_beq a.op, h1, h2]; rfl⟩
  refine ⟨fun h3 => ?_, fun h3 => by rw [same_fm, ← same_beq a.op, h1, h2, ← same_beq a.var, h3]; rfl⟩
  refine callF (H) (by simp -implicitDefEqProofs only [go_sem, Nat.reduceEqDiff, reduceIte, reduceCtorEq, Nat.reduceAdd, Nat.reduceMul, Int.reduceLE, Int.reduceNeg, Int.reduceToNat, Nat.reduceLeDiff, Nat.reduceSub, Nat.reduceLT, Nat.le_refl, Int.cast_ofNat_Int, Int.reduceLT, Int.reduceGT, Int.reduceGE, Int.reduceEq, Int.reduceBEq, Nat.reduceBEq, Int.reduceBNe, Int.reduceAdd, Int.reduceSub, gt_iff_lt, ge_iff_le]) ?_
  simp -implicitDefEqProofs only [go_sem, Nat.reduceEqDiff, reduceIte, reduceCtorEq, Nat.reduceAdd, Nat.reduceMul, Int.reduceLE, Int.reduceNeg, Int.reduceToNat, Nat.reduceLeDiff, Nat.reduceSub, Nat.reduceLT, Nat.le_refl, Int.cast_ofNat_Int, Int.reduceLT, Int.reduceGT, Int.reduceGE, Int.reduceEq, Int.reduceBEq, Nat.reduceBEq, Int.reduceBNe, Int.reduceAdd, Int.reduceSub, gt_iff_lt, ge_iff_le]
  rw [same_fm, ← same_beq a.op, h1, h2, ← same_beq a.var, h3]; rfl
theorem sameFormula_c : ∀ a b : Fm, FC Try.prog 91 [fmD a, fmD b] [bD (same a b)] :=
  fm_ind fun o t v ps ih b => sameFormula_of (.mk o t v ps) b (by
    rw [show same (Fm.mk o t v ps).parts b.parts = eqL same (Fm.mk o t v ps).parts b.parts from (eqL_same fun _ _ _ => rfl).symm]
    exact equalFuncFormula_c ps b.parts same _ [] fun x hx y _ => ih x hx y)
theorem l2Same_of (a b : Tm) (H : ∀ x ∈ a.args, ∀ y, FC Try.prog 88 [tmD x, tmD y] [bD (same x y)]) : FC Try.prog 88 [tmD a, tmD b] [bD (same a b)] := by
  refine FC_wf (fun hw => ?_) Try.call88
  simp only [tmD, tmC_eq] at hw ⊢
  have hl : a.args.length ≤ 9223372036854775807 := by simp [wfDs, wfT, wfTs] at hw; exact hw.1.2.1
  refine FC_of Try.call88 Try.func88 rfl (by kernel_rfl) (by simp only [rd, List.map_cons, List.map_nil, List.length_cons, List.length_nil, Try.ntmps88]; omega) ?_
  simp -implicitDefEqProofs only [go_sem, Nat.reduceEqDiff, reduceIte, reduceCtorEq, Nat.reduceAdd, Nat.reduceMul, Int.reduceLE, Int.reduceNeg, Int.reduceToNat, Nat.reduceLeDiff, Nat.reduceSub, Nat.reduceLT, Nat.le_refl, Int.cast_ofNat_Int, Int.reduceLT, Int.reduceGT, Int.reduceGE, Int.reduceEq, Int.reduceBEq, Nat.reduceBEq, Int.reduceBNe, Int.reduceAdd, Int.reduceSub, gt_iff_lt, ge_iff_le, Try.results88]
  refine ⟨fun h1 => ?_, fun h1 => by rw [same_tm, ← same_beq a.name, show (a.name == b.name) = false by simpa using h1]; rfl⟩
  have h1' : same a.name b.name = true := by rw [← same_beq]; simpa using h1
  refine ⟨fun h2 => ?_, fun h2 => ?_⟩
  · rw [same_tm, h1', Bool.true_and, same_no.2 (by rintro e; simp [e] at h2)]
  have hlen : a.args.length = b.args.length := by simp at h2; omega
  have hs : same a b = same a.args b.args := by rw [same_tm, h1', Bool.true_and]
  refine loop_rule (fun k : Nat => hd [(2, .one (.bx 2 0)), (3, .one (.bx 3 0)), (4, vB false), (5, vI k)] [(2, [.t (.str a.name), .t (tmS a.args)]), (3, [.t (.str b.name), .t (tmS b.args)])] []) (fun k => k ≤ a.args.length ∧ same a.args b.args = same (a.args.drop k) (b.args.drop k)) (fun k => a.args.length - k) 0 (weak_hd ?_) ?_ ?_
  · simp -implicitDefEqProofs only [go_sem, Nat.reduceEqDiff, reduceIte, reduceCtorEq, Nat.reduceAdd, Nat.reduceMul, Int.reduceLE, Int.reduceNeg, Int.reduceToNat, Nat.reduceLeDiff, Nat.reduceSub, Nat.reduceLT, Nat.le_refl, Int.cast_ofNat_Int, Int.reduceLT, Int.reduceGT, Int.reduceGE, Int.reduceEq, Int.reduceBEq, Nat.reduceBEq, Int.reduceBNe, Int.reduceAdd, Int.reduceSub, gt_iff_lt, ge_iff_le]
  · simp
  · intro k ⟨hk, hr⟩
    by_cases hlt : k < a.args.length
    · have hk2 : k < b.args.length := by omega
      simp -implicitDefEqProofs only [go_sem, Nat.reduceEqDiff, reduceIte, reduceCtorEq, Nat.reduceAdd, Nat.reduceMul, Int.reduceLE, Int.reduceNeg, Int.reduceToNat, Nat.reduceLeDiff, Nat.reduceSub, Nat.reduceLT, Nat.le_refl, Int.cast_ofNat_Int, Int.reduceLT, Int.reduceGT, Int.reduceGE, Int.reduceEq, Int.reduceBEq, Nat.reduceBEq, Int.reduceBNe, Int.reduceAdd, Int.reduceSub, gt_iff_lt, ge_iff_le, hlt]
      refine drawn (by kernel_rfl) ?_
      simp -implicitDefEqProofs only [go_sem, Nat.reduceEqDiff, reduceIte, reduceCtorEq, Nat.reduceAdd, Nat.reduceMul, Int.reduceLE, Int.reduceNeg, Int.reduceToNat, Nat.reduceLeDiff, Nat.reduceSub, Nat.reduceLT, Nat.le_refl, Int.cast_ofNat_Int, Int.reduceLT, Int.reduceGT, Int.reduceGE, Int.reduceEq, Int.reduceBEq, Nat.reduceBEq, Int.reduceBNe, Int.reduceAdd, Int.reduceSub, gt_iff_lt, ge_iff_le, getD_at, hlt, hk2, tmC_eq]
      refine dCallF (H a.args[k] (List.getElem_mem hlt) b.args[k]) (by simp -implicitDefEqProofs only [go_sem, Nat.reduceEqDiff, reduceIte, reduceCtorEq, Nat.reduceAdd, Nat.reduceMul, Int.reduceLE, Int.reduceNeg, Int.reduceToNat, Nat.reduceLeDiff, Nat.reduceSub, Nat.reduceLT, Nat.le_refl, Int.cast_ofNat_Int, Int.reduceLT, Int.reduceGT, Int.reduceGE, Int.reduceEq, Int.reduceBEq, Nat.reduceBEq, Int.reduceBNe, Int.reduceAdd, Int.reduceSub, gt_iff_lt, ge_iff_le, tmC_eq]) ?_
      simp -implicitDefEqProofs only [go_sem, Nat.reduceEqDiff, reduceIte, reduceCtorEq, Nat.reduceAdd, Nat.reduceMul, Int.reduceLE, Int.reduceNeg, Int.reduceToNat, Nat.reduceLeDiff, Nat.reduceSub, Nat.reduceLT, Nat.le_refl, Int.cast_ofNat_Int, Int.reduceLT, Int.reduceGT, Int.reduceGE, Int.reduceEq, Int.reduceBEq, Nat.reduceBEq, Int.reduceBNe, Int.reduceAdd, Int.reduceSub, gt_iff_lt, ge_iff_le, tmC_eq]
      rw [List.drop_eq_getElem_cons hlt, List.drop_eq_getElem_cons hk2, same_cons] at hr
      refine ⟨by kernel_rfl, fun h => ?_, fun h => ?_⟩
      · rw [hs, hr, show same a.args[k] b.args[k] = false by simpa using h]; rfl
      · rw [show same a.args[k] b.args[k] = true by simpa using h, Bool.true_and] at hr
        rw [wrap_s (by omega)]
        exact ⟨k + 1, ⟨by omega, hr⟩, by omega, weak_hd (by simp -implicitDefEqProofs only [go_sem, Nat.reduceEqDiff, reduceIte, reduceCtorEq, Nat.reduceAdd, Nat.reduceMul, Int.reduceLE, Int.reduceNeg, Int.reduceToNat, Nat.reduceLeDiff, Nat.reduceSub, Nat.reduceLT, Nat.le_refl, Int.cast_ofNat_Int, Int.reduceLT, Int.reduceGT, Int.reduceGE, Int.reduceEq, Int.reduceBEq, Nat.reduceBEq, Int.reduceBNe, Int.reduceAdd, Int.reduceSub, gt_iff_lt, ge_iff_le])⟩
    · simp -implicitDefEqProofs only [go_sem, Nat.reduceEqDiff, reduceIte, reduceCtorEq, Nat.reduceAdd, Nat.reduceMul, Int.reduceLE, Int.reduceNeg, Int.reduceToNat, Nat.reduceLeDiff, Nat.reduceSub, Nat.reduceLT, Nat.le_refl, Int.cast_ofNat_Int, Int.reduceLT, Int.reduceGT, Int.reduceGE, Int.reduceEq, Int.reduceBEq, Nat.reduceBEq, Int.reduceBNe, Int.reduceAdd, Int.reduceSub, gt_iff_lt, ge_iff_le, hlt]
      rw [hs, hr, List.drop_of_length_le (by omega), List.drop_of_length_le (by omega), same_nil]
theorem l2Same_c : ∀ a b : Tm, FC Try.prog 88 [tmD a, tmD b] [bD (same a b)] := tm_ind fun n xs ih b => l2Same_of (.mk n xs) b ih
set_option maxHeartbeats 1000000 in
theorem l8Same_of (a b : Fm) (H : ∀ x ∈ a.parts, ∀ y, FC Try.prog 67 [fmD x, fmD y] [bD (same x y)]) : FC Try.prog 67 [fmD a, fmD b] [bD (same a b)] := by
  refine FC_wf (fun hw => ?_) Try.call67
  simp only [fmD, fmC_eq] at hw ⊢
  have hl : a.parts.length ≤ 9223372036854775807 := by simp [wfDs, wfT, wfTs] at hw; exact hw.1.2.2.2.2.1
  refine FC_of Try.call67 Try.func67 rfl (by kernel_rfl) (by simp only [rd, List.map_cons, List.map_nil, List.length_cons, List.length_nil, Try.ntmps67]; omega) ?_
  simp -implicitDefEqProofs only [go_sem, Nat.reduceEqDiff, reduceIte, reduceCtorEq, Nat.reduceAdd, Nat.reduceMul, Int.reduceLE, Int.reduceNeg, Int.reduceToNat, Nat.reduceLeDiff, Nat.reduceSub, Nat.reduceLT, Nat.le_refl, Int.cast_ofNat_Int, Int.reduceLT, Int.reduceGT, Int.reduceGE, Int.reduceEq, Int.reduceBEq, Nat.reduceBEq, Int.reduceBNe, Int.reduceAdd, Int.reduceSub, gt_iff_lt, ge_iff_le, Try.results67]
  refine ⟨fun h1 => ?_, fun h1 => by rw [same_fm, ← same_beq a.op, show (a.op == b.op) = false by simpa using h1]; rfl⟩
  have h1' : same a.op b.op = true := by rw [← same_beq]; simpa using h1
  refine ⟨fun h2 => ?_, fun h2 => by rw [same_fm, h1', ← same_beq a.var, show (a.var == b.var) = false by simpa using h2]; simp⟩
  have h2' : same a.var b.var = true := by rw [← same_beq]; simpa using h2
  refine callF (l2Same_c a.atom b.atom) (by simp -implicitDefEqProofs only [go_sem, Nat.reduceEqDiff, reduceIte, reduceCtorEq, Nat.reduceAdd, Nat.reduceMul, Int.reduceLE, Int.reduceNeg, Int.reduceToNat, Nat.reduceLeDiff, Nat.reduceSub, Nat.reduceLT, Nat.le_refl, Int.cast_ofNat_Int, Int.reduceLT, Int.reduceGT, Int.reduceGE, Int.reduceEq, Int.reduceBEq, Nat.reduceBEq, Int.reduceBNe, Int.reduceAdd, Int.reduceSub, gt_iff_lt, ge_iff_le, tmC_eq]) ?_
  simp -implicitDefEqProofs only [go_sem, Nat.reduceEqDiff, reduceIte, reduceCtorEq, Nat.reduceAdd, Nat.reduceMul, Int.reduceLE, Int.reduceNeg, Int.reduceToNat, Nat.reduceLeDiff, Nat.reduceSub, Nat.reduceLT, Nat.le_refl, Int.cast_ofNat_Int, Int.reduceLT, Int.reduceGT, Int.reduceGE, Int.reduceEq, Int.reduceBEq, Nat.reduceBEq, Int.reduceBNe, Int.reduceAdd, Int.reduceSub, gt_iff_lt, ge_iff_le, tmC_eq]
  refine ⟨fun h3 => ?_, fun h3 => by rw [same_fm, h1', show same a.atom b.atom = false by simpa using h3]; rfl⟩
  have h3' : same a.atom b.atom = true := by simpa using h3
  have hs : same a b = same a.parts b.parts := by rw [same_fm, h1', h2', h3']; rfl
  refine ⟨fun h4 => ?_, fun h4 => ?_⟩
  · rw [hs, same_no.2 (by rintro e; simp [e] at h4)]
  have hlen : a.parts.length = b.parts.length := by simp at h4; omega
  refine loop_rule (fun k : Nat => hd [(2, .one (.bx 2 0)), (3, .one (.bx 3 0)), (4, vB false), (5, vI k)] [(2, [.t (.int .i64 a.op), .t (.str a.atom.name), .t (tmS a.atom.args), .t (.str a.var), .t (fmS a.parts)]), (3, [.t (.int .i64 b.op), .t (.str b.atom.name), .t (tmS b.atom.args), .t (.str b.var), .t (fmS b.parts)])] []) (fun k => k ≤ a.parts.length ∧ same a.parts b.parts = same (a.parts.drop k) (b.parts.drop k)) (fun k => a.parts.length - k) 0 (weak_hd ?_) ?_ ?_
  · simp -implicitDefEqProofs only [go_sem, Nat.reduceEqDiff, reduceIte, reduceCtorEq, Nat.reduceAdd, Nat.reduceMul, Int.reduceLE, Int.reduceNeg, Int.reduceToNat, Nat.reduceLeDiff, Nat.reduceSub, Nat.reduceLT, Nat.le_refl, Int.cast_ofNat_Int, Int.reduceLT, Int.reduceGT, Int.reduceGE, Int.reduceEq, Int.reduceBEq, Nat.reduceBEq, Int.reduceBNe, Int.reduceAdd, Int.reduceSub, gt_iff_lt, ge_iff_le]
  · simp
  · intro k ⟨hk, hr⟩
    by_cases hlt : k < a.parts.length
    · have hk2 : k < b.parts.length := by omega
      simp -implicitDefEqProofs only [go_sem, Nat.reduceEqDiff, reduceIte, reduceCtorEq, Nat.reduceAdd, Nat.reduceMul, Int.reduceLE, Int.reduceNeg, Int.reduceToNat, Nat.reduceLeDiff, Nat.reduceSub, Nat.reduceLT, Nat.le_refl, Int.cast_ofNat_Int, Int.reduceLT, Int.reduceGT, Int.reduceGE, Int.reduceEq, Int.reduceBEq, Nat.reduceBEq, Int.reduceBNe, Int.reduceAdd, Int.reduceSub, gt_iff_lt, ge_iff_le, hlt]
      refine drawn (by kernel_rfl) ?_
      simp -implicitDefEqProofs only [go_sem, Nat.reduceEqDiff, reduceIte, reduceCtorEq, Nat.reduceAdd, Nat.reduceMul, Int.reduceLE, Int.reduceNeg, Int.reduceToNat, Nat.reduceLeDiff, Nat.reduceSub, Nat.reduceLT, Nat.le_refl, Int.cast_ofNat_Int, Int.reduceLT, Int.reduceGT, Int.reduceGE, Int.reduceEq, Int.reduceBEq, Nat.reduceBEq, Int.reduceBNe, Int.reduceAdd, Int.reduceSub, gt_iff_lt, ge_iff_le, getD_at, hlt, hk2, fmC_eq]
      refine dCallF (H a.parts[k] (List.getElem_mem hlt) b.parts[k]) (by simp -implicitDefEqProofs only [go_sem, Nat.reduceEqDiff, reduceIte, reduceCtorEq, Nat.reduceAdd, Nat.reduceMul, Int.reduceLE, Int.reduceNeg, Int.reduceToNat, Nat.reduceLeDiff, Nat.reduceSub, Nat.reduceLT, Nat.le_refl, Int.cast_ofNat_Int, Int.reduceLT, Int.reduceGT, Int.reduceGE, Int.reduceEq, Int.reduceBEq, Nat.reduceBEq, Int.reduceBNe, Int.reduceAdd, Int.reduceSub, gt_iff_lt, ge_iff_le, fmC_eq]) ?_
      simp -implicitDefEqProofs only [go_sem, Nat.reduceEqDiff, reduceIte, reduceCtorEq, Nat.reduceAdd, Nat.reduceMul, Int.reduceLE, Int.reduceNeg, Int.reduceToNat, Nat.reduceLeDiff, Nat.reduceSub, Nat.reduceLT, Nat.le_refl, Int.cast_ofNat_Int, Int.reduceLT, Int.reduceGT, Int.reduceGE, Int.reduceEq, Int.reduceBEq, Nat.reduceBEq, Int.reduceBNe, Int.reduceAdd, Int.reduceSub, gt_iff_lt, ge_iff_le, fmC_eq]
      rw [List.drop_eq_getElem_cons hlt, List.drop_eq_getElem_cons hk2, same_cons] at hr
      refine ⟨by kernel_rfl, fun h => ?_, fun h => ?_⟩
      · rw [hs, hr, show same a.parts[k] b.parts[k] = false by simpa using h]; rfl
      · rw [show same a.parts[k] b.parts[k] = true by simpa using h, Bool.true_and] at hr
        rw [wrap_s (by omega)]
        exact ⟨k + 1, ⟨by omega, hr⟩, by omega, weak_hd (by simp -implicitDefEqProofs only [go_sem, Nat.reduceEqDiff, reduceIte, reduceCtorEq, Nat.reduceAdd, Nat.reduceMul, Int.reduceLE, Int.reduceNeg, Int.reduceToNat, Nat.reduceLeDiff, Nat.reduceSub, Nat.reduceLT, Nat.le_refl, Int.cast_ofNat_Int, Int.reduceLT, Int.reduceGT, Int.reduceGE, Int.reduceEq, Int.reduceBEq, Nat.reduceBEq, Int.reduceBNe, Int.reduceAdd, Int.reduceSub, gt_iff_lt, ge_iff_le])⟩
    · simp -implicitDefEqProofs only [go_sem, Nat.reduceEqDiff, reduceIte, reduceCtorEq, Nat.reduceAdd, Nat.reduceMul, Int.reduceLE, Int.reduceNeg, Int.reduceToNat, Nat.reduceLeDiff, Nat.reduceSub, Nat.reduceLT, Nat.le_refl, Int.cast_ofNat_Int, Int.reduceLT, Int.reduceGT, Int.reduceGE, Int.reduceEq, Int.reduceBEq, Nat.reduceBEq, Int.reduceBNe, Int.reduceAdd, Int.reduceSub, gt_iff_lt, ge_iff_le, hlt]
      rw [hs, hr, List.drop_of_length_le (by omega), List.drop_of_length_le (by omega), same_nil]
theorem l8Same_c : ∀ a b : Fm, FC Try.prog 67 [fmD a, fmD b] [bD (same a b)] := fm_ind fun o t v ps ih b => l8Same_of (.mk o t v ps) b ih
end Go.Proofs.Ytgfjbbbkploonaa
/-
  Copies of terms and formulas.
  Conditions: those that each theorem names.
-/
namespace Go.Proofs.Ytgfjbbbkploonaa
set_option linter.unusedSimpArgs false
set_option linter.unusedVariables false
set_option maxRecDepth 4000
open Go.RowKit
theorem Tm.wt_args {a : Tm} {n : Nat} (h : a.wt ≤ n) : a.args.length ≤ n ∧ ∀ x ∈ a.args, x.wt ≤ n := by
  have e := Tm.wt_eq a
  refine ⟨by omega, fun x hx => ?_⟩
  have := mem_sum Tm.wt a.args x hx
  omega
theorem Fm.wt_parts {f : Fm} {n : Nat} (h : f.wt ≤ n) : f.atom.wt ≤ n ∧ f.parts.length ≤ n ∧ ∀ x ∈ f.parts, x.wt ≤ n := by
  have e := Fm.wt_eq f
  refine ⟨by omega, by omega, fun x hx => ?_⟩
  have := mem_sum Fm.wt f.parts x hx
  omega
set_option maxRecDepth 10000 in
theorem copyTerms_of (xs : List Tm) (H : ∀ x ∈ xs, FC Try.prog 89 [tmD x] [tmD x]) (hs : xs.length ≤ 1048576) :
    FC Try.prog 109 [.one (tmS xs)] [.one (tmS xs)] := by
  by_cases h0 : xs = []
  · subst h0
    refine FC_of Try.call109 Try.func109 rfl (by kernel_rfl) (by simp only [rd, List.map_cons, List.map_nil, List.length_cons, List.length_nil, Try.ntmps109]; omega) ?_
    simp -implicitDefEqProofs only [go_sem, Nat.reduceEqDiff, reduceIte, reduceCtorEq, Nat.reduceAdd, Nat.reduceMul, Int.reduceLE, Int.reduceNeg, Int.reduceToNat, Nat.reduceLeDiff, Nat.reduceSub, Nat.reduceLT, Nat.le_refl, Int.cast_ofNat_Int, Int.reduceLT, Int.reduceGT, Int.reduceGE, Int.reduceEq, Int.reduceBEq, Nat.reduceBEq, Int.reduceBNe, Int.reduceAdd, Int.reduceSub, gt_iff_lt, ge_iff_le, Try.results109]
  · have hp : ((xs.length : Int) == 0) = false := by
      have : 0 < xs.length := List.length_pos_iff.2 h0
      simp; omega
    refine FC_of Try.call109 Try.func109 rfl (by kernel_rfl) (by simp only [rd, List.map_cons, List.map_nil, List.length_cons, List.length_nil, Try.ntmps109]; omega) ?_
    simp -implicitDefEqProofs only [go_sem, Nat.reduceEqDiff, reduceIte, reduceCtorEq, Nat.reduceAdd, Nat.reduceMul, Int.reduceLE, Int.reduceNeg, Int.reduceToNat, Nat.reduceLeDiff, Nat.reduceSub, Nat.reduceLT, Nat.le_refl, Int.cast_ofNat_Int, Int.reduceLT, Int.reduceGT, Int.reduceGE, Int.reduceEq, Int.reduceBEq, Nat.reduceBEq, Int.reduceBNe, Int.reduceAdd, Int.reduceSub, gt_iff_lt, ge_iff_le, Try.results109, hp]
    refine makeD (by simp -implicitDefEqProofs only [go_sem, Nat.reduceEqDiff, reduceIte, reduceCtorEq, Nat.reduceAdd, Nat.reduceMul, Int.reduceLE, Int.reduceNeg, Int.reduceToNat, Nat.reduceLeDiff, Nat.reduceSub, Nat.reduceLT, Nat.le_refl, Int.cast_ofNat_Int, Int.reduceLT, Int.reduceGT, Int.reduceGE, Int.reduceEq, Int.reduceBEq, Nat.reduceBEq, Int.reduceBNe, Int.reduceAdd, Int.reduceSub, gt_iff_lt, ge_iff_le]; omega) ?_
    simp -implicitDefEqProofs only [go_sem, Nat.reduceEqDiff, reduceIte, reduceCtorEq, Nat.reduceAdd, Nat.reduceMul, Int.reduceLE, Int.reduceNeg, Int.reduceToNat, Nat.reduceLeDiff, Nat.reduceSub, Nat.reduceLT, Nat.le_refl, Int.cast_ofNat_Int, Int.reduceLT, Int.reduceGT, Int.reduceGE, Int.reduceEq, Int.reduceBEq, Nat.reduceBEq, Int.reduceBNe, Int.reduceAdd, Int.reduceSub, gt_iff_lt, ge_iff_le]
    refine loop_rule (fun k : Nat => hd [(12, vT (tmS xs)), (13, vI xs.length), (3, .one (.ow 352 0)), (14, vI k)] [] [(352, ⟨true, 2, (xs.take k).map tmC ++ List.replicate (xs.length - k) [T.str [], T.sl 2 []], 0, true⟩)]) (fun k => k ≤ xs.length) (fun k => xs.length - k) 0 (weak_hd ?_) ?_ ?_
    · simp -implicitDefEqProofs only [go_sem, Nat.reduceEqDiff, reduceIte, reduceCtorEq, Nat.reduceAdd, Nat.reduceMul, Int.reduceLE, Int.reduceNeg, Int.reduceToNat, Nat.reduceLeDiff, Nat.reduceSub, Nat.reduceLT, Nat.le_refl, Int.cast_ofNat_Int, Int.reduceLT, Int.reduceGT, Int.reduceGE, Int.reduceEq, Int.reduceBEq, Nat.reduceBEq, Int.reduceBNe, Int.reduceAdd, Int.reduceSub, gt_iff_lt, ge_iff_le]
      simp
    · simp
    · intro k hk
      by_cases hlt : k < xs.length
      · have hlen : ((xs.take k).map tmC ++ List.replicate (xs.length - k) [T.str [], T.sl 2 []]).length = xs.length := by simp; omega
        have hlt2 : k < k + (xs.length - k) := by omega
        simp -implicitDefEqProofs only [go_sem, Nat.reduceEqDiff, reduceIte, reduceCtorEq, Nat.reduceAdd, Nat.reduceMul, Int.reduceLE, Int.reduceNeg, Int.reduceToNat, Nat.reduceLeDiff, Nat.reduceSub, Nat.reduceLT, Nat.le_refl, Int.cast_ofNat_Int, Int.reduceLT, Int.reduceGT, Int.reduceGE, Int.reduceEq, Int.reduceBEq, Nat.reduceBEq, Int.reduceBNe, Int.reduceAdd, Int.reduceSub, gt_iff_lt, ge_iff_le, List.length_map, getD_at, hlt, tmC_eq]
        refine callF (H xs[k] (List.getElem_mem hlt)) (by simp -implicitDefEqProofs only [go_sem, Nat.reduceEqDiff, reduceIte, reduceCtorEq, Nat.reduceAdd, Nat.reduceMul, Int.reduceLE, Int.reduceNeg, Int.reduceToNat, Nat.reduceLeDiff, Nat.reduceSub, Nat.reduceLT, Nat.le_refl, Int.cast_ofNat_Int, Int.reduceLT, Int.reduceGT, Int.reduceGE, Int.reduceEq, Int.reduceBEq, Nat.reduceBEq, Int.reduceBNe, Int.reduceAdd, Int.reduceSub, gt_iff_lt, ge_iff_le, tmC_eq, hlen, hlt, List.length_append, List.length_map, List.length_take, List.length_replicate, Nat.min_eq_left hk, hlt2]) ?_
        simp -implicitDefEqProofs only [go_sem, Nat.reduceEqDiff, reduceIte, reduceCtorEq, Nat.reduceAdd, Nat.reduceMul, Int.reduceLE, Int.reduceNeg, Int.reduceToNat, Nat.reduceLeDiff, Nat.reduceSub, Nat.reduceLT, Nat.le_refl, Int.cast_ofNat_Int, Int.reduceLT, Int.reduceGT, Int.reduceGE, Int.reduceEq, Int.reduceBEq, Nat.reduceBEq, Int.reduceBNe, Int.reduceAdd, Int.reduceSub, gt_iff_lt, ge_iff_le, tmC_eq, hlen, hlt, List.length_append, List.length_map, List.length_take, List.length_replicate, Nat.min_eq_left hk, hlt2]
        refine storeD (by simp -implicitDefEqProofs only [go_sem, Nat.reduceEqDiff, reduceIte, reduceCtorEq, Nat.reduceAdd, Nat.reduceMul, Int.reduceLE, Int.reduceNeg, Int.reduceToNat, Nat.reduceLeDiff, Nat.reduceSub, Nat.reduceLT, Nat.le_refl, Int.cast_ofNat_Int, Int.reduceLT, Int.reduceGT, Int.reduceGE, Int.reduceEq, Int.reduceBEq, Nat.reduceBEq, Int.reduceBNe, Int.reduceAdd, Int.reduceSub, gt_iff_lt, ge_iff_le]; simp) ?_
        simp -implicitDefEqProofs only [go_sem, Nat.reduceEqDiff, reduceIte, reduceCtorEq, Nat.reduceAdd, Nat.reduceMul, Int.reduceLE, Int.reduceNeg, Int.reduceToNat, Nat.reduceLeDiff, Nat.reduceSub, Nat.reduceLT, Nat.le_refl, Int.cast_ofNat_Int, Int.reduceLT, Int.reduceGT, Int.reduceGE, Int.reduceEq, Int.reduceBEq, Nat.reduceBEq, Int.reduceBNe, Int.reduceAdd, Int.reduceSub, gt_iff_lt, ge_iff_le]
        rw [wrap_s (by omega)]
        refine ⟨k + 1, by omega, by omega, weak_hd ?_⟩
        simp -implicitDefEqProofs only [go_sem, Nat.reduceEqDiff, reduceIte, reduceCtorEq, Nat.reduceAdd, Nat.reduceMul, Int.reduceLE, Int.reduceNeg, Int.reduceToNat, Nat.reduceLeDiff, Nat.reduceSub, Nat.reduceLT, Nat.le_refl, Int.cast_ofNat_Int, Int.reduceLT, Int.reduceGT, Int.reduceGE, Int.reduceEq, Int.reduceBEq, Nat.reduceBEq, Int.reduceBNe, Int.reduceAdd, Int.reduceSub, gt_iff_lt, ge_iff_le]
        have hf := fill_next ((xs.take k).map tmC) xs.length k [T.str [], T.sl 2 []] (tmC xs[k]) (by simp; omega) hlt (by simp [tmC_eq])
        simp only [tmC_eq] at hf
        rw [hf, List.take_succ_eq_append_getElem hlt, List.map_append, List.map_singleton]
        simp only [tmC_eq]
      · simp -implicitDefEqProofs only [go_sem, Nat.reduceEqDiff, reduceIte, reduceCtorEq, Nat.reduceAdd, Nat.reduceMul, Int.reduceLE, Int.reduceNeg, Int.reduceToNat, Nat.reduceLeDiff, Nat.reduceSub, Nat.reduceLT, Nat.le_refl, Int.cast_ofNat_Int, Int.reduceLT, Int.reduceGT, Int.reduceGE, Int.reduceEq, Int.reduceBEq, Nat.reduceBEq, Int.reduceBNe, Int.reduceAdd, Int.reduceSub, gt_iff_lt, ge_iff_le, List.length_map, hlt]
        simp [List.take_of_length_le (show xs.length ≤ k by omega), show xs.length - k = 0 by omega]
theorem copyTerm_of (a : Tm) (H : FC Try.prog 109 [.one (tmS a.args)] [.one (tmS a.args)]) : FC Try.prog 89 [tmD a] [tmD a] := by
  simp only [tmD, tmC_eq a]
  refine FC_of Try.call89 Try.func89 rfl (by kernel_rfl) (by simp only [rd, List.map_cons, List.map_nil, List.length_cons, List.length_nil, Try.ntmps89]; omega) ?_
  simp -implicitDefEqProofs only [go_sem, Nat.reduceEqDiff, reduceIte, reduceCtorEq, Nat.reduceAdd, Nat.reduceMul, Int.reduceLE, Int.reduceNeg, Int.reduceToNat, Nat.reduceLeDiff, Nat.reduceSub, Nat.reduceLT, Nat.le_refl, Int.cast_ofNat_Int, Int.reduceLT, Int.reduceGT, Int.reduceGE, Int.reduceEq, Int.reduceBEq, Nat.reduceBEq, Int.reduceBNe, Int.reduceAdd, Int.reduceSub, gt_iff_lt, ge_iff_le, Try.results89]
  refine drawn (by kernel_rfl) ?_
  simp -implicitDefEqProofs only [go_sem, Nat.reduceEqDiff, reduceIte, reduceCtorEq, Nat.reduceAdd, Nat.reduceMul, Int.reduceLE, Int.reduceNeg, Int.reduceToNat, Nat.reduceLeDiff, Nat.reduceSub, Nat.reduceLT, Nat.le_refl, Int.cast_ofNat_Int, Int.reduceLT, Int.reduceGT, Int.reduceGE, Int.reduceEq, Int.reduceBEq, Nat.reduceBEq, Int.reduceBNe, Int.reduceAdd, Int.reduceSub, gt_iff_lt, ge_iff_le]
  refine dCallF (H) (by simp -implicitDefEqProofs only [go_sem, Nat.reduceEqDiff, reduceIte, reduceCtorEq, Nat.reduceAdd, Nat.reduceMul, Int.reduceLE, Int.reduceNeg, Int.reduceToNat, Nat.reduceLeDiff, Nat.reduceSub, Nat.reduceLT, Nat.le_refl, Int.cast_ofNat_Int, Int.reduceLT, Int.reduceGT, Int.reduceGE, Int.reduceEq, Int.reduceBEq, Nat.reduceBEq, Int.reduceBNe, Int.reduceAdd, Int.reduceSub, gt_iff_lt, ge_iff_le]) ?_
  simp -implicitDefEqProofs only [go_sem, Nat.reduceEqDiff, reduceIte, reduceCtorEq, Nat.reduceAdd, Nat.reduceMul, Int.reduceLE, Int.reduceNeg, Int.reduceToNat, Nat.reduceLeDiff, Nat.reduceSub, Nat.reduceLT, Nat.le_refl, Int.cast_ofNat_Int, Int.reduceLT, Int.reduceGT, Int.reduceGE, Int.reduceEq, Int.reduceBEq, Nat.reduceBEq, Int.reduceBNe, Int.reduceAdd, Int.reduceSub, gt_iff_lt, ge_iff_le]
  kernel_rfl
theorem l2Own_of (a : Tm) (H : ∀ x ∈ a.args, FC Try.prog 80 [tmD x] [tmD x]) (hs : a.args.length ≤ 1048576) : FC Try.prog 80 [tmD a] [tmD a] := by
  simp only [tmD, tmC_eq a]
  refine FC_of Try.call80 Try.func80 rfl (by kernel_rfl) (by simp only [rd, List.map_cons, List.map_nil, List.length_cons, List.length_nil, Try.ntmps80]; omega) ?_
  simp -implicitDefEqProofs only [go_sem, Nat.reduceEqDiff, reduceIte, reduceCtorEq, Nat.reduceAdd, Nat.reduceMul, Int.reduceLE, Int.reduceNeg, Int.reduceToNat, Nat.reduceLeDiff, Nat.reduceSub, Nat.reduceLT, Nat.le_refl, Int.cast_ofNat_Int, Int.reduceLT, Int.reduceGT, Int.reduceGE, Int.reduceEq, Int.reduceBEq, Nat.reduceBEq, Int.reduceBNe, Int.reduceAdd, Int.reduceSub, gt_iff_lt, ge_iff_le, Try.results80]
  refine loop_rule (fun k : Nat => hd [(1, .one (.bx 1 0)), (2, .one (.bx 2 0)), (3, .one (.bx 3 0)), (4, vI k)] [(1, [.t (.str a.name), .t (tmS a.args)]), (2, [.t (.str []), .nl 2]), (3, [.t (.str a.name), .ow 3000 0])] [(3000, ⟨true, 2, (a.args.take k).map tmC, 0, true⟩)]) (fun k => k ≤ a.args.length) (fun k => a.args.length - k) 0 (weak_hd ?_) ?_ ?_
  · simp -implicitDefEqProofs only [go_sem, Nat.reduceEqDiff, reduceIte, reduceCtorEq, Nat.reduceAdd, Nat.reduceMul, Int.reduceLE, Int.reduceNeg, Int.reduceToNat, Nat.reduceLeDiff, Nat.reduceSub, Nat.reduceLT, Nat.le_refl, Int.cast_ofNat_Int, Int.reduceLT, Int.reduceGT, Int.reduceGE, Int.reduceEq, Int.reduceBEq, Nat.reduceBEq, Int.reduceBNe, Int.reduceAdd, Int.reduceSub, gt_iff_lt, ge_iff_le]
  · simp
  · intro k hk
    by_cases hlt : k < a.args.length
    · simp -implicitDefEqProofs only [go_sem, Nat.reduceEqDiff, reduceIte, reduceCtorEq, Nat.reduceAdd, Nat.reduceMul, Int.reduceLE, Int.reduceNeg, Int.reduceToNat, Nat.reduceLeDiff, Nat.reduceSub, Nat.reduceLT, Nat.le_refl, Int.cast_ofNat_Int, Int.reduceLT, Int.reduceGT, Int.reduceGE, Int.reduceEq, Int.reduceBEq, Nat.reduceBEq, Int.reduceBNe, Int.reduceAdd, Int.reduceSub, gt_iff_lt, ge_iff_le, hlt]
      refine drawn (by kernel_rfl) ?_
      have hmin : min k a.args.length ≤ 4294967295 := by omega
      simp -implicitDefEqProofs only [go_sem, Nat.reduceEqDiff, reduceIte, reduceCtorEq, Nat.reduceAdd, Nat.reduceMul, Int.reduceLE, Int.reduceNeg, Int.reduceToNat, Nat.reduceLeDiff, Nat.reduceSub, Nat.reduceLT, Nat.le_refl, Int.cast_ofNat_Int, Int.reduceLT, Int.reduceGT, Int.reduceGE, Int.reduceEq, Int.reduceBEq, Nat.reduceBEq, Int.reduceBNe, Int.reduceAdd, Int.reduceSub, gt_iff_lt, ge_iff_le, getD_at, hlt, tmC_eq]
      refine dCallF (H a.args[k] (List.getElem_mem hlt)) (by simp -implicitDefEqProofs only [go_sem, Nat.reduceEqDiff, reduceIte, reduceCtorEq, Nat.reduceAdd, Nat.reduceMul, Int.reduceLE, Int.reduceNeg, Int.reduceToNat, Nat.reduceLeDiff, Nat.reduceSub, Nat.reduceLT, Nat.le_refl, Int.cast_ofNat_Int, Int.reduceLT, Int.reduceGT, Int.reduceGE, Int.reduceEq, Int.reduceBEq, Nat.reduceBEq, Int.reduceBNe, Int.reduceAdd, Int.reduceSub, gt_iff_lt, ge_iff_le, tmC_eq]) ?_
      simp -implicitDefEqProofs only [go_sem, Nat.reduceEqDiff, reduceIte, reduceCtorEq, Nat.reduceAdd, Nat.reduceMul, Int.reduceLE, Int.reduceNeg, Int.reduceToNat, Nat.reduceLeDiff, Nat.reduceSub, Nat.reduceLT, Nat.le_refl, Int.cast_ofNat_Int, Int.reduceLT, Int.reduceGT, Int.reduceGE, Int.reduceEq, Int.reduceBEq, Nat.reduceBEq, Int.reduceBNe, Int.reduceAdd, Int.reduceSub, gt_iff_lt, ge_iff_le, tmC_eq]
      refine dBuildDc (by simp -implicitDefEqProofs only [go_sem, Nat.reduceEqDiff, reduceIte, reduceCtorEq, Nat.reduceAdd, Nat.reduceMul, Int.reduceLE, Int.reduceNeg, Int.reduceToNat, Nat.reduceLeDiff, Nat.reduceSub, Nat.reduceLT, Nat.le_refl, Int.cast_ofNat_Int, Int.reduceLT, Int.reduceGT, Int.reduceGE, Int.reduceEq, Int.reduceBEq, Nat.reduceBEq, Int.reduceBNe, Int.reduceAdd, Int.reduceSub, gt_iff_lt, ge_iff_le]) ?_
      simp -implicitDefEqProofs only [go_sem, Nat.reduceEqDiff, reduceIte, reduceCtorEq, Nat.reduceAdd, Nat.reduceMul, Int.reduceLE, Int.reduceNeg, Int.reduceToNat, Nat.reduceLeDiff, Nat.reduceSub, Nat.reduceLT, Nat.le_refl, Int.cast_ofNat_Int, Int.reduceLT, Int.reduceGT, Int.reduceGE, Int.reduceEq, Int.reduceBEq, Nat.reduceBEq, Int.reduceBNe, Int.reduceAdd, Int.reduceSub, gt_iff_lt, ge_iff_le]
      refine dApD true (by simp -implicitDefEqProofs only [go_sem, Nat.reduceEqDiff, reduceIte, reduceCtorEq, Nat.reduceAdd, Nat.reduceMul, Int.reduceLE, Int.reduceNeg, Int.reduceToNat, Nat.reduceLeDiff, Nat.reduceSub, Nat.reduceLT, Nat.le_refl, Int.cast_ofNat_Int, Int.reduceLT, Int.reduceGT, Int.reduceGE, Int.reduceEq, Int.reduceBEq, Nat.reduceBEq, Int.reduceBNe, Int.reduceAdd, Int.reduceSub, gt_iff_lt, ge_iff_le, ne_eq, List.length_map, List.length_take, hmin]) ?_
      simp -implicitDefEqProofs only [go_sem, Nat.reduceEqDiff, reduceIte, reduceCtorEq, Nat.reduceAdd, Nat.reduceMul, Int.reduceLE, Int.reduceNeg, Int.reduceToNat, Nat.reduceLeDiff, Nat.reduceSub, Nat.reduceLT, Nat.le_refl, Int.cast_ofNat_Int, Int.reduceLT, Int.reduceGT, Int.reduceGE, Int.reduceEq, Int.reduceBEq, Nat.reduceBEq, Int.reduceBNe, Int.reduceAdd, Int.reduceSub, gt_iff_lt, ge_iff_le, ne_eq, List.length_map, List.length_take, hmin]
      refine ⟨by kernel_rfl, k + 1, hlt, by omega, weak_hd ?_⟩
      simp -implicitDefEqProofs only [go_sem, Nat.reduceEqDiff, reduceIte, reduceCtorEq, Nat.reduceAdd, Nat.reduceMul, Int.reduceLE, Int.reduceNeg, Int.reduceToNat, Nat.reduceLeDiff, Nat.reduceSub, Nat.reduceLT, Nat.le_refl, Int.cast_ofNat_Int, Int.reduceLT, Int.reduceGT, Int.reduceGE, Int.reduceEq, Int.reduceBEq, Nat.reduceBEq, Int.reduceBNe, Int.reduceAdd, Int.reduceSub, gt_iff_lt, ge_iff_le]
      rw [wrap_s (by omega), List.take_succ_eq_append_getElem hlt, List.map_append, List.map_singleton]
      simp only [tmC_eq]
      trivial
    · have ht : a.args.take k = a.args := List.take_of_length_le (by omega)
      simp -implicitDefEqProofs only [go_sem, Nat.reduceEqDiff, reduceIte, reduceCtorEq, Nat.reduceAdd, Nat.reduceMul, Int.reduceLE, Int.reduceNeg, Int.reduceToNat, Nat.reduceLeDiff, Nat.reduceSub, Nat.reduceLT, Nat.le_refl, Int.cast_ofNat_Int, Int.reduceLT, Int.reduceGT, Int.reduceGE, Int.reduceEq, Int.reduceBEq, Nat.reduceBEq, Int.reduceBNe, Int.reduceAdd, Int.reduceSub, gt_iff_lt, ge_iff_le, hlt, ht]

theorem copyTerm_c : ∀ a : Tm, a.wt ≤ 1048576 → FC Try.prog 89 [tmD a] [tmD a] :=
  tm_ind fun n xs ih hs => by
    obtain ⟨h1, h2⟩ := Tm.wt_args hs
    exact copyTerm_of (.mk n xs) (copyTerms_of xs (fun x hx => ih x hx (h2 x hx)) h1)
theorem copyTerms_c (xs : List Tm) (hs : tmsW xs ≤ 1048576) : FC Try.prog 109 [.one (tmS xs)] [.one (tmS xs)] := by
  have e : tmsW xs = xs.length + (xs.map Tm.wt).sum := rfl
  exact copyTerms_of xs (fun x hx => copyTerm_c x (by have := mem_sum Tm.wt xs x hx; omega)) (by omega)
theorem l2Own_c : ∀ a : Tm, a.wt ≤ 1048576 → FC Try.prog 80 [tmD a] [tmD a] :=
  tm_ind fun n xs ih hs => by
    obtain ⟨h1, h2⟩ := Tm.wt_args hs
    exact l2Own_of (.mk n xs) (fun x hx => ih x hx (h2 x hx)) h1
set_option maxHeartbeats 1000000 in
theorem l8Own_of (a : Fm) (H : ∀ x ∈ a.parts, FC Try.prog 52 [fmD x] [fmD x]) (h0 : a.atom.wt ≤ 1048576) (hs : a.parts.length ≤ 1048576) : FC Try.prog 52 [fmD a] [fmD a] := by
  simp only [fmD, fmC_eq a]
  refine FC_of Try.call52 Try.func52 rfl (by kernel_rfl) (by simp only [rd, List.map_cons, List.map_nil, List.length_cons, List.length_nil, Try.ntmps52]; omega) ?_
  simp -implicitDefEqProofs only [go_sem, Nat.reduceEqDiff, reduceIte, reduceCtorEq, Nat.reduceAdd, Nat.reduceMul, Int.reduceLE, Int.reduceNeg, Int.reduceToNat, Nat.reduceLeDiff, Nat.reduceSub, Nat.reduceLT, Nat.le_refl, Int.cast_ofNat_Int, Int.reduceLT, Int.reduceGT, Int.reduceGE, Int.reduceEq, Int.reduceBEq, Nat.reduceBEq, Int.reduceBNe, Int.reduceAdd, Int.reduceSub, gt_iff_lt, ge_iff_le, Try.results52]
  refine drawn (by kernel_rfl) ?_
  simp -implicitDefEqProofs only [go_sem, Nat.reduceEqDiff, reduceIte, reduceCtorEq, Nat.reduceAdd, Nat.reduceMul, Int.reduceLE, Int.reduceNeg, Int.reduceToNat, Nat.reduceLeDiff, Nat.reduceSub, Nat.reduceLT, Nat.le_refl, Int.cast_ofNat_Int, Int.reduceLT, Int.reduceGT, Int.reduceGE, Int.reduceEq, Int.reduceBEq, Nat.reduceBEq, Int.reduceBNe, Int.reduceAdd, Int.reduceSub, gt_iff_lt, ge_iff_le]
  refine dCallF (l2Own_c a.atom h0) (by simp -implicitDefEqProofs only [go_sem, Nat.reduceEqDiff, reduceIte, reduceCtorEq, Nat.reduceAdd, Nat.reduceMul, Int.reduceLE, Int.reduceNeg, Int.reduceToNat, Nat.reduceLeDiff, Nat.reduceSub, Nat.reduceLT, Nat.le_refl, Int.cast_ofNat_Int, Int.reduceLT, Int.reduceGT, Int.reduceGE, Int.reduceEq, Int.reduceBEq, Nat.reduceBEq, Int.reduceBNe, Int.reduceAdd, Int.reduceSub, gt_iff_lt, ge_iff_le, tmC_eq]) ?_
  simp -implicitDefEqProofs only [go_sem, Nat.reduceEqDiff, reduceIte, reduceCtorEq, Nat.reduceAdd, Nat.reduceMul, Int.reduceLE, Int.reduceNeg, Int.reduceToNat, Nat.reduceLeDiff, Nat.reduceSub, Nat.reduceLT, Nat.le_refl, Int.cast_ofNat_Int, Int.reduceLT, Int.reduceGT, Int.reduceGE, Int.reduceEq, Int.reduceBEq, Nat.reduceBEq, Int.reduceBNe, Int.reduceAdd, Int.reduceSub, gt_iff_lt, ge_iff_le, tmC_eq]
  refine ⟨by kernel_rfl, ?_⟩
  refine loop_rule (fun k : Nat => hd [(1, .one (.bx 1 0)), (2, .one (.bx 2 0)), (3, .one (.bx 3 0)), (4, vI k)] [(1, [.t (.int .i64 a.op), .t (.str a.atom.name), .t (tmS a.atom.args), .t (.str a.var), .t (fmS a.parts)]), (2, [.t (.int .i64 0), .t (.str []), .nl 2, .t (.str []), .nl 5]), (3, [.t (.int .i64 a.op), .t (.str a.atom.name), .ow 289 0, .t (.str a.var), .ow 3000 0])]
    [(289, ⟨true, 2, a.atom.args.map tmC, 0, true⟩), (3000, ⟨true, 5, (a.parts.take k).map fmC, 0, true⟩)]) (fun k => k ≤ a.parts.length) (fun k => a.parts.length - k) 0 (weak_hd ?_) ?_ ?_
  · simp -implicitDefEqProofs only [go_sem, Nat.reduceEqDiff, reduceIte, reduceCtorEq, Nat.reduceAdd, Nat.reduceMul, Int.reduceLE, Int.reduceNeg, Int.reduceToNat, Nat.reduceLeDiff, Nat.reduceSub, Nat.reduceLT, Nat.le_refl, Int.cast_ofNat_Int, Int.reduceLT, Int.reduceGT, Int.reduceGE, Int.reduceEq, Int.reduceBEq, Nat.reduceBEq, Int.reduceBNe, Int.reduceAdd, Int.reduceSub, gt_iff_lt, ge_iff_le]
  · simp
  · intro k hk
    by_cases hlt : k < a.parts.length
    · simp -implicitDefEqProofs only [go_sem, Nat.reduceEqDiff, reduceIte, reduceCtorEq, Nat.reduceAdd, Nat.reduceMul, Int.reduceLE, Int.reduceNeg, Int.reduceToNat, Nat.reduceLeDiff, Nat.reduceSub, Nat.reduceLT, Nat.le_refl, Int.cast_ofNat_Int, Int.reduceLT, Int.reduceGT, Int.reduceGE, Int.reduceEq, Int.reduceBEq, Nat.reduceBEq, Int.reduceBNe, Int.reduceAdd, Int.reduceSub, gt_iff_lt, ge_iff_le, hlt]
      refine drawn (by kernel_rfl) ?_
      have hmin : min k a.parts.length ≤ 4294967295 := by omega
      simp -implicitDefEqProofs only [go_sem, Nat.reduceEqDiff, reduceIte, reduceCtorEq, Nat.reduceAdd, Nat.reduceMul, Int.reduceLE, Int.reduceNeg, Int.reduceToNat, Nat.reduceLeDiff, Nat.reduceSub, Nat.reduceLT, Nat.le_refl, Int.cast_ofNat_Int, Int.reduceLT, Int.reduceGT, Int.reduceGE, Int.reduceEq, Int.reduceBEq, Nat.reduceBEq, Int.reduceBNe, Int.reduceAdd, Int.reduceSub, gt_iff_lt, ge_iff_le, getD_at, hlt, fmC_eq]
      refine dCallF (H a.parts[k] (List.getElem_mem hlt)) (by simp -implicitDefEqProofs only [go_sem, Nat.reduceEqDiff, reduceIte, reduceCtorEq, Nat.reduceAdd, Nat.reduceMul, Int.reduceLE, Int.reduceNeg, Int.reduceToNat, Nat.reduceLeDiff, Nat.reduceSub, Nat.reduceLT, Nat.le_refl, Int.cast_ofNat_Int, Int.reduceLT, Int.reduceGT, Int.reduceGE, Int.reduceEq, Int.reduceBEq, Nat.reduceBEq, Int.reduceBNe, Int.reduceAdd, Int.reduceSub, gt_iff_lt, ge_iff_le, fmC_eq]) ?_
      simp -implicitDefEqProofs only [go_sem, Nat.reduceEqDiff, reduceIte, reduceCtorEq, Nat.reduceAdd, Nat.reduceMul, Int.reduceLE, Int.reduceNeg, Int.reduceToNat, Nat.reduceLeDiff, Nat.reduceSub, Nat.reduceLT, Nat.le_refl, Int.cast_ofNat_Int, Int.reduceLT, Int.reduceGT, Int.reduceGE, Int.reduceEq, Int.reduceBEq, Nat.reduceBEq, Int.reduceBNe, Int.reduceAdd, Int.reduceSub, gt_iff_lt, ge_iff_le, fmC_eq]
      refine dBuildDc (by simp -implicitDefEqProofs only [go_sem, Nat.reduceEqDiff, reduceIte, reduceCtorEq, Nat.reduceAdd, Nat.reduceMul, Int.reduceLE, Int.reduceNeg, Int.reduceToNat, Nat.reduceLeDiff, Nat.reduceSub, Nat.reduceLT, Nat.le_refl, Int.cast_ofNat_Int, Int.reduceLT, Int.reduceGT, Int.reduceGE, Int.reduceEq, Int.reduceBEq, Nat.reduceBEq, Int.reduceBNe, Int.reduceAdd, Int.reduceSub, gt_iff_lt, ge_iff_le]) ?_
      simp -implicitDefEqProofs only [go_sem, Nat.reduceEqDiff, reduceIte, reduceCtorEq, Nat.reduceAdd, Nat.reduceMul, Int.reduceLE, Int.reduceNeg, Int.reduceToNat, Nat.reduceLeDiff, Nat.reduceSub, Nat.reduceLT, Nat.le_refl, Int.cast_ofNat_Int, Int.reduceLT, Int.reduceGT, Int.reduceGE, Int.reduceEq, Int.reduceBEq, Nat.reduceBEq, Int.reduceBNe, Int.reduceAdd, Int.reduceSub, gt_iff_lt, ge_iff_le]
      refine dApD true (by simp -implicitDefEqProofs only [go_sem, Nat.reduceEqDiff, reduceIte, reduceCtorEq, Nat.reduceAdd, Nat.reduceMul, Int.reduceLE, Int.reduceNeg, Int.reduceToNat, Nat.reduceLeDiff, Nat.reduceSub, Nat.reduceLT, Nat.le_refl, Int.cast_ofNat_Int, Int.reduceLT, Int.reduceGT, Int.reduceGE, Int.reduceEq, Int.reduceBEq, Nat.reduceBEq, Int.reduceBNe, Int.reduceAdd, Int.reduceSub, gt_iff_lt, ge_iff_le, ne_eq, List.length_map, List.length_take, hmin]) ?_
      simp -implicitDefEqProofs only [go_sem, Nat.reduceEqDiff, reduceIte, reduceCtorEq, Nat.reduceAdd, Nat.reduceMul, Int.reduceLE, Int.reduceNeg, Int.reduceToNat, Nat.reduceLeDiff, Nat.reduceSub, Nat.reduceLT, Nat.le_refl, Int.cast_ofNat_Int, Int.reduceLT, Int.reduceGT, Int.reduceGE, Int.reduceEq, Int.reduceBEq, Nat.reduceBEq, Int.reduceBNe, Int.reduceAdd, Int.reduceSub, gt_iff_lt, ge_iff_le, ne_eq, List.length_map, List.length_take, hmin]
      refine ⟨by kernel_rfl, k + 1, hlt, by omega, weak_hd ?_⟩
      simp -implicitDefEqProofs only [go_sem, Nat.reduceEqDiff, reduceIte, reduceCtorEq, Nat.reduceAdd, Nat.reduceMul, Int.reduceLE, Int.reduceNeg, Int.reduceToNat, Nat.reduceLeDiff, Nat.reduceSub, Nat.reduceLT, Nat.le_refl, Int.cast_ofNat_Int, Int.reduceLT, Int.reduceGT, Int.reduceGE, Int.reduceEq, Int.reduceBEq, Nat.reduceBEq, Int.reduceBNe, Int.reduceAdd, Int.reduceSub, gt_iff_lt, ge_iff_le]
      rw [wrap_s (by omega), List.take_succ_eq_append_getElem hlt, List.map_append, List.map_singleton]
      simp only [fmC_eq]
      trivial
    · have ht : a.parts.take k = a.parts := List.take_of_length_le (by omega)
      simp -implicitDefEqProofs only [go_sem, Nat.reduceEqDiff, reduceIte, reduceCtorEq, Nat.reduceAdd, Nat.reduceMul, Int.reduceLE, Int.reduceNeg, Int.reduceToNat, Nat.reduceLeDiff, Nat.reduceSub, Nat.reduceLT, Nat.le_refl, Int.cast_ofNat_Int, Int.reduceLT, Int.reduceGT, Int.reduceGE, Int.reduceEq, Int.reduceBEq, Nat.reduceBEq, Int.reduceBNe, Int.reduceAdd, Int.reduceSub, gt_iff_lt, ge_iff_le, hlt, ht]
theorem l8Own_c : ∀ a : Fm, a.wt ≤ 1048576 → FC Try.prog 52 [fmD a] [fmD a] :=
  fm_ind fun o t v ps ih hs => by
    obtain ⟨h1, h2, h3⟩ := Fm.wt_parts hs
    exact l8Own_of (.mk o t v ps) (fun x hx => ih x hx (h3 x hx)) h1 h2
set_option maxHeartbeats 1000000 in
/-- The parts, each turned by a function. -/
theorem mapParts_of (a : Fm) (g : FuncId) (φ : Fm → Fm) (H : ∀ x ∈ a.parts, FC Try.prog g [fmD x] [fmD (φ x)]) (h0 : a.atom.wt ≤ 1048576) (hs : a.parts.length ≤ 1048576) : FC Try.prog 69 [fmD a, .one (.fn g [])] [fmD (.mk a.op a.atom a.var (a.parts.map φ))] := by
  simp only [fmD, fmC_eq a, fmC_mk]
  refine FC_of Try.call69 Try.func69 rfl (by kernel_rfl) (by simp only [rd, List.map_cons, List.map_nil, List.length_cons, List.length_nil, Try.ntmps69]; omega) ?_
  simp -implicitDefEqProofs only [go_sem, Nat.reduceEqDiff, reduceIte, reduceCtorEq, Nat.reduceAdd, Nat.reduceMul, Int.reduceLE, Int.reduceNeg, Int.reduceToNat, Nat.reduceLeDiff, Nat.reduceSub, Nat.reduceLT, Nat.le_refl, Int.cast_ofNat_Int, Int.reduceLT, Int.reduceGT, Int.reduceGE, Int.reduceEq, Int.reduceBEq, Nat.reduceBEq, Int.reduceBNe, Int.reduceAdd, Int.reduceSub, gt_iff_lt, ge_iff_le, Try.results69]
  refine drawn (by kernel_rfl) ?_
  simp -implicitDefEqProofs only [go_sem, Nat.reduceEqDiff, reduceIte, reduceCtorEq, Nat.reduceAdd, Nat.reduceMul, Int.reduceLE, Int.reduceNeg, Int.reduceToNat, Nat.reduceLeDiff, Nat.reduceSub, Nat.reduceLT, Nat.le_refl, Int.cast_ofNat_Int, Int.reduceLT, Int.reduceGT, Int.reduceGE, Int.reduceEq, Int.reduceBEq, Nat.reduceBEq, Int.reduceBNe, Int.reduceAdd, Int.reduceSub, gt_iff_lt, ge_iff_le]
  refine dCallF (copyTerm_c a.atom h0) (by simp -implicitDefEqProofs only [go_sem, Nat.reduceEqDiff, reduceIte, reduceCtorEq, Nat.reduceAdd, Nat.reduceMul, Int.reduceLE, Int.reduceNeg, Int.reduceToNat, Nat.reduceLeDiff, Nat.reduceSub, Nat.reduceLT, Nat.le_refl, Int.cast_ofNat_Int, Int.reduceLT, Int.reduceGT, Int.reduceGE, Int.reduceEq, Int.reduceBEq, Nat.reduceBEq, Int.reduceBNe, Int.reduceAdd, Int.reduceSub, gt_iff_lt, ge_iff_le, tmC_eq]) ?_
  simp -implicitDefEqProofs only [go_sem, Nat.reduceEqDiff, reduceIte, reduceCtorEq, Nat.reduceAdd, Nat.reduceMul, Int.reduceLE, Int.reduceNeg, Int.reduceToNat, Nat.reduceLeDiff, Nat.reduceSub, Nat.reduceLT, Nat.le_refl, Int.cast_ofNat_Int, Int.reduceLT, Int.reduceGT, Int.reduceGE, Int.reduceEq, Int.reduceBEq, Nat.reduceBEq, Int.reduceBNe, Int.reduceAdd, Int.reduceSub, gt_iff_lt, ge_iff_le, tmC_eq]
  refine ⟨by kernel_rfl, ?_⟩
  refine loop_rule (fun k : Nat => hd [(1, .one (.t (.fn g []))), (4, .one (.bx 4 0)), (5, .one (.bx 5 0)), (17, vT (fmS a.parts)), (18, vI a.parts.length), (19, vI k)] [(4, [.t (.int .i64 0), .t (.str []), .nl 2, .t (.str []), .nl 5]), (5, [.t (.int .i64 a.op), .t (.str a.atom.name), .ow 385 0, .t (.str a.var), .ow 3000 0])]
    [(385, ⟨true, 2, a.atom.args.map tmC, 0, true⟩), (3000, ⟨true, 5, (a.parts.take k).map fun x => fmC (φ x), 0, true⟩)]) (fun k => k ≤ a.parts.length) (fun k => a.parts.length - k) 0 (weak_hd ?_) ?_ ?_
  · simp -implicitDefEqProofs only [go_sem, Nat.reduceEqDiff, reduceIte, reduceCtorEq, Nat.reduceAdd, Nat.reduceMul, Int.reduceLE, Int.reduceNeg, Int.reduceToNat, Nat.reduceLeDiff, Nat.reduceSub, Nat.reduceLT, Nat.le_refl, Int.cast_ofNat_Int, Int.reduceLT, Int.reduceGT, Int.reduceGE, Int.reduceEq, Int.reduceBEq, Nat.reduceBEq, Int.reduceBNe, Int.reduceAdd, Int.reduceSub, gt_iff_lt, ge_iff_le]
  · simp
  · intro k hk
    by_cases hlt : k < a.parts.length
    · have hmin : min k a.parts.length ≤ 4294967295 := by omega
      simp -implicitDefEqProofs only [go_sem, Nat.reduceEqDiff, reduceIte, reduceCtorEq, Nat.reduceAdd, Nat.reduceMul, Int.reduceLE, Int.reduceNeg, Int.reduceToNat, Nat.reduceLeDiff, Nat.reduceSub, Nat.reduceLT, Nat.le_refl, Int.cast_ofNat_Int, Int.reduceLT, Int.reduceGT, Int.reduceGE, Int.reduceEq, Int.reduceBEq, Nat.reduceBEq, Int.reduceBNe, Int.reduceAdd, Int.reduceSub, gt_iff_lt, ge_iff_le, getD_at, hlt, fmC_eq a.parts[k]]
      refine drawn (by kernel_rfl) ?_
      simp -implicitDefEqProofs only [go_sem, Nat.reduceEqDiff, reduceIte, reduceCtorEq, Nat.reduceAdd, Nat.reduceMul, Int.reduceLE, Int.reduceNeg, Int.reduceToNat, Nat.reduceLeDiff, Nat.reduceSub, Nat.reduceLT, Nat.le_refl, Int.cast_ofNat_Int, Int.reduceLT, Int.reduceGT, Int.reduceGE, Int.reduceEq, Int.reduceBEq, Nat.reduceBEq, Int.reduceBNe, Int.reduceAdd, Int.reduceSub, gt_iff_lt, ge_iff_le]
      refine dCallF (H a.parts[k] (List.getElem_mem hlt)) (by simp -implicitDefEqProofs only [go_sem, Nat.reduceEqDiff, reduceIte, reduceCtorEq, Nat.reduceAdd, Nat.reduceMul, Int.reduceLE, Int.reduceNeg, Int.reduceToNat, Nat.reduceLeDiff, Nat.reduceSub, Nat.reduceLT, Nat.le_refl, Int.cast_ofNat_Int, Int.reduceLT, Int.reduceGT, Int.reduceGE, Int.reduceEq, Int.reduceBEq, Nat.reduceBEq, Int.reduceBNe, Int.reduceAdd, Int.reduceSub, gt_iff_lt, ge_iff_le, fmC_eq]) ?_
      simp -implicitDefEqProofs only [go_sem, Nat.reduceEqDiff, reduceIte, reduceCtorEq, Nat.reduceAdd, Nat.reduceMul, Int.reduceLE, Int.reduceNeg, Int.reduceToNat, Nat.reduceLeDiff, Nat.reduceSub, Nat.reduceLT, Nat.le_refl, Int.cast_ofNat_Int, Int.reduceLT, Int.reduceGT, Int.reduceGE, Int.reduceEq, Int.reduceBEq, Nat.reduceBEq, Int.reduceBNe, Int.reduceAdd, Int.reduceSub, gt_iff_lt, ge_iff_le, fmC_eq]
      refine dBuildDc (by simp -implicitDefEqProofs only [go_sem, Nat.reduceEqDiff, reduceIte, reduceCtorEq, Nat.reduceAdd, Nat.reduceMul, Int.reduceLE, Int.reduceNeg, Int.reduceToNat, Nat.reduceLeDiff, Nat.reduceSub, Nat.reduceLT, Nat.le_refl, Int.cast_ofNat_Int, Int.reduceLT, Int.reduceGT, Int.reduceGE, Int.reduceEq, Int.reduceBEq, Nat.reduceBEq, Int.reduceBNe, Int.reduceAdd, Int.reduceSub, gt_iff_lt, ge_iff_le]) ?_
      simp -implicitDefEqProofs only [go_sem, Nat.reduceEqDiff, reduceIte, reduceCtorEq, Nat.reduceAdd, Nat.reduceMul, Int.reduceLE, Int.reduceNeg, Int.reduceToNat, Nat.reduceLeDiff, Nat.reduceSub, Nat.reduceLT, Nat.le_refl, Int.cast_ofNat_Int, Int.reduceLT, Int.reduceGT, Int.reduceGE, Int.reduceEq, Int.reduceBEq, Nat.reduceBEq, Int.reduceBNe, Int.reduceAdd, Int.reduceSub, gt_iff_lt, ge_iff_le]
      refine dApD true (by simp -implicitDefEqProofs only [go_sem, Nat.reduceEqDiff, reduceIte, reduceCtorEq, Nat.reduceAdd, Nat.reduceMul, Int.reduceLE, Int.reduceNeg, Int.reduceToNat, Nat.reduceLeDiff, Nat.reduceSub, Nat.reduceLT, Nat.le_refl, Int.cast_ofNat_Int, Int.reduceLT, Int.reduceGT, Int.reduceGE, Int.reduceEq, Int.reduceBEq, Nat.reduceBEq, Int.reduceBNe, Int.reduceAdd, Int.reduceSub, gt_iff_lt, ge_iff_le, ne_eq, List.length_map, List.length_take, hmin]) ?_
      simp -implicitDefEqProofs only [go_sem, Nat.reduceEqDiff, reduceIte, reduceCtorEq, Nat.reduceAdd, Nat.reduceMul, Int.reduceLE, Int.reduceNeg, Int.reduceToNat, Nat.reduceLeDiff, Nat.reduceSub, Nat.reduceLT, Nat.le_refl, Int.cast_ofNat_Int, Int.reduceLT, Int.reduceGT, Int.reduceGE, Int.reduceEq, Int.reduceBEq, Nat.reduceBEq, Int.reduceBNe, Int.reduceAdd, Int.reduceSub, gt_iff_lt, ge_iff_le, ne_eq, List.length_map, List.length_take, hmin]
      refine ⟨by kernel_rfl, k + 1, hlt, by omega, weak_hd ?_⟩
      simp -implicitDefEqProofs only [go_sem, Nat.reduceEqDiff, reduceIte, reduceCtorEq, Nat.reduceAdd, Nat.reduceMul, Int.reduceLE, Int.reduceNeg, Int.reduceToNat, Nat.reduceLeDiff, Nat.reduceSub, Nat.reduceLT, Nat.le_refl, Int.cast_ofNat_Int, Int.reduceLT, Int.reduceGT, Int.reduceGE, Int.reduceEq, Int.reduceBEq, Nat.reduceBEq, Int.reduceBNe, Int.reduceAdd, Int.reduceSub, gt_iff_lt, ge_iff_le]
      rw [wrap_s (by omega), List.take_succ_eq_append_getElem hlt, List.map_append, List.map_singleton]
      simp only [fmC_eq]
      trivial
    · have ht : a.parts.take k = a.parts := List.take_of_length_le (by omega)
      simp -implicitDefEqProofs only [go_sem, Nat.reduceEqDiff, reduceIte, reduceCtorEq, Nat.reduceAdd, Nat.reduceMul, Int.reduceLE, Int.reduceNeg, Int.reduceToNat, Nat.reduceLeDiff, Nat.reduceSub, Nat.reduceLT, Nat.le_refl, Int.cast_ofNat_Int, Int.reduceLT, Int.reduceGT, Int.reduceGE, Int.reduceEq, Int.reduceBEq, Nat.reduceBEq, Int.reduceBNe, Int.reduceAdd, Int.reduceSub, gt_iff_lt, ge_iff_le, hlt, ht]
      rfl
set_option maxRecDepth 10000 in
theorem copyFormula_c : ∀ a : Fm, a.wt ≤ 1048576 → FC Try.prog 56 [fmD a] [fmD a] :=
  fm_ind fun o t v ps ih hs => by
    obtain ⟨h1, h2, h3⟩ := Fm.wt_parts hs
    have H := mapParts_of (.mk o t v ps) 56 (fun x => x) (fun x hx => ih x hx (h3 x hx)) h1 h2
    simp only [Fm.op, Fm.atom, Fm.var, Fm.parts, List.map_id'] at H
    simp only [fmD, fmC_mk] at H ⊢
    refine FC_of Try.call56 Try.func56 rfl (by kernel_rfl) (by simp only [rd, List.map_cons, List.map_nil, List.length_cons, List.length_nil, Try.ntmps56]; omega) ?_
    simp -implicitDefEqProofs only [go_sem, Nat.reduceEqDiff, reduceIte, reduceCtorEq, Nat.reduceAdd, Nat.reduceMul, Int.reduceLE, Int.reduceNeg, Int.reduceToNat, Nat.reduceLeDiff, Nat.reduceSub, Nat.reduceLT, Nat.le_refl, Int.cast_ofNat_Int, Int.reduceLT, Int.reduceGT, Int.reduceGE, Int.reduceEq, Int.reduceBEq, Nat.reduceBEq, Int.reduceBNe, Int.reduceAdd, Int.reduceSub, gt_iff_lt, ge_iff_le, Try.results56]
    refine callF (H) (by simp -implicitDefEqProofs only [go_sem, Nat.reduceEqDiff, reduceIte, reduceCtorEq, Nat.reduceAdd, Nat.reduceMul, Int.reduceLE, Int.reduceNeg, Int.reduceToNat, Nat.reduceLeDiff, Nat.reduceSub, Nat.reduceLT, Nat.le_refl, Int.cast_ofNat_Int, Int.reduceLT, Int.reduceGT, Int.reduceGE, Int.reduceEq, Int.reduceBEq, Nat.reduceBEq, Int.reduceBNe, Int.reduceAdd, Int.reduceSub, gt_iff_lt, ge_iff_le]) ?_
    simp -implicitDefEqProofs only [go_sem, Nat.reduceEqDiff, reduceIte, reduceCtorEq, Nat.reduceAdd, Nat.reduceMul, Int.reduceLE, Int.reduceNeg, Int.reduceToNat, Nat.reduceLeDiff, Nat.reduceSub, Nat.reduceLT, Nat.le_refl, Int.cast_ofNat_Int, Int.reduceLT, Int.reduceGT, Int.reduceGE, Int.reduceEq, Int.reduceBEq, Nat.reduceBEq, Int.reduceBNe, Int.reduceAdd, Int.reduceSub, gt_iff_lt, ge_iff_le]
    trace_state
end Go.Proofs.Ytgfjbbbkploonaa
/-
  Simplification of formulas: the parts.
  Conditions: those that each theorem names.
-/
namespace Go.Proofs.Ytgfjbbbkploonaa
set_option linter.unusedSimpArgs false
set_option linter.unusedVariables false
set_option maxRecDepth 4000
open Go.RowKit
/- A formula without atom and variable. -/
def mkF (op : Int) (ps : List Fm) : Fm := .mk op (.mk [] []) [] ps
theorem fmC_mkF (op : Int) (ps : List Fm) : fmC (mkF op ps) = [.int .i64 op, .str [], .sl 2 [], .str [], .sl 5 (ps.map fmC)] := fmC_eq _
def isC (f : Fm) : Bool := f.op == 1 || f.op == 2
noncomputable def two (op strong weak : Int) (f g : Fm) : Fm := if (f.op == strong || g.op == strong) = true then mkF strong [] else if (f.op == weak) = true then g else if (g.op == weak || same f g) = true then f else mkF op [f, g]
noncomputable def impF (f g : Fm) : Fm := if (f.op == 1) = true then g else if (f.op == 2 || g.op == 1 || same f g) = true then mkF 1 [] else if (g.op == 2) = true then mkF 4 [f] else mkF 7 [f, g]
theorem binary_c (op : Int) (a b : Fm) : GC Try.prog 36 [(false, iD op), (true, fmD a), (true, fmD b)] [fmD (mkF op [a, b])] := by
  simp only [fmD, fmC_eq a, fmC_eq b, fmC_mkF]
  refine GC_of Try.call36 Try.func36 rfl (by kernel_rfl) (by simp only [List.length_cons, List.length_nil, Try.ntmps36]; omega) (by simp [smallG, T.isPin]) ?_
  simp -implicitDefEqProofs only [go_sem, Nat.reduceEqDiff, reduceIte, reduceCtorEq, Nat.reduceAdd, Nat.reduceMul, Int.reduceLE, Int.reduceNeg, Int.reduceToNat, Nat.reduceLeDiff, Nat.reduceSub, Nat.reduceLT, Nat.le_refl, Int.cast_ofNat_Int, Int.reduceLT, Int.reduceGT, Int.reduceGE, Int.reduceEq, Int.reduceBEq, Nat.reduceBEq, Int.reduceBNe, Int.reduceAdd, Int.reduceSub, gt_iff_lt, ge_iff_le, Try.results36]
  refine buildDc (by simp -implicitDefEqProofs only [go_sem, Nat.reduceEqDiff, reduceIte, reduceCtorEq, Nat.reduceAdd, Nat.reduceMul, Int.reduceLE, Int.reduceNeg, Int.reduceToNat, Nat.reduceLeDiff, Nat.reduceSub, Nat.reduceLT, Nat.le_refl, Int.cast_ofNat_Int, Int.reduceLT, Int.reduceGT, Int.reduceGE, Int.reduceEq, Int.reduceBEq, Nat.reduceBEq, Int.reduceBNe, Int.reduceAdd, Int.reduceSub, gt_iff_lt, ge_iff_le]) ?_
  simp -implicitDefEqProofs only [go_sem, Nat.reduceEqDiff, reduceIte, reduceCtorEq, Nat.reduceAdd, Nat.reduceMul, Int.reduceLE, Int.reduceNeg, Int.reduceToNat, Nat.reduceLeDiff, Nat.reduceSub, Nat.reduceLT, Nat.le_refl, Int.cast_ofNat_Int, Int.reduceLT, Int.reduceGT, Int.reduceGE, Int.reduceEq, Int.reduceBEq, Nat.reduceBEq, Int.reduceBNe, Int.reduceAdd, Int.reduceSub, gt_iff_lt, ge_iff_le]
  simp [fmC_eq]
theorem not_c (a : Fm) : GC Try.prog 92 [(true, fmD a)] [fmD (mkF 4 [a])] := by
  simp only [fmD, fmC_eq a, fmC_mkF]
  refine GC_of Try.call92 Try.func92 rfl (by kernel_rfl) (by simp only [List.length_cons, List.length_nil, Try.ntmps92]; omega) (by simp [smallG, T.isPin]) ?_
  simp -implicitDefEqProofs only [go_sem, Nat.reduceEqDiff, reduceIte, reduceCtorEq, Nat.reduceAdd, Nat.reduceMul, Int.reduceLE, Int.reduceNeg, Int.reduceToNat, Nat.reduceLeDiff, Nat.reduceSub, Nat.reduceLT, Nat.le_refl, Int.cast_ofNat_Int, Int.reduceLT, Int.reduceGT, Int.reduceGE, Int.reduceEq, Int.reduceBEq, Nat.reduceBEq, Int.reduceBNe, Int.reduceAdd, Int.reduceSub, gt_iff_lt, ge_iff_le, Try.results92]
  refine buildDc (by simp -implicitDefEqProofs only [go_sem, Nat.reduceEqDiff, reduceIte, reduceCtorEq, Nat.reduceAdd, Nat.reduceMul, Int.reduceLE, Int.reduceNeg, Int.reduceToNat, Nat.reduceLeDiff, Nat.reduceSub, Nat.reduceLT, Nat.le_refl, Int.cast_ofNat_Int, Int.reduceLT, Int.reduceGT, Int.reduceGE, Int.reduceEq, Int.reduceBEq, Nat.reduceBEq, Int.reduceBNe, Int.reduceAdd, Int.reduceSub, gt_iff_lt, ge_iff_le]) ?_
  simp -implicitDefEqProofs only [go_sem, Nat.reduceEqDiff, reduceIte, reduceCtorEq, Nat.reduceAdd, Nat.reduceMul, Int.reduceLE, Int.reduceNeg, Int.reduceToNat, Nat.reduceLeDiff, Nat.reduceSub, Nat.reduceLT, Nat.le_refl, Int.cast_ofNat_Int, Int.reduceLT, Int.reduceGT, Int.reduceGE, Int.reduceEq, Int.reduceBEq, Nat.reduceBEq, Int.reduceBNe, Int.reduceAdd, Int.reduceSub, gt_iff_lt, ge_iff_le]
  simp [fmC_eq]
theorem isConstant_c (a : Fm) : FC Try.prog 70 [fmD a] [bD (isC a)] := by
  simp only [fmD, fmC_eq a]
  refine FC_of Try.call70 Try.func70 rfl (by kernel_rfl) (by simp only [rd, List.map_cons, List.map_nil, List.length_cons, List.length_nil, Try.ntmps70]; omega) ?_
  simp -implicitDefEqProofs only [go_sem, Nat.reduceEqDiff, reduceIte, reduceCtorEq, Nat.reduceAdd, Nat.reduceMul, Int.reduceLE, Int.reduceNeg, Int.reduceToNat, Nat.reduceLeDiff, Nat.reduceSub, Nat.reduceLT, Nat.le_refl, Int.cast_ofNat_Int, Int.reduceLT, Int.reduceGT, Int.reduceGE, Int.reduceEq, Int.reduceBEq, Nat.reduceBEq, Int.reduceBNe, Int.reduceAdd, Int.reduceSub, gt_iff_lt, ge_iff_le, Try.results70]
  unfold isC
  refine ⟨fun h => ?_, fun h => ?_⟩ <;> rw [h]
  · rfl
  · rfl
theorem l20Constant_c (a : Fm) : FC Try.prog 65 [fmD a] [bD (isC a)] := by
  simp only [fmD, fmC_eq a]
  refine FC_of Try.call65 Try.func65 rfl (by kernel_rfl) (by simp only [rd, List.map_cons, List.map_nil, List.length_cons, List.length_nil, Try.ntmps65]; omega) ?_
  simp -implicitDefEqProofs only [go_sem, Nat.reduceEqDiff, reduceIte, reduceCtorEq, Nat.reduceAdd, Nat.reduceMul, Int.reduceLE, Int.reduceNeg, Int.reduceToNat, Nat.reduceLeDiff, Nat.reduceSub, Nat.reduceLT, Nat.le_refl, Int.cast_ofNat_Int, Int.reduceLT, Int.reduceGT, Int.reduceGE, Int.reduceEq, Int.reduceBEq, Nat.reduceBEq, Int.reduceBNe, Int.reduceAdd, Int.reduceSub, gt_iff_lt, ge_iff_le, Try.results65]
  unfold isC
  refine ⟨fun h => ?_, fun h => ?_⟩ <;> rw [h]
  · rfl
  · rfl
set_option maxHeartbeats 1000000 in
theorem simplified_c (op strong weak : Int) (f g : Fm) : GC Try.prog 90 [(false, iD op), (false, iD strong), (false, iD weak), (true, fmD f), (true, fmD g)] [fmD (two op strong weak f g)] := by
  unfold two
  cases h1 : f.op == strong
  · cases h2 : g.op == strong
    · cases h3 : f.op == weak
      · cases h4 : g.op == weak
        · cases h5 : same f g
          · simp only [h1, h2, h3, h4, h5, Bool.or_true, Bool.true_or, Bool.or_false, Bool.false_or, Bool.or_self, Bool.false_eq_true, reduceIte, fmD, fmC_eq f, fmC_eq g, fmC_mkF, List.map_cons, List.map_nil]
            refine GC_of Try.call90 Try.func90 rfl (by kernel_rfl) (by simp only [List.length_cons, List.length_nil, Try.ntmps90]; omega) (by simp [smallG, T.isPin]) ?_
            simp -implicitDefEqProofs only [go_sem, Nat.reduceEqDiff, reduceIte, reduceCtorEq, Nat.reduceAdd, Nat.reduceMul, Int.reduceLE, Int.reduceNeg, Int.reduceToNat, Nat.reduceLeDiff, Nat.reduceSub, Nat.reduceLT, Nat.le_refl, Int.cast_ofNat_Int, Int.reduceLT, Int.reduceGT, Int.reduceGE, Int.reduceEq, Int.reduceBEq, Nat.reduceBEq, Int.reduceBNe, Int.reduceAdd, Int.reduceSub, gt_iff_lt, ge_iff_le, Try.results90, h1, h2, h3, h4, h5]
            refine callF (sameFormula_c f g) (by simp -implicitDefEqProofs only [go_sem, Nat.reduceEqDiff, reduceIte, reduceCtorEq, Nat.reduceAdd, Nat.reduceMul, Int.reduceLE, Int.reduceNeg, Int.reduceToNat, Nat.reduceLeDiff, Nat.reduceSub, Nat.reduceLT, Nat.le_refl, Int.cast_ofNat_Int, Int.reduceLT, Int.reduceGT, Int.reduceGE, Int.reduceEq, Int.reduceBEq, Nat.reduceBEq, Int.reduceBNe, Int.reduceAdd, Int.reduceSub, gt_iff_lt, ge_iff_le, fmC_eq f, fmC_eq g, h1, h2, h3, h4, h5]) ?_
            simp -implicitDefEqProofs only [go_sem, Nat.reduceEqDiff, reduceIte, reduceCtorEq, Nat.reduceAdd, Nat.reduceMul, Int.reduceLE, Int.reduceNeg, Int.reduceToNat, Nat.reduceLeDiff, Nat.reduceSub, Nat.reduceLT, Nat.le_refl, Int.cast_ofNat_Int, Int.reduceLT, Int.reduceGT, Int.reduceGE, Int.reduceEq, Int.reduceBEq, Nat.reduceBEq, Int.reduceBNe, Int.reduceAdd, Int.reduceSub, gt_iff_lt, ge_iff_le, fmC_eq f, fmC_eq g, h1, h2, h3, h4, h5]
            refine callG [(41, vI op), (42, .agg [.t (.int .i64 f.op), .t (.str f.atom.name), .ow 98 0, .t (.str f.var), .ow 100 0]), (43, .agg [.t (.int .i64 g.op), .t (.str g.atom.name), .ow 130 0, .t (.str g.var), .ow 132 0])] [(10, .one (.bx 10 0))] [] [(10, [.t (.int .i64 0), .t (.str []), .nl 2, .t (.str []), .nl 5])] [(98, ⟨true, 2, f.atom.args.map tmC, 0, true⟩), (100, ⟨true, 5, f.parts.map fmC, 0, true⟩), (130, ⟨true, 2, g.atom.args.map tmC, 0, true⟩), (132, ⟨true, 5, g.parts.map fmC, 0, true⟩)] [] [] (binary_c op f g) (by simp -implicitDefEqProofs only [go_sem, Nat.reduceEqDiff, reduceIte, reduceCtorEq, Nat.reduceAdd, Nat.reduceMul, Int.reduceLE, Int.reduceNeg, Int.reduceToNat, Nat.reduceLeDiff, Nat.reduceSub, Nat.reduceLT, Nat.le_refl, Int.cast_ofNat_Int, Int.reduceLT, Int.reduceGT, Int.reduceGE, Int.reduceEq, Int.reduceBEq, Nat.reduceBEq, Int.reduceBNe, Int.reduceAdd, Int.reduceSub, gt_iff_lt, ge_iff_le]) (by simp -implicitDefEqProofs only [go_sem, Nat.reduceEqDiff, reduceIte, reduceCtorEq, Nat.reduceAdd, Nat.reduceMul, Int.reduceLE, Int.reduceNeg, Int.reduceToNat, Nat.reduceLeDiff, Nat.reduceSub, Nat.reduceLT, Nat.le_refl, Int.cast_ofNat_Int, Int.reduceLT, Int.reduceGT, Int.reduceGE, Int.reduceEq, Int.reduceBEq, Nat.reduceBEq, Int.reduceBNe, Int.reduceAdd, Int.reduceSub, gt_iff_lt, ge_iff_le]) (by simp -implicitDefEqProofs only [go_sem, Nat.reduceEqDiff, reduceIte, reduceCtorEq, Nat.reduceAdd, Nat.reduceMul, Int.reduceLE, Int.reduceNeg, Int.reduceToNat, Nat.reduceLeDiff, Nat.reduceSub, Nat.reduceLT, Nat.le_refl, Int.cast_ofNat_Int, Int.reduceLT, Int.reduceGT, Int.reduceGE, Int.reduceEq, Int.reduceBEq, Nat.reduceBEq, Int.reduceBNe, Int.reduceAdd, Int.reduceSub, gt_iff_lt, ge_iff_le, fmC_eq f, fmC_eq g]) (by simp -implicitDefEqProofs only [go_sem, Nat.reduceEqDiff, reduceIte, reduceCtorEq, Nat.reduceAdd, Nat.reduceMul, Int.reduceLE, Int.reduceNeg, Int.reduceToNat, Nat.reduceLeDiff, Nat.reduceSub, Nat.reduceLT, Nat.le_refl, Int.cast_ofNat_Int, Int.reduceLT, Int.reduceGT, Int.reduceGE, Int.reduceEq, Int.reduceBEq, Nat.reduceBEq, Int.reduceBNe, Int.reduceAdd, Int.reduceSub, gt_iff_lt, ge_iff_le, fmC_mkF]) ?_
            simp -implicitDefEqProofs only [go_sem, Nat.reduceEqDiff, reduceIte, reduceCtorEq, Nat.reduceAdd, Nat.reduceMul, Int.reduceLE, Int.reduceNeg, Int.reduceToNat, Nat.reduceLeDiff, Nat.reduceSub, Nat.reduceLT, Nat.le_refl, Int.cast_ofNat_Int, Int.reduceLT, Int.reduceGT, Int.reduceGE, Int.reduceEq, Int.reduceBEq, Nat.reduceBEq, Int.reduceBNe, Int.reduceAdd, Int.reduceSub, gt_iff_lt, ge_iff_le, fmC_mkF, fmC_eq f, fmC_eq g, List.map_cons, List.map_nil]
          · simp only [h1, h2, h3, h4, h5, Bool.or_true, Bool.true_or, Bool.or_false, Bool.false_or, Bool.or_self, Bool.false_eq_true, reduceIte, fmD, fmC_eq f, fmC_eq g, fmC_mkF, List.map_cons, List.map_nil]
            refine GC_of Try.call90 Try.func90 rfl (by kernel_rfl) (by simp only [List.length_cons, List.length_nil, Try.ntmps90]; omega) (by simp [smallG, T.isPin]) ?_
            simp -implicitDefEqProofs only [go_sem, Nat.reduceEqDiff, reduceIte, reduceCtorEq, Nat.reduceAdd, Nat.reduceMul, Int.reduceLE, Int.reduceNeg, Int.reduceToNat, Nat.reduceLeDiff, Nat.reduceSub, Nat.reduceLT, Nat.le_refl, Int.cast_ofNat_Int, Int.reduceLT, Int.reduceGT, Int.reduceGE, Int.reduceEq, Int.reduceBEq, Nat.reduceBEq, Int.reduceBNe, Int.reduceAdd, Int.reduceSub, gt_iff_lt, ge_iff_le, Try.results90, h1, h2, h3, h4, h5]
            refine callF (sameFormula_c f g) (by simp -implicitDefEqProofs only [go_sem, Nat.reduceEqDiff, reduceIte, reduceCtorEq, Nat.reduceAdd, Nat.reduceMul, Int.reduceLE, Int.reduceNeg, Int.reduceToNat, Nat.reduceLeDiff, Nat.reduceSub, Nat.reduceLT, Nat.le_refl, Int.cast_ofNat_Int, Int.reduceLT, Int.reduceGT, Int.reduceGE, Int.reduceEq, Int.reduceBEq, Nat.reduceBEq, Int.reduceBNe, Int.reduceAdd, Int.reduceSub, gt_iff_lt, ge_iff_le, fmC_eq f, fmC_eq g, h1, h2, h3, h4, h5]) ?_
            simp -implicitDefEqProofs only [go_sem, Nat.reduceEqDiff, reduceIte, reduceCtorEq, Nat.reduceAdd, Nat.reduceMul, Int.reduceLE, Int.reduceNeg, Int.reduceToNat, Nat.reduceLeDiff, Nat.reduceSub, Nat.reduceLT, Nat.le_refl, Int.cast_ofNat_Int, Int.reduceLT, Int.reduceGT, Int.reduceGE, Int.reduceEq, Int.reduceBEq, Nat.reduceBEq, Int.reduceBNe, Int.reduceAdd, Int.reduceSub, gt_iff_lt, ge_iff_le, fmC_eq f, fmC_eq g, h1, h2, h3, h4, h5]
        · simp only [h1, h2, h3, h4, Bool.or_true, Bool.true_or, Bool.or_false, Bool.false_or, Bool.or_self, Bool.false_eq_true, reduceIte, fmD, fmC_eq f, fmC_eq g, fmC_mkF, List.map_cons, List.map_nil]
          refine GC_of Try.call90 Try.func90 rfl (by kernel_rfl) (by simp only [List.length_cons, List.length_nil, Try.ntmps90]; omega) (by simp [smallG, T.isPin]) ?_
          simp -implicitDefEqProofs only [go_sem, Nat.reduceEqDiff, reduceIte, reduceCtorEq, Nat.reduceAdd, Nat.reduceMul, Int.reduceLE, Int.reduceNeg, Int.reduceToNat, Nat.reduceLeDiff, Nat.reduceSub, Nat.reduceLT, Nat.le_refl, Int.cast_ofNat_Int, Int.reduceLT, Int.reduceGT, Int.reduceGE, Int.reduceEq, Int.reduceBEq, Nat.reduceBEq, Int.reduceBNe, Int.reduceAdd, Int.reduceSub, gt_iff_lt, ge_iff_le, Try.results90, h1, h2, h3, h4]
      · simp only [h1, h2, h3, Bool.or_true, Bool.true_or, Bool.or_false, Bool.false_or, Bool.or_self, Bool.false_eq_true, reduceIte, fmD, fmC_eq f, fmC_eq g, fmC_mkF, List.map_cons, List.map_nil]
        refine GC_of Try.call90 Try.func90 rfl (by kernel_rfl) (by simp only [List.length_cons, List.length_nil, Try.ntmps90]; omega) (by simp [smallG, T.isPin]) ?_
        simp -implicitDefEqProofs only [go_sem, Nat.reduceEqDiff, reduceIte, reduceCtorEq, Nat.reduceAdd, Nat.reduceMul, Int.reduceLE, Int.reduceNeg, Int.reduceToNat, Nat.reduceLeDiff, Nat.reduceSub, Nat.reduceLT, Nat.le_refl, Int.cast_ofNat_Int, Int.reduceLT, Int.reduceGT, Int.reduceGE, Int.reduceEq, Int.reduceBEq, Nat.reduceBEq, Int.reduceBNe, Int.reduceAdd, Int.reduceSub, gt_iff_lt, ge_iff_le, Try.results90, h1, h2, h3]
    · simp only [h1, h2, Bool.or_true, Bool.true_or, Bool.or_false, Bool.false_or, Bool.or_self, Bool.false_eq_true, reduceIte, fmD, fmC_eq f, fmC_eq g, fmC_mkF, List.map_cons, List.map_nil]
      refine GC_of Try.call90 Try.func90 rfl (by kernel_rfl) (by simp only [List.length_cons, List.length_nil, Try.ntmps90]; omega) (by simp [smallG, T.isPin]) ?_
      simp -implicitDefEqProofs only [go_sem, Nat.reduceEqDiff, reduceIte, reduceCtorEq, Nat.reduceAdd, Nat.reduceMul, Int.reduceLE, Int.reduceNeg, Int.reduceToNat, Nat.reduceLeDiff, Nat.reduceSub, Nat.reduceLT, Nat.le_refl, Int.cast_ofNat_Int, Int.reduceLT, Int.reduceGT, Int.reduceGE, Int.reduceEq, Int.reduceBEq, Nat.reduceBEq, Int.reduceBNe, Int.reduceAdd, Int.reduceSub, gt_iff_lt, ge_iff_le, Try.results90, h1, h2]
  · simp only [h1, Bool.or_true, Bool.true_or, Bool.or_false, Bool.false_or, Bool.or_self, Bool.false_eq_true, reduceIte, fmD, fmC_eq f, fmC_eq g, fmC_mkF, List.map_cons, List.map_nil]
    refine GC_of Try.call90 Try.func90 rfl (by kernel_rfl) (by simp only [List.length_cons, List.length_nil, Try.ntmps90]; omega) (by simp [smallG, T.isPin]) ?_
    simp -implicitDefEqProofs only [go_sem, Nat.reduceEqDiff, reduceIte, reduceCtorEq, Nat.reduceAdd, Nat.reduceMul, Int.reduceLE, Int.reduceNeg, Int.reduceToNat, Nat.reduceLeDiff, Nat.reduceSub, Nat.reduceLT, Nat.le_refl, Int.cast_ofNat_Int, Int.reduceLT, Int.reduceGT, Int.reduceGE, Int.reduceEq, Int.reduceBEq, Nat.reduceBEq, Int.reduceBNe, Int.reduceAdd, Int.reduceSub, gt_iff_lt, ge_iff_le, Try.results90, h1]
theorem conjunction_c (f g : Fm) : GC Try.prog 71 [(true, fmD f), (true, fmD g)] [fmD (two 5 2 1 f g)] := by
  have H := simplified_c 5 2 1 f g
  have e := fmC_eq (two 5 2 1 f g)
  simp only [fmD, fmC_eq f, fmC_eq g, e] at H ⊢
  refine GC_of Try.call71 Try.func71 rfl (by kernel_rfl) (by simp only [List.length_cons, List.length_nil, Try.ntmps71]; omega) (by simp [smallG, T.isPin]) ?_
  simp -implicitDefEqProofs only [go_sem, Nat.reduceEqDiff, reduceIte, reduceCtorEq, Nat.reduceAdd, Nat.reduceMul, Int.reduceLE, Int.reduceNeg, Int.reduceToNat, Nat.reduceLeDiff, Nat.reduceSub, Nat.reduceLT, Nat.le_refl, Int.cast_ofNat_Int, Int.reduceLT, Int.reduceGT, Int.reduceGE, Int.reduceEq, Int.reduceBEq, Nat.reduceBEq, Int.reduceBNe, Int.reduceAdd, Int.reduceSub, gt_iff_lt, ge_iff_le, Try.results71]
  refine callG [(5, .agg [.t (.int .i64 f.op), .t (.str f.atom.name), .ow 2 0, .t (.str f.var), .ow 4 0]), (6, .agg [.t (.int .i64 g.op), .t (.str g.atom.name), .ow 34 0, .t (.str g.var), .ow 36 0])] [(4, .one (.bx 4 0))] [] [(4, [.t (.int .i64 0), .t (.str []), .nl 2, .t (.str []), .nl 5])] [(2, ⟨true, 2, f.atom.args.map tmC, 0, true⟩), (4, ⟨true, 5, f.parts.map fmC, 0, true⟩), (34, ⟨true, 2, g.atom.args.map tmC, 0, true⟩), (36, ⟨true, 5, g.parts.map fmC, 0, true⟩)] [] [] H (by simp -implicitDefEqProofs only [go_sem, Nat.reduceEqDiff, reduceIte, reduceCtorEq, Nat.reduceAdd, Nat.reduceMul, Int.reduceLE, Int.reduceNeg, Int.reduceToNat, Nat.reduceLeDiff, Nat.reduceSub, Nat.reduceLT, Nat.le_refl, Int.cast_ofNat_Int, Int.reduceLT, Int.reduceGT, Int.reduceGE, Int.reduceEq, Int.reduceBEq, Nat.reduceBEq, Int.reduceBNe, Int.reduceAdd, Int.reduceSub, gt_iff_lt, ge_iff_le]) (by simp -implicitDefEqProofs only [go_sem, Nat.reduceEqDiff, reduceIte, reduceCtorEq, Nat.reduceAdd, Nat.reduceMul, Int.reduceLE, Int.reduceNeg, Int.reduceToNat, Nat.reduceLeDiff, Nat.reduceSub, Nat.reduceLT, Nat.le_refl, Int.cast_ofNat_Int, Int.reduceLT, Int.reduceGT, Int.reduceGE, Int.reduceEq, Int.reduceBEq, Nat.reduceBEq, Int.reduceBNe, Int.reduceAdd, Int.reduceSub, gt_iff_lt, ge_iff_le]) (by simp -implicitDefEqProofs only [go_sem, Nat.reduceEqDiff, reduceIte, reduceCtorEq, Nat.reduceAdd, Nat.reduceMul, Int.reduceLE, Int.reduceNeg, Int.reduceToNat, Nat.reduceLeDiff, Nat.reduceSub, Nat.reduceLT, Nat.le_refl, Int.cast_ofNat_Int, Int.reduceLT, Int.reduceGT, Int.reduceGE, Int.reduceEq, Int.reduceBEq, Nat.reduceBEq, Int.reduceBNe, Int.reduceAdd, Int.reduceSub, gt_iff_lt, ge_iff_le]) (by simp -implicitDefEqProofs only [go_sem, Nat.reduceEqDiff, reduceIte, reduceCtorEq, Nat.reduceAdd, Nat.reduceMul, Int.reduceLE, Int.reduceNeg, Int.reduceToNat, Nat.reduceLeDiff, Nat.reduceSub, Nat.reduceLT, Nat.le_refl, Int.cast_ofNat_Int, Int.reduceLT, Int.reduceGT, Int.reduceGE, Int.reduceEq, Int.reduceBEq, Nat.reduceBEq, Int.reduceBNe, Int.reduceAdd, Int.reduceSub, gt_iff_lt, ge_iff_le]) ?_
  simp -implicitDefEqProofs only [go_sem, Nat.reduceEqDiff, reduceIte, reduceCtorEq, Nat.reduceAdd, Nat.reduceMul, Int.reduceLE, Int.reduceNeg, Int.reduceToNat, Nat.reduceLeDiff, Nat.reduceSub, Nat.reduceLT, Nat.le_refl, Int.cast_ofNat_Int, Int.reduceLT, Int.reduceGT, Int.reduceGE, Int.reduceEq, Int.reduceBEq, Nat.reduceBEq, Int.reduceBNe, Int.reduceAdd, Int.reduceSub, gt_iff_lt, ge_iff_le]
theorem disjoined_c (f g : Fm) : GC Try.prog 72 [(true, fmD f), (true, fmD g)] [fmD (two 6 1 2 f g)] := by
  have H := simplified_c 6 1 2 f g
  have e := fmC_eq (two 6 1 2 f g)
  simp only [fmD, fmC_eq f, fmC_eq g, e] at H ⊢
  refine GC_of Try.call72 Try.func72 rfl (by kernel_rfl) (by simp only [List.length_cons, List.length_nil, Try.ntmps72]; omega) (by simp [smallG, T.isPin]) ?_
  simp -implicitDefEqProofs only [go_sem, Nat.reduceEqDiff, reduceIte, reduceCtorEq, Nat.reduceAdd, Nat.reduceMul, Int.reduceLE, Int.reduceNeg, Int.reduceToNat, Nat.reduceLeDiff, Nat.reduceSub, Nat.reduceLT, Nat.le_refl, Int.cast_ofNat_Int, Int.reduceLT, Int.reduceGT, Int.reduceGE, Int.reduceEq, Int.reduceBEq, Nat.reduceBEq, Int.reduceBNe, Int.reduceAdd, Int.reduceSub, gt_iff_lt, ge_iff_le, Try.results72]
  refine callG [(5, .agg [.t (.int .i64 f.op), .t (.str f.atom.name), .ow 2 0, .t (.str f.var), .ow 4 0]), (6, .agg [.t (.int .i64 g.op), .t (.str g.atom.name), .ow 34 0, .t (.str g.var), .ow 36 0])] [(4, .one (.bx 4 0))] [] [(4, [.t (.int .i64 0), .t (.str []), .nl 2, .t (.str []), .nl 5])] [(2, ⟨true, 2, f.atom.args.map tmC, 0, true⟩), (4, ⟨true, 5, f.parts.map fmC, 0, true⟩), (34, ⟨true, 2, g.atom.args.map tmC, 0, true⟩), (36, ⟨true, 5, g.parts.map fmC, 0, true⟩)] [] [] H (by simp -implicitDefEqProofs only [go_sem, Nat.reduceEqDiff, reduceIte, reduceCtorEq, Nat.reduceAdd, Nat.reduceMul, Int.reduceLE, Int.reduceNeg, Int.reduceToNat, Nat.reduceLeDiff, Nat.reduceSub, Nat.reduceLT, Nat.le_refl, Int.cast_ofNat_Int, Int.reduceLT, Int.reduceGT, Int.reduceGE, Int.reduceEq, Int.reduceBEq, Nat.reduceBEq, Int.reduceBNe, Int.reduceAdd, Int.reduceSub, gt_iff_lt, ge_iff_le]) (by simp -implicitDefEqProofs only [go_sem, Nat.reduceEqDiff, reduceIte, reduceCtorEq, Nat.reduceAdd, Nat.reduceMul, Int.reduceLE, Int.reduceNeg, Int.reduceToNat, Nat.reduceLeDiff, Nat.reduceSub, Nat.reduceLT, Nat.le_refl, Int.cast_ofNat_Int, Int.reduceLT, Int.reduceGT, Int.reduceGE, Int.reduceEq, Int.reduceBEq, Nat.reduceBEq, Int.reduceBNe, Int.reduceAdd, Int.reduceSub, gt_iff_lt, ge_iff_le]) (by simp -implicitDefEqProofs only [go_sem, Nat.reduceEqDiff, reduceIte, reduceCtorEq, Nat.reduceAdd, Nat.reduceMul, Int.reduceLE, Int.reduceNeg, Int.reduceToNat, Nat.reduceLeDiff, Nat.reduceSub, Nat.reduceLT, Nat.le_refl, Int.cast_ofNat_Int, Int.reduceLT, Int.reduceGT, Int.reduceGE, Int.reduceEq, Int.reduceBEq, Nat.reduceBEq, Int.reduceBNe, Int.reduceAdd, Int.reduceSub, gt_iff_lt, ge_iff_le]) (by simp -implicitDefEqProofs only [go_sem, Nat.reduceEqDiff, reduceIte, reduceCtorEq, Nat.reduceAdd, Nat.reduceMul, Int.reduceLE, Int.reduceNeg, Int.reduceToNat, Nat.reduceLeDiff, Nat.reduceSub, Nat.reduceLT, Nat.le_refl, Int.cast_ofNat_Int, Int.reduceLT, Int.reduceGT, Int.reduceGE, Int.reduceEq, Int.reduceBEq, Nat.reduceBEq, Int.reduceBNe, Int.reduceAdd, Int.reduceSub, gt_iff_lt, ge_iff_le]) ?_
  simp -implicitDefEqProofs only [go_sem, Nat.reduceEqDiff, reduceIte, reduceCtorEq, Nat.reduceAdd, Nat.reduceMul, Int.reduceLE, Int.reduceNeg, Int.reduceToNat, Nat.reduceLeDiff, Nat.reduceSub, Nat.reduceLT, Nat.le_refl, Int.cast_ofNat_Int, Int.reduceLT, Int.reduceGT, Int.reduceGE, Int.reduceEq, Int.reduceBEq, Nat.reduceBEq, Int.reduceBNe, Int.reduceAdd, Int.reduceSub, gt_iff_lt, ge_iff_le]
set_option maxHeartbeats 1000000 in
theorem implication_c (f g : Fm) : GC Try.prog 73 [(true, fmD f), (true, fmD g)] [fmD (impF f g)] := by
  unfold impF
  cases h1 : f.op == 1
  · cases h2 : f.op == 2
    · cases h3 : g.op == 1
      · cases h4 : same f g
        · cases h5 : g.op == 2
          · simp only [h1, h2, h3, h4, h5, Bool.or_true, Bool.true_or, Bool.or_false, Bool.false_or, Bool.or_self, Bool.false_eq_true, reduceIte, fmD, fmC_eq f, fmC_eq g, fmC_mkF, List.map_cons, List.map_nil]
            refine GC_of Try.call73 Try.func73 rfl (by kernel_rfl) (by simp only [List.length_cons, List.length_nil, Try.ntmps73]; omega) (by simp [smallG, T.isPin]) ?_
            simp -implicitDefEqProofs only [go_sem, Nat.reduceEqDiff, reduceIte, reduceCtorEq, Nat.reduceAdd, Nat.reduceMul, Int.reduceLE, Int.reduceNeg, Int.reduceToNat, Nat.reduceLeDiff, Nat.reduceSub, Nat.reduceLT, Nat.le_refl, Int.cast_ofNat_Int, Int.reduceLT, Int.reduceGT, Int.reduceGE, Int.reduceEq, Int.reduceBEq, Nat.reduceBEq, Int.reduceBNe, Int.reduceAdd, Int.reduceSub, gt_iff_lt, ge_iff_le, Try.results73, h1, h2, h3, h4, h5]
            refine callF (sameFormula_c f g) (by simp -implicitDefEqProofs only [go_sem, Nat.reduceEqDiff, reduceIte, reduceCtorEq, Nat.reduceAdd, Nat.reduceMul, Int.reduceLE, Int.reduceNeg, Int.reduceToNat, Nat.reduceLeDiff, Nat.reduceSub, Nat.reduceLT, Nat.le_refl, Int.cast_ofNat_Int, Int.reduceLT, Int.reduceGT, Int.reduceGE, Int.reduceEq, Int.reduceBEq, Nat.reduceBEq, Int.reduceBNe, Int.reduceAdd, Int.reduceSub, gt_iff_lt, ge_iff_le, fmC_eq f, fmC_eq g, h1, h2, h3, h4, h5]) ?_
            simp -implicitDefEqProofs only [go_sem, Nat.reduceEqDiff, reduceIte, reduceCtorEq, Nat.reduceAdd, Nat.reduceMul, Int.reduceLE, Int.reduceNeg, Int.reduceToNat, Nat.reduceLeDiff, Nat.reduceSub, Nat.reduceLT, Nat.le_refl, Int.cast_ofNat_Int, Int.reduceLT, Int.reduceGT, Int.reduceGE, Int.reduceEq, Int.reduceBEq, Nat.reduceBEq, Int.reduceBNe, Int.reduceAdd, Int.reduceSub, gt_iff_lt, ge_iff_le, fmC_eq f, fmC_eq g, h1, h2, h3, h4, h5]
            refine callG [(31, .agg [.t (.int .i64 f.op), .t (.str f.atom.name), .ow 2 0, .t (.str f.var), .ow 4 0]), (32, .agg [.t (.int .i64 g.op), .t (.str g.atom.name), .ow 34 0, .t (.str g.var), .ow 36 0])] [(4, .one (.bx 4 0))] [] [(4, [.t (.int .i64 0), .t (.str []), .nl 2, .t (.str []), .nl 5])] [(2, ⟨true, 2, f.atom.args.map tmC, 0, true⟩), (4, ⟨true, 5, f.parts.map fmC, 0, true⟩), (34, ⟨true, 2, g.atom.args.map tmC, 0, true⟩), (36, ⟨true, 5, g.parts.map fmC, 0, true⟩)] [] [] (binary_c 7 f g) (by simp -implicitDefEqProofs only [go_sem, Nat.reduceEqDiff, reduceIte, reduceCtorEq, Nat.reduceAdd, Nat.reduceMul, Int.reduceLE, Int.reduceNeg, Int.reduceToNat, Nat.reduceLeDiff, Nat.reduceSub, Nat.reduceLT, Nat.le_refl, Int.cast_ofNat_Int, Int.reduceLT, Int.reduceGT, Int.reduceGE, Int.reduceEq, Int.reduceBEq, Nat.reduceBEq, Int.reduceBNe, Int.reduceAdd, Int.reduceSub, gt_iff_lt, ge_iff_le]) (by simp -implicitDefEqProofs only [go_sem, Nat.reduceEqDiff, reduceIte, reduceCtorEq, Nat.reduceAdd, Nat.reduceMul, Int.reduceLE, Int.reduceNeg, Int.reduceToNat, Nat.reduceLeDiff, Nat.reduceSub, Nat.reduceLT, Nat.le_refl, Int.cast_ofNat_Int, Int.reduceLT, Int.reduceGT, Int.reduceGE, Int.reduceEq, Int.reduceBEq, Nat.reduceBEq, Int.reduceBNe, Int.reduceAdd, Int.reduceSub, gt_iff_lt, ge_iff_le]) (by simp -implicitDefEqProofs only [go_sem, Nat.reduceEqDiff, reduceIte, reduceCtorEq, Nat.reduceAdd, Nat.reduceMul, Int.reduceLE, Int.reduceNeg, Int.reduceToNat, Nat.reduceLeDiff, Nat.reduceSub, Nat.reduceLT, Nat.le_refl, Int.cast_ofNat_Int, Int.reduceLT, Int.reduceGT, Int.reduceGE, Int.reduceEq, Int.reduceBEq, Nat.reduceBEq, Int.reduceBNe, Int.reduceAdd, Int.reduceSub, gt_iff_lt, ge_iff_le, fmC_eq f, fmC_eq g]) (by simp -implicitDefEqProofs only [go_sem, Nat.reduceEqDiff, reduceIte, reduceCtorEq, Nat.reduceAdd, Nat.reduceMul, Int.reduceLE, Int.reduceNeg, Int.reduceToNat, Nat.reduceLeDiff, Nat.reduceSub, Nat.reduceLT, Nat.le_refl, Int.cast_ofNat_Int, Int.reduceLT, Int.reduceGT, Int.reduceGE, Int.reduceEq, Int.reduceBEq, Nat.reduceBEq, Int.reduceBNe, Int.reduceAdd, Int.reduceSub, gt_iff_lt, ge_iff_le, fmC_mkF]) ?_
            simp -implicitDefEqProofs only [go_sem, Nat.reduceEqDiff, reduceIte, reduceCtorEq, Nat.reduceAdd, Nat.reduceMul, Int.reduceLE, Int.reduceNeg, Int.reduceToNat, Nat.reduceLeDiff, Nat.reduceSub, Nat.reduceLT, Nat.le_refl, Int.cast_ofNat_Int, Int.reduceLT, Int.reduceGT, Int.reduceGE, Int.reduceEq, Int.reduceBEq, Nat.reduceBEq, Int.reduceBNe, Int.reduceAdd, Int.reduceSub, gt_iff_lt, ge_iff_le, fmC_mkF, fmC_eq f, fmC_eq g, List.map_cons, List.map_nil]
          · simp only [h1, h2, h3, h4, h5, Bool.or_true, Bool.true_or, Bool.or_false, Bool.false_or, Bool.or_self, Bool.false_eq_true, reduceIte, fmD, fmC_eq f, fmC_eq g, fmC_mkF, List.map_cons, List.map_nil]
            refine GC_of Try.call73 Try.func73 rfl (by kernel_rfl) (by simp only [List.length_cons, List.length_nil, Try.ntmps73]; omega) (by simp [smallG, T.isPin]) ?_
            simp -implicitDefEqProofs only [go_sem, Nat.reduceEqDiff, reduceIte, reduceCtorEq, Nat.reduceAdd, Nat.reduceMul, Int.reduceLE, Int.reduceNeg, Int.reduceToNat, Nat.reduceLeDiff, Nat.reduceSub, Nat.reduceLT, Nat.le_refl, Int.cast_ofNat_Int, Int.reduceLT, Int.reduceGT, Int.reduceGE, Int.reduceEq, Int.reduceBEq, Nat.reduceBEq, Int.reduceBNe, Int.reduceAdd, Int.reduceSub, gt_iff_lt, ge_iff_le, Try.results73, h1, h2, h3, h4, h5]
            refine callF (sameFormula_c f g) (by simp -implicitDefEqProofs only [go_sem, Nat.reduceEqDiff, reduceIte, reduceCtorEq, Nat.reduceAdd, Nat.reduceMul, Int.reduceLE, Int.reduceNeg, Int.reduceToNat, Nat.reduceLeDiff, Nat.reduceSub, Nat.reduceLT, Nat.le_refl, Int.cast_ofNat_Int, Int.reduceLT, Int.reduceGT, Int.reduceGE, Int.reduceEq, Int.reduceBEq, Nat.reduceBEq, Int.reduceBNe, Int.reduceAdd, Int.reduceSub, gt_iff_lt, ge_iff_le, fmC_eq f, fmC_eq g, h1, h2, h3, h4, h5]) ?_
            simp -implicitDefEqProofs only [go_sem, Nat.reduceEqDiff, reduceIte, reduceCtorEq, Nat.reduceAdd, Nat.reduceMul, Int.reduceLE, Int.reduceNeg, Int.reduceToNat, Nat.reduceLeDiff, Nat.reduceSub, Nat.reduceLT, Nat.le_refl, Int.cast_ofNat_Int, Int.reduceLT, Int.reduceGT, Int.reduceGE, Int.reduceEq, Int.reduceBEq, Nat.reduceBEq, Int.reduceBNe, Int.reduceAdd, Int.reduceSub, gt_iff_lt, ge_iff_le, fmC_eq f, fmC_eq g, h1, h2, h3, h4, h5]
            refine callG [(29, .agg [.t (.int .i64 f.op), .t (.str f.atom.name), .ow 2 0, .t (.str f.var), .ow 4 0])] [(4, .one (.bx 4 0))] [] [(4, [.t (.int .i64 0), .t (.str []), .nl 2, .t (.str []), .nl 5])] [(2, ⟨true, 2, f.atom.args.map tmC, 0, true⟩), (4, ⟨true, 5, f.parts.map fmC, 0, true⟩)] [] [] (not_c f) (by simp -implicitDefEqProofs only [go_sem, Nat.reduceEqDiff, reduceIte, reduceCtorEq, Nat.reduceAdd, Nat.reduceMul, Int.reduceLE, Int.reduceNeg, Int.reduceToNat, Nat.reduceLeDiff, Nat.reduceSub, Nat.reduceLT, Nat.le_refl, Int.cast_ofNat_Int, Int.reduceLT, Int.reduceGT, Int.reduceGE, Int.reduceEq, Int.reduceBEq, Nat.reduceBEq, Int.reduceBNe, Int.reduceAdd, Int.reduceSub, gt_iff_lt, ge_iff_le]) (by simp -implicitDefEqProofs only [go_sem, Nat.reduceEqDiff, reduceIte, reduceCtorEq, Nat.reduceAdd, Nat.reduceMul, Int.reduceLE, Int.reduceNeg, Int.reduceToNat, Nat.reduceLeDiff, Nat.reduceSub, Nat.reduceLT, Nat.le_refl, Int.cast_ofNat_Int, Int.reduceLT, Int.reduceGT, Int.reduceGE, Int.reduceEq, Int.reduceBEq, Nat.reduceBEq, Int.reduceBNe, Int.reduceAdd, Int.reduceSub, gt_iff_lt, ge_iff_le]) (by simp -implicitDefEqProofs only [go_sem, Nat.reduceEqDiff, reduceIte, reduceCtorEq, Nat.reduceAdd, Nat.reduceMul, Int.reduceLE, Int.reduceNeg, Int.reduceToNat, Nat.reduceLeDiff, Nat.reduceSub, Nat.reduceLT, Nat.le_refl, Int.cast_ofNat_Int, Int.reduceLT, Int.reduceGT, Int.reduceGE, Int.reduceEq, Int.reduceBEq, Nat.reduceBEq, Int.reduceBNe, Int.reduceAdd, Int.reduceSub, gt_iff_lt, ge_iff_le, fmC_eq f, fmC_eq g]) (by simp -implicitDefEqProofs only [go_sem, Nat.reduceEqDiff, reduceIte, reduceCtorEq, Nat.reduceAdd, Nat.reduceMul, Int.reduceLE, Int.reduceNeg, Int.reduceToNat, Nat.reduceLeDiff, Nat.reduceSub, Nat.reduceLT, Nat.le_refl, Int.cast_ofNat_Int, Int.reduceLT, Int.reduceGT, Int.reduceGE, Int.reduceEq, Int.reduceBEq, Nat.reduceBEq, Int.reduceBNe, Int.reduceAdd, Int.reduceSub, gt_iff_lt, ge_iff_le, fmC_mkF]) ?_
            simp -implicitDefEqProofs only [go_sem, Nat.reduceEqDiff, reduceIte, reduceCtorEq, Nat.reduceAdd, Nat.reduceMul, Int.reduceLE, Int.reduceNeg, Int.reduceToNat, Nat.reduceLeDiff, Nat.reduceSub, Nat.reduceLT, Nat.le_refl, Int.cast_ofNat_Int, Int.reduceLT, Int.reduceGT, Int.reduceGE, Int.reduceEq, Int.reduceBEq, Nat.reduceBEq, Int.reduceBNe, Int.reduceAdd, Int.reduceSub, gt_iff_lt, ge_iff_le, fmC_mkF, fmC_eq f, fmC_eq g, List.map_cons, List.map_nil]
        · simp only [h1, h2, h3, h4, Bool.or_true, Bool.true_or, Bool.or_false, Bool.false_or, Bool.or_self, Bool.false_eq_true, reduceIte, fmD, fmC_eq f, fmC_eq g, fmC_mkF, List.map_cons, List.map_nil]
          refine GC_of Try.call73 Try.func73 rfl (by kernel_rfl) (by simp only [List.length_cons, List.length_nil, Try.ntmps73]; omega) (by simp [smallG, T.isPin]) ?_
          simp -implicitDefEqProofs only [go_sem, Nat.reduceEqDiff, reduceIte, reduceCtorEq, Nat.reduceAdd, Nat.reduceMul, Int.reduceLE, Int.reduceNeg, Int.reduceToNat, Nat.reduceLeDiff, Nat.reduceSub, Nat.reduceLT, Nat.le_refl, Int.cast_ofNat_Int, Int.reduceLT, Int.reduceGT, Int.reduceGE, Int.reduceEq, Int.reduceBEq, Nat.reduceBEq, Int.reduceBNe, Int.reduceAdd, Int.reduceSub, gt_iff_lt, ge_iff_le, Try.results73, h1, h2, h3, h4]
          refine callF (sameFormula_c f g) (by simp -implicitDefEqProofs only [go_sem, Nat.reduceEqDiff, reduceIte, reduceCtorEq, Nat.reduceAdd, Nat.reduceMul, Int.reduceLE, Int.reduceNeg, Int.reduceToNat, Nat.reduceLeDiff, Nat.reduceSub, Nat.reduceLT, Nat.le_refl, Int.cast_ofNat_Int, Int.reduceLT, Int.reduceGT, Int.reduceGE, Int.reduceEq, Int.reduceBEq, Nat.reduceBEq, Int.reduceBNe, Int.reduceAdd, Int.reduceSub, gt_iff_lt, ge_iff_le, fmC_eq f, fmC_eq g, h1, h2, h3, h4]) ?_
          simp -implicitDefEqProofs only [go_sem, Nat.reduceEqDiff, reduceIte, reduceCtorEq, Nat.reduceAdd, Nat.reduceMul, Int.reduceLE, Int.reduceNeg, Int.reduceToNat, Nat.reduceLeDiff, Nat.reduceSub, Nat.reduceLT, Nat.le_refl, Int.cast_ofNat_Int, Int.reduceLT, Int.reduceGT, Int.reduceGE, Int.reduceEq, Int.reduceBEq, Nat.reduceBEq, Int.reduceBNe, Int.reduceAdd, Int.reduceSub, gt_iff_lt, ge_iff_le, fmC_eq f, fmC_eq g, h1, h2, h3, h4]
      · simp only [h1, h2, h3, Bool.or_true, Bool.true_or, Bool.or_false, Bool.false_or, Bool.or_self, Bool.false_eq_true, reduceIte, fmD, fmC_eq f, fmC_eq g, fmC_mkF, List.map_cons, List.map_nil]
        refine GC_of Try.call73 Try.func73 rfl (by kernel_rfl) (by simp only [List.length_cons, List.length_nil, Try.ntmps73]; omega) (by simp [smallG, T.isPin]) ?_
        simp -implicitDefEqProofs only [go_sem, Nat.reduceEqDiff, reduceIte, reduceCtorEq, Nat.reduceAdd, Nat.reduceMul, Int.reduceLE, Int.reduceNeg, Int.reduceToNat, Nat.reduceLeDiff, Nat.reduceSub, Nat.reduceLT, Nat.le_refl, Int.cast_ofNat_Int, Int.reduceLT, Int.reduceGT, Int.reduceGE, Int.reduceEq, Int.reduceBEq, Nat.reduceBEq, Int.reduceBNe, Int.reduceAdd, Int.reduceSub, gt_iff_lt, ge_iff_le, Try.results73, h1, h2, h3]
    · simp only [h1, h2, Bool.or_true, Bool.true_or, Bool.or_false, Bool.false_or, Bool.or_self, Bool.false_eq_true, reduceIte, fmD, fmC_eq f, fmC_eq g, fmC_mkF, List.map_cons, List.map_nil]
      refine GC_of Try.call73 Try.func73 rfl (by kernel_rfl) (by simp only [List.length_cons, List.length_nil, Try.ntmps73]; omega) (by simp [smallG, T.isPin]) ?_
      simp -implicitDefEqProofs only [go_sem, Nat.reduceEqDiff, reduceIte, reduceCtorEq, Nat.reduceAdd, Nat.reduceMul, Int.reduceLE, Int.reduceNeg, Int.reduceToNat, Nat.reduceLeDiff, Nat.reduceSub, Nat.reduceLT, Nat.le_refl, Int.cast_ofNat_Int, Int.reduceLT, Int.reduceGT, Int.reduceGE, Int.reduceEq, Int.reduceBEq, Nat.reduceBEq, Int.reduceBNe, Int.reduceAdd, Int.reduceSub, gt_iff_lt, ge_iff_le, Try.results73, h1, h2]
  · simp only [h1, Bool.or_true, Bool.true_or, Bool.or_false, Bool.false_or, Bool.or_self, Bool.false_eq_true, reduceIte, fmD, fmC_eq f, fmC_eq g, fmC_mkF, List.map_cons, List.map_nil]
    refine GC_of Try.call73 Try.func73 rfl (by kernel_rfl) (by simp only [List.length_cons, List.length_nil, Try.ntmps73]; omega) (by simp [smallG, T.isPin]) ?_
    simp -implicitDefEqProofs only [go_sem, Nat.reduceEqDiff, reduceIte, reduceCtorEq, Nat.reduceAdd, Nat.reduceMul, Int.reduceLE, Int.reduceNeg, Int.reduceToNat, Nat.reduceLeDiff, Nat.reduceSub, Nat.reduceLT, Nat.le_refl, Int.cast_ofNat_Int, Int.reduceLT, Int.reduceGT, Int.reduceGE, Int.reduceEq, Int.reduceBEq, Nat.reduceBEq, Int.reduceBNe, Int.reduceAdd, Int.reduceSub, gt_iff_lt, ge_iff_le, Try.results73, h1]
end Go.Proofs.Ytgfjbbbkploonaa
/-
  slices.Backward over formulas.
  Conditions: none.
-/
namespace Go.Proofs.Ytgfjbbbkploonaa
set_option linter.unusedSimpArgs false
set_option linter.unusedVariables false
set_option maxRecDepth 4000
open Go.RowKit
attribute [local go_sem] Oper.semAt_some
set_option maxHeartbeats 1000000 in
theorem backFormula_mk : MakesB Try.prog 55 82 := by
  refine ⟨Try.call55, fun a len cap w => ?_⟩
  refine callsIn_wide.1 (callsIn_of_wp (n := 0) Try.func55 rfl trivial ?_ rfl)
  simp only [Try.ntmps55, List.size_toArray, List.length_cons, List.length_nil, Nat.reduceAdd, Nat.reduceSub, Array.replicate_succ, Array.replicate_zero, List.push_toArray, List.append_toArray, List.nil_append, List.cons_append]
  gi_wp2
  go_ret
  exact ⟨_, rfl, rfl⟩
set_option maxRecDepth 100000 in
set_option maxHeartbeats 2000000 in
theorem backFormula_c : BackFn Try.prog 82 true 5 := by
  intro l Bs n W J hmax hlen0 hrd h0
  obtain ⟨ao, cap, hBs⟩ := hlen0 W h0
  have hmax : n ≤ 9223372036854775807 := hmax
  have hw1 : IntKind.i64.wrap ((n : Int) - 1) = (n : Int) - 1 := by rw [IntKind.wrap_i64]; omega
  have hro : (FR none).round = none := rfl
  refine callsIn_of_wp Try.func82 rfl trivial ?_ rfl
  simp only [Try.ntmps82, List.size_toArray, List.length_cons, List.length_nil, Nat.reduceAdd, Nat.reduceSub, Array.replicate_succ, Array.replicate_zero, List.push_toArray, List.append_toArray, List.nil_append, List.cons_append]
  gi_wp2
  gi_loopw [3] (fun i wr => ∃ k : Nat, k ≤ n ∧ i = .int .i64 ((n : Int) - 1 - k) ∧ J k wr) (fun i _ => (intOf i + 1).toNat)
  case atStart => exact ⟨0, Nat.zero_le _, by simp, h0⟩
  case round =>
    obtain ⟨k, hk, rfl, hJs⟩ := hrel
    by_cases hlt : k < n
    · obtain ⟨m, hm⟩ : ∃ m, n - 1 - k = m := ⟨_, rfl⟩
      have hml : m < n := by omega
      obtain ⟨b, o, cap', r, hb, hr, hcell, fn, tmps, assign, body, hy, hR⟩ := hrd k wr hJs hlt
      match r, hr, hcell, hy with
      | [v0, v1, v2, v3, v4], _, hcell, hy =>
        rw [hm] at hcell hy
        rw [show (n : Int) - 1 - k = (m : Int) by omega]
        have e1 : wr.cell? ⟨b, o + m * 5, none⟩ = _ := hcell 0 v0 rfl
        have e2 : wr.cell? ⟨b, o + m * 5 + 1, none⟩ = _ := hcell 1 v1 rfl
        have e3 : wr.cell? ⟨b, o + m * 5 + 2, none⟩ = _ := hcell 2 v2 rfl
        have e4 : wr.cell? ⟨b, o + m * 5 + 3, none⟩ = _ := hcell 3 v3 rfl
        have e5 : wr.cell? ⟨b, o + m * 5 + 4, none⟩ = _ := hcell 4 v4 rfl
        simp only [agv, if_true] at hy
        have hw2 : IntKind.i64.wrap ((m : Int) - 1) = (m : Int) - 1 := by rw [IntKind.wrap_i64]; omega
        gi_wp2
        refine hR.mono ?_
        rintro e W3 ⟨rfl, hJ3⟩
        gi_wp2
        go_roundw
        case rel => exact ⟨k + 1, by omega, by go_num, hJ3⟩
        case measure => simp [intOf]
    · obtain rfl : k = n := by omega
      gi_wp2
      go_end0
      exact ⟨⟨_, rfl⟩, hJs⟩
end Go.Proofs.Ytgfjbbbkploonaa
/-
  impl.combined: a list's formulas joined from behind.
  Conditions: none.
-/
namespace Go.Proofs.Ytgfjbbbkploonaa
set_option linter.unusedSimpArgs false
set_option linter.unusedVariables false
set_option maxRecDepth 4000
open Go.RowKit
/-- A formula of which the slices are not looked into. -/
structure OF where
  op : Int
  name : Str
  a : Option Addr × Nat × Nat
  var : Str
  p : Option Addr × Nat × Nat
def ofC (x : OF) : List T := [.int .i64 x.op, .str x.name, .vs x.a.1 x.a.2.1 x.a.2.2, .str x.var, .vs x.p.1 x.p.2.1 x.p.2.2]
theorem ofC_eq (x : OF) : ofC x = [.int .i64 x.op, .str x.name, .vs x.a.1 x.a.2.1 x.a.2.2, .str x.var, .vs x.p.1 x.p.2.1 x.p.2.2] := rfl
def jnC (op : Int) : List OF → List T
  | [] => []
  | [x] => ofC x
  | x :: xs => [.int .i64 op, .str [], .sl 2 [], .str [], .sl 5 [ofC x, jnC op xs]]
theorem jnC_cons (op : Int) (x : OF) {xs : List OF} (h : xs ≠ []) : jnC op (x :: xs) = [.int .i64 op, .str [], .sl 2 [], .str [], .sl 5 [ofC x, jnC op xs]] := by
  cases xs with
  | nil => exact absurd rfl h
  | cons y ys => rfl
theorem binary_ff (op : Int) (x y : OF) : FC Try.prog 36 [iD op, .agg (ofC x), .agg (ofC y)] [.agg [.int .i64 op, .str [], .sl 2 [], .str [], .sl 5 [ofC x, ofC y]]] := by
  simp only [ofC_eq]
  refine FC_of Try.call36 Try.func36 rfl (by kernel_rfl) (by simp only [rd, List.map_cons, List.map_nil, List.length_cons, List.length_nil, Try.ntmps36]; omega) ?_
  simp -implicitDefEqProofs only [go_sem, Nat.reduceEqDiff, reduceIte, reduceCtorEq, Nat.reduceAdd, Nat.reduceMul, Int.reduceLE, Int.reduceNeg, Int.reduceToNat, Nat.reduceLeDiff, Nat.reduceSub, Nat.reduceLT, Nat.le_refl, Int.cast_ofNat_Int, Int.reduceLT, Int.reduceGT, Int.reduceGE, Int.reduceEq, Int.reduceBEq, Nat.reduceBEq, Int.reduceBNe, Int.reduceAdd, Int.reduceSub, gt_iff_lt, ge_iff_le, Try.results36]
  refine buildDc (by simp -implicitDefEqProofs only [go_sem, Nat.reduceEqDiff, reduceIte, reduceCtorEq, Nat.reduceAdd, Nat.reduceMul, Int.reduceLE, Int.reduceNeg, Int.reduceToNat, Nat.reduceLeDiff, Nat.reduceSub, Nat.reduceLT, Nat.le_refl, Int.cast_ofNat_Int, Int.reduceLT, Int.reduceGT, Int.reduceGE, Int.reduceEq, Int.reduceBEq, Nat.reduceBEq, Int.reduceBNe, Int.reduceAdd, Int.reduceSub, gt_iff_lt, ge_iff_le]) ?_
  simp -implicitDefEqProofs only [go_sem, Nat.reduceEqDiff, reduceIte, reduceCtorEq, Nat.reduceAdd, Nat.reduceMul, Int.reduceLE, Int.reduceNeg, Int.reduceToNat, Nat.reduceLeDiff, Nat.reduceSub, Nat.reduceLT, Nat.le_refl, Int.cast_ofNat_Int, Int.reduceLT, Int.reduceGT, Int.reduceGE, Int.reduceEq, Int.reduceBEq, Nat.reduceBEq, Int.reduceBNe, Int.reduceAdd, Int.reduceSub, gt_iff_lt, ge_iff_le]
theorem binary_fo (op o2 : Int) (x : OF) (R : List (List T)) : GC Try.prog 36 [(false, iD op), (false, .agg (ofC x)), (true, .agg [.int .i64 o2, .str [], .sl 2 [], .str [], .sl 5 R])] [.agg [.int .i64 op, .str [], .sl 2 [], .str [], .sl 5 [ofC x, [.int .i64 o2, .str [], .sl 2 [], .str [], .sl 5 R]]]] := by
  simp only [ofC_eq]
  refine GC_of Try.call36 Try.func36 rfl (by kernel_rfl) (by simp only [List.length_cons, List.length_nil, Try.ntmps36]; omega) (by simp [smallG, T.isPin]) ?_
  simp -implicitDefEqProofs only [go_sem, Nat.reduceEqDiff, reduceIte, reduceCtorEq, Nat.reduceAdd, Nat.reduceMul, Int.reduceLE, Int.reduceNeg, Int.reduceToNat, Nat.reduceLeDiff, Nat.reduceSub, Nat.reduceLT, Nat.le_refl, Int.cast_ofNat_Int, Int.reduceLT, Int.reduceGT, Int.reduceGE, Int.reduceEq, Int.reduceBEq, Nat.reduceBEq, Int.reduceBNe, Int.reduceAdd, Int.reduceSub, gt_iff_lt, ge_iff_le, Try.results36]
  refine buildDc (by simp -implicitDefEqProofs only [go_sem, Nat.reduceEqDiff, reduceIte, reduceCtorEq, Nat.reduceAdd, Nat.reduceMul, Int.reduceLE, Int.reduceNeg, Int.reduceToNat, Nat.reduceLeDiff, Nat.reduceSub, Nat.reduceLT, Nat.le_refl, Int.cast_ofNat_Int, Int.reduceLT, Int.reduceGT, Int.reduceGE, Int.reduceEq, Int.reduceBEq, Nat.reduceBEq, Int.reduceBNe, Int.reduceAdd, Int.reduceSub, gt_iff_lt, ge_iff_le]) ?_
  simp -implicitDefEqProofs only [go_sem, Nat.reduceEqDiff, reduceIte, reduceCtorEq, Nat.reduceAdd, Nat.reduceMul, Int.reduceLE, Int.reduceNeg, Int.reduceToNat, Nat.reduceLeDiff, Nat.reduceSub, Nat.reduceLT, Nat.le_refl, Int.cast_ofNat_Int, Int.reduceLT, Int.reduceGT, Int.reduceGE, Int.reduceEq, Int.reduceBEq, Nat.reduceBEq, Int.reduceBNe, Int.reduceAdd, Int.reduceSub, gt_iff_lt, ge_iff_le]
/-- Combined's loop at its rounds' heads. -/
def cbH (op : Int) (xs : List OF) (z : OF) : Nat → St
  | 0 => hd [(3, .one (.bx 3 0)), (6, .one (.bx 6 0)), (7, .one (.bx 7 0)), (25, .one (.fn 82 [25]))]
      [(3, [.t (.int .i64 op)]), (6, [.t (.int .i64 0), .t (.str []), .nl 2, .t (.str []), .nl 5]), (7, (ofC (xs.getD (xs.length - 1) z)).map .t), (25, [.rn (.sl 5 ((xs.map ofC).take (xs.length - 1)))])] []
  | k + 1 => hd [(3, .one (.bx 3 0)), (6, .one (.bx 6 0)), (7, .one (.bx 7 0)), (25, .one (.fn 82 [25]))]
      [(3, [.t (.int .i64 op)]), (6, [.t (.int .i64 0), .t (.str []), .nl 2, .t (.str []), .nl 5]), (7, [.t (.int .i64 op), .t (.str []), .ow 994 0, .t (.str []), .ow 996 0]), (25, [.rn (.sl 5 ((xs.map ofC).take (xs.length - 1)))])]
      [(994, ⟨true, 2, [], 0, true⟩), (996, ⟨true, 5, [ofC (xs.getD (xs.length - 1 - 1 - k) z), jnC op (xs.drop (xs.length - 1 - k))], 0, true⟩)]
set_option maxHeartbeats 1000000 in
theorem combined_x (op : Int) (xs : List OF) (z : OF) : FC Try.prog 33 [iD op, .one (.sl 5 (xs.map ofC)), .agg (ofC z)] [.agg (if xs = [] then ofC z else jnC op xs)] := by
  cases hx : xs with
  | nil =>
    simp only [if_true, List.map_nil, ofC]
    refine FC_ofBH Try.call33 Try.func33 rfl rfl (by kernel_rfl) (by simp only [rd, List.map_cons, List.map_nil, List.length_cons, List.length_nil, Try.ntmps33]; omega) ?_
    simp -implicitDefEqProofs only [go_sem, Nat.reduceEqDiff, reduceIte, reduceCtorEq, Nat.reduceAdd, Nat.reduceMul, Int.reduceLE, Int.reduceNeg, Int.reduceToNat, Nat.reduceLeDiff, Nat.reduceSub, Nat.reduceLT, Nat.le_refl, Int.cast_ofNat_Int, Int.reduceLT, Int.reduceGT, Int.reduceGE, Int.reduceEq, Int.reduceBEq, Nat.reduceBEq, Int.reduceBNe, Int.reduceAdd, Int.reduceSub, gt_iff_lt, ge_iff_le, Try.results33]
  | cons x0 r0 =>
    rw [← hx]
    have hne : xs ≠ [] := by rw [hx]; simp
    have hn : 0 < xs.length := by rw [hx]; simp
    refine FC_wf (fun hw => ?_) Try.call33
    have hl : xs.length ≤ 9223372036854775807 := by simpa [wfDs, wfT] using hw.2.1.1
    clear hw hx
    have e0 : ((xs.length : Int) == 0) = false := by simp; omega
    have e1 : IntKind.i64.wrap ((xs.length : Int) - 1) = ((xs.length - 1 : Nat) : Int) := by rw [wrap_in (by omega) (by omega)]; omega
    have hi : xs.length - 1 < xs.length := by omega
    rw [if_neg hne]
    simp only [ofC]
    refine FC_ofBH Try.call33 Try.func33 rfl rfl (by kernel_rfl) (by simp only [rd, List.map_cons, List.map_nil, List.length_cons, List.length_nil, Try.ntmps33]; omega) ?_
    simp -implicitDefEqProofs only [go_sem, Nat.reduceEqDiff, reduceIte, reduceCtorEq, Nat.reduceAdd, Nat.reduceMul, Int.reduceLE, Int.reduceNeg, Int.reduceToNat, Nat.reduceLeDiff, Nat.reduceSub, Nat.reduceLT, Nat.le_refl, Int.cast_ofNat_Int, Int.reduceLT, Int.reduceGT, Int.reduceGE, Int.reduceEq, Int.reduceBEq, Nat.reduceBEq, Int.reduceBNe, Int.reduceAdd, Int.reduceSub, gt_iff_lt, ge_iff_le, Try.results33, e0, e1, hi, getD_at, List.length_map, ofC_eq]
    refine ⟨by omega, ?_⟩
    refine callB (sz := 5) (rows := (xs.map ofC).take (xs.length - 1)) backFormula_mk (by simp -implicitDefEqProofs only [go_sem, Nat.reduceEqDiff, reduceIte, reduceCtorEq, Nat.reduceAdd, Nat.reduceMul, Int.reduceLE, Int.reduceNeg, Int.reduceToNat, Nat.reduceLeDiff, Nat.reduceSub, Nat.reduceLT, Nat.le_refl, Int.cast_ofNat_Int, Int.reduceLT, Int.reduceGT, Int.reduceGE, Int.reduceEq, Int.reduceBEq, Nat.reduceBEq, Int.reduceBNe, Int.reduceAdd, Int.reduceSub, gt_iff_lt, ge_iff_le]) ?_
    simp -implicitDefEqProofs only [go_sem, Nat.reduceEqDiff, reduceIte, reduceCtorEq, Nat.reduceAdd, Nat.reduceMul, Int.reduceLE, Int.reduceNeg, Int.reduceToNat, Nat.reduceLeDiff, Nat.reduceSub, Nat.reduceLT, Nat.le_refl, Int.cast_ofNat_Int, Int.reduceLT, Int.reduceGT, Int.reduceGE, Int.reduceEq, Int.reduceBEq, Nat.reduceBEq, Int.reduceBNe, Int.reduceAdd, Int.reduceSub, gt_iff_lt, ge_iff_le]
    have hlen : ((xs.map ofC).take (xs.length - 1)).length = xs.length - 1 := by simp
    have hlast : xs.getD (xs.length - 1) z = xs[xs.length - 1] := by simp [hi]
    refine loopB backFormula_c Try.call82 25 (cbH op xs z) ((xs.map ofC).take (xs.length - 1)) (by kernel_rfl) rfl (fun k => by cases k <;> exact ⟨rfl, rfl⟩) (fun k => by cases k <;> exact ⟨rfl, rfl, rfl, rfl, rfl, rfl, rfl, trivial⟩) (weak_hd (by simp -implicitDefEqProofs only [go_sem, Nat.reduceEqDiff, reduceIte, reduceCtorEq, Nat.reduceAdd, Nat.reduceMul, Int.reduceLE, Int.reduceNeg, Int.reduceToNat, Nat.reduceLeDiff, Nat.reduceSub, Nat.reduceLT, Nat.le_refl, Int.cast_ofNat_Int, Int.reduceLT, Int.reduceGT, Int.reduceGE, Int.reduceEq, Int.reduceBEq, Nat.reduceBEq, Int.reduceBNe, Int.reduceAdd, Int.reduceSub, gt_iff_lt, ge_iff_le, hlast, ofC_eq])) ?_ ?_
    · intro k hk
      rw [hlen] at hk ⊢
      have hrow : ((xs.map ofC).take (xs.length - 1)).getD (xs.length - 1 - 1 - k) [] = ofC (xs.getD (xs.length - 1 - 1 - k) z) := by
        have h1 : xs.length - 1 - 1 - k < xs.length - 1 := by omega
        have h2 : xs.length - 1 - 1 - k < xs.length := by omega
        simp [List.getD, List.getElem?_take, h1, h2]
      rw [hrow]
      have hd1 : xs.drop (xs.length - 1) = [xs.getD (xs.length - 1) z] := by
        rw [List.drop_eq_getElem_cons hi, List.drop_of_length_le (by omega), hlast]
      cases k with
      | zero =>
        simp only [cbH, rowN, if_true, Nat.sub_zero]
        simp -implicitDefEqProofs only [go_sem, Nat.reduceEqDiff, reduceIte, reduceCtorEq, Nat.reduceAdd, Nat.reduceMul, Int.reduceLE, Int.reduceNeg, Int.reduceToNat, Nat.reduceLeDiff, Nat.reduceSub, Nat.reduceLT, Nat.le_refl, Int.cast_ofNat_Int, Int.reduceLT, Int.reduceGT, Int.reduceGE, Int.reduceEq, Int.reduceBEq, Nat.reduceBEq, Int.reduceBNe, Int.reduceAdd, Int.reduceSub, gt_iff_lt, ge_iff_le, ofC_eq, rowN, T.toN]
        refine callF (binary_ff op (xs.getD (xs.length - 1 - 1) z) (xs.getD (xs.length - 1) z)) (by simp -implicitDefEqProofs only [go_sem, Nat.reduceEqDiff, reduceIte, reduceCtorEq, Nat.reduceAdd, Nat.reduceMul, Int.reduceLE, Int.reduceNeg, Int.reduceToNat, Nat.reduceLeDiff, Nat.reduceSub, Nat.reduceLT, Nat.le_refl, Int.cast_ofNat_Int, Int.reduceLT, Int.reduceGT, Int.reduceGE, Int.reduceEq, Int.reduceBEq, Nat.reduceBEq, Int.reduceBNe, Int.reduceAdd, Int.reduceSub, gt_iff_lt, ge_iff_le, ofC_eq]) ?_
        simp -implicitDefEqProofs only [go_sem, Nat.reduceEqDiff, reduceIte, reduceCtorEq, Nat.reduceAdd, Nat.reduceMul, Int.reduceLE, Int.reduceNeg, Int.reduceToNat, Nat.reduceLeDiff, Nat.reduceSub, Nat.reduceLT, Nat.le_refl, Int.cast_ofNat_Int, Int.reduceLT, Int.reduceGT, Int.reduceGE, Int.reduceEq, Int.reduceBEq, Nat.reduceBEq, Int.reduceBNe, Int.reduceAdd, Int.reduceSub, gt_iff_lt, ge_iff_le, ofC_eq]
        refine weak_hd ?_
        rw [hd1]
        simp -implicitDefEqProofs only [go_sem, Nat.reduceEqDiff, reduceIte, reduceCtorEq, Nat.reduceAdd, Nat.reduceMul, Int.reduceLE, Int.reduceNeg, Int.reduceToNat, Nat.reduceLeDiff, Nat.reduceSub, Nat.reduceLT, Nat.le_refl, Int.cast_ofNat_Int, Int.reduceLT, Int.reduceGT, Int.reduceGE, Int.reduceEq, Int.reduceBEq, Nat.reduceBEq, Int.reduceBNe, Int.reduceAdd, Int.reduceSub, gt_iff_lt, ge_iff_le, jnC, ofC_eq]
      | succ k =>
        have hdk : xs.drop (xs.length - 1 - (k + 1)) = xs.getD (xs.length - 1 - 1 - k) z :: xs.drop (xs.length - 1 - k) := by
          have h1 : xs.length - 1 - (k + 1) < xs.length := by omega
          rw [List.drop_eq_getElem_cons h1, show xs.length - 1 - (k + 1) + 1 = xs.length - 1 - k by omega]
          congr 1
          rw [show xs.length - 1 - 1 - k = xs.length - 1 - (k + 1) by omega]
          simp [h1]
        have hdn : xs.drop (xs.length - 1 - k) ≠ [] := by
          intro e
          have := congrArg List.length e
          simp at this; omega
        simp only [cbH, rowN, if_true]
        rw [hdk, jnC_cons op _ hdn]
        generalize xs.getD (xs.length - 1 - 1 - (k + 1)) z = x
        generalize xs.getD (xs.length - 1 - 1 - k) z = y
        generalize jnC op (xs.drop (xs.length - 1 - k)) = J
        simp -implicitDefEqProofs only [go_sem, Nat.reduceEqDiff, reduceIte, reduceCtorEq, Nat.reduceAdd, Nat.reduceMul, Int.reduceLE, Int.reduceNeg, Int.reduceToNat, Nat.reduceLeDiff, Nat.reduceSub, Nat.reduceLT, Nat.le_refl, Int.cast_ofNat_Int, Int.reduceLT, Int.reduceGT, Int.reduceGE, Int.reduceEq, Int.reduceBEq, Nat.reduceBEq, Int.reduceBNe, Int.reduceAdd, Int.reduceSub, gt_iff_lt, ge_iff_le, ofC_eq x, T.toN]
        refine callG [(28, vI op), (29, .agg ((ofC x).map .t)), (30, .agg [.t (.int .i64 op), .t (.str []), .ow 994 0, .t (.str []), .ow 996 0])]
          [(3, .one (.bx 3 0)), (6, .one (.bx 6 0)), (7, .one (.bx 7 0)), (25, .one (.fn 82 [25]))] []
          [(3, [.t (.int .i64 op)]), (6, [.t (.int .i64 0), .t (.str []), .nl 2, .t (.str []), .nl 5]), (7, [.any, .any, .any, .any, .any]), (25, [.rn (.sl 5 ((xs.map ofC).take (xs.length - 1)))])]
          [(994, ⟨true, 2, [], 0, true⟩), (996, ⟨true, 5, [ofC y, J], 0, true⟩)] [] [] (binary_fo op op x [ofC y, J]) (by simp -implicitDefEqProofs only [go_sem, Nat.reduceEqDiff, reduceIte, reduceCtorEq, Nat.reduceAdd, Nat.reduceMul, Int.reduceLE, Int.reduceNeg, Int.reduceToNat, Nat.reduceLeDiff, Nat.reduceSub, Nat.reduceLT, Nat.le_refl, Int.cast_ofNat_Int, Int.reduceLT, Int.reduceGT, Int.reduceGE, Int.reduceEq, Int.reduceBEq, Nat.reduceBEq, Int.reduceBNe, Int.reduceAdd, Int.reduceSub, gt_iff_lt, ge_iff_le, ofC_eq x]) (by simp -implicitDefEqProofs only [go_sem, Nat.reduceEqDiff, reduceIte, reduceCtorEq, Nat.reduceAdd, Nat.reduceMul, Int.reduceLE, Int.reduceNeg, Int.reduceToNat, Nat.reduceLeDiff, Nat.reduceSub, Nat.reduceLT, Nat.le_refl, Int.cast_ofNat_Int, Int.reduceLT, Int.reduceGT, Int.reduceGE, Int.reduceEq, Int.reduceBEq, Nat.reduceBEq, Int.reduceBNe, Int.reduceAdd, Int.reduceSub, gt_iff_lt, ge_iff_le]) (by simp -implicitDefEqProofs only [go_sem, Nat.reduceEqDiff, reduceIte, reduceCtorEq, Nat.reduceAdd, Nat.reduceMul, Int.reduceLE, Int.reduceNeg, Int.reduceToNat, Nat.reduceLeDiff, Nat.reduceSub, Nat.reduceLT, Nat.le_refl, Int.cast_ofNat_Int, Int.reduceLT, Int.reduceGT, Int.reduceGE, Int.reduceEq, Int.reduceBEq, Nat.reduceBEq, Int.reduceBNe, Int.reduceAdd, Int.reduceSub, gt_iff_lt, ge_iff_le, ofC_eq x]) (by simp -implicitDefEqProofs only [go_sem, Nat.reduceEqDiff, reduceIte, reduceCtorEq, Nat.reduceAdd, Nat.reduceMul, Int.reduceLE, Int.reduceNeg, Int.reduceToNat, Nat.reduceLeDiff, Nat.reduceSub, Nat.reduceLT, Nat.le_refl, Int.cast_ofNat_Int, Int.reduceLT, Int.reduceGT, Int.reduceGE, Int.reduceEq, Int.reduceBEq, Nat.reduceBEq, Int.reduceBNe, Int.reduceAdd, Int.reduceSub, gt_iff_lt, ge_iff_le]) ?_
        simp -implicitDefEqProofs only [go_sem, Nat.reduceEqDiff, reduceIte, reduceCtorEq, Nat.reduceAdd, Nat.reduceMul, Int.reduceLE, Int.reduceNeg, Int.reduceToNat, Nat.reduceLeDiff, Nat.reduceSub, Nat.reduceLT, Nat.le_refl, Int.cast_ofNat_Int, Int.reduceLT, Int.reduceGT, Int.reduceGE, Int.reduceEq, Int.reduceBEq, Nat.reduceBEq, Int.reduceBNe, Int.reduceAdd, Int.reduceSub, gt_iff_lt, ge_iff_le]
        refine weak_hd ?_
        simp -implicitDefEqProofs only [go_sem, Nat.reduceEqDiff, reduceIte, reduceCtorEq, Nat.reduceAdd, Nat.reduceMul, Int.reduceLE, Int.reduceNeg, Int.reduceToNat, Nat.reduceLeDiff, Nat.reduceSub, Nat.reduceLT, Nat.le_refl, Int.cast_ofNat_Int, Int.reduceLT, Int.reduceGT, Int.reduceGE, Int.reduceEq, Int.reduceBEq, Nat.reduceBEq, Int.reduceBNe, Int.reduceAdd, Int.reduceSub, gt_iff_lt, ge_iff_le, ofC_eq x]
    · rw [hlen]
      cases hm : xs.length - 1 with
      | zero =>
        have hx1 : xs = [xs.getD (xs.length - 1) z] := by
          rw [hlast]
          have : xs.length = 1 := by omega
          match xs, this with
          | [x], _ => rfl
        rw [hm] at hx1
        rw [hx1]
        generalize xs.getD 0 z = x
        show ex _ _ _ _ (cbH op [x] z 0)
        simp only [cbH]
        simp -implicitDefEqProofs only [go_sem, Nat.reduceEqDiff, reduceIte, reduceCtorEq, Nat.reduceAdd, Nat.reduceMul, Int.reduceLE, Int.reduceNeg, Int.reduceToNat, Nat.reduceLeDiff, Nat.reduceSub, Nat.reduceLT, Nat.le_refl, Int.cast_ofNat_Int, Int.reduceLT, Int.reduceGT, Int.reduceGE, Int.reduceEq, Int.reduceBEq, Nat.reduceBEq, Int.reduceBNe, Int.reduceAdd, Int.reduceSub, gt_iff_lt, ge_iff_le, jnC, ofC_eq, Try.results33]
      | succ m =>
        have h0 : 0 < xs.length := hn
        have hx2 : jnC op xs = [.int .i64 op, .str [], .sl 2 [], .str [], .sl 5 [ofC (xs.getD 0 z), jnC op (xs.drop 1)]] := by
          match xs, hm with
          | x :: r, hm =>
            rw [jnC_cons op x (by intro e; rw [e] at hm; simp at hm)]
            rfl
        rw [hx2]
        simp only [cbH]
        rw [show xs.length - 1 - 1 - m = 0 by omega, show xs.length - 1 - m = 1 by omega]
        generalize xs.getD 0 z = x
        generalize jnC op (xs.drop 1) = J
        simp -implicitDefEqProofs only [go_sem, Nat.reduceEqDiff, reduceIte, reduceCtorEq, Nat.reduceAdd, Nat.reduceMul, Int.reduceLE, Int.reduceNeg, Int.reduceToNat, Nat.reduceLeDiff, Nat.reduceSub, Nat.reduceLT, Nat.le_refl, Int.cast_ofNat_Int, Int.reduceLT, Int.reduceGT, Int.reduceGE, Int.reduceEq, Int.reduceBEq, Nat.reduceBEq, Int.reduceBNe, Int.reduceAdd, Int.reduceSub, gt_iff_lt, ge_iff_le, Try.results33]
end Go.Proofs.Ytgfjbbbkploonaa
/-
  impl.combined: its contract over formulas that are given away.
  Conditions: none.
-/
namespace Go.Proofs.Ytgfjbbbkploonaa
set_option linter.unusedSimpArgs false
set_option linter.unusedVariables false
set_option maxRecDepth 4000
open Go.RowKit
def joinF (op : Int) : List Fm → Fm → Fm
  | [], z => z
  | [x], _ => x
  | x :: xs, z => mkF op [x, joinF op xs z]
theorem joinF_cons (op : Int) (x : Fm) {xs : List Fm} (h : xs ≠ []) (z : Fm) : joinF op (x :: xs) z = mkF op [x, joinF op xs z] := by
  cases xs with
  | nil => exact absurd rfl h
  | cons y ys => rfl
theorem of_fm {w : World} {x : Fm} {vs : List Value} {f : List Nat} (h : OwnAll w (fmC x) vs f) : ∃ y : OF, (∀ A : Nat → Prop, RepAll w A (ofC y) vs) ∧ ∀ w' : World, (∀ b ∈ f, w'.heap[b]? = w.heap[b]?) → GrAt w' (ofC y) (fmC x) f := by
  rw [fmC_eq] at h ⊢
  obtain ⟨v1, _, f1, _, rfl, rfl, h1, h⟩ := h
  obtain ⟨v2, _, f2, _, rfl, rfl, h2, h⟩ := h
  obtain ⟨v3, _, f3, _, rfl, rfl, h3, h⟩ := h
  obtain ⟨v4, _, f4, _, rfl, rfl, h4, h⟩ := h
  obtain ⟨v5, _, f5, _, rfl, rfl, h5, h⟩ := h
  obtain ⟨rfl, rfl⟩ := h
  unfold OwnV at h1 h2 h4
  obtain ⟨rfl, n1, n2, rfl⟩ := h1
  obtain ⟨rfl, n3, rfl⟩ := h2
  obtain ⟨rfl, n4, rfl⟩ := h4
  have g3 := h3
  have g5 := h5
  unfold OwnV at g3 g5
  obtain ⟨a3, c3, rfl, _⟩ := g3
  obtain ⟨a5, c5, rfl, _⟩ := g5
  refine ⟨⟨x.op, x.atom.name, (a3, (x.atom.args.map tmC).length, c3), x.var, (a5, (x.parts.map fmC).length, c5)⟩, fun A => ?_, fun w' hs => ?_⟩
  · unfold ofC
    simp only [RepAll, RepV]
    exact ⟨_, _, rfl, ⟨rfl, n1, n2⟩, _, _, rfl, ⟨rfl, n3⟩, _, _, rfl, rfl, _, _, rfl, ⟨rfl, n4⟩, _, _, rfl, rfl, rfl⟩
  · unfold ofC
    simp only [GrAt, GrT]
    refine ⟨_, _, [], _, rfl, rfl, ⟨rfl, rfl⟩, _, _, [], _, rfl, rfl, ⟨rfl, rfl⟩, _, _, f3, _, rfl, rfl, OwnV.keep _ _ _ h3 fun b hb => hs b (by simp [hb]), _, _, [], _, rfl, rfl, ⟨rfl, rfl⟩, _, _, f5, _, rfl, rfl, OwnV.keep _ _ _ h5 fun b hb => hs b (by simp [hb]), rfl, rfl⟩
theorem of_fms {w : World} {cells : Array Value} {b : Nat} {ty : TypeId} (hc : w.heap[b]? = some (.cells cells ty (0, 0))) : ∀ {xs : List Fm} {o : Nat} {fps : List Nat}, OwnRows w cells o 5 (xs.map fmC) fps →
    ∃ ys : List OF, ys.length = xs.length ∧ (∀ A : Nat → Prop, RepRows w A b o 5 (ys.map ofC)) ∧ ∀ w' : World, (∀ b ∈ fps, w'.heap[b]? = w.heap[b]?) → GrRows w' (ys.map ofC) (xs.map fmC) fps
  | [], o, fps, h => by
    rw [List.map_nil] at h
    unfold OwnRows at h
    subst h
    exact ⟨[], rfl, fun A => by rw [List.map_nil]; unfold RepRows; trivial, fun w' _ => by rw [List.map_nil, List.map_nil]; unfold GrRows; exact ⟨rfl, rfl⟩⟩
  | x :: xs, o, fps, h => by
    rw [List.map_cons] at h
    unfold OwnRows at h
    obtain ⟨h1, f1, f2, rfl, h2, h3⟩ := h
    obtain ⟨vs, k1, k2, k3⟩ := h2.vals
    obtain ⟨y, l1, l2⟩ := of_fm k3
    obtain ⟨ys, m1, m2, m3⟩ := of_fms hc h3
    refine ⟨y :: ys, by simp [m1], fun A => ?_, fun w' hs => ?_⟩
    · rw [List.map_cons]
      unfold RepRows
      refine ⟨rfl, RepAt.mk fun j c hj => ?_, m2 A⟩
      obtain ⟨v, q1, q2⟩ := (l1 A).at j c hj
      exact ⟨v, by simp [World.cell?, hc, k2 j v q1], q2⟩
    · rw [List.map_cons, List.map_cons]
      unfold GrRows
      exact ⟨_, _, f1, f2, rfl, rfl, l2 w' fun b hb => hs b (by simp [hb]), m3 w' fun b hb => hs b (by simp [hb])⟩
theorem gr_join {w : World} (op : Int) (z : Fm) : ∀ {xs : List Fm} {ys : List OF} {fps : List Nat}, xs ≠ [] → GrRows w (ys.map ofC) (xs.map fmC) fps → GrAt w (jnC op ys) (fmC (joinF op xs z)) fps
  | [], _, _, h, _ => absurd rfl h
  | x :: xs, [], _, _, h => by rw [List.map_nil, List.map_cons] at h; unfold GrRows at h; exact absurd h.1 (by simp)
  | x :: xs, y :: ys, fps, _, h => by
    rw [List.map_cons, List.map_cons] at h
    unfold GrRows at h
    obtain ⟨r', rs', e1, e2, h0, rfl, h1, h2⟩ := h
    simp only [List.cons.injEq] at h0
    obtain ⟨rfl, rfl⟩ := h0
    have hlen := h2.len
    simp only [List.length_map] at hlen
    by_cases hx : xs = []
    · subst hx
      have hy : ys = [] := List.length_eq_zero_iff.1 (by simpa using hlen.symm)
      subst hy
      rw [List.map_nil, List.map_nil] at h2
      unfold GrRows at h2
      rw [h2.2, List.append_nil]
      exact h1
    · have hy : ys ≠ [] := fun e => hx (List.length_eq_zero_iff.1 (by rw [hlen, e]; rfl))
      rw [jnC_cons op y hy, joinF_cons op x hx, fmC_mkF, List.map_cons, List.map_cons, List.map_nil]
      have h3 := gr_join op z hx h2
      simp only [GrAt, GrT, GrRows]
      exact ⟨_, _, [], _, rfl, rfl, ⟨rfl, rfl⟩, _, _, [], _, rfl, rfl, ⟨rfl, rfl⟩, _, _, [], _, rfl, rfl, ⟨[], rfl, rfl, rfl⟩, _, _, [], _, rfl, rfl, ⟨rfl, rfl⟩, _, _, e1 ++ e2, [], rfl, by simp, ⟨_, rfl, _, _, e1, e2, rfl, rfl, h1, _, _, e2, [], rfl, by simp, h3, rfl, rfl⟩, rfl, rfl⟩
theorem OwnAll.lt {w : World} : ∀ {cs : List T} {vs : List Value} {fps : List Nat}, OwnAll w cs vs fps → ∀ b ∈ fps, b < w.heap.size
  | [], _, _, h, b, hb => by rw [h.2] at hb; simp at hb
  | c :: cs, _, _, h, b, hb => by
    obtain ⟨v, vs', f1, f2, rfl, rfl, h1, h2⟩ := h
    rcases List.mem_append.1 hb with hb | hb
    · exact OwnV.lt c v f1 h1 b hb
    · exact OwnAll.lt h2 b hb
theorem combined_c (op : Int) (xs : List Fm) (z : Fm) : GC Try.prog 33 [(false, iD op), (true, .one (fmS xs)), (true, fmD z)] [fmD (joinF op xs z)] := by
  refine GC_of_graft Try.call33 fun w vs fp tp hv hn => ?_
  obtain ⟨v1, _, rfl, h1, hv⟩ := hv
  obtain ⟨v2, _, f2, _, t2, _, rfl, rfl, rfl, h2, hv⟩ := hv
  obtain ⟨v3, _, f3, _, t3, _, rfl, rfl, rfl, h3, hv⟩ := hv
  obtain ⟨rfl, rfl, rfl⟩ := hv
  obtain ⟨a, rfl, h3⟩ := h3
  have h2 : OwnV w (fmS xs) v2 f2 := h2.1
  have h3 : OwnAll w (fmC z) a f3 := OwnAll.of_g h3
  obtain ⟨y, k1, k2⟩ := of_fm h3
  have hlt3 : ∀ b ∈ f3, b < w.heap.size := OwnAll.lt h3
  have hlt2 : ∀ b ∈ f2, b < w.heap.size := OwnV.lt _ _ _ h2
  have hi : RepD w (fun b => b < w.heap.size) (iD op) v1 := by
    have : RepDs w (fun b => b < w.heap.size) [iD op] [v1] := RepDs.keep (fun _ _ => rfl) (fun b hb => hb.1) (⟨v1, [], rfl, h1, rfl⟩ : RepDs w (fun b => b < w.heap.size ∧ b ∉ f2 ++ (f3 ++ [])) [iD op] [v1])
    obtain ⟨_, _, e, h4, _⟩ := this
    cases e; exact h4
  obtain ⟨n1, n2, -⟩ := List.nodup_append.1 hn
  rw [List.append_nil] at n2
  have hS : ∃ (ys : List OF) (f : List Nat), ys.length = xs.length ∧ f.Nodup ∧ (∀ b ∈ f, b ∈ f2) ∧ RepV w (fun b => b < w.heap.size) (.sl 5 (ys.map ofC)) v2 ∧ ∀ w' : World, (∀ b ∈ f, w'.heap[b]? = w.heap[b]?) → GrRows w' (ys.map ofC) (xs.map fmC) f := by
    unfold fmS at h2
    unfold OwnV at h2
    obtain ⟨ao, cap, rfl, q1, q2, q3⟩ := h2
    rw [List.length_map] at q1
    rcases q3 with ⟨rfl, rfl, q3, rfl⟩ | ⟨b, cells, ty, fps, rfl, rfl, q3, q4, q5⟩
    · have hx : xs = [] := by simpa using q3
      subst hx
      refine ⟨[], [], rfl, List.nodup_nil, fun b hb => hb, ?_, fun _ _ => by rw [List.map_nil, List.map_nil]; unfold GrRows; exact ⟨rfl, rfl⟩⟩
      unfold RepV
      exact ⟨none, 0, rfl, Nat.le_refl _, by simp, Or.inl rfl⟩
    · obtain ⟨ys, r1, r2, r3⟩ := of_fms q3 q5
      refine ⟨ys, fps, r1, (List.nodup_cons.1 n1).2, fun b hb => by simp [hb], ?_, r3⟩
      unfold RepV
      exact ⟨_, cap, by rw [List.length_map, List.length_map, r1], by rw [List.length_map, r1]; exact q1, q2, Or.inr ⟨b, 0, rfl, hlt2 b (by simp), r2 _⟩⟩
  obtain ⟨ys, f, r1, r4, r5, r2, r3⟩ := hS
  by_cases hx : xs = []
  · subst hx
    have hy : ys = [] := List.length_eq_zero_iff.1 (by simpa using r1)
    refine ⟨[iD op, .one (.sl 5 (ys.map ofC)), .agg (ofC y)], _, f3, combined_x op ys y, ⟨v1, _, rfl, hi, v2, _, rfl, r2, _, _, rfl, ⟨a, rfl, k1 _⟩, rfl⟩, n2, fun b hb => ⟨by simp [hb], hlt3 b hb⟩, fun w' hs => ?_⟩
    rw [if_pos hy]
    exact k2 w' hs
  · have hy : ys ≠ [] := fun e => hx (List.length_eq_zero_iff.1 (by rw [← r1, e]; rfl))
    refine ⟨[iD op, .one (.sl 5 (ys.map ofC)), .agg (ofC y)], _, f, combined_x op ys y, ⟨v1, _, rfl, hi, v2, _, rfl, r2, _, _, rfl, ⟨a, rfl, k1 _⟩, rfl⟩, r4, fun b hb => ⟨by simp [r5 b hb], hlt2 b (r5 b hb)⟩, fun w' hs => ?_⟩
    rw [if_neg hy]
    exact gr_join op z hx (r3 w' hs)
end Go.Proofs.Ytgfjbbbkploonaa
