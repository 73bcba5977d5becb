/-
  Contracts of functions of the program and of its laws, over plain data.
  Conditions: those that each theorem names.
-/
import Derived.Test.YtgfjbbbkploonaaI3
namespace Go.Proofs.Ytgfjbbbkploonaa
set_option linter.unusedSimpArgs false
set_option linter.unusedVariables false
open Go.RowKit
def Tm.nodes : Tm → Nat := Tm.fold fun _ _ rs => 1 + rs.sum
theorem Tm.nodes_eq (a : Tm) : a.nodes = 1 + (a.args.map Tm.nodes).sum := Tm.fold_eq _ a
def Tm.depth : Tm → Nat := Tm.fold fun _ _ rs => rs.foldl max 0 + 1
theorem Tm.depth_eq (a : Tm) : a.depth = (a.args.map Tm.depth).foldl max 0 + 1 := Tm.fold_eq _ a
theorem nodes_wt : ∀ a : Tm, a.nodes ≤ 1 + a.wt := by
  refine tm_ind fun n xs ih => ?_
  rw [Tm.nodes_eq, Tm.wt_eq]
  show 1 + (xs.map Tm.nodes).sum ≤ 1 + (n.length + xs.length + (xs.map Tm.wt).sum)
  have : (xs.map Tm.nodes).sum ≤ xs.length + (xs.map Tm.wt).sum := by
    clear n
    induction xs with
    | nil => simp
    | cons x xs ih2 =>
      have h1 := ih x (by simp)
      have h2 := ih2 fun y hy => ih y (by simp [hy])
      simp only [List.map_cons, List.sum_cons, List.length_cons]
      omega
  omega
theorem foldl_max_le {B : Nat} : ∀ (xs : List Nat) (m : Nat), m ≤ B → (∀ x ∈ xs, x ≤ B) → xs.foldl max m ≤ B
  | [], m, h, _ => h
  | x :: xs, m, h, h2 => foldl_max_le xs (max m x) (by have := h2 x (by simp); omega) fun y hy => h2 y (by simp [hy])
theorem depth_nodes : ∀ a : Tm, a.depth ≤ a.nodes := by
  refine tm_ind fun n xs ih => ?_
  rw [Tm.nodes_eq, Tm.depth_eq]
  show (xs.map Tm.depth).foldl max 0 + 1 ≤ 1 + (xs.map Tm.nodes).sum
  have := foldl_max_le (B := (xs.map Tm.nodes).sum) (xs.map Tm.depth) 0 (by omega) fun d hd => by
    obtain ⟨x, hx, rfl⟩ := List.mem_map.1 hd
    exact Nat.le_trans (ih x hx) (mem_sum Tm.nodes xs x hx)
  omega
/-- The size as the program counts it: it stops behind 30. -/
def szL (lim : Int) : Int → List Int → Int
  | n, [] => n
  | n, r :: rs => if n > lim then n else szL lim (n + r) rs
def sizeI : Tm → Int := Tm.fold fun _ _ rs => szL 30 1 rs
theorem sizeI_eq (a : Tm) : sizeI a = szL 30 1 (a.args.map sizeI) := Tm.fold_eq _ a
theorem szL_spec {α : Type} (f : α → Int) (g : α → Nat) (lim : Int) : ∀ (xs : List α) (n : Int), 0 ≤ n → (∀ x ∈ xs, 1 ≤ f x ∧ f x ≤ g x ∧ (f x ≤ lim → f x = g x)) → szL lim n (xs.map f) ≤ n + (xs.map g).sum ∧ n ≤ szL lim n (xs.map f) ∧ (szL lim n (xs.map f) ≤ lim → szL lim n (xs.map f) = n + (xs.map g).sum)
  | [], n, _, _ => by simp [szL]
  | x :: xs, n, hn, h => by
    obtain ⟨h1, h2, h3⟩ := h x (by simp)
    obtain ⟨k1, k2, k3⟩ := szL_spec f g lim xs (n + f x) (by omega) fun y hy => h y (by simp [hy])
    simp only [List.map_cons, szL, List.sum_cons]
    split
    · refine ⟨by omega, by omega, fun hh => by omega⟩
    · refine ⟨by omega, by omega, fun hh => ?_⟩
      have := k3 hh
      rw [this]
      have : f x = g x := h3 (by omega)
      omega
theorem sizeI_spec : ∀ a : Tm, 1 ≤ sizeI a ∧ sizeI a ≤ a.nodes ∧ (sizeI a ≤ 30 → sizeI a = a.nodes) := by
  refine tm_ind fun n xs ih => ?_
  rw [sizeI_eq, Tm.nodes_eq]
  show 1 ≤ szL 30 1 (xs.map sizeI) ∧ szL 30 1 (xs.map sizeI) ≤ ((1 + (xs.map Tm.nodes).sum : Nat) : Int) ∧ _
  obtain ⟨k1, k2, k3⟩ := szL_spec sizeI Tm.nodes 30 xs 1 (by omega) ih
  refine ⟨k2, by omega, fun h => ?_⟩
  have := k3 h
  show szL 30 1 (xs.map sizeI) = _
  rw [this]; show _ = ((1 + (xs.map Tm.nodes).sum : Nat) : Int); omega
theorem sizeI_le (a : Tm) : decide (sizeI a ≤ 30) = decide (a.nodes ≤ 30) := by
  obtain ⟨h1, h2, h3⟩ := sizeI_spec a
  rw [decide_eq_decide]
  exact ⟨fun h => by have := h3 h; omega, fun h => by omega⟩
def dsum {α : Type} (f : α → Nat) (xs : List α) (k : Nat) : Nat := ((xs.drop k).map f).sum
theorem dsum_zero {α : Type} (f : α → Nat) (xs : List α) : dsum f xs 0 = (xs.map f).sum := by simp [dsum]
theorem dsum_at {α : Type} (f : α → Nat) (xs : List α) (k : Nat) (h : k < xs.length) : dsum f xs k = f xs[k] + dsum f xs (k + 1) := by
  unfold dsum
  rw [List.drop_eq_getElem_cons h, List.map_cons, List.sum_cons]

set_option maxHeartbeats 400000 in
theorem size_of (a : Tm) (hs : a.wt ≤ 1099511627776) (H : ∀ x ∈ a.args, FC Try.prog 112 [tmD x] [iD (sizeI x)]) : FC Try.prog 112 [tmD a] [iD (sizeI a)] := by
  refine FC_wf (fun hw => ?_) Try.call112
  have hl : a.args.length ≤ 9223372036854775807 := by rw [Tm.wt_eq] at hs; omega
  have hn := nodes_wt a
  have hN := a.nodes_eq
  simp only [tmD, tmC_eq]
  refine FC_of Try.call112 Try.func112 rfl (by kernel_rfl) (by simp only [rd, List.map_cons, List.map_nil, List.length_cons, List.length_nil, Try.ntmps112]; omega) ?_
  simp -implicitDefEqProofs only [go_sem, Nat.reduceEqDiff, reduceIte, reduceCtorEq, Nat.reduceAdd, Nat.reduceMul, Int.reduceLE, Int.reduceNeg, Int.reduceToNat, Nat.reduceLeDiff, Nat.reduceSub, Nat.reduceLT, Nat.le_refl, Int.cast_ofNat_Int, Int.reduceLT, Int.reduceGT, Int.reduceGE, Int.reduceEq, Int.reduceBEq, Int.reduceBNe, Int.reduceAdd, Int.reduceSub, gt_iff_lt, ge_iff_le, Try.results112]
  refine loop_rule (fun p : Nat × Int => hd [(3, vI p.2), (7, vT (tmS a.args)), (8, vI a.args.length), (9, vI p.1)] [] []) (fun p => p.1 ≤ a.args.length ∧ sizeI a = szL 30 p.2 ((a.args.drop p.1).map sizeI) ∧ 1 ≤ p.2 ∧ p.2 + dsum Tm.nodes a.args p.1 ≤ a.nodes) (fun p => a.args.length - p.1) (0, 1) (weak_hd ?_) ?_ ?_
  · simp -implicitDefEqProofs only [go_sem, Nat.reduceEqDiff, reduceIte, reduceCtorEq, Nat.reduceAdd, Nat.reduceMul, Int.reduceLE, Int.reduceNeg, Int.reduceToNat, Nat.reduceLeDiff, Nat.reduceSub, Nat.reduceLT, Nat.le_refl, Int.cast_ofNat_Int, Int.reduceLT, Int.reduceGT, Int.reduceGE, Int.reduceEq, Int.reduceBEq, Int.reduceBNe, Int.reduceAdd, Int.reduceSub, gt_iff_lt, ge_iff_le]
  · exact ⟨by simp, by rw [sizeI_eq]; rfl, by omega, by rw [dsum_zero]; omega⟩
  · intro ⟨k, n⟩ ⟨hk, hr, h1, h2⟩
    simp only at hk hr h1 h2
    by_cases hlt : k < a.args.length
    · have hd := dsum_at Tm.nodes a.args k hlt
      obtain ⟨s1, s2, s3⟩ := sizeI_spec a.args[k]
      rw [List.drop_eq_getElem_cons hlt, List.map_cons, szL] at hr
      simp -implicitDefEqProofs only [go_sem, Nat.reduceEqDiff, reduceIte, reduceCtorEq, Nat.reduceAdd, Nat.reduceMul, Int.reduceLE, Int.reduceNeg, Int.reduceToNat, Nat.reduceLeDiff, Nat.reduceSub, Nat.reduceLT, Nat.le_refl, Int.cast_ofNat_Int, Int.reduceLT, Int.reduceGT, Int.reduceGE, Int.reduceEq, Int.reduceBEq, Int.reduceBNe, Int.reduceAdd, Int.reduceSub, gt_iff_lt, ge_iff_le, getD_at, hlt, tmC_eq]
      refine ⟨fun h => ?_, fun h => ?_⟩
      · rw [hr, if_pos (by simpa using h)]
      · refine callF (H a.args[k] (List.getElem_mem hlt)) (by simp -implicitDefEqProofs only [go_sem, Nat.reduceEqDiff, reduceIte, reduceCtorEq, Nat.reduceAdd, Nat.reduceMul, Int.reduceLE, Int.reduceNeg, Int.reduceToNat, Nat.reduceLeDiff, Nat.reduceSub, Nat.reduceLT, Nat.le_refl, Int.cast_ofNat_Int, Int.reduceLT, Int.reduceGT, Int.reduceGE, Int.reduceEq, Int.reduceBEq, Int.reduceBNe, Int.reduceAdd, Int.reduceSub, gt_iff_lt, ge_iff_le, tmC_eq]) ?_
        simp -implicitDefEqProofs only [go_sem, Nat.reduceEqDiff, reduceIte, reduceCtorEq, Nat.reduceAdd, Nat.reduceMul, Int.reduceLE, Int.reduceNeg, Int.reduceToNat, Nat.reduceLeDiff, Nat.reduceSub, Nat.reduceLT, Nat.le_refl, Int.cast_ofNat_Int, Int.reduceLT, Int.reduceGT, Int.reduceGE, Int.reduceEq, Int.reduceBEq, Int.reduceBNe, Int.reduceAdd, Int.reduceSub, gt_iff_lt, ge_iff_le, tmC_eq]
        rw [if_neg (by simpa using h)] at hr
        exact ⟨(k + 1, n + sizeI a.args[k]), ⟨hlt, hr, by simp only; omega, by simp only; omega⟩, by simp only; omega, weak_hd (by simp -implicitDefEqProofs only [go_sem, Nat.reduceEqDiff, reduceIte, reduceCtorEq, Nat.reduceAdd, Nat.reduceMul, Int.reduceLE, Int.reduceNeg, Int.reduceToNat, Nat.reduceLeDiff, Nat.reduceSub, Nat.reduceLT, Nat.le_refl, Int.cast_ofNat_Int, Int.reduceLT, Int.reduceGT, Int.reduceGE, Int.reduceEq, Int.reduceBEq, Int.reduceBNe, Int.reduceAdd, Int.reduceSub, gt_iff_lt, ge_iff_le]; rw [wrap_s (by omega), wrap_in (by omega) (by omega)]; exact ⟨rfl, rfl⟩)⟩
    · simp -implicitDefEqProofs only [go_sem, Nat.reduceEqDiff, reduceIte, reduceCtorEq, Nat.reduceAdd, Nat.reduceMul, Int.reduceLE, Int.reduceNeg, Int.reduceToNat, Nat.reduceLeDiff, Nat.reduceSub, Nat.reduceLT, Nat.le_refl, Int.cast_ofNat_Int, Int.reduceLT, Int.reduceGT, Int.reduceGE, Int.reduceEq, Int.reduceBEq, Int.reduceBNe, Int.reduceAdd, Int.reduceSub, gt_iff_lt, ge_iff_le, hlt]
      rw [hr, List.drop_of_length_le (by omega)]; rfl
theorem size_c : ∀ a : Tm, a.wt ≤ 1099511627776 → FC Try.prog 112 [tmD a] [iD (sizeI a)] :=
  tm_ind fun n xs ih hs => size_of (.mk n xs) hs fun x hx => ih x hx (by
    have := Tm.wt_eq (.mk n xs)
    have := mem_sum Tm.wt xs x hx
    simp only [Tm.args] at *; omega)
set_option maxHeartbeats 400000 in
theorem depth_of (a : Tm) (hs : a.wt ≤ 1099511627776) (H : ∀ x ∈ a.args, FC Try.prog 113 [tmD x] [iD x.depth]) : FC Try.prog 113 [tmD a] [iD a.depth] := by
  have hl : a.args.length ≤ 9223372036854775807 := by rw [Tm.wt_eq] at hs; omega
  have hn := nodes_wt a
  have hdn := depth_nodes a
  have hD := a.depth_eq
  simp only [tmD, tmC_eq]
  refine FC_of Try.call113 Try.func113 rfl (by kernel_rfl) (by simp only [rd, List.map_cons, List.map_nil, List.length_cons, List.length_nil, Try.ntmps113]; omega) ?_
  simp -implicitDefEqProofs only [go_sem, Nat.reduceEqDiff, reduceIte, reduceCtorEq, Nat.reduceAdd, Nat.reduceMul, Int.reduceLE, Int.reduceNeg, Int.reduceToNat, Nat.reduceLeDiff, Nat.reduceSub, Nat.reduceLT, Nat.le_refl, Int.cast_ofNat_Int, Int.reduceLT, Int.reduceGT, Int.reduceGE, Int.reduceEq, Int.reduceBEq, Int.reduceBNe, Int.reduceAdd, Int.reduceSub, gt_iff_lt, ge_iff_le, Try.results113]
  refine loop_rule (fun p : Nat × Nat => hd [(3, vI p.2), (7, vT (tmS a.args)), (8, vI a.args.length), (9, vI p.1)] [] []) (fun p => p.1 ≤ a.args.length ∧ a.depth = ((a.args.drop p.1).map Tm.depth).foldl max p.2 + 1) (fun p => a.args.length - p.1) (0, 0) (weak_hd ?_) ?_ ?_
  · simp -implicitDefEqProofs only [go_sem, Nat.reduceEqDiff, reduceIte, reduceCtorEq, Nat.reduceAdd, Nat.reduceMul, Int.reduceLE, Int.reduceNeg, Int.reduceToNat, Nat.reduceLeDiff, Nat.reduceSub, Nat.reduceLT, Nat.le_refl, Int.cast_ofNat_Int, Int.reduceLT, Int.reduceGT, Int.reduceGE, Int.reduceEq, Int.reduceBEq, Int.reduceBNe, Int.reduceAdd, Int.reduceSub, gt_iff_lt, ge_iff_le]
  · exact ⟨by simp, hD⟩
  · intro ⟨k, n⟩ ⟨hk, hr⟩
    simp only at hk hr
    by_cases hlt : k < a.args.length
    · rw [List.drop_eq_getElem_cons hlt, List.map_cons, List.foldl_cons] at hr
      simp -implicitDefEqProofs only [go_sem, Nat.reduceEqDiff, reduceIte, reduceCtorEq, Nat.reduceAdd, Nat.reduceMul, Int.reduceLE, Int.reduceNeg, Int.reduceToNat, Nat.reduceLeDiff, Nat.reduceSub, Nat.reduceLT, Nat.le_refl, Int.cast_ofNat_Int, Int.reduceLT, Int.reduceGT, Int.reduceGE, Int.reduceEq, Int.reduceBEq, Int.reduceBNe, Int.reduceAdd, Int.reduceSub, gt_iff_lt, ge_iff_le, getD_at, hlt, tmC_eq]
      refine callF (H a.args[k] (List.getElem_mem hlt)) (by simp -implicitDefEqProofs only [go_sem, Nat.reduceEqDiff, reduceIte, reduceCtorEq, Nat.reduceAdd, Nat.reduceMul, Int.reduceLE, Int.reduceNeg, Int.reduceToNat, Nat.reduceLeDiff, Nat.reduceSub, Nat.reduceLT, Nat.le_refl, Int.cast_ofNat_Int, Int.reduceLT, Int.reduceGT, Int.reduceGE, Int.reduceEq, Int.reduceBEq, Int.reduceBNe, Int.reduceAdd, Int.reduceSub, gt_iff_lt, ge_iff_le, tmC_eq]) ?_
      simp -implicitDefEqProofs only [go_sem, Nat.reduceEqDiff, reduceIte, reduceCtorEq, Nat.reduceAdd, Nat.reduceMul, Int.reduceLE, Int.reduceNeg, Int.reduceToNat, Nat.reduceLeDiff, Nat.reduceSub, Nat.reduceLT, Nat.le_refl, Int.cast_ofNat_Int, Int.reduceLT, Int.reduceGT, Int.reduceGE, Int.reduceEq, Int.reduceBEq, Int.reduceBNe, Int.reduceAdd, Int.reduceSub, gt_iff_lt, ge_iff_le, tmC_eq]
      exact ⟨(k + 1, max n a.args[k].depth), ⟨hlt, hr⟩, by simp only; omega, weak_hd (by simp -implicitDefEqProofs only [go_sem, Nat.reduceEqDiff, reduceIte, reduceCtorEq, Nat.reduceAdd, Nat.reduceMul, Int.reduceLE, Int.reduceNeg, Int.reduceToNat, Nat.reduceLeDiff, Nat.reduceSub, Nat.reduceLT, Nat.le_refl, Int.cast_ofNat_Int, Int.reduceLT, Int.reduceGT, Int.reduceGE, Int.reduceEq, Int.reduceBEq, Int.reduceBNe, Int.reduceAdd, Int.reduceSub, gt_iff_lt, ge_iff_le]; rw [wrap_s (by omega)]; exact ⟨by congr 1; omega, rfl⟩)⟩
    · simp -implicitDefEqProofs only [go_sem, Nat.reduceEqDiff, reduceIte, reduceCtorEq, Nat.reduceAdd, Nat.reduceMul, Int.reduceLE, Int.reduceNeg, Int.reduceToNat, Nat.reduceLeDiff, Nat.reduceSub, Nat.reduceLT, Nat.le_refl, Int.cast_ofNat_Int, Int.reduceLT, Int.reduceGT, Int.reduceGE, Int.reduceEq, Int.reduceBEq, Int.reduceBNe, Int.reduceAdd, Int.reduceSub, gt_iff_lt, ge_iff_le, hlt]
      rw [List.drop_of_length_le (by omega)] at hr
      simp only [List.map_nil, List.foldl_nil] at hr
      rw [hr, wrap_s (by omega)]
theorem depth_c : ∀ a : Tm, a.wt ≤ 1099511627776 → FC Try.prog 113 [tmD a] [iD a.depth] :=
  tm_ind fun n xs ih hs => depth_of (.mk n xs) hs fun x hx => ih x hx (by
    have := Tm.wt_eq (.mk n xs)
    have := mem_sum Tm.wt xs x hx
    simp only [Tm.args] at *; omega)
def smallT (a : Tm) : Bool := decide (a.nodes ≤ 30) && decide (a.depth ≤ 8)
theorem isSmall_c (a : Tm) (hs : a.wt ≤ 1099511627776) : FC Try.prog 98 [tmD a] [bD (smallT a)] := by
  simp only [tmD, tmC_eq]
  refine FC_of Try.call98 Try.func98 rfl (by kernel_rfl) (by simp only [rd, List.map_cons, List.map_nil, List.length_cons, List.length_nil, Try.ntmps98]; omega) ?_
  simp -implicitDefEqProofs only [go_sem, Nat.reduceEqDiff, reduceIte, reduceCtorEq, Nat.reduceAdd, Nat.reduceMul, Int.reduceLE, Int.reduceNeg, Int.reduceToNat, Nat.reduceLeDiff, Nat.reduceSub, Nat.reduceLT, Nat.le_refl, Int.cast_ofNat_Int, Int.reduceLT, Int.reduceGT, Int.reduceGE, Int.reduceEq, Int.reduceBEq, Int.reduceBNe, Int.reduceAdd, Int.reduceSub, gt_iff_lt, ge_iff_le, Try.results98]
  refine callF (size_c a hs) (by simp -implicitDefEqProofs only [go_sem, Nat.reduceEqDiff, reduceIte, reduceCtorEq, Nat.reduceAdd, Nat.reduceMul, Int.reduceLE, Int.reduceNeg, Int.reduceToNat, Nat.reduceLeDiff, Nat.reduceSub, Nat.reduceLT, Nat.le_refl, Int.cast_ofNat_Int, Int.reduceLT, Int.reduceGT, Int.reduceGE, Int.reduceEq, Int.reduceBEq, Int.reduceBNe, Int.reduceAdd, Int.reduceSub, gt_iff_lt, ge_iff_le, tmC_eq]) ?_
  simp -implicitDefEqProofs only [go_sem, Nat.reduceEqDiff, reduceIte, reduceCtorEq, Nat.reduceAdd, Nat.reduceMul, Int.reduceLE, Int.reduceNeg, Int.reduceToNat, Nat.reduceLeDiff, Nat.reduceSub, Nat.reduceLT, Nat.le_refl, Int.cast_ofNat_Int, Int.reduceLT, Int.reduceGT, Int.reduceGE, Int.reduceEq, Int.reduceBEq, Int.reduceBNe, Int.reduceAdd, Int.reduceSub, gt_iff_lt, ge_iff_le, tmC_eq]
  rw [sizeI_le]
  refine ⟨fun h => ?_, fun h => ?_⟩
  · refine callF (depth_c a hs) (by simp -implicitDefEqProofs only [go_sem, Nat.reduceEqDiff, reduceIte, reduceCtorEq, Nat.reduceAdd, Nat.reduceMul, Int.reduceLE, Int.reduceNeg, Int.reduceToNat, Nat.reduceLeDiff, Nat.reduceSub, Nat.reduceLT, Nat.le_refl, Int.cast_ofNat_Int, Int.reduceLT, Int.reduceGT, Int.reduceGE, Int.reduceEq, Int.reduceBEq, Int.reduceBNe, Int.reduceAdd, Int.reduceSub, gt_iff_lt, ge_iff_le, tmC_eq]) ?_
    simp -implicitDefEqProofs only [go_sem, Nat.reduceEqDiff, reduceIte, reduceCtorEq, Nat.reduceAdd, Nat.reduceMul, Int.reduceLE, Int.reduceNeg, Int.reduceToNat, Nat.reduceLeDiff, Nat.reduceSub, Nat.reduceLT, Nat.le_refl, Int.cast_ofNat_Int, Int.reduceLT, Int.reduceGT, Int.reduceGE, Int.reduceEq, Int.reduceBEq, Int.reduceBNe, Int.reduceAdd, Int.reduceSub, gt_iff_lt, ge_iff_le, tmC_eq]
    rw [smallT, h, Bool.true_and]
    congr 1
    rw [decide_eq_decide]; omega
  · rw [smallT, h]; rfl
end Go.Proofs.Ytgfjbbbkploonaa
