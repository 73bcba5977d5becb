/-
  Contracts of functions of the program and of its laws, over plain data.
  Conditions: those that each theorem names.
-/
import Derived.Test.YtgfjbbbkploonaaI6
namespace Go.Proofs.Ytgfjbbbkploonaa
set_option linter.unusedSimpArgs false
set_option linter.unusedVariables false
open Go.RowKit
def Fm.nodes : Fm → Nat := Fm.fold fun _ _ _ _ rs => 1 + rs.sum
theorem Fm.nodes_eq (a : Fm) : a.nodes = 1 + (a.parts.map Fm.nodes).sum := Fm.fold_eq _ a
theorem fnodes_wt : ∀ a : Fm, a.nodes ≤ 1 + a.wt := by
  refine fm_ind fun o a v xs ih => ?_
  rw [Fm.nodes_eq, Fm.wt_eq]
  show 1 + (xs.map Fm.nodes).sum ≤ 1 + (a.wt + v.length + xs.length + (xs.map Fm.wt).sum)
  have : (xs.map Fm.nodes).sum ≤ xs.length + (xs.map Fm.wt).sum := by
    induction xs with
    | nil => simp
    | cons x xs ih2 =>
      have h1 := ih x (by simp)
      have h2 := ih2 fun y hy => ih y (by simp [hy])
      simp only [List.map_cons, List.sum_cons, List.length_cons]
      omega
  omega
def sizeF : Fm → Int := Fm.fold fun _ _ _ _ rs => szL 40 1 rs
theorem sizeF_eq (a : Fm) : sizeF a = szL 40 1 (a.parts.map sizeF) := Fm.fold_eq _ a
theorem sizeF_spec : ∀ a : Fm, 1 ≤ sizeF a ∧ sizeF a ≤ a.nodes ∧ (sizeF a ≤ 40 → sizeF a = a.nodes) := by
  refine fm_ind fun o a v xs ih => ?_
  rw [sizeF_eq, Fm.nodes_eq]
  show 1 ≤ szL 40 1 (xs.map sizeF) ∧ szL 40 1 (xs.map sizeF) ≤ ((1 + (xs.map Fm.nodes).sum : Nat) : Int) ∧ _
  obtain ⟨k1, k2, k3⟩ := szL_spec sizeF Fm.nodes 40 xs 1 (by omega) ih
  refine ⟨k2, by omega, fun h => ?_⟩
  have := k3 h
  show szL 40 1 (xs.map sizeF) = _
  rw [this]; show _ = ((1 + (xs.map Fm.nodes).sum : Nat) : Int); omega
theorem sizeF_le (a : Fm) : decide (sizeF a ≤ 40) = decide (a.nodes ≤ 40) := by
  obtain ⟨h1, h2, h3⟩ := sizeF_spec a
  rw [decide_eq_decide]
  exact ⟨fun h => by have := h3 h; omega, fun h => by omega⟩
theorem fparts_wt {a x : Fm} (h : x ∈ a.parts) : x.wt ≤ a.wt := by
  have := Fm.wt_eq a
  have := mem_sum Fm.wt a.parts x h
  omega
theorem args_wt {a x : Tm} (h : x ∈ a.args) : x.wt ≤ a.wt := by
  have := Tm.wt_eq a
  have := mem_sum Tm.wt a.args x h
  omega
theorem atom_wt (a : Fm) : a.atom.wt ≤ a.wt := by have := Fm.wt_eq a; omega
set_option maxHeartbeats 400000 in
theorem sizeOf_of (a : Fm) (hs : a.wt ≤ 1099511627776) (H : ∀ x ∈ a.parts, FC Try.prog 49 [fmD x] [iD (sizeF x)]) : FC Try.prog 49 [fmD a] [iD (sizeF a)] := by
  have hl : a.parts.length ≤ 9223372036854775807 := by rw [Fm.wt_eq] at hs; omega
  have hn := fnodes_wt a
  have hN := a.nodes_eq
  simp only [fmD, fmC_eq]
  refine FC_of Try.call49 Try.func49 rfl (by kernel_rfl) (by simp only [rd, List.map_cons, List.map_nil, List.length_cons, List.length_nil, Try.ntmps49]; omega) ?_
  simp -implicitDefEqProofs only [go_sem, Nat.reduceEqDiff, reduceIte, reduceCtorEq, Nat.reduceAdd, Nat.reduceMul, Int.reduceLE, Int.reduceNeg, Int.reduceToNat, Nat.reduceLeDiff, Nat.reduceSub, Nat.reduceLT, Nat.le_refl, Int.cast_ofNat_Int, Int.reduceLT, Int.reduceGT, Int.reduceGE, Int.reduceEq, Int.reduceBEq, Int.reduceBNe, Int.reduceAdd, Int.reduceSub, gt_iff_lt, ge_iff_le, Try.results49]
  refine loop_rule (fun p : Nat × Int => hd [(3, vI p.2), (7, vT (fmS a.parts)), (8, vI a.parts.length), (9, vI p.1)] [] []) (fun p => p.1 ≤ a.parts.length ∧ sizeF a = szL 40 p.2 ((a.parts.drop p.1).map sizeF) ∧ 1 ≤ p.2 ∧ p.2 + dsum Fm.nodes a.parts p.1 ≤ a.nodes) (fun p => a.parts.length - p.1) (0, 1) (weak_hd ?_) ?_ ?_
  · simp -implicitDefEqProofs only [go_sem, Nat.reduceEqDiff, reduceIte, reduceCtorEq, Nat.reduceAdd, Nat.reduceMul, Int.reduceLE, Int.reduceNeg, Int.reduceToNat, Nat.reduceLeDiff, Nat.reduceSub, Nat.reduceLT, Nat.le_refl, Int.cast_ofNat_Int, Int.reduceLT, Int.reduceGT, Int.reduceGE, Int.reduceEq, Int.reduceBEq, Int.reduceBNe, Int.reduceAdd, Int.reduceSub, gt_iff_lt, ge_iff_le]
  · exact ⟨by simp, by rw [sizeF_eq]; rfl, by omega, by rw [dsum_zero]; omega⟩
  · intro ⟨k, n⟩ ⟨hk, hr, h1, h2⟩
    simp only at hk hr h1 h2
    by_cases hlt : k < a.parts.length
    · have hd := dsum_at Fm.nodes a.parts k hlt
      obtain ⟨s1, s2, s3⟩ := sizeF_spec a.parts[k]
      rw [List.drop_eq_getElem_cons hlt, List.map_cons, szL] at hr
      simp -implicitDefEqProofs only [go_sem, Nat.reduceEqDiff, reduceIte, reduceCtorEq, Nat.reduceAdd, Nat.reduceMul, Int.reduceLE, Int.reduceNeg, Int.reduceToNat, Nat.reduceLeDiff, Nat.reduceSub, Nat.reduceLT, Nat.le_refl, Int.cast_ofNat_Int, Int.reduceLT, Int.reduceGT, Int.reduceGE, Int.reduceEq, Int.reduceBEq, Int.reduceBNe, Int.reduceAdd, Int.reduceSub, gt_iff_lt, ge_iff_le, getD_at, hlt, fmC_eq]
      refine ⟨fun h => ?_, fun h => ?_⟩
      · rw [hr, if_pos (by simpa using h)]
      · refine callF (H a.parts[k] (List.getElem_mem hlt)) (by simp -implicitDefEqProofs only [go_sem, Nat.reduceEqDiff, reduceIte, reduceCtorEq, Nat.reduceAdd, Nat.reduceMul, Int.reduceLE, Int.reduceNeg, Int.reduceToNat, Nat.reduceLeDiff, Nat.reduceSub, Nat.reduceLT, Nat.le_refl, Int.cast_ofNat_Int, Int.reduceLT, Int.reduceGT, Int.reduceGE, Int.reduceEq, Int.reduceBEq, Int.reduceBNe, Int.reduceAdd, Int.reduceSub, gt_iff_lt, ge_iff_le, fmC_eq]) ?_
        simp -implicitDefEqProofs only [go_sem, Nat.reduceEqDiff, reduceIte, reduceCtorEq, Nat.reduceAdd, Nat.reduceMul, Int.reduceLE, Int.reduceNeg, Int.reduceToNat, Nat.reduceLeDiff, Nat.reduceSub, Nat.reduceLT, Nat.le_refl, Int.cast_ofNat_Int, Int.reduceLT, Int.reduceGT, Int.reduceGE, Int.reduceEq, Int.reduceBEq, Int.reduceBNe, Int.reduceAdd, Int.reduceSub, gt_iff_lt, ge_iff_le, fmC_eq]
        rw [if_neg (by simpa using h)] at hr
        exact ⟨(k + 1, n + sizeF a.parts[k]), ⟨hlt, hr, by simp only; omega, by simp only; omega⟩, by simp only; omega, weak_hd (by simp -implicitDefEqProofs only [go_sem, Nat.reduceEqDiff, reduceIte, reduceCtorEq, Nat.reduceAdd, Nat.reduceMul, Int.reduceLE, Int.reduceNeg, Int.reduceToNat, Nat.reduceLeDiff, Nat.reduceSub, Nat.reduceLT, Nat.le_refl, Int.cast_ofNat_Int, Int.reduceLT, Int.reduceGT, Int.reduceGE, Int.reduceEq, Int.reduceBEq, Int.reduceBNe, Int.reduceAdd, Int.reduceSub, gt_iff_lt, ge_iff_le]; rw [wrap_s (by omega), wrap_in (by omega) (by omega)]; exact ⟨rfl, rfl⟩)⟩
    · simp -implicitDefEqProofs only [go_sem, Nat.reduceEqDiff, reduceIte, reduceCtorEq, Nat.reduceAdd, Nat.reduceMul, Int.reduceLE, Int.reduceNeg, Int.reduceToNat, Nat.reduceLeDiff, Nat.reduceSub, Nat.reduceLT, Nat.le_refl, Int.cast_ofNat_Int, Int.reduceLT, Int.reduceGT, Int.reduceGE, Int.reduceEq, Int.reduceBEq, Int.reduceBNe, Int.reduceAdd, Int.reduceSub, gt_iff_lt, ge_iff_le, hlt]
      rw [hr, List.drop_of_length_le (by omega)]; rfl
theorem sizeOf_c : ∀ a : Fm, a.wt ≤ 1099511627776 → FC Try.prog 49 [fmD a] [iD (sizeF a)] :=
  fm_ind fun o a v xs ih hs => sizeOf_of (.mk o a v xs) hs fun x hx => ih x hx (Nat.le_trans (fparts_wt (a := .mk o a v xs) hx) hs)
/-- The size as the reference counts it. -/
def mnL (most : Int) : Int → List (Int → Int) → Int
  | n, [] => n
  | n, r :: rs => if n ≤ most then mnL most (n + r (most - n)) rs else n
theorem mnL_spec {α : Type} (f : α → Int → Int) (g : α → Nat) (most : Int) : ∀ (xs : List α) (n : Int), 0 ≤ n → (∀ x ∈ xs, ∀ m, 0 ≤ m → 1 ≤ f x m ∧ f x m ≤ g x ∧ (f x m ≤ m → f x m = g x)) → mnL most n (xs.map f) ≤ n + (xs.map g).sum ∧ n ≤ mnL most n (xs.map f) ∧ (mnL most n (xs.map f) ≤ most → mnL most n (xs.map f) = n + (xs.map g).sum)
  | [], n, _, _ => by simp [mnL]
  | x :: xs, n, hn, h => by
    simp only [List.map_cons, mnL, List.sum_cons]
    split
    · obtain ⟨h1, h2, h3⟩ := h x (by simp) (most - n) (by omega)
      obtain ⟨k1, k2, k3⟩ := mnL_spec f g most xs (n + f x (most - n)) (by omega) fun y hy => h y (by simp [hy])
      refine ⟨by omega, by omega, fun hh => ?_⟩
      have := k3 hh
      have : f x (most - n) = g x := h3 (by omega)
      omega
    · refine ⟨by omega, by omega, fun hh => by omega⟩
def manyT : Tm → Int → Int := Tm.fold fun _ _ rs m => mnL m 1 rs
theorem manyT_eq (a : Tm) (m : Int) : manyT a m = mnL m 1 (a.args.map manyT) := congrFun (Tm.fold_eq _ a) m
theorem manyT_spec : ∀ (a : Tm) (m : Int), 0 ≤ m → 1 ≤ manyT a m ∧ manyT a m ≤ a.nodes ∧ (manyT a m ≤ m → manyT a m = a.nodes) := by
  refine tm_ind fun b0 xs ih m hm => ?_
  rw [manyT_eq, Tm.nodes_eq]
  show 1 ≤ mnL m 1 (xs.map manyT) ∧ mnL m 1 (xs.map manyT) ≤ ((1 + (xs.map Tm.nodes).sum : Nat) : Int) ∧ (mnL m 1 (xs.map manyT) ≤ m → mnL m 1 (xs.map manyT) = ((1 + (xs.map Tm.nodes).sum : Nat) : Int))
  obtain ⟨k1, k2, k3⟩ := mnL_spec manyT Tm.nodes m xs 1 (by omega) ih
  refine ⟨k2, by omega, fun h => ?_⟩
  have := k3 h
  omega
theorem manyT_le (a : Tm) (m : Nat) : decide (manyT a m ≤ m) = decide (a.nodes ≤ m) := by
  obtain ⟨h1, h2, h3⟩ := manyT_spec a m (by omega)
  rw [decide_eq_decide]
  exact ⟨fun h => by have := h3 h; omega, fun h => by omega⟩
set_option maxHeartbeats 400000 in
theorem l2Many_of (a : Tm) (hs : a.wt ≤ 1099511627776) (H : ∀ x ∈ a.args, ∀ m : Int, 0 ≤ m → m ≤ 1099511627776 → FC Try.prog 129 [tmD x, iD m] [iD (manyT x m)]) (m : Int) (h0 : 0 ≤ m) (h1 : m ≤ 1099511627776) : FC Try.prog 129 [tmD a, iD m] [iD (manyT a m)] := by
  have hl : a.args.length ≤ 9223372036854775807 := by rw [Tm.wt_eq] at hs; omega
  have hn := nodes_wt a
  have hN := a.nodes_eq
  simp only [tmD, tmC_eq]
  refine FC_of Try.call129 Try.func129 rfl (by kernel_rfl) (by simp only [rd, List.map_cons, List.map_nil, List.length_cons, List.length_nil, Try.ntmps129]; omega) ?_
  simp -implicitDefEqProofs only [go_sem, Nat.reduceEqDiff, reduceIte, reduceCtorEq, Nat.reduceAdd, Nat.reduceMul, Int.reduceLE, Int.reduceNeg, Int.reduceToNat, Nat.reduceLeDiff, Nat.reduceSub, Nat.reduceLT, Nat.le_refl, Int.cast_ofNat_Int, Int.reduceLT, Int.reduceGT, Int.reduceGE, Int.reduceEq, Int.reduceBEq, Int.reduceBNe, Int.reduceAdd, Int.reduceSub, gt_iff_lt, ge_iff_le, Try.results129]
  refine loop_rule (fun p : Nat × Int => hd [(1, vI m), (2, .one (.bx 2 0)), (5, vI p.2), (6, vI p.1)] [(2, [.t (.str a.name), .t (tmS a.args)])] []) (fun p => p.1 ≤ a.args.length ∧ manyT a m = mnL m p.2 ((a.args.drop p.1).map manyT) ∧ 1 ≤ p.2 ∧ p.2 + dsum Tm.nodes a.args p.1 ≤ a.nodes) (fun p => a.args.length - p.1) (0, 1) (weak_hd ?_) ?_ ?_
  · simp -implicitDefEqProofs only [go_sem, Nat.reduceEqDiff, reduceIte, reduceCtorEq, Nat.reduceAdd, Nat.reduceMul, Int.reduceLE, Int.reduceNeg, Int.reduceToNat, Nat.reduceLeDiff, Nat.reduceSub, Nat.reduceLT, Nat.le_refl, Int.cast_ofNat_Int, Int.reduceLT, Int.reduceGT, Int.reduceGE, Int.reduceEq, Int.reduceBEq, Int.reduceBNe, Int.reduceAdd, Int.reduceSub, gt_iff_lt, ge_iff_le]
  · exact ⟨by simp, by rw [manyT_eq]; rfl, by omega, by rw [dsum_zero]; omega⟩
  · intro ⟨k, n⟩ ⟨hk, hr, h2, h3⟩
    simp only at hk hr h2 h3
    by_cases hlt : k < a.args.length
    · have hd := dsum_at Tm.nodes a.args k hlt
      rw [List.drop_eq_getElem_cons hlt, List.map_cons, mnL] at hr
      simp -implicitDefEqProofs only [go_sem, Nat.reduceEqDiff, reduceIte, reduceCtorEq, Nat.reduceAdd, Nat.reduceMul, Int.reduceLE, Int.reduceNeg, Int.reduceToNat, Nat.reduceLeDiff, Nat.reduceSub, Nat.reduceLT, Nat.le_refl, Int.cast_ofNat_Int, Int.reduceLT, Int.reduceGT, Int.reduceGE, Int.reduceEq, Int.reduceBEq, Int.reduceBNe, Int.reduceAdd, Int.reduceSub, gt_iff_lt, ge_iff_le, getD_at, hlt, tmC_eq]
      refine ⟨fun h => ?_, fun h => ?_⟩
      · have hle : n ≤ m := by simpa using h
        obtain ⟨s1, s2, s3⟩ := manyT_spec a.args[k] (m - n) (by omega)
        rw [wrap_in (n := m - n) (by omega) (by omega)]
        refine callF (H a.args[k] (List.getElem_mem hlt) (m - n) (by omega) (by omega)) (by simp -implicitDefEqProofs only [go_sem, Nat.reduceEqDiff, reduceIte, reduceCtorEq, Nat.reduceAdd, Nat.reduceMul, Int.reduceLE, Int.reduceNeg, Int.reduceToNat, Nat.reduceLeDiff, Nat.reduceSub, Nat.reduceLT, Nat.le_refl, Int.cast_ofNat_Int, Int.reduceLT, Int.reduceGT, Int.reduceGE, Int.reduceEq, Int.reduceBEq, Int.reduceBNe, Int.reduceAdd, Int.reduceSub, gt_iff_lt, ge_iff_le, tmC_eq]) ?_
        simp -implicitDefEqProofs only [go_sem, Nat.reduceEqDiff, reduceIte, reduceCtorEq, Nat.reduceAdd, Nat.reduceMul, Int.reduceLE, Int.reduceNeg, Int.reduceToNat, Nat.reduceLeDiff, Nat.reduceSub, Nat.reduceLT, Nat.le_refl, Int.cast_ofNat_Int, Int.reduceLT, Int.reduceGT, Int.reduceGE, Int.reduceEq, Int.reduceBEq, Int.reduceBNe, Int.reduceAdd, Int.reduceSub, gt_iff_lt, ge_iff_le, tmC_eq]
        rw [if_pos hle] at hr
        exact ⟨(k + 1, n + manyT a.args[k] (m - n)), ⟨hlt, hr, by simp only; omega, by simp only; omega⟩, by simp only; omega, weak_hd (by simp -implicitDefEqProofs only [go_sem, Nat.reduceEqDiff, reduceIte, reduceCtorEq, Nat.reduceAdd, Nat.reduceMul, Int.reduceLE, Int.reduceNeg, Int.reduceToNat, Nat.reduceLeDiff, Nat.reduceSub, Nat.reduceLT, Nat.le_refl, Int.cast_ofNat_Int, Int.reduceLT, Int.reduceGT, Int.reduceGE, Int.reduceEq, Int.reduceBEq, Int.reduceBNe, Int.reduceAdd, Int.reduceSub, gt_iff_lt, ge_iff_le]; rw [wrap_s (by omega), wrap_in (by omega) (by omega)]; exact ⟨rfl, rfl⟩)⟩
      · rw [hr, if_neg (by simpa using h)]
    · simp -implicitDefEqProofs only [go_sem, Nat.reduceEqDiff, reduceIte, reduceCtorEq, Nat.reduceAdd, Nat.reduceMul, Int.reduceLE, Int.reduceNeg, Int.reduceToNat, Nat.reduceLeDiff, Nat.reduceSub, Nat.reduceLT, Nat.le_refl, Int.cast_ofNat_Int, Int.reduceLT, Int.reduceGT, Int.reduceGE, Int.reduceEq, Int.reduceBEq, Int.reduceBNe, Int.reduceAdd, Int.reduceSub, gt_iff_lt, ge_iff_le, hlt]
      rw [hr, List.drop_of_length_le (by omega)]; rfl
theorem l2Many_c : ∀ a : Tm, a.wt ≤ 1099511627776 → ∀ m : Int, 0 ≤ m → m ≤ 1099511627776 → FC Try.prog 129 [tmD a, iD m] [iD (manyT a m)] :=
  tm_ind fun b0 xs ih hs => l2Many_of (.mk b0 xs) hs fun x hx => ih x hx (Nat.le_trans (args_wt (a := .mk b0 xs) hx) hs)
def manyF : Fm → Int → Int := Fm.fold fun _ _ _ _ rs m => mnL m 1 rs
theorem manyF_eq (a : Fm) (m : Int) : manyF a m = mnL m 1 (a.parts.map manyF) := congrFun (Fm.fold_eq _ a) m
theorem manyF_spec : ∀ (a : Fm) (m : Int), 0 ≤ m → 1 ≤ manyF a m ∧ manyF a m ≤ a.nodes ∧ (manyF a m ≤ m → manyF a m = a.nodes) := by
  refine fm_ind fun b0 b1 b2 xs ih m hm => ?_
  rw [manyF_eq, Fm.nodes_eq]
  show 1 ≤ mnL m 1 (xs.map manyF) ∧ mnL m 1 (xs.map manyF) ≤ ((1 + (xs.map Fm.nodes).sum : Nat) : Int) ∧ (mnL m 1 (xs.map manyF) ≤ m → mnL m 1 (xs.map manyF) = ((1 + (xs.map Fm.nodes).sum : Nat) : Int))
  obtain ⟨k1, k2, k3⟩ := mnL_spec manyF Fm.nodes m xs 1 (by omega) ih
  refine ⟨k2, by omega, fun h => ?_⟩
  have := k3 h
  omega
theorem manyF_le (a : Fm) (m : Nat) : decide (manyF a m ≤ m) = decide (a.nodes ≤ m) := by
  obtain ⟨h1, h2, h3⟩ := manyF_spec a m (by omega)
  rw [decide_eq_decide]
  exact ⟨fun h => by have := h3 h; omega, fun h => by omega⟩
set_option maxHeartbeats 400000 in
theorem l8Many_of (a : Fm) (hs : a.wt ≤ 1099511627776) (H : ∀ x ∈ a.parts, ∀ m : Int, 0 ≤ m → m ≤ 1099511627776 → FC Try.prog 53 [fmD x, iD m] [iD (manyF x m)]) (m : Int) (h0 : 0 ≤ m) (h1 : m ≤ 1099511627776) : FC Try.prog 53 [fmD a, iD m] [iD (manyF a m)] := by
  have hl : a.parts.length ≤ 9223372036854775807 := by rw [Fm.wt_eq] at hs; omega
  have hn := fnodes_wt a
  have hN := a.nodes_eq
  simp only [fmD, fmC_eq]
  refine FC_of Try.call53 Try.func53 rfl (by kernel_rfl) (by simp only [rd, List.map_cons, List.map_nil, List.length_cons, List.length_nil, Try.ntmps53]; omega) ?_
  simp -implicitDefEqProofs only [go_sem, Nat.reduceEqDiff, reduceIte, reduceCtorEq, Nat.reduceAdd, Nat.reduceMul, Int.reduceLE, Int.reduceNeg, Int.reduceToNat, Nat.reduceLeDiff, Nat.reduceSub, Nat.reduceLT, Nat.le_refl, Int.cast_ofNat_Int, Int.reduceLT, Int.reduceGT, Int.reduceGE, Int.reduceEq, Int.reduceBEq, Int.reduceBNe, Int.reduceAdd, Int.reduceSub, gt_iff_lt, ge_iff_le, Try.results53]
  refine loop_rule (fun p : Nat × Int => hd [(1, vI m), (2, .one (.bx 2 0)), (5, vI p.2), (6, vI p.1)] [(2, [.t (.int .i64 a.op), .t (.str a.atom.name), .t (tmS a.atom.args), .t (.str a.var), .t (fmS a.parts)])] []) (fun p => p.1 ≤ a.parts.length ∧ manyF a m = mnL m p.2 ((a.parts.drop p.1).map manyF) ∧ 1 ≤ p.2 ∧ p.2 + dsum Fm.nodes a.parts p.1 ≤ a.nodes) (fun p => a.parts.length - p.1) (0, 1) (weak_hd ?_) ?_ ?_
  · simp -implicitDefEqProofs only [go_sem, Nat.reduceEqDiff, reduceIte, reduceCtorEq, Nat.reduceAdd, Nat.reduceMul, Int.reduceLE, Int.reduceNeg, Int.reduceToNat, Nat.reduceLeDiff, Nat.reduceSub, Nat.reduceLT, Nat.le_refl, Int.cast_ofNat_Int, Int.reduceLT, Int.reduceGT, Int.reduceGE, Int.reduceEq, Int.reduceBEq, Int.reduceBNe, Int.reduceAdd, Int.reduceSub, gt_iff_lt, ge_iff_le]
  · exact ⟨by simp, by rw [manyF_eq]; rfl, by omega, by rw [dsum_zero]; omega⟩
  · intro ⟨k, n⟩ ⟨hk, hr, h2, h3⟩
    simp only at hk hr h2 h3
    by_cases hlt : k < a.parts.length
    · have hd := dsum_at Fm.nodes a.parts k hlt
      rw [List.drop_eq_getElem_cons hlt, List.map_cons, mnL] at hr
      simp -implicitDefEqProofs only [go_sem, Nat.reduceEqDiff, reduceIte, reduceCtorEq, Nat.reduceAdd, Nat.reduceMul, Int.reduceLE, Int.reduceNeg, Int.reduceToNat, Nat.reduceLeDiff, Nat.reduceSub, Nat.reduceLT, Nat.le_refl, Int.cast_ofNat_Int, Int.reduceLT, Int.reduceGT, Int.reduceGE, Int.reduceEq, Int.reduceBEq, Int.reduceBNe, Int.reduceAdd, Int.reduceSub, gt_iff_lt, ge_iff_le, getD_at, hlt, fmC_eq]
      refine ⟨fun h => ?_, fun h => ?_⟩
      · have hle : n ≤ m := by simpa using h
        obtain ⟨s1, s2, s3⟩ := manyF_spec a.parts[k] (m - n) (by omega)
        rw [wrap_in (n := m - n) (by omega) (by omega)]
        refine callF (H a.parts[k] (List.getElem_mem hlt) (m - n) (by omega) (by omega)) (by simp -implicitDefEqProofs only [go_sem, Nat.reduceEqDiff, reduceIte, reduceCtorEq, Nat.reduceAdd, Nat.reduceMul, Int.reduceLE, Int.reduceNeg, Int.reduceToNat, Nat.reduceLeDiff, Nat.reduceSub, Nat.reduceLT, Nat.le_refl, Int.cast_ofNat_Int, Int.reduceLT, Int.reduceGT, Int.reduceGE, Int.reduceEq, Int.reduceBEq, Int.reduceBNe, Int.reduceAdd, Int.reduceSub, gt_iff_lt, ge_iff_le, fmC_eq]) ?_
        simp -implicitDefEqProofs only [go_sem, Nat.reduceEqDiff, reduceIte, reduceCtorEq, Nat.reduceAdd, Nat.reduceMul, Int.reduceLE, Int.reduceNeg, Int.reduceToNat, Nat.reduceLeDiff, Nat.reduceSub, Nat.reduceLT, Nat.le_refl, Int.cast_ofNat_Int, Int.reduceLT, Int.reduceGT, Int.reduceGE, Int.reduceEq, Int.reduceBEq, Int.reduceBNe, Int.reduceAdd, Int.reduceSub, gt_iff_lt, ge_iff_le, fmC_eq]
        rw [if_pos hle] at hr
        exact ⟨(k + 1, n + manyF a.parts[k] (m - n)), ⟨hlt, hr, by simp only; omega, by simp only; omega⟩, by simp only; omega, weak_hd (by simp -implicitDefEqProofs only [go_sem, Nat.reduceEqDiff, reduceIte, reduceCtorEq, Nat.reduceAdd, Nat.reduceMul, Int.reduceLE, Int.reduceNeg, Int.reduceToNat, Nat.reduceLeDiff, Nat.reduceSub, Nat.reduceLT, Nat.le_refl, Int.cast_ofNat_Int, Int.reduceLT, Int.reduceGT, Int.reduceGE, Int.reduceEq, Int.reduceBEq, Int.reduceBNe, Int.reduceAdd, Int.reduceSub, gt_iff_lt, ge_iff_le]; rw [wrap_s (by omega), wrap_in (by omega) (by omega)]; exact ⟨rfl, rfl⟩)⟩
      · rw [hr, if_neg (by simpa using h)]
    · simp -implicitDefEqProofs only [go_sem, Nat.reduceEqDiff, reduceIte, reduceCtorEq, Nat.reduceAdd, Nat.reduceMul, Int.reduceLE, Int.reduceNeg, Int.reduceToNat, Nat.reduceLeDiff, Nat.reduceSub, Nat.reduceLT, Nat.le_refl, Int.cast_ofNat_Int, Int.reduceLT, Int.reduceGT, Int.reduceGE, Int.reduceEq, Int.reduceBEq, Int.reduceBNe, Int.reduceAdd, Int.reduceSub, gt_iff_lt, ge_iff_le, hlt]
      rw [hr, List.drop_of_length_le (by omega)]; rfl
theorem l8Many_c : ∀ a : Fm, a.wt ≤ 1099511627776 → ∀ m : Int, 0 ≤ m → m ≤ 1099511627776 → FC Try.prog 53 [fmD a, iD m] [iD (manyF a m)] :=
  fm_ind fun b0 b1 b2 xs ih hs => l8Many_of (.mk b0 b1 b2 xs) hs fun x hx => ih x hx (Nat.le_trans (fparts_wt (a := .mk b0 b1 b2 xs) hx) hs)
end Go.Proofs.Ytgfjbbbkploonaa
