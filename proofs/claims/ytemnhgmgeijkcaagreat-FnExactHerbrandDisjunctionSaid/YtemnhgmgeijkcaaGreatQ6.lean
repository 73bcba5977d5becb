/-
  The walk over plain data, and contracts of functions of the program and of its laws.
  Conditions: those that each theorem names.
-/
import Derived.Test.YtemnhgmgeijkcaaGreatQ5
import Derived.RangeFuncNested
import Derived.RangeFuncBound
import Derived.RangeFuncCalls
import Derived.TacticsInMore
import Derived.LoopNIn
import Derived.LoopIn
namespace Go.Proofs.YtemnhgmgeijkcaaGreat
set_option linter.unusedSimpArgs false
set_option linter.unusedVariables false
set_option linter.unusedSectionVars false
set_option maxRecDepth 4000
open Go.RowKit
def Fm.nodes : Fm -> Nat := Fm.fold fun _ _ _ _ rs => 1 + rs.sum
theorem Fm.nodes_eq (a : Fm) : a.nodes = 1 + (a.parts.map Fm.nodes).sum := Fm.fold_eq _ a
theorem zcz : ∀ a : Fm, a.nodes <= 1 + a.wt := by
 refine zba fun o a v xs ih => ?_
 rw [Fm.nodes_eq, Fm.wt_eq]
 show 1 + (xs.map Fm.nodes).sum <= 1 + (a.wt + v.length + xs.length + (xs.map Fm.wt).sum)
 have : (xs.map Fm.nodes).sum <= xs.length + (xs.map Fm.wt).sum := by
  induction xs with
  | nil => simp
  | cons x xs ih2 =>
   have h1 := ih x (by simp)
   have h2 := ih2 fun y hy => ih y (by simp [hy])
   simp only [List.map_cons, List.sum_cons, List.length_cons]
   omega
 omega
def zez : Fm -> Int := Fm.fold fun _ _ _ _ rs => szL 40 1 rs
theorem zrq (a : Fm) : zez a = szL 40 1 (a.parts.map zez) := Fm.fold_eq _ a
theorem zjt : ∀ a : Fm, 1 <= zez a /\ zez a <= a.nodes /\ (zez a <= 40 -> zez a = a.nodes) := by
 refine zba fun o a v xs ih => ?_
 rw [zrq, Fm.nodes_eq]
 show 1 <= szL 40 1 (xs.map zez) /\ szL 40 1 (xs.map zez) <= ((1 + (xs.map Fm.nodes).sum : Nat) : Int) /\ _
 obtain ⟨k1, k2, k3⟩ := zkt zez Fm.nodes 40 xs 1 (by omega) ih
 refine ⟨k2, by omega, fun h => ?_⟩
 have := k3 h
 show szL 40 1 (xs.map zez) = _
 rw [this]; show _ = ((1 + (xs.map Fm.nodes).sum : Nat) : Int); omega
theorem qaq (a : Fm) : decide (zez a <= 40) = decide (a.nodes <= 40) := by
 obtain ⟨h1, h2, h3⟩ := zjt a
 rw [decide_eq_decide]
 exact ⟨fun h => by have := h3 h; omega, fun h => by omega⟩
theorem zb7 {a x : Fm} (h : x ∈ a.parts) : x.wt <= a.wt := by
 have := Fm.wt_eq a
 have := zbk Fm.wt a.parts x h
 omega
theorem zpm {a x : Tm} (h : x ∈ a.args) : x.wt <= a.wt := by
 have := Tm.wt_eq a
 have := zbk Tm.wt a.args x h
 omega
theorem zk0 (a : Fm) : a.atom.wt <= a.wt := by have := Fm.wt_eq a; omega
set_option maxHeartbeats 400000 in
theorem zvl (a : Fm) (hs : a.wt <= 1099511627776) (H : ∀ x ∈ a.parts, FC Tryz.prog 181 [fmD x] [iD (zez x)]) : FC Tryz.prog 181 [fmD a] [iD (zez a)] := by
 have hl : a.parts.length <= 9223372036854775807 := by rw [Fm.wt_eq] at hs; omega
 have hn := zcz a
 have hN := a.nodes_eq
 simp only [fmD, zab]
 refine zam Tryz.call181 Tryz.func181 rfl (by kernel_rfl) (za1 (by kernel_rfl)) ?_
 simp -implicitDefEqProofs only [go_sem, Tryz.results181]
 refine zaf (fun p : Nat × Int => hd [(3, vI p.2), (7, vT (fmS a.parts)), (8, vI a.parts.length), (9, vI p.1)] [] []) (fun p => p.1 <= a.parts.length /\ zez a = szL 40 p.2 ((a.parts.drop p.1).map zez) /\ 1 <= p.2 /\ p.2 + qbw Fm.nodes a.parts p.1 <= a.nodes) (fun p => a.parts.length - p.1) (0, 1) (zac ?_) ?_ ?_
 ·simp -implicitDefEqProofs only [go_sem]
 ·exact ⟨by simp, by rw [zrq]; rfl, by omega, by rw [zgr]; omega⟩
 ·intro ⟨k, n⟩ ⟨hk, hr, h1, h2⟩
  simp only at hk hr h1 h2
  by_cases hlt : k < a.parts.length
  ·have hd := zl9 Fm.nodes a.parts k hlt
   obtain ⟨s1, s2, s3⟩ := zjt a.parts[k]
   rw [List.drop_eq_getElem_cons hlt, List.map_cons, szL] at hr
   simp -implicitDefEqProofs only [go_sem, zai, hlt, zab]
   refine ⟨fun h => ?_, fun h => ?_⟩
   ·rw [hr, if_pos (by simpa using h)]
   ·refine callF (H a.parts[k] (List.getElem_mem hlt)) (by simp -implicitDefEqProofs only [go_sem, zab]) ?_
    simp -implicitDefEqProofs only [go_sem, zab]
    rw [if_neg (by simpa using h)] at hr
    exact ⟨(k + 1, n + zez a.parts[k]), ⟨hlt, hr, by simp only; omega, by simp only; omega⟩, by simp only; omega, zac (by simp -implicitDefEqProofs only [go_sem]; rw [zao (by omega), zbp (by omega) (by omega)]; exact ⟨rfl, rfl⟩)⟩
  ·simp -implicitDefEqProofs only [go_sem, hlt]
   rw [hr, List.drop_of_length_le (by omega)]; rfl
theorem qa9 : ∀ a : Fm, a.wt <= 1099511627776 -> FC Tryz.prog 181 [fmD a] [iD (zez a)] :=
 zba fun o a v xs ih hs => zvl (.mk o a v xs) hs fun x hx => ih x hx (Nat.le_trans (zb7 (a := .mk o a v xs) hx) hs)
def mnL (most : Int) : Int -> List (Int -> Int) -> Int
 | n, [] => n
 | n, r :: rs => if n <= most then mnL most (n + r (most - n)) rs else n
theorem zlv {α : Type} (f : α -> Int -> Int) (g : α -> Nat) (most : Int) : ∀ (xs : List α) (n : Int), 0 <= n -> (∀ x ∈ xs, ∀ m, 0 <= m -> 1 <= f x m /\ f x m <= g x /\ (f x m <= m -> f x m = g x)) -> mnL most n (xs.map f) <= n + (xs.map g).sum /\ n <= mnL most n (xs.map f) /\ (mnL most n (xs.map f) <= most -> mnL most n (xs.map f) = n + (xs.map g).sum)
 | [], n, _, _ => by simp [mnL]
 | x :: xs, n, hn, h => by
  simp only [List.map_cons, mnL, List.sum_cons]
  split
  ·obtain ⟨h1, h2, h3⟩ := h x (by simp) (most - n) (by omega)
   obtain ⟨k1, k2, k3⟩ := zlv f g most xs (n + f x (most - n)) (by omega) fun y hy => h y (by simp [hy])
   refine ⟨by omega, by omega, fun hh => ?_⟩
   have := k3 hh
   have : f x (most - n) = g x := h3 (by omega)
   omega
  ·refine ⟨by omega, by omega, fun hh => by omega⟩
def zeg : Tm -> Int -> Int := Tm.fold fun _ _ rs m => mnL m 1 rs
theorem zr5 (a : Tm) (m : Int) : zeg a m = mnL m 1 (a.args.map zeg) := congrFun (Tm.fold_eq _ a) m
theorem zkg : ∀ (a : Tm) (m : Int), 0 <= m -> 1 <= zeg a m /\ zeg a m <= a.nodes /\ (zeg a m <= m -> zeg a m = a.nodes) := by
 refine zbd fun b0 xs ih m hm => ?_
 rw [zr5, Tm.nodes_eq]
 show 1 <= mnL m 1 (xs.map zeg) /\ mnL m 1 (xs.map zeg) <= ((1 + (xs.map Tm.nodes).sum : Nat) : Int) /\ (mnL m 1 (xs.map zeg) <= m -> mnL m 1 (xs.map zeg) = ((1 + (xs.map Tm.nodes).sum : Nat) : Int))
 obtain ⟨k1, k2, k3⟩ := zlv zeg Tm.nodes m xs 1 (by omega) ih
 refine ⟨k2, by omega, fun h => ?_⟩
 have := k3 h
 omega
theorem qai (a : Tm) (m : Nat) : decide (zeg a m <= m) = decide (a.nodes <= m) := by
 obtain ⟨h1, h2, h3⟩ := zkg a m (by omega)
 rw [decide_eq_decide]
 exact ⟨fun h => by have := h3 h; omega, fun h => by omega⟩
set_option maxHeartbeats 400000 in
theorem zwy (a : Tm) (hs : a.wt <= 1099511627776) (H : ∀ x ∈ a.args, ∀ m : Int, 0 <= m -> m <= 1099511627776 -> FC Tryz.prog 281 [tmD x, iD m] [iD (zeg x m)]) (m : Int) (h0 : 0 <= m) (h1 : m <= 1099511627776) : FC Tryz.prog 281 [tmD a, iD m] [iD (zeg a m)] := by
 have hl : a.args.length <= 9223372036854775807 := by rw [Tm.wt_eq] at hs; omega
 have hn := zff a
 have hN := a.nodes_eq
 simp only [tmD, zaa]
 refine zam Tryz.call281 Tryz.func281 rfl (by kernel_rfl) (za1 (by kernel_rfl)) ?_
 simp -implicitDefEqProofs only [go_sem, Tryz.results281]
 refine zaf (fun p : Nat × Int => hd [(1, vI m), (2, .one (.bx 2 0)), (5, vI p.2), (6, vI p.1)] [(2, [.t (.str a.name), .t (tmS a.args)])] []) (fun p => p.1 <= a.args.length /\ zeg a m = mnL m p.2 ((a.args.drop p.1).map zeg) /\ 1 <= p.2 /\ p.2 + qbw Tm.nodes a.args p.1 <= a.nodes) (fun p => a.args.length - p.1) (0, 1) (zac ?_) ?_ ?_
 ·simp -implicitDefEqProofs only [go_sem]
 ·exact ⟨by simp, by rw [zr5]; rfl, by omega, by rw [zgr]; omega⟩
 ·intro ⟨k, n⟩ ⟨hk, hr, h2, h3⟩
  simp only at hk hr h2 h3
  by_cases hlt : k < a.args.length
  ·have hd := zl9 Tm.nodes a.args k hlt
   rw [List.drop_eq_getElem_cons hlt, List.map_cons, mnL] at hr
   simp -implicitDefEqProofs only [go_sem, zai, hlt, zaa]
   refine ⟨fun h => ?_, fun h => ?_⟩
   ·have hle : n <= m := by simpa using h
    obtain ⟨s1, s2, s3⟩ := zkg a.args[k] (m - n) (by omega)
    rw [zbp (n := m - n) (by omega) (by omega)]
    refine callF (H a.args[k] (List.getElem_mem hlt) (m - n) (by omega) (by omega)) (by simp -implicitDefEqProofs only [go_sem, zaa]) ?_
    simp -implicitDefEqProofs only [go_sem, zaa]
    rw [if_pos hle] at hr
    exact ⟨(k + 1, n + zeg a.args[k] (m - n)), ⟨hlt, hr, by simp only; omega, by simp only; omega⟩, by simp only; omega, zac (by simp -implicitDefEqProofs only [go_sem]; rw [zao (by omega), zbp (by omega) (by omega)]; exact ⟨rfl, rfl⟩)⟩
   ·rw [hr, if_neg (by simpa using h)]
  ·simp -implicitDefEqProofs only [go_sem, hlt]
   rw [hr, List.drop_of_length_le (by omega)]; rfl
theorem qau : ∀ a : Tm, a.wt <= 1099511627776 -> ∀ m : Int, 0 <= m -> m <= 1099511627776 -> FC Tryz.prog 281 [tmD a, iD m] [iD (zeg a m)] :=
 zbd fun b0 xs ih hs => zwy (.mk b0 xs) hs fun x hx => ih x hx (Nat.le_trans (zpm (a := .mk b0 xs) hx) hs)
def zek : Fm -> Int -> Int := Fm.fold fun _ _ _ _ rs m => mnL m 1 rs
theorem zrp (a : Fm) (m : Int) : zek a m = mnL m 1 (a.parts.map zek) := congrFun (Fm.fold_eq _ a) m
theorem zkc : ∀ (a : Fm) (m : Int), 0 <= m -> 1 <= zek a m /\ zek a m <= a.nodes /\ (zek a m <= m -> zek a m = a.nodes) := by
 refine zba fun b0 b1 b2 xs ih m hm => ?_
 rw [zrp, Fm.nodes_eq]
 show 1 <= mnL m 1 (xs.map zek) /\ mnL m 1 (xs.map zek) <= ((1 + (xs.map Fm.nodes).sum : Nat) : Int) /\ (mnL m 1 (xs.map zek) <= m -> mnL m 1 (xs.map zek) = ((1 + (xs.map Fm.nodes).sum : Nat) : Int))
 obtain ⟨k1, k2, k3⟩ := zlv zek Fm.nodes m xs 1 (by omega) ih
 refine ⟨k2, by omega, fun h => ?_⟩
 have := k3 h
 omega
theorem qdo (a : Fm) (m : Nat) : decide (zek a m <= m) = decide (a.nodes <= m) := by
 obtain ⟨h1, h2, h3⟩ := zkc a m (by omega)
 rw [decide_eq_decide]
 exact ⟨fun h => by have := h3 h; omega, fun h => by omega⟩
set_option maxHeartbeats 400000 in
theorem zy7 (a : Fm) (hs : a.wt <= 1099511627776) (H : ∀ x ∈ a.parts, ∀ m : Int, 0 <= m -> m <= 1099511627776 -> FC Tryz.prog 179 [fmD x, iD m] [iD (zek x m)]) (m : Int) (h0 : 0 <= m) (h1 : m <= 1099511627776) : FC Tryz.prog 179 [fmD a, iD m] [iD (zek a m)] := by
 have hl : a.parts.length <= 9223372036854775807 := by rw [Fm.wt_eq] at hs; omega
 have hn := zcz a
 have hN := a.nodes_eq
 simp only [fmD, zab]
 refine zam Tryz.call179 Tryz.func179 rfl (by kernel_rfl) (za1 (by kernel_rfl)) ?_
 simp -implicitDefEqProofs only [go_sem, Tryz.results179]
 refine zaf (fun p : Nat × Int => hd [(1, vI m), (2, .one (.bx 2 0)), (5, vI p.2), (6, vI p.1)] [(2, [.t (.int .i64 a.op), .t (.str a.atom.name), .t (tmS a.atom.args), .t (.str a.var), .t (fmS a.parts)])] []) (fun p => p.1 <= a.parts.length /\ zek a m = mnL m p.2 ((a.parts.drop p.1).map zek) /\ 1 <= p.2 /\ p.2 + qbw Fm.nodes a.parts p.1 <= a.nodes) (fun p => a.parts.length - p.1) (0, 1) (zac ?_) ?_ ?_
 ·simp -implicitDefEqProofs only [go_sem]
 ·exact ⟨by simp, by rw [zrp]; rfl, by omega, by rw [zgr]; omega⟩
 ·intro ⟨k, n⟩ ⟨hk, hr, h2, h3⟩
  simp only at hk hr h2 h3
  by_cases hlt : k < a.parts.length
  ·have hd := zl9 Fm.nodes a.parts k hlt
   rw [List.drop_eq_getElem_cons hlt, List.map_cons, mnL] at hr
   simp -implicitDefEqProofs only [go_sem, zai, hlt, zab]
   refine ⟨fun h => ?_, fun h => ?_⟩
   ·have hle : n <= m := by simpa using h
    obtain ⟨s1, s2, s3⟩ := zkc a.parts[k] (m - n) (by omega)
    rw [zbp (n := m - n) (by omega) (by omega)]
    refine callF (H a.parts[k] (List.getElem_mem hlt) (m - n) (by omega) (by omega)) (by simp -implicitDefEqProofs only [go_sem, zab]) ?_
    simp -implicitDefEqProofs only [go_sem, zab]
    rw [if_pos hle] at hr
    exact ⟨(k + 1, n + zek a.parts[k] (m - n)), ⟨hlt, hr, by simp only; omega, by simp only; omega⟩, by simp only; omega, zac (by simp -implicitDefEqProofs only [go_sem]; rw [zao (by omega), zbp (by omega) (by omega)]; exact ⟨rfl, rfl⟩)⟩
   ·rw [hr, if_neg (by simpa using h)]
  ·simp -implicitDefEqProofs only [go_sem, hlt]
   rw [hr, List.drop_of_length_le (by omega)]; rfl
theorem qaj : ∀ a : Fm, a.wt <= 1099511627776 -> ∀ m : Int, 0 <= m -> m <= 1099511627776 -> FC Tryz.prog 179 [fmD a, iD m] [iD (zek a m)] :=
 zba fun b0 b1 b2 xs ih hs => zy7 (.mk b0 b1 b2 xs) hs fun x hx => ih x hx (Nat.le_trans (zb7 (a := .mk b0 b1 b2 xs) hx) hs)
end Go.Proofs.YtemnhgmgeijkcaaGreat
namespace Go.Proofs.YtemnhgmgeijkcaaGreat
set_option linter.unusedSimpArgs false
set_option linter.unusedVariables false
set_option linter.unusedSectionVars false
set_option maxRecDepth 4000
open Go.RowKit
set_option maxHeartbeats 400000 in
theorem ztn (a : Tm) (hs : a.wt <= 1099511627776) (H : ∀ x ∈ a.args, FC Tryz.prog 282 [tmD x] [iD x.depth]) : FC Tryz.prog 282 [tmD a] [iD a.depth] := by
 have hl : a.args.length <= 9223372036854775807 := by rw [Tm.wt_eq] at hs; omega
 have hn := zff a
 have hdn := zi7 a
 have hD := a.depth_eq
 simp only [tmD, zaa]
 refine zam Tryz.call282 Tryz.func282 rfl (by kernel_rfl) (za1 (by kernel_rfl)) ?_
 simp -implicitDefEqProofs only [go_sem, Tryz.results282]
 refine zaf (fun p : Nat × Nat => hd [(1, .one (.bx 1 0)), (3, vI p.2), (4, vI p.1)] [(1, [.t (.str a.name), .t (tmS a.args)])] []) (fun p => p.1 <= a.args.length /\ a.depth = ((a.args.drop p.1).map Tm.depth).foldl max p.2 + 1) (fun p => a.args.length - p.1) (0, 0) (zac ?_) ?_ ?_
 ·simp -implicitDefEqProofs only [go_sem]
 ·exact ⟨by simp, hD⟩
 ·intro ⟨k, n⟩ ⟨hk, hr⟩
  simp only at hk hr
  by_cases hlt : k < a.args.length
  ·rw [List.drop_eq_getElem_cons hlt, List.map_cons, List.foldl_cons] at hr
   simp -implicitDefEqProofs only [go_sem, zai, hlt, zaa]
   refine callF (H a.args[k] (List.getElem_mem hlt)) (by simp -implicitDefEqProofs only [go_sem, zaa]) ?_
   simp -implicitDefEqProofs only [go_sem, zaa]
   refine callF (qdl n a.args[k].depth) (by simp -implicitDefEqProofs only [go_sem, zaa]) ?_
   simp -implicitDefEqProofs only [go_sem, zaa]
   exact ⟨(k + 1, max n a.args[k].depth), ⟨hlt, hr⟩, by simp only; omega, zac (by simp -implicitDefEqProofs only [go_sem]; rw [zao (by omega)]; exact ⟨by congr 1; omega, rfl⟩)⟩
  ·simp -implicitDefEqProofs only [go_sem, hlt]
   rw [List.drop_of_length_le (by omega)] at hr
   simp only [List.map_nil, List.foldl_nil] at hr
   rw [hr, zao (by omega)]
theorem zwb : ∀ a : Tm, a.wt <= 1099511627776 -> FC Tryz.prog 282 [tmD a] [iD a.depth] :=
 zbd fun n xs ih hs => ztn (.mk n xs) hs fun x hx => ih x hx (Nat.le_trans (zpm (a := .mk n xs) hx) hs)
theorem zrs (a : Tm) (hs : a.wt <= 1099511627776) : FC Tryz.prog 237 [tmD a] [bD (zck a)] := by
 simp only [tmD, zaa]
 refine zam Tryz.call237 Tryz.func237 rfl (by kernel_rfl) (za1 (by kernel_rfl)) ?_
 simp -implicitDefEqProofs only [go_sem, Tryz.results237]
 refine callF (qau a hs 30 (by omega) (by omega)) (by simp -implicitDefEqProofs only [go_sem, zaa]) ?_
 simp -implicitDefEqProofs only [go_sem, zaa]
 rw [show decide (zeg a 30 <= 30) = decide (a.nodes <= 30) from qai a 30]
 refine ⟨fun h => ?_, fun h => ?_⟩
 ·refine callF (zwb a hs) (by simp -implicitDefEqProofs only [go_sem, zaa]) ?_
  simp -implicitDefEqProofs only [go_sem, zaa]
  rw [zck, h, Bool.true_and]
  congr 1
  rw [decide_eq_decide]; omega
 ·rw [zck, h]; rfl
theorem zs2 (a : Tm) (H : ∀ x ∈ a.args, FC Tryz.prog 238 [tmD x] [bD x.names]) : FC Tryz.prog 238 [tmD a] [bD a.names] := by
 refine zdm (fun hw => ?_) Tryz.call238
 have hl : a.args.length <= 9223372036854775807 := by simp only [tmD, zaa] at hw; simp [zhp, wfT, zqo] at hw; exact hw.2.1
 have hN := a.names_eq
 simp only [tmD, zaa]
 refine zam Tryz.call238 Tryz.func238 rfl (by kernel_rfl) (za1 (by kernel_rfl)) ?_
 simp -implicitDefEqProofs only [go_sem, Tryz.results238]
 refine callF (zjc a.name) (by simp -implicitDefEqProofs only [go_sem]) ?_
 simp -implicitDefEqProofs only [go_sem]
 refine ⟨fun h => ?_, fun h => ?_⟩
 ·rw [hN, if_pos h]
  congr 1
  rw [Bool.eq_iff_iff]; simp
 ·rw [h] at hN
  simp only [Bool.false_eq_true, if_false] at hN
  refine callF (zj8 a.name) (by simp -implicitDefEqProofs only [go_sem]) ?_
  simp -implicitDefEqProofs only [go_sem]
  by_cases hy : zcg a.name = true
  ·by_cases h4 : a.args.length <= 4
   ·rw [hy, show decide (a.args.length <= 4) = true by simpa using h4, Bool.true_and, Bool.true_and] at hN
    refine ⟨fun _ => ⟨fun h => by simp at h; omega, fun _ => ?_⟩, fun h => by simp [hy] at h⟩
    refine zaf (fun k : Nat => hd [(1, .one (.bx 1 0)), (3, vI k)] [(1, [.t (.str a.name), .t (tmS a.args)])] []) (fun k => k <= a.args.length /\ a.names = (a.args.drop k).all Tm.names) (fun k => a.args.length - k) 0 (zac ?_) ?_ ?_
    ·simp -implicitDefEqProofs only [go_sem]
    ·exact ⟨by simp, hN⟩
    ·intro k ⟨hk, hr⟩
     by_cases hlt : k < a.args.length
     ·rw [List.drop_eq_getElem_cons hlt, List.all_cons] at hr
      simp -implicitDefEqProofs only [go_sem, zai, hlt, zaa]
      refine callF (H a.args[k] (List.getElem_mem hlt)) (by simp -implicitDefEqProofs only [go_sem, zaa]) ?_
      simp -implicitDefEqProofs only [go_sem, zaa]
      refine ⟨fun h => ?_, fun h => ⟨k + 1, ⟨hlt, ?_⟩, by omega, zac (by simp -implicitDefEqProofs only [go_sem]; rw [zao (by omega)])⟩⟩
      ·rw [hr, show a.args[k].names = false by simpa using h]; rfl
      ·rw [hr, show a.args[k].names = true by simpa using h]; rfl
     ·simp -implicitDefEqProofs only [go_sem, hlt]
      rw [hr, List.drop_of_length_le (by omega)]; rfl
   ·refine ⟨fun _ => ⟨fun _ => ?_, fun h => by simp at h; omega⟩, fun h => by simp [hy] at h⟩
    rw [hN, show decide (a.args.length <= 4) = false by simpa using h4, Bool.and_false]; rfl
  ·have hy' : zcg a.name = false := by simpa using hy
   refine ⟨fun h => by simp [hy'] at h, fun _ => ?_⟩
   rw [hN, hy']; rfl
theorem zig : ∀ a : Tm, FC Tryz.prog 238 [tmD a] [bD a.names] := zbd fun n xs ih => zs2 (.mk n xs) ih
theorem zqy (a : Tm) (hs : a.wt <= 1099511627776) : FC Tryz.prog 173 [tmD a] [bD a.good] := by
 simp only [tmD, zaa]
 refine zam Tryz.call173 Tryz.func173 rfl (by kernel_rfl) (za1 (by kernel_rfl)) ?_
 simp -implicitDefEqProofs only [go_sem, Tryz.results173]
 refine callF (zrs a hs) (by simp -implicitDefEqProofs only [go_sem, zaa]) ?_
 simp -implicitDefEqProofs only [go_sem, zaa]
 refine ⟨fun h => ?_, fun h => ?_⟩
 ·refine callF (zig a) (by simp -implicitDefEqProofs only [go_sem, zaa]) ?_
  simp -implicitDefEqProofs only [go_sem, zaa]
  rw [Tm.good, h, Bool.true_and]
 ·rw [Tm.good, h, Bool.false_and]
theorem zqs (a : Tm) (hs : a.wt <= 1099511627776) : FC Tryz.prog 177 [tmD a] [bD a.atomOk] := by
 have hN : a.atomOk = if (a.name == [61]) = true then decide (a.args.length = 2) && zck a && a.args.all Tm.names else zcg a.name && a.good := rfl
 simp only [tmD, zaa]
 refine zam Tryz.call177 Tryz.func177 rfl (by kernel_rfl) (za1 (by kernel_rfl)) ?_
 simp -implicitDefEqProofs only [go_sem, Tryz.results177]
 refine ⟨fun h => ?_, fun h => ?_⟩
 ·rw [if_pos h] at hN
  by_cases h2 : a.args.length = 2
  ·have k0 : 0 < a.args.length := by omega
   have k1 : 1 < a.args.length := by omega
   have e2 : ((a.args.length : Int) == 2) = true := by simp [h2]
   have l0 : (0 : Int) < a.args.length := by omega
   have l1 : (1 : Int) < a.args.length := by omega
   rw [zuy h2, show decide (a.args.length = 2) = true by simp [h2]] at hN
   simp only [Bool.true_and] at hN
   simp only [e2, zzs, zet, qhd, zd9, and_true]
   refine callF (zrs a hs) (by simp -implicitDefEqProofs only [go_sem, zaa, l0, zai, k0]) ?_
   simp -implicitDefEqProofs only [go_sem, zaa, l0, zai, k0]
   refine ⟨fun h3 => ?_, fun h3 => ?_⟩
   ·refine callF (zig a.args[0]) (by simp -implicitDefEqProofs only [go_sem, zaa, l1, zai, k1]) ?_
    simp -implicitDefEqProofs only [go_sem, zaa, l1, zai, k1]
    refine ⟨fun h4 => ?_, fun h4 => ?_⟩
    ·refine callF (zig a.args[1]) (by simp -implicitDefEqProofs only [go_sem, zaa]) ?_
     simp -implicitDefEqProofs only [go_sem, zaa]
     rw [hN, h3, h4]; rfl
    ·rw [hN, h3, h4]; rfl
   ·rw [hN, h3]; rfl
  ·have e2 : ((a.args.length : Int) == 2) = false := by simp; omega
   simp only [e2, zzs, qfv, zet, zd9, and_true, true_and, qf9]
   rw [hN, show decide (a.args.length = 2) = false by simpa using h2]; rfl
 ·rw [h] at hN
  simp only [Bool.false_eq_true, if_false] at hN
  refine callF (zj8 a.name) (by simp -implicitDefEqProofs only [go_sem]) ?_
  simp -implicitDefEqProofs only [go_sem]
  refine ⟨fun h3 => ?_, fun h3 => ?_⟩
  ·refine callF (zqy a hs) (by simp -implicitDefEqProofs only [go_sem, zaa]) ?_
   simp -implicitDefEqProofs only [go_sem, zaa]
   rw [hN, h3, Bool.true_and]
  ·rw [hN, h3, Bool.false_and]
theorem zdq (a : Tm) : FC Tryz.prog 283 [tmD a] [bD a.none] := by
 simp only [tmD, zaa]
 refine zam Tryz.call283 Tryz.func283 rfl (by kernel_rfl) (za1 (by kernel_rfl)) ?_
 simp -implicitDefEqProofs only [go_sem, Tryz.results283]
 unfold Tm.none
 refine ⟨fun h => ?_, fun h => ?_⟩
 ·rw [h, Bool.true_and]
  congr 1
  rw [Bool.eq_iff_iff]; simp
 ·rw [h]; rfl
def Fm.here (f : Fm) : Bool :=
 if (f.op == 1 || f.op == 2) = true then decide (f.parts.length = 0) && f.atom.none && (f.var == [])
 else if (f.op == 3) = true then decide (f.parts.length = 0) && f.atom.atomOk && (f.var == [])
 else if (f.op == 4) = true then decide (f.parts.length = 1) && f.atom.none && (f.var == [])
 else if zkd f.op = true then decide (f.parts.length = 2) && f.atom.none && (f.var == [])
 else if isQ f.op = true then decide (f.parts.length = 1) && f.atom.none && za2 f.var
 else false
theorem zle (n m : Nat) : ((n : Int) == (m : Int)) = decide (n = m) := by
 rw [Bool.eq_iff_iff]; simp only [beq_iff_eq, decide_eq_true_eq]; omega
theorem zor (n m : Nat) : ((n : Int) != (m : Int)) = !decide (n = m) := by
 rw [bne, zle]
theorem zsk (o : Int) : o = 1 \/ o = 2 \/ o = 3 \/ o = 4 \/ o = 5 \/ o = 6 \/ o = 7 \/ o = 8 \/ o = 9 \/ (o ≠ 1 /\ o ≠ 2 /\ o ≠ 3 /\ o ≠ 4 /\ o ≠ 5 /\ o ≠ 6 /\ o ≠ 7 /\ o ≠ 8 /\ o ≠ 9) := by omega
set_option maxHeartbeats 4000000 in
theorem qak (f : Fm) (hs : f.wt <= 1099511627776) : FC Tryz.prog 242 [fmD f] [bD f.here] := by
 obtain ⟨o, a, v, ps⟩ := f
 have ha : a.wt <= 1099511627776 := Nat.le_trans (zk0 (.mk o a v ps)) hs
 have e0 : ((ps.length : Int) == 0) = decide (ps.length = 0) := zle _ 0
 have e1 : ((ps.length : Int) == 1) = decide (ps.length = 1) := zle _ 1
 have e2 : ((ps.length : Int) == 2) = decide (ps.length = 2) := zle _ 2
 rcases zsk o with rfl | rfl | rfl | rfl | rfl | rfl | rfl | rfl | rfl | ⟨n1, n2, n3, n4, n5, n6, n7, n8, n9⟩
 ·have hN : Fm.here (.mk 1 a v ps) = (decide (ps.length = 0) && a.none && (v == [])) := rfl
  simp only [fmD, zab, Fm.op, Fm.atom, Fm.var, Fm.parts]
  refine zam Tryz.call242 Tryz.func242 rfl (by kernel_rfl) (za1 (by kernel_rfl)) ?_
  simp -implicitDefEqProofs only [go_sem, Tryz.results242]
  simp only [e0]
  refine ⟨fun h => ?_, fun h => ?_⟩
  ·refine callF (zdq a) (by simp -implicitDefEqProofs only [go_sem, zaa]) ?_
   simp -implicitDefEqProofs only [go_sem, zaa]
   refine ⟨fun h1 => ?_, fun h1 => ?_⟩
   ·rw [hN, h, h1]; rfl
   ·rw [hN, h, h1]; rfl
  ·rw [hN, h]; rfl
 ·have hN : Fm.here (.mk 2 a v ps) = (decide (ps.length = 0) && a.none && (v == [])) := rfl
  simp only [fmD, zab, Fm.op, Fm.atom, Fm.var, Fm.parts]
  refine zam Tryz.call242 Tryz.func242 rfl (by kernel_rfl) (za1 (by kernel_rfl)) ?_
  simp -implicitDefEqProofs only [go_sem, Tryz.results242]
  simp only [e0]
  refine ⟨fun h => ?_, fun h => ?_⟩
  ·refine callF (zdq a) (by simp -implicitDefEqProofs only [go_sem, zaa]) ?_
   simp -implicitDefEqProofs only [go_sem, zaa]
   refine ⟨fun h1 => ?_, fun h1 => ?_⟩
   ·rw [hN, h, h1]; rfl
   ·rw [hN, h, h1]; rfl
  ·rw [hN, h]; rfl
 ·have hN : Fm.here (.mk 3 a v ps) = (decide (ps.length = 0) && a.atomOk && (v == [])) := rfl
  simp only [fmD, zab, Fm.op, Fm.atom, Fm.var, Fm.parts]
  refine zam Tryz.call242 Tryz.func242 rfl (by kernel_rfl) (za1 (by kernel_rfl)) ?_
  simp -implicitDefEqProofs only [go_sem, Tryz.results242]
  simp only [e0]
  refine ⟨fun h => ?_, fun h => ?_⟩
  ·refine callF (zqs a ha) (by simp -implicitDefEqProofs only [go_sem, zaa]) ?_
   simp -implicitDefEqProofs only [go_sem, zaa]
   refine ⟨fun h1 => ?_, fun h1 => ?_⟩
   ·rw [hN, h, h1]; rfl
   ·rw [hN, h, h1]; rfl
  ·rw [hN, h]; rfl
 ·have hN : Fm.here (.mk 4 a v ps) = (decide (ps.length = 1) && a.none && (v == [])) := rfl
  simp only [fmD, zab, Fm.op, Fm.atom, Fm.var, Fm.parts]
  refine zam Tryz.call242 Tryz.func242 rfl (by kernel_rfl) (za1 (by kernel_rfl)) ?_
  simp -implicitDefEqProofs only [go_sem, Tryz.results242]
  simp only [e1]
  refine ⟨fun h => ?_, fun h => ?_⟩
  ·refine callF (zdq a) (by simp -implicitDefEqProofs only [go_sem, zaa]) ?_
   simp -implicitDefEqProofs only [go_sem, zaa]
   refine ⟨fun h1 => ?_, fun h1 => ?_⟩
   ·rw [hN, h, h1]; rfl
   ·rw [hN, h, h1]; rfl
  ·rw [hN, h]; rfl
 ·have hN : Fm.here (.mk 5 a v ps) = (decide (ps.length = 2) && a.none && (v == [])) := rfl
  simp only [fmD, zab, Fm.op, Fm.atom, Fm.var, Fm.parts]
  refine zam Tryz.call242 Tryz.func242 rfl (by kernel_rfl) (za1 (by kernel_rfl)) ?_
  simp -implicitDefEqProofs only [go_sem, Tryz.results242]
  simp only [e2]
  refine ⟨fun h => ?_, fun h => ?_⟩
  ·refine callF (zdq a) (by simp -implicitDefEqProofs only [go_sem, zaa]) ?_
   simp -implicitDefEqProofs only [go_sem, zaa]
   refine ⟨fun h1 => ?_, fun h1 => ?_⟩
   ·rw [hN, h, h1]; rfl
   ·rw [hN, h, h1]; rfl
  ·rw [hN, h]; rfl
 ·have hN : Fm.here (.mk 6 a v ps) = (decide (ps.length = 2) && a.none && (v == [])) := rfl
  simp only [fmD, zab, Fm.op, Fm.atom, Fm.var, Fm.parts]
  refine zam Tryz.call242 Tryz.func242 rfl (by kernel_rfl) (za1 (by kernel_rfl)) ?_
  simp -implicitDefEqProofs only [go_sem, Tryz.results242]
  simp only [e2]
  refine ⟨fun h => ?_, fun h => ?_⟩
  ·refine callF (zdq a) (by simp -implicitDefEqProofs only [go_sem, zaa]) ?_
   simp -implicitDefEqProofs only [go_sem, zaa]
   refine ⟨fun h1 => ?_, fun h1 => ?_⟩
   ·rw [hN, h, h1]; rfl
   ·rw [hN, h, h1]; rfl
  ·rw [hN, h]; rfl
 ·have hN : Fm.here (.mk 7 a v ps) = (decide (ps.length = 2) && a.none && (v == [])) := rfl
  simp only [fmD, zab, Fm.op, Fm.atom, Fm.var, Fm.parts]
  refine zam Tryz.call242 Tryz.func242 rfl (by kernel_rfl) (za1 (by kernel_rfl)) ?_
  simp -implicitDefEqProofs only [go_sem, Tryz.results242]
  simp only [e2]
  refine ⟨fun h => ?_, fun h => ?_⟩
  ·refine callF (zdq a) (by simp -implicitDefEqProofs only [go_sem, zaa]) ?_
   simp -implicitDefEqProofs only [go_sem, zaa]
   refine ⟨fun h1 => ?_, fun h1 => ?_⟩
   ·rw [hN, h, h1]; rfl
   ·rw [hN, h, h1]; rfl
  ·rw [hN, h]; rfl
 ·have hN : Fm.here (.mk 8 a v ps) = (decide (ps.length = 1) && a.none && za2 v) := rfl
  simp only [fmD, zab, Fm.op, Fm.atom, Fm.var, Fm.parts]
  refine zam Tryz.call242 Tryz.func242 rfl (by kernel_rfl) (za1 (by kernel_rfl)) ?_
  simp -implicitDefEqProofs only [go_sem, Tryz.results242]
  simp only [e1]
  refine ⟨fun h => ?_, fun h => ?_⟩
  ·refine callF (zdq a) (by simp -implicitDefEqProofs only [go_sem, zaa]) ?_
   simp -implicitDefEqProofs only [go_sem, zaa]
   refine ⟨fun h1 => ?_, fun h1 => ?_⟩
   ·refine callF (zjc v) (by simp -implicitDefEqProofs only [go_sem]) ?_
    simp -implicitDefEqProofs only [go_sem]
    rw [hN, h, h1]; rfl
   ·rw [hN, h, h1]; rfl
  ·rw [hN, h]; rfl
 ·have hN : Fm.here (.mk 9 a v ps) = (decide (ps.length = 1) && a.none && za2 v) := rfl
  simp only [fmD, zab, Fm.op, Fm.atom, Fm.var, Fm.parts]
  refine zam Tryz.call242 Tryz.func242 rfl (by kernel_rfl) (za1 (by kernel_rfl)) ?_
  simp -implicitDefEqProofs only [go_sem, Tryz.results242]
  simp only [e1]
  refine ⟨fun h => ?_, fun h => ?_⟩
  ·refine callF (zdq a) (by simp -implicitDefEqProofs only [go_sem, zaa]) ?_
   simp -implicitDefEqProofs only [go_sem, zaa]
   refine ⟨fun h1 => ?_, fun h1 => ?_⟩
   ·refine callF (zjc v) (by simp -implicitDefEqProofs only [go_sem]) ?_
    simp -implicitDefEqProofs only [go_sem]
    rw [hN, h, h1]; rfl
   ·rw [hN, h, h1]; rfl
  ·rw [hN, h]; rfl
 ·have hN : Fm.here (.mk o a v ps) = false := by simp [Fm.here, zkd, isQ, Fm.op, *]
  have f1 : (o == 1) = false := by simpa using n1
  have f2 : (o == 2) = false := by simpa using n2
  have f3 : (o == 3) = false := by simpa using n3
  have f4 : (o == 4) = false := by simpa using n4
  have f5 : (o == 5) = false := by simpa using n5
  have f6 : (o == 6) = false := by simpa using n6
  have f7 : (o == 7) = false := by simpa using n7
  have f8 : (o == 8) = false := by simpa using n8
  have f9 : (o == 9) = false := by simpa using n9
  simp only [fmD, zab, Fm.op, Fm.atom, Fm.var, Fm.parts]
  refine zam Tryz.call242 Tryz.func242 rfl (by kernel_rfl) (za1 (by kernel_rfl)) ?_
  simp -implicitDefEqProofs only [go_sem, Tryz.results242, f1, f2, f3, f4, f5, f6, f7, f8, f9]
  rw [hN]
def Fm.forms : Fm -> Bool := Fm.fold fun o a v ps rs => (Fm.mk o a v ps).here && rs.all id
theorem Fm.forms_eq (f : Fm) : f.forms = (f.here && f.parts.all Fm.forms) := by
 unfold Fm.forms
 rw [Fm.fold_eq]
 simp only [List.all_map, Fm.eta]
 rfl
theorem ztl (a : Fm) (hs : a.wt <= 1099511627776) (H : ∀ x ∈ a.parts, FC Tryz.prog 180 [fmD x] [bD x.forms]) : FC Tryz.prog 180 [fmD a] [bD a.forms] := by
 have hl : a.parts.length <= 9223372036854775807 := by rw [Fm.wt_eq] at hs; omega
 have hN := a.forms_eq
 simp only [fmD, zab]
 refine zam Tryz.call180 Tryz.func180 rfl (by kernel_rfl) (za1 (by kernel_rfl)) ?_
 simp -implicitDefEqProofs only [go_sem, Tryz.results180]
 refine callF (qak a hs) (by simp -implicitDefEqProofs only [go_sem, zab]) ?_
 simp -implicitDefEqProofs only [go_sem, zab]
 refine ⟨fun h => ?_, fun h => ?_⟩
 ·rw [hN, show a.here = false by simpa using h]; rfl
 ·rw [show a.here = true by simpa using h, Bool.true_and] at hN
  refine zaf (fun k : Nat => hd [(1, .one (.bx 1 0)), (3, vI k)] [(1, [.t (.int .i64 a.op), .t (.str a.atom.name), .t (tmS a.atom.args), .t (.str a.var), .t (fmS a.parts)])] []) (fun k => k <= a.parts.length /\ a.forms = (a.parts.drop k).all Fm.forms) (fun k => a.parts.length - k) 0 (zac ?_) ?_ ?_
  ·simp -implicitDefEqProofs only [go_sem]
  ·exact ⟨by simp, hN⟩
  ·intro k ⟨hk, hr⟩
   by_cases hlt : k < a.parts.length
   ·rw [List.drop_eq_getElem_cons hlt, List.all_cons] at hr
    simp -implicitDefEqProofs only [go_sem, zai, hlt, zab]
    refine callF (H a.parts[k] (List.getElem_mem hlt)) (by simp -implicitDefEqProofs only [go_sem, zab]) ?_
    simp -implicitDefEqProofs only [go_sem, zab]
    refine ⟨fun h => ?_, fun h => ⟨k + 1, ⟨hlt, ?_⟩, by omega, zac (by simp -implicitDefEqProofs only [go_sem]; rw [zao (by omega)])⟩⟩
    ·rw [hr, show a.parts[k].forms = false by simpa using h]; rfl
    ·rw [hr, show a.parts[k].forms = true by simpa using h]; rfl
   ·simp -implicitDefEqProofs only [go_sem, hlt]
    rw [hr, List.drop_of_length_le (by omega)]; rfl
theorem zxi : ∀ a : Fm, a.wt <= 1099511627776 -> FC Tryz.prog 180 [fmD a] [bD a.forms] :=
 zba fun o a v xs ih hs => ztl (.mk o a v xs) hs fun x hx => ih x hx (Nat.le_trans (zb7 (a := .mk o a v xs) hx) hs)
def Fm.good (a : Fm) : Bool := decide (a.nodes <= 40) && a.forms
theorem zh3 (a : Fm) (hs : a.wt <= 1099511627776) : FC Tryz.prog 114 [fmD a] [bD a.good] := by
 simp only [fmD, zab]
 refine zam Tryz.call114 Tryz.func114 rfl (by kernel_rfl) (za1 (by kernel_rfl)) ?_
 simp -implicitDefEqProofs only [go_sem, Tryz.results114]
 refine callF (qaj a hs 40 (by omega) (by omega)) (by simp -implicitDefEqProofs only [go_sem, zab]) ?_
 simp -implicitDefEqProofs only [go_sem, zab]
 rw [show decide (zek a 40 <= 40) = decide (a.nodes <= 40) from qdo a 40]
 refine ⟨fun h => ?_, fun h => ?_⟩
 ·refine callF (zxi a hs) (by simp -implicitDefEqProofs only [go_sem, zab]) ?_
  simp -implicitDefEqProofs only [go_sem, zab]
  rw [Fm.good, h, Bool.true_and]
 ·rw [Fm.good, h, Bool.false_and]
end Go.Proofs.YtemnhgmgeijkcaaGreat
namespace Go.Proofs.YtemnhgmgeijkcaaGreat
set_option linter.unusedSimpArgs false
set_option linter.unusedVariables false
set_option linter.unusedSectionVars false
set_option maxRecDepth 4000
open Go.RowKit
theorem qax : ∀ a : Tm, a.wt <= 1099511627776 -> ∀ ys : List Str, ys.length + (voS a).length <= 1073741824 -> GC Tryz.prog 241 [(true, .one (zb2 ys)), (false, tmD a)] [.one (zb2 (zbf ys (voS a)))] :=
 zbd fun n xs ih hw ys hs => zuw (.mk n xs) (fun x hx ys hs => ih x hx (Nat.le_trans (zpm (a := .mk n xs) hx) hw) ys hs) ys hs (by have := Tm.wt_eq (.mk n xs); omega)
theorem zk1 (a : Tm) (hw : a.wt <= 1099511627776) (hs : (voS a).length <= 1073741824) : FC Tryz.prog 178 [tmD a] [.one (zb2 (zbf [] (voS a)))] := by
 have HC := qax a hw [] (by simpa using hs)
 simp only [tmD, zaa] at HC ⊢
 refine zc3 Tryz.call178 Tryz.func178 rfl (by kernel_rfl) (za1 (by kernel_rfl)) ?_
 simp -implicitDefEqProofs only [go_sem, Tryz.results178]
 refine zbl (by simp -implicitDefEqProofs only [go_sem]) ?_
 simp -implicitDefEqProofs only [go_sem]
 refine zcj [] [3, 4] [] (HC) (by simp -implicitDefEqProofs only [go_sem]) (by simp -implicitDefEqProofs only [go_sem]) (by simp -implicitDefEqProofs only [go_sem]) (by simp -implicitDefEqProofs only [go_sem]) ?_
 simp -implicitDefEqProofs only [go_sem]
theorem zrt {s : Str} (h : za2 s = true) : zjf (s.getD 0 0) = true /\ 0 < s.length := by
 unfold za2 at h
 rw [Bool.and_eq_true] at h
 cases s with
 | nil => exact absurd h.2 (by decide)
 | cons b s =>
  have := zq7 (s := b :: s) (by simp)
  rw [h.1] at this
  have := (Bool.and_eq_true _ _).mp this.symm
  exact ⟨this.1, by simp⟩
theorem up_low {b : UInt8} (h : ze2 b = true) : zjf b = false := by
 unfold ze2 zjf at *
 simp only [Bool.and_eq_true, decide_eq_true_eq, Bool.and_eq_false_iff, decide_eq_false_iff_not] at *
 omega
theorem znu {s : Str} (h : zcg s = true) : zjf (s.getD 0 0) = false /\ 0 < s.length := by
 unfold zcg at h
 simp only [Bool.and_eq_true] at h
 cases s with
 | nil => exact absurd h.1.2 (by decide)
 | cons b s =>
  have := zmp (s := b :: s) (by simp)
  rw [h.1.1] at this
  have := (Bool.and_eq_true _ _).mp this.symm
  exact ⟨up_low this.1, by simp⟩
theorem zlq : ∀ a : Tm, a.names = true -> voI a = voS a /\ a.ne = true := zbd fun n xs ih h => by
 rw [Tm.names_eq] at h
 rw [zsb, zij, Tm.ne_eq']
 change (if za2 n = true then decide (xs.length = 0) else zcg n && decide (xs.length <= 4) && xs.all Tm.names) = true at h
 change (if (decide (xs.length = 0) && zjf (n.getD 0 0)) = true then [n] else (xs.map voI).flatten) = (if za2 n = true then [n] else (xs.map voS).flatten) /\ ((!decide (xs.length = 0) || decide (0 < n.length)) && xs.all Tm.ne) = true
 change ∀ x ∈ xs, _ at ih
 by_cases hv : za2 n = true
 ·rw [if_pos hv] at h ⊢
  obtain ⟨h1, h2⟩ := zrt hv
  have h : xs.length = 0 := of_decide_eq_true h
  have hx : xs = [] := List.length_eq_zero_iff.1 h
  subst hx
  rw [h1]
  exact ⟨rfl, by simp [h2]⟩
 ·rw [if_neg hv] at h ⊢
  simp only [Bool.and_eq_true] at h
  obtain ⟨h1, h2⟩ := znu h.1.1
  rw [h1, Bool.and_false, if_neg (by simp)]
  have hI := fun x hx => ih x hx (List.all_eq_true.1 h.2 x hx)
  refine ⟨by rw [List.map_congr_left fun x hx => (hI x hx).1], ?_⟩
  rw [Bool.and_eq_true]
  exact ⟨by simp [h2], List.all_eq_true.2 fun x hx => (hI x hx).2⟩
theorem qhj {a : Tm} (h : a.atomOk = true) : voI a = voS a /\ a.ne = true := by
 unfold Tm.atomOk at h
 split at h
 ·rename_i he
  have he : a.name = [61] := by simpa using he
  simp only [Bool.and_eq_true, decide_eq_true_eq] at h
  rw [zsb, zij, Tm.ne_eq', he]
  have hI := fun x hx => zlq x (List.all_eq_true.1 h.2 x hx)
  rw [show zjf (([61] : Str).getD 0 0) = false by decide, show za2 [61] = false by decide, Bool.and_false, if_neg (by simp), if_neg (by simp)]
  refine ⟨by rw [List.map_congr_left fun x hx => (hI x hx).1], ?_⟩
  rw [Bool.and_eq_true]
  exact ⟨by simp, List.all_eq_true.2 fun x hx => (hI x hx).2⟩
 ·simp only [Bool.and_eq_true] at h
  have := h.2
  unfold Tm.good at this
  rw [Bool.and_eq_true] at this
  exact zlq a this.2
theorem zn6 {f : Fm} (h : f.here = true) (h3 : f.op = 3) : f.atom.atomOk = true /\ f.parts = [] := by
 unfold Fm.here at h
 rw [h3] at h
 simp only [show ((3 : Int) == 1 || (3 : Int) == 2) = false by decide, show ((3 : Int) == 3) = true by decide, if_true, Bool.false_eq_true, if_false, Bool.and_eq_true, decide_eq_true_eq, List.length_eq_zero_iff] at h
 exact ⟨h.1.2, h.1.1⟩
def vf : Fm -> List Str -> List Str := Fm.fold fun o a v _ rs b => if (o == 3) = true then (zbf [] (voS a)).filter (fun s => !b.contains s) else (rs.map fun r => r (if isQ o = true then b ++ [v] else b)).flatten
theorem qfu (f : Fm) (b : List Str) : vf f b = if (f.op == 3) = true then (zbf [] (voS f.atom)).filter (fun s => !b.contains s) else (f.parts.map fun x => vf x (if isQ f.op = true then b ++ [f.var] else b)).flatten := by
 unfold vf
 rw [Fm.fold_eq]
 simp only [List.map_map]
 rfl
theorem zkx : ∀ a : Tm, (voS a).length <= 1 + a.wt := zbd fun n xs ih => by
 rw [zij, Tm.wt_eq]
 change (if za2 n = true then [n] else (xs.map voS).flatten).length <= 1 + (n.length + xs.length + (xs.map Tm.wt).sum)
 split
 ·simp
 ·have : ((xs.map voS).flatten).length <= xs.length + (xs.map Tm.wt).sum := by
   revert ih
   induction xs with
   | nil => simp
   | cons x xs ih2 =>
    intro ih
    have h1 := ih x (by simp)
    have h2 := ih2 fun y hy => ih y (by simp [hy])
    simp only [List.map_cons, List.flatten_cons, List.length_append, List.sum_cons, List.length_cons]
    omega
  omega
theorem qe1 : ∀ (f : Fm) (b : List Str), (vf f b).length <= f.nodes + f.wt := zba fun o a v ps ih b => by
 rw [qfu, Fm.nodes_eq, Fm.wt_eq]
 change (if (o == 3) = true then (zbf [] (voS a)).filter (fun s => !b.contains s) else (ps.map fun x => vf x (if isQ o = true then b ++ [v] else b)).flatten).length <= 1 + (ps.map Fm.nodes).sum + (a.wt + v.length + ps.length + (ps.map Fm.wt).sum)
 split
 ·have h1 := List.length_filter_le (fun s => !b.contains s) (zbf [] (voS a))
  have h2 := zcx (voS a) []
  have h3 := zkx a
  simp only [List.length_nil] at h2
  omega
 ·have : ∀ b, ((ps.map fun x => vf x b).flatten).length <= (ps.map Fm.nodes).sum + (ps.map Fm.wt).sum := fun b => by
   revert ih
   induction ps with
   | nil => simp
   | cons x xs ih2 =>
    intro ih
    have h1 := ih x (by simp) b
    have h2 := ih2 fun y hy => ih y (by simp [hy])
    simp only [List.map_cons, List.flatten_cons, List.length_append, List.sum_cons]
    omega
  have := this (if isQ o = true then b ++ [v] else b)
  omega
def zfn (b l : List Str) (s : Str) : List Str := if (!b.contains s && !l.contains s) = true then l ++ [s] else l
theorem zhc (b : List Str) : ∀ (ss l : List Str), ss.foldl (zfn b) l = zbx l (ss.filter fun s => !b.contains s)
 | [], l => rfl
 | s :: ss, l => by
  rw [List.foldl_cons, zhc b ss, List.filter_cons]
  unfold zfn
  by_cases h : b.contains s = true
  ·rw [h]; simp
  ·have h : b.contains s = false := by simpa using h
   rw [h, if_pos (show (!false) = true from rfl)]
   show _ = zbx (zke l s) _
   congr 1
   unfold zke
   cases l.contains s <;> rfl
theorem zyx {b l : List Str} {s : Str} (h : (!b.contains s) = true) (h2 : (!l.contains s) = true) : zfn b l s = l ++ [s] := by unfold zfn; rw [h, h2]; rfl
theorem qdn {b l : List Str} {s : Str} (h2 : (!l.contains s) = false) : zfn b l s = l := by unfold zfn; rw [h2, Bool.and_false]; rfl
theorem qgr {b l : List Str} {s : Str} (h : (!b.contains s) = false) : zfn b l s = l := by unfold zfn; rw [h, Bool.false_and]; rfl
theorem zvh (b l : List Str) (s : Str) : (zfn b l s).length <= l.length + 1 := by unfold zfn; split <;> simp
theorem zj2 (b : List Str) : ∀ (ss l : List Str), (ss.foldl (zfn b) l).length <= l.length + ss.length
 | [], l => by simp
 | s :: ss, l => by have := zj2 b ss (zfn b l s); have := zvh b l s; simp only [List.foldl_cons, List.length_cons] at *; omega
theorem zfe {α β : Type} (g : β -> α -> β) (xs : List α) (z : β) (k : Nat) (h : k < xs.length) : (xs.take (k + 1)).foldl g z = g ((xs.take k).foldl g z) xs[k] := by
 rw [List.take_succ_eq_append_getElem h, List.foldl_append]; rfl
set_option maxHeartbeats 2000000 in
theorem zxk (f : Fm) (hf : f.forms = true) (hw : f.wt <= 1048576) (H : ∀ x ∈ f.parts, ∀ ys b : List Str, ys.length + (vf x b).length <= 1073741824 -> b.length + x.nodes <= 1073741824 -> GC Tryz.prog 183 [(true, .one (zb2 ys)), (false, fmD x), (false, .one (zb2 b))] [.one (zb2 (zbx ys (vf x b)))])
  (ys b : List Str) (hs : ys.length + (vf f b).length <= 1073741824) (hb : b.length + f.nodes <= 1073741824) : GC Tryz.prog 183 [(true, .one (zb2 ys)), (false, fmD f), (false, .one (zb2 b))] [.one (zb2 (zbx ys (vf f b)))] := by
 have hv := qfu f b
 have hN := f.nodes_eq
 have hW := f.wt_eq
 rw [Fm.forms_eq, Bool.and_eq_true] at hf
 simp only [fmD, zab]
 refine zmx Tryz.call183 Tryz.func183 rfl (by kernel_rfl) (by simp only [List.length_cons, List.length_nil, Tryz.ntmps183]; omega) (by simp [zby, T.isPin]) ?_
 simp -implicitDefEqProofs only [go_sem, Tryz.results183]
 by_cases h3 : f.op = 3
 ·obtain ⟨ha, hp⟩ := zn6 hf.1 h3
  obtain ⟨ev, ene⟩ := qhj ha
  have e3 : (f.op == 3) = true := by simp [h3]
  rw [if_pos e3] at hv
  have hvl := zkx f.atom
  have HV := zoq f.atom ene (by omega) (by rw [ev]; omega)
  rw [ev] at HV
  have hPl := zcx (voS f.atom) []
  generalize zbf [] (voS f.atom) = V at hv HV hPl
  rw [hv, <- zhc b V ys]
  simp only [tmD, zaa] at HV
  simp -implicitDefEqProofs only [go_sem, e3]
  refine zka (HV) (by simp -implicitDefEqProofs only [go_sem]) ?_
  simp -implicitDefEqProofs only [go_sem]
  refine zaf (fun k : Nat => hd [(0, .one (.ow 0 0)), (2, .one (.rn (zb2 b))), (16, .one (.rn (zb2 V))), (17, vI V.length), (18, vI k)] [] [(0, ⟨true, 1, ((V.take k).foldl (zfn b) ys).map fun s => [.str s], 0, true⟩)]) (fun k => k <= V.length) (fun k => V.length - k) 0 (zac ?_) (Nat.zero_le _) ?_
  ·simp -implicitDefEqProofs only [go_sem]
   rfl
  ·intro k hk
   by_cases hlt : k < V.length
   ·have hL := zj2 b (V.take k) ys
    rw [List.length_take] at hL
    have hnx := zfe (zfn b) V ys k hlt
    simp only [List.length_nil] at hPl
    simp -implicitDefEqProofs only [go_sem, zai, hlt]
    refine callF (zc8 b V[k]) (by simp -implicitDefEqProofs only [go_sem]) ?_
    simp -implicitDefEqProofs only [go_sem]
    refine ⟨fun h => ?_, fun h => ?_⟩
    ·refine callF (zc8 ((V.take k).foldl (zfn b) ys) V[k]) (by simp -implicitDefEqProofs only [go_sem]) ?_
     simp -implicitDefEqProofs only [go_sem]
     have hy2 : ((V.take k).foldl (zfn b) ys).length <= 4294967295 := by omega
     refine ⟨fun h2 => ?_, fun h2 => ?_⟩
     ·refine zbl (by simp -implicitDefEqProofs only [go_sem]) ?_
      simp -implicitDefEqProofs only [go_sem]
      refine apD true (by simp -implicitDefEqProofs only [go_sem, hy2, ne_eq, List.length_map]) ?_
      simp -implicitDefEqProofs only [go_sem, hy2, ne_eq, List.length_map]
      refine ⟨k + 1, hlt, by omega, zac ?_⟩
      simp -implicitDefEqProofs only [go_sem]
      rw [zao (by omega), hnx, zyx h h2]
      exact ⟨rfl, by simp⟩
     ·refine ⟨k + 1, hlt, by omega, zac ?_⟩
      simp -implicitDefEqProofs only [go_sem]
      rw [zao (by omega), hnx, qdn h2]
      exact ⟨rfl, rfl⟩
    ·refine ⟨k + 1, hlt, by omega, zac ?_⟩
     simp -implicitDefEqProofs only [go_sem]
     rw [zao (by omega), hnx, qgr h]
     exact ⟨rfl, rfl⟩
   ·simp -implicitDefEqProofs only [go_sem, hlt]
    exact Or.inl (by rw [List.take_of_length_le (by omega)])
 ·have e3 : (f.op == 3) = false := by simp [h3]
  rw [e3, if_neg (by simp)] at hv
  simp -implicitDefEqProofs only [go_sem, e3]
  refine callF (zaj f.op) (by simp -implicitDefEqProofs only [go_sem]) ?_
  simp -implicitDefEqProofs only [go_sem]
  refine ⟨fun h => ?_, fun h => ?_⟩
  ·rw [if_pos h] at hv
   rw [hv] at hs ⊢
   have hb1 : b.length <= 4294967295 := by omega
   refine drawn (by kernel_rfl) ?_
   simp -implicitDefEqProofs only [go_sem]
   refine za6 (zj6 b (by omega)) (by simp -implicitDefEqProofs only [go_sem]) ?_
   simp -implicitDefEqProofs only [go_sem]
   refine zbo (by simp -implicitDefEqProofs only [go_sem]) ?_
   simp -implicitDefEqProofs only [go_sem]
   refine zmv true (by simp -implicitDefEqProofs only [go_sem, hb1, ne_eq, List.length_map]) ?_
   simp -implicitDefEqProofs only [go_sem, hb1, ne_eq, List.length_map]
   refine ⟨by kernel_rfl, ?_⟩
   refine zaf (fun k : Nat => hd [(0, .one (.ow 0 0)), (2, .one (.rn (zb2 (b ++ [f.var])))), (48, .one (.rn (fmS f.parts))), (49, vI f.parts.length), (50, vI k)] [] [(0, ⟨true, 1, (zbx ys ((f.parts.take k).map fun x => vf x ((b ++ [f.var]))).flatten).map fun s => [.str s], 0, true⟩)]) (fun k => k <= f.parts.length) (fun k => f.parts.length - k) 0 (zac ?_) (Nat.zero_le _) ?_
   ·simp -implicitDefEqProofs only [go_sem]
    exact ⟨by simp, rfl⟩
   ·intro k hk
    by_cases hlt : k < f.parts.length
    ·have hq := zbq (fun x => vf x ((b ++ [f.var]))) f.parts k hlt
     have hL := zdg ((f.parts.take k).map fun x => vf x ((b ++ [f.var]))).flatten ys
     have hnx := zbk Fm.nodes f.parts _ (List.getElem_mem hlt)
     have HC := H f.parts[k] (List.getElem_mem hlt) (zbx ys ((f.parts.take k).map fun x => vf x ((b ++ [f.var]))).flatten) ((b ++ [f.var])) (by omega) (by simp only [List.length_append, List.length_cons, List.length_nil]; omega)
     rw [<- zf8, <- zch (fun x => vf x ((b ++ [f.var]))) f.parts k hlt] at HC
     simp only [fmD, zab f.parts[k]] at HC
     simp -implicitDefEqProofs only [go_sem, zai, hlt, zab f.parts[k]]
     refine zcj [2, 48, 49, 50] [54, 55, 56] [] (HC) (by simp -implicitDefEqProofs only [go_sem]) (by simp -implicitDefEqProofs only [go_sem]) (by simp -implicitDefEqProofs only [go_sem]) (by simp -implicitDefEqProofs only [go_sem]) ?_
     simp -implicitDefEqProofs only [go_sem]
     refine ⟨k + 1, hlt, by omega, zc9 0 1824 ?_⟩
     simp -implicitDefEqProofs only [go_sem]
     rw [zao (by omega)]
    ·simp -implicitDefEqProofs only [go_sem, hlt]
     exact Or.inl (by rw [List.take_of_length_le (by omega)])
  ·rw [h, if_neg (by simp)] at hv
   rw [hv] at hs ⊢
   refine zaf (fun k : Nat => hd [(0, .one (.ow 0 0)), (2, .one (.rn (zb2 b))), (48, .one (.rn (fmS f.parts))), (49, vI f.parts.length), (50, vI k)] [] [(0, ⟨true, 1, (zbx ys ((f.parts.take k).map fun x => vf x (b)).flatten).map fun s => [.str s], 0, true⟩)]) (fun k => k <= f.parts.length) (fun k => f.parts.length - k) 0 (zac ?_) (Nat.zero_le _) ?_
   ·simp -implicitDefEqProofs only [go_sem]
    rfl
   ·intro k hk
    by_cases hlt : k < f.parts.length
    ·have hq := zbq (fun x => vf x (b)) f.parts k hlt
     have hL := zdg ((f.parts.take k).map fun x => vf x (b)).flatten ys
     have hnx := zbk Fm.nodes f.parts _ (List.getElem_mem hlt)
     have HC := H f.parts[k] (List.getElem_mem hlt) (zbx ys ((f.parts.take k).map fun x => vf x (b)).flatten) (b) (by omega) (by omega)
     rw [<- zf8, <- zch (fun x => vf x (b)) f.parts k hlt] at HC
     simp only [fmD, zab f.parts[k]] at HC
     simp -implicitDefEqProofs only [go_sem, zai, hlt, zab f.parts[k]]
     refine zcj [2, 48, 49, 50] [54, 55, 56] [] (HC) (by simp -implicitDefEqProofs only [go_sem]) (by simp -implicitDefEqProofs only [go_sem]) (by simp -implicitDefEqProofs only [go_sem]) (by simp -implicitDefEqProofs only [go_sem]) ?_
     simp -implicitDefEqProofs only [go_sem]
     refine ⟨k + 1, hlt, by omega, zc9 0 1824 ?_⟩
     simp -implicitDefEqProofs only [go_sem]
     rw [zao (by omega)]
    ·simp -implicitDefEqProofs only [go_sem, hlt]
     exact Or.inl (by rw [List.take_of_length_le (by omega)])
theorem qay : ∀ f : Fm, f.forms = true -> f.wt <= 1048576 -> ∀ ys b : List Str, ys.length + (vf f b).length <= 1073741824 -> b.length + f.nodes <= 1073741824 -> GC Tryz.prog 183 [(true, .one (zb2 ys)), (false, fmD f), (false, .one (zb2 b))] [.one (zb2 (zbx ys (vf f b)))] :=
 zba fun o a v ps ih hf hw ys b hs hb => zxk (.mk o a v ps) hf hw (fun x hx ys b hs hb => ih x hx (by rw [Fm.forms_eq, Bool.and_eq_true] at hf; exact List.all_eq_true.1 hf.2 x hx) (Nat.le_trans (zb7 (a := .mk o a v ps) hx) hw) ys b hs hb) ys b hs hb
theorem free_c (f : Fm) (hf : f.forms = true) (hw : f.wt <= 1048576) : FC Tryz.prog 117 [fmD f] [.one (zb2 (zbf [] (vf f [])))] := by
 have h1 := qe1 f []
 have h2 := zcz f
 have HC := qay f hf hw [] [] (by simp only [List.length_nil]; omega) (by simp only [List.length_nil]; omega)
 have HS := zic (zbx [] (vf f [])) (by have := zdg (vf f []) []; simp only [List.length_nil] at this; omega)
 rw [zlh] at HS
 simp only [fmD, zab] at HC ⊢
 refine zc3 Tryz.call117 Tryz.func117 rfl (by kernel_rfl) (za1 (by kernel_rfl)) ?_
 simp -implicitDefEqProofs only [go_sem, Tryz.results117]
 refine zbl (by simp -implicitDefEqProofs only [go_sem]) ?_
 simp -implicitDefEqProofs only [go_sem]
 refine zcj [] [4, 5] [] (HC) (by simp -implicitDefEqProofs only [go_sem]) (by simp -implicitDefEqProofs only [go_sem]) (by simp -implicitDefEqProofs only [go_sem]) (by simp -implicitDefEqProofs only [go_sem]) ?_
 simp -implicitDefEqProofs only [go_sem]
 refine zu2 (HS) (by simp -implicitDefEqProofs only [go_sem, zbu]) (by simp -implicitDefEqProofs only [go_sem, zbu]) rfl ?_
 simp -implicitDefEqProofs only [go_sem, zbu]
def zg9 (b l : List Str) (s : Str) : List Str := if (!b.contains s) = true then zqw l s else l
theorem zhs (b : List Str) : ∀ (ss l : List Str), ss.foldl (zg9 b) l = zbf l (ss.filter fun s => !b.contains s)
 | [], l => rfl
 | s :: ss, l => by
  rw [List.foldl_cons, zhs b ss, List.filter_cons]
  unfold zg9
  by_cases h : b.contains s = true
  ·rw [h]; simp
  ·have h : b.contains s = false := by simpa using h
   rw [h, if_pos (show (!false) = true from rfl), if_pos (show (!false) = true from rfl)]
   rfl
theorem zvt (b l : List Str) (s : Str) : (zg9 b l s).length <= l.length + 1 := by
 unfold zg9
 split
 ·exact zsq l s
 ·omega
theorem zki (b : List Str) : ∀ (ss l : List Str), (ss.foldl (zg9 b) l).length <= l.length + ss.length
 | [], l => by simp
 | s :: ss, l => by have := zki b ss (zg9 b l s); have := zvt b l s; simp only [List.foldl_cons, List.length_cons] at *; omega
theorem zzd {b l : List Str} {s : Str} (h : (!b.contains s) = true) : zg9 b l s = zqw l s := if_pos h
theorem qfh {b l : List Str} {s : Str} (h : (!b.contains s) = false) : zg9 b l s = l := by unfold zg9; rw [h]; rfl
set_option maxHeartbeats 2000000 in
theorem zzt (f : Fm) (hf : f.forms = true) (hw : f.wt <= 1048576) (H : ∀ x ∈ f.parts, ∀ ys b : List Str, ys.length + (vf x b).length <= 1073741824 -> b.length + x.nodes <= 1073741824 -> GC Tryz.prog 226 [(true, .one (zb2 ys)), (false, fmD x), (false, .one (zb2 b))] [.one (zb2 (zbf ys (vf x b)))])
  (ys b : List Str) (hs : ys.length + (vf f b).length <= 1073741824) (hb : b.length + f.nodes <= 1073741824) : GC Tryz.prog 226 [(true, .one (zb2 ys)), (false, fmD f), (false, .one (zb2 b))] [.one (zb2 (zbf ys (vf f b)))] := by
 have hv := qfu f b
 have hN := f.nodes_eq
 have hW := f.wt_eq
 rw [Fm.forms_eq, Bool.and_eq_true] at hf
 simp only [fmD, zab]
 refine zmx Tryz.call226 Tryz.func226 rfl (by kernel_rfl) (by simp only [List.length_cons, List.length_nil, Tryz.ntmps226]; omega) (by simp [zby, T.isPin]) ?_
 simp -implicitDefEqProofs only [go_sem, Tryz.results226]
 by_cases h3 : f.op = 3
 ·obtain ⟨ha, hp⟩ := zn6 hf.1 h3
  have e3 : (f.op == 3) = true := by simp [h3]
  have e8 : (f.op == 8) = false := by simp [h3]
  have e9 : (f.op == 9) = false := by simp [h3]
  rw [if_pos e3] at hv
  have hvl := zkx f.atom
  have HV := zk1 f.atom (by omega) (by omega)
  have hPl := zcx (voS f.atom) []
  generalize zbf [] (voS f.atom) = V at hv HV hPl
  simp only [List.length_nil] at hPl
  rw [hv, <- zhs b V ys]
  simp only [tmD, zaa] at HV
  simp -implicitDefEqProofs only [go_sem, e3]
  refine zka (HV) (by simp -implicitDefEqProofs only [go_sem]) ?_
  simp -implicitDefEqProofs only [go_sem]
  refine zaf (fun k : Nat => hd [(0, .one (.ow 0 0)), (2, .one (.rn (zb2 b))), (4, .one (.bx 4 0)), (7, .one (.rn (zb2 V))), (8, vI k)] [(4, [.t (.int .i64 f.op), .t (.str f.atom.name), .rn (tmS f.atom.args), .t (.str f.var), .rn (fmS f.parts)])] [(0, ⟨true, 1, ((V.take k).foldl (zg9 b) ys).map fun s => [.str s], 0, true⟩)]) (fun k => k <= V.length) (fun k => V.length - k) 0 (zac ?_) (Nat.zero_le _) ?_
  ·simp -implicitDefEqProofs only [go_sem]
   rfl
  ·intro k hk
   by_cases hlt : k < V.length
   ·have hL := zki b (V.take k) ys
    rw [List.length_take] at hL
    have hnx := zfe (zg9 b) V ys k hlt
    simp -implicitDefEqProofs only [go_sem, zai, hlt]
    refine callF (zq8 b V[k]) (by simp -implicitDefEqProofs only [go_sem]) ?_
    simp -implicitDefEqProofs only [go_sem]
    refine ⟨fun h => ?_, fun h => ?_⟩
    ·simp -implicitDefEqProofs only [go_sem, zai, hlt]
     refine zcj [2, 4, 7, 8] [29, 33] [] (zze ((V.take k).foldl (zg9 b) ys) V[k] (by omega)) (by simp -implicitDefEqProofs only [go_sem]) (by simp -implicitDefEqProofs only [go_sem]) (by simp -implicitDefEqProofs only [go_sem]) (by simp -implicitDefEqProofs only [go_sem]) ?_
     simp -implicitDefEqProofs only [go_sem]
     refine ⟨k + 1, hlt, by omega, zc9 0 1088 ?_⟩
     simp -implicitDefEqProofs only [go_sem]
     rw [zao (by omega), hnx, zzd h]
     exact ⟨rfl, rfl⟩
    ·refine ⟨k + 1, hlt, by omega, zac ?_⟩
     simp -implicitDefEqProofs only [go_sem]
     rw [zao (by omega), hnx, qfh h]
     exact ⟨rfl, rfl⟩
   ·rw [List.take_of_length_le (by omega)]
    have hr : ∃ R, V.foldl (zg9 b) ys = R := ⟨_, rfl⟩
    obtain ⟨R, hR⟩ := hr
    rw [hR]
    simp -implicitDefEqProofs only [go_sem, hlt, e8, e9]
    refine zaf (fun k : Nat => hd [(0, .one (.ow 0 0)), (2, .one (.rn (zb2 b))), (4, .one (.bx 4 0)), (9, vI k)] [(4, [.t (.int .i64 f.op), .t (.str f.atom.name), .rn (tmS f.atom.args), .t (.str f.var), .rn (fmS f.parts)])] [(0, ⟨true, 1, R.map fun s => [.str s], 0, true⟩)]) (fun k => k = 0) (fun k => 0) 0 (zac ?_) rfl ?_
    ·simp -implicitDefEqProofs only [go_sem]
    ·rintro k rfl
     have hp0 : f.parts.length = 0 := by rw [hp]; rfl
     simp -implicitDefEqProofs only [go_sem, hp0]
 ·have e3 : (f.op == 3) = false := by simp [h3]
  rw [e3, if_neg (by simp)] at hv
  by_cases hq8 : isQ f.op = true
  ·rw [if_pos hq8] at hv
   rw [hv] at hs ⊢
   have hb1 : b.length <= 4294967296 := by omega
   have hb2 : b.length <= 4294967295 := by omega
   have key : (f.op == 8) = true \/ ((f.op == 8) = false /\ (f.op == 9) = true) := by
    unfold isQ at hq8
    cases h8 : f.op == 8
    ·rw [h8, Bool.false_or] at hq8; exact Or.inr ⟨rfl, hq8⟩
    ·exact Or.inl rfl
   rcases key with e8 | ⟨e8, e9⟩
   ·simp -implicitDefEqProofs only [go_sem, e3, e8]
    refine drawn (by kernel_rfl) ?_
    simp -implicitDefEqProofs only [go_sem]
    refine zbo (by simp -implicitDefEqProofs only [go_sem]) ?_
    simp -implicitDefEqProofs only [go_sem]
    refine zmv true (by simp -implicitDefEqProofs only [go_sem, hb1, zbu, ne_eq, List.length_map, Nat.zero_add]) ?_
    simp -implicitDefEqProofs only [go_sem, hb1, zbu, ne_eq, List.length_map, Nat.zero_add]
    refine zbo (by simp -implicitDefEqProofs only [go_sem]) ?_
    simp -implicitDefEqProofs only [go_sem]
    refine zmv true (by simp -implicitDefEqProofs only [go_sem, hb2, ne_eq, List.length_map]) ?_
    simp -implicitDefEqProofs only [go_sem, hb2, ne_eq, List.length_map]
    refine ⟨by kernel_rfl, ?_⟩
    refine zaf (fun k : Nat => hd [(0, .one (.ow 0 0)), (2, .one (.rn (zb2 (b ++ [f.var])))), (4, .one (.bx 4 0)), (9, vI k)] [(4, [.t (.int .i64 f.op), .t (.str f.atom.name), .rn (tmS f.atom.args), .t (.str f.var), .rn (fmS f.parts)])] [(0, ⟨true, 1, (zbf ys ((f.parts.take k).map fun x => vf x ((b ++ [f.var]))).flatten).map fun s => [.str s], 0, true⟩)]) (fun k => k <= f.parts.length) (fun k => f.parts.length - k) 0 (zac ?_) (Nat.zero_le _) ?_
    ·simp -implicitDefEqProofs only [go_sem]
     exact ⟨by simp, rfl⟩
    ·intro k hk
     by_cases hlt : k < f.parts.length
     ·have hq := zbq (fun x => vf x ((b ++ [f.var]))) f.parts k hlt
      have hL := zcx ((f.parts.take k).map fun x => vf x ((b ++ [f.var]))).flatten ys
      have hnx := zbk Fm.nodes f.parts _ (List.getElem_mem hlt)
      have HC := H f.parts[k] (List.getElem_mem hlt) (zbf ys ((f.parts.take k).map fun x => vf x ((b ++ [f.var]))).flatten) ((b ++ [f.var])) (by omega) (by simp only [List.length_append, List.length_cons, List.length_nil]; omega)
      rw [<- zgf, <- zch (fun x => vf x ((b ++ [f.var]))) f.parts k hlt] at HC
      simp only [fmD, zab f.parts[k]] at HC
      simp -implicitDefEqProofs only [go_sem, zai, hlt, zab f.parts[k]]
      refine zcj [2, 4, 9] [57, 62, 63] [] (HC) (by simp -implicitDefEqProofs only [go_sem]) (by simp -implicitDefEqProofs only [go_sem]) (by simp -implicitDefEqProofs only [go_sem]) (by simp -implicitDefEqProofs only [go_sem]) ?_
      simp -implicitDefEqProofs only [go_sem]
      refine ⟨k + 1, hlt, by omega, zc9 0 2048 ?_⟩
      simp -implicitDefEqProofs only [go_sem]
      rw [zao (by omega)]
     ·simp -implicitDefEqProofs only [go_sem, hlt]
      exact Or.inl (by rw [List.take_of_length_le (by omega)])
   ·simp -implicitDefEqProofs only [go_sem, e3, e8, e9]
    refine drawn (by kernel_rfl) ?_
    simp -implicitDefEqProofs only [go_sem]
    refine zbo (by simp -implicitDefEqProofs only [go_sem]) ?_
    simp -implicitDefEqProofs only [go_sem]
    refine zmv true (by simp -implicitDefEqProofs only [go_sem, hb1, zbu, ne_eq, List.length_map, Nat.zero_add]) ?_
    simp -implicitDefEqProofs only [go_sem, hb1, zbu, ne_eq, List.length_map, Nat.zero_add]
    refine zbo (by simp -implicitDefEqProofs only [go_sem]) ?_
    simp -implicitDefEqProofs only [go_sem]
    refine zmv true (by simp -implicitDefEqProofs only [go_sem, hb2, ne_eq, List.length_map]) ?_
    simp -implicitDefEqProofs only [go_sem, hb2, ne_eq, List.length_map]
    refine ⟨by kernel_rfl, ?_⟩
    refine zaf (fun k : Nat => hd [(0, .one (.ow 0 0)), (2, .one (.rn (zb2 (b ++ [f.var])))), (4, .one (.bx 4 0)), (9, vI k)] [(4, [.t (.int .i64 f.op), .t (.str f.atom.name), .rn (tmS f.atom.args), .t (.str f.var), .rn (fmS f.parts)])] [(0, ⟨true, 1, (zbf ys ((f.parts.take k).map fun x => vf x ((b ++ [f.var]))).flatten).map fun s => [.str s], 0, true⟩)]) (fun k => k <= f.parts.length) (fun k => f.parts.length - k) 0 (zac ?_) (Nat.zero_le _) ?_
    ·simp -implicitDefEqProofs only [go_sem]
     exact ⟨by simp, rfl⟩
    ·intro k hk
     by_cases hlt : k < f.parts.length
     ·have hq := zbq (fun x => vf x ((b ++ [f.var]))) f.parts k hlt
      have hL := zcx ((f.parts.take k).map fun x => vf x ((b ++ [f.var]))).flatten ys
      have hnx := zbk Fm.nodes f.parts _ (List.getElem_mem hlt)
      have HC := H f.parts[k] (List.getElem_mem hlt) (zbf ys ((f.parts.take k).map fun x => vf x ((b ++ [f.var]))).flatten) ((b ++ [f.var])) (by omega) (by simp only [List.length_append, List.length_cons, List.length_nil]; omega)
      rw [<- zgf, <- zch (fun x => vf x ((b ++ [f.var]))) f.parts k hlt] at HC
      simp only [fmD, zab f.parts[k]] at HC
      simp -implicitDefEqProofs only [go_sem, zai, hlt, zab f.parts[k]]
      refine zcj [2, 4, 9] [57, 62, 63] [] (HC) (by simp -implicitDefEqProofs only [go_sem]) (by simp -implicitDefEqProofs only [go_sem]) (by simp -implicitDefEqProofs only [go_sem]) (by simp -implicitDefEqProofs only [go_sem]) ?_
      simp -implicitDefEqProofs only [go_sem]
      refine ⟨k + 1, hlt, by omega, zc9 0 2048 ?_⟩
      simp -implicitDefEqProofs only [go_sem]
      rw [zao (by omega)]
     ·simp -implicitDefEqProofs only [go_sem, hlt]
      exact Or.inl (by rw [List.take_of_length_le (by omega)])
  ·have hq : isQ f.op = false := by simpa using hq8
   rw [hq, if_neg (by simp)] at hv
   rw [hv] at hs ⊢
   unfold isQ at hq
   rw [Bool.or_eq_false_iff] at hq
   obtain ⟨e8, e9⟩ := hq
   simp -implicitDefEqProofs only [go_sem, e3, e8, e9]
   refine zaf (fun k : Nat => hd [(0, .one (.ow 0 0)), (2, .one (.rn (zb2 b))), (4, .one (.bx 4 0)), (9, vI k)] [(4, [.t (.int .i64 f.op), .t (.str f.atom.name), .rn (tmS f.atom.args), .t (.str f.var), .rn (fmS f.parts)])] [(0, ⟨true, 1, (zbf ys ((f.parts.take k).map fun x => vf x (b)).flatten).map fun s => [.str s], 0, true⟩)]) (fun k => k <= f.parts.length) (fun k => f.parts.length - k) 0 (zac ?_) (Nat.zero_le _) ?_
   ·simp -implicitDefEqProofs only [go_sem]
    rfl
   ·intro k hk
    by_cases hlt : k < f.parts.length
    ·have hq := zbq (fun x => vf x (b)) f.parts k hlt
     have hL := zcx ((f.parts.take k).map fun x => vf x (b)).flatten ys
     have hnx := zbk Fm.nodes f.parts _ (List.getElem_mem hlt)
     have HC := H f.parts[k] (List.getElem_mem hlt) (zbf ys ((f.parts.take k).map fun x => vf x (b)).flatten) (b) (by omega) (by omega)
     rw [<- zgf, <- zch (fun x => vf x (b)) f.parts k hlt] at HC
     simp only [fmD, zab f.parts[k]] at HC
     simp -implicitDefEqProofs only [go_sem, zai, hlt, zab f.parts[k]]
     refine zcj [2, 4, 9] [57, 62, 63] [] (HC) (by simp -implicitDefEqProofs only [go_sem]) (by simp -implicitDefEqProofs only [go_sem]) (by simp -implicitDefEqProofs only [go_sem]) (by simp -implicitDefEqProofs only [go_sem]) ?_
     simp -implicitDefEqProofs only [go_sem]
     refine ⟨k + 1, hlt, by omega, zc9 0 2048 ?_⟩
     simp -implicitDefEqProofs only [go_sem]
     rw [zao (by omega)]
    ·simp -implicitDefEqProofs only [go_sem, hlt]
     exact Or.inl (by rw [List.take_of_length_le (by omega)])
theorem qbn : ∀ f : Fm, f.forms = true -> f.wt <= 1048576 -> ∀ ys b : List Str, ys.length + (vf f b).length <= 1073741824 -> b.length + f.nodes <= 1073741824 -> GC Tryz.prog 226 [(true, .one (zb2 ys)), (false, fmD f), (false, .one (zb2 b))] [.one (zb2 (zbf ys (vf f b)))] :=
 zba fun o a v ps ih hf hw ys b hs hb => zzt (.mk o a v ps) hf hw (fun x hx ys b hs hb => ih x hx (by rw [Fm.forms_eq, Bool.and_eq_true] at hf; exact List.all_eq_true.1 hf.2 x hx) (Nat.le_trans (zb7 (a := .mk o a v ps) hx) hw) ys b hs hb) ys b hs hb
theorem zqz (f : Fm) (hf : f.forms = true) (hw : f.wt <= 1048576) : FC Tryz.prog 159 [fmD f] [.one (zb2 (zbf [] (vf f [])))] := by
 have h1 := qe1 f []
 have h2 := zcz f
 have HC := qbn f hf hw [] [] (by simp only [List.length_nil]; omega) (by simp only [List.length_nil]; omega)
 simp only [fmD, zab] at HC ⊢
 refine zc3 Tryz.call159 Tryz.func159 rfl (by kernel_rfl) (za1 (by kernel_rfl)) ?_
 simp -implicitDefEqProofs only [go_sem, Tryz.results159]
 refine zbl (by simp -implicitDefEqProofs only [go_sem]) ?_
 simp -implicitDefEqProofs only [go_sem]
 refine zbl (by simp -implicitDefEqProofs only [go_sem]) ?_
 simp -implicitDefEqProofs only [go_sem]
 refine frzO 160 rfl rfl ?_
 simp -implicitDefEqProofs only [go_sem]
 refine zcj [] [3, 4, 5] [] (HC) (by simp -implicitDefEqProofs only [go_sem, zb2, List.map_nil]) (by simp -implicitDefEqProofs only [go_sem, zb2, List.map_nil]) (by simp -implicitDefEqProofs only [go_sem, zb2, List.map_nil]) (by simp -implicitDefEqProofs only [go_sem, zb2, List.map_nil]) ?_
 simp -implicitDefEqProofs only [go_sem, zb2, List.map_nil]
end Go.Proofs.YtemnhgmgeijkcaaGreat
namespace Go.Proofs.YtemnhgmgeijkcaaGreat
set_option linter.unusedSimpArgs false
set_option linter.unusedVariables false
set_option linter.unusedSectionVars false
set_option maxRecDepth 4000
open Go.RowKit
variable {P : Program}
attribute [go_sem] bxA List.flatten_cons List.flatten_nil
end Go.Proofs.YtemnhgmgeijkcaaGreat
namespace Go.Proofs.YtemnhgmgeijkcaaGreat
set_option linter.unusedSimpArgs false
set_option linter.unusedVariables false
set_option linter.unusedSectionVars false
set_option maxRecDepth 4000
open Go.RowKit
def bnC (p : Str × Tm) : List T := .str p.1 :: tmC p.2
def sbS (l : List (Str × Tm)) : T := .sl 3 (l.map bnC)
theorem zq2 (n : Str) (t : Tm) : bnC (n, t) = [.str n, .str t.name, .sl 2 (t.args.map tmC)] := by unfold bnC; rw [zaa]
end Go.Proofs.YtemnhgmgeijkcaaGreat
namespace Go.Proofs.YtemnhgmgeijkcaaGreat
set_option linter.unusedSimpArgs false
set_option linter.unusedVariables false
set_option linter.unusedSectionVars false
set_option maxRecDepth 4000
open Go.RowKit
def mkF (op : Int) (ps : List Fm) : Fm := .mk op (.mk [] []) [] ps
theorem zcm (op : Int) (ps : List Fm) : fmC (mkF op ps) = [.int .i64 op, .str [], .sl 2 [], .str [], .sl 5 (ps.map fmC)] := zab _
end Go.Proofs.YtemnhgmgeijkcaaGreat
namespace Go.Proofs.YtemnhgmgeijkcaaGreat
set_option linter.unusedSimpArgs false
set_option linter.unusedVariables false
set_option linter.unusedSectionVars false
set_option maxRecDepth 4000
open Go.RowKit
set_option maxHeartbeats 4000000 in
theorem zuh (f : Fm) (hs : f.wt <= 1099511627776) (H : ∀ x ∈ f.parts, FC Tryz.prog 182 [fmD x] [bD x.forms]) : FC Tryz.prog 182 [fmD f] [bD f.forms] := by
 have H1 : ∀ x ∈ f.parts, FC Tryz.prog 245 [fmD x] [bD (!x.forms)] := fun x hx => by
  simp only [fmD, zab]
  refine zam Tryz.call245 Tryz.func245 rfl (by kernel_rfl) (za1 (by kernel_rfl)) ?_
  simp -implicitDefEqProofs only [go_sem, Tryz.results245]
  refine callF (H x hx) (by simp -implicitDefEqProofs only [go_sem, zab]) ?_
  simp -implicitDefEqProofs only [go_sem, zab]
 have hN := f.forms_eq
 obtain ⟨o, a, v, ps⟩ := f
 have ha : a.wt <= 1099511627776 := Nat.le_trans (zk0 (.mk o a v ps)) hs
 have e0 : ((ps.length : Int) != 0) = !decide (ps.length = 0) := zor _ 0
 have e1 : ((ps.length : Int) != 1) = !decide (ps.length = 1) := zor _ 1
 have e2 : ((ps.length : Int) != 2) = !decide (ps.length = 2) := zor _ 2
 simp only [Fm.parts] at H1 hN
 rcases zsk o with rfl | rfl | rfl | rfl | rfl | rfl | rfl | rfl | rfl | ⟨n1, n2, n3, n4, n5, n6, n7, n8, n9⟩
 ·have hH : Fm.here (.mk 1 a v ps) = (decide (ps.length = 0) && a.none && (v == [])) := rfl
  rw [hH] at hN
  have hq : isQ 1 = false := rfl
  have hb : zkd 1 = false := rfl
  simp only [fmD, zab, Fm.op, Fm.atom, Fm.var, Fm.parts]
  refine zam Tryz.call182 Tryz.func182 rfl (by kernel_rfl) (za1 (by kernel_rfl)) ?_
  simp -implicitDefEqProofs only [go_sem, Tryz.results182]
  simp only [e0]
  refine ⟨fun h => ?_, fun h => ?_⟩
  ·have h' : decide (ps.length = 0) = true := by simpa using h
   refine callF (zaj 1) (by simp -implicitDefEqProofs only [go_sem, hq]) ?_
   simp -implicitDefEqProofs only [go_sem, hq]
   refine callF (zaj 1) (by simp -implicitDefEqProofs only [go_sem, hq]) ?_
   simp -implicitDefEqProofs only [go_sem, hq]
   refine ⟨fun h1 => ?_, fun h1 => ?_⟩
   ·rw [hN, show (v == []) = false by simpa using h1, Bool.and_false, Bool.false_and]
   ·have h1' : (v == []) = true := by simpa using h1
    refine callF (zbr a) (by simp -implicitDefEqProofs only [go_sem, zaa]) ?_
    simp -implicitDefEqProofs only [go_sem, zaa]
    refine ⟨fun h2 => ?_, fun h2 => ?_⟩
    ·rw [hN, show a.none = false by simpa using h2, Bool.and_false, Bool.false_and, Bool.false_and]
    ·have h2' : a.none = true := by simpa using h2
     refine callF (zaq ps (fun x => !x.forms) _ [] H1) (by simp -implicitDefEqProofs only [go_sem]) ?_
     simp -implicitDefEqProofs only [go_sem]
     rw [zc0, hN, h', h1', h2']; rfl
  ·rw [hN, show decide (ps.length = 0) = false by simpa using h]; rfl
 ·have hH : Fm.here (.mk 2 a v ps) = (decide (ps.length = 0) && a.none && (v == [])) := rfl
  rw [hH] at hN
  have hq : isQ 2 = false := rfl
  have hb : zkd 2 = false := rfl
  simp only [fmD, zab, Fm.op, Fm.atom, Fm.var, Fm.parts]
  refine zam Tryz.call182 Tryz.func182 rfl (by kernel_rfl) (za1 (by kernel_rfl)) ?_
  simp -implicitDefEqProofs only [go_sem, Tryz.results182]
  simp only [e0]
  refine ⟨fun h => ?_, fun h => ?_⟩
  ·have h' : decide (ps.length = 0) = true := by simpa using h
   refine callF (zaj 2) (by simp -implicitDefEqProofs only [go_sem, hq]) ?_
   simp -implicitDefEqProofs only [go_sem, hq]
   refine callF (zaj 2) (by simp -implicitDefEqProofs only [go_sem, hq]) ?_
   simp -implicitDefEqProofs only [go_sem, hq]
   refine ⟨fun h1 => ?_, fun h1 => ?_⟩
   ·rw [hN, show (v == []) = false by simpa using h1, Bool.and_false, Bool.false_and]
   ·have h1' : (v == []) = true := by simpa using h1
    refine callF (zbr a) (by simp -implicitDefEqProofs only [go_sem, zaa]) ?_
    simp -implicitDefEqProofs only [go_sem, zaa]
    refine ⟨fun h2 => ?_, fun h2 => ?_⟩
    ·rw [hN, show a.none = false by simpa using h2, Bool.and_false, Bool.false_and, Bool.false_and]
    ·have h2' : a.none = true := by simpa using h2
     refine callF (zaq ps (fun x => !x.forms) _ [] H1) (by simp -implicitDefEqProofs only [go_sem]) ?_
     simp -implicitDefEqProofs only [go_sem]
     rw [zc0, hN, h', h1', h2']; rfl
  ·rw [hN, show decide (ps.length = 0) = false by simpa using h]; rfl
 ·have hH : Fm.here (.mk 3 a v ps) = (decide (ps.length = 0) && a.atomOk && (v == [])) := rfl
  rw [hH] at hN
  have hq : isQ 3 = false := rfl
  have hb : zkd 3 = false := rfl
  simp only [fmD, zab, Fm.op, Fm.atom, Fm.var, Fm.parts]
  refine zam Tryz.call182 Tryz.func182 rfl (by kernel_rfl) (za1 (by kernel_rfl)) ?_
  simp -implicitDefEqProofs only [go_sem, Tryz.results182]
  simp only [e0]
  refine ⟨fun h => ?_, fun h => ?_⟩
  ·have h' : decide (ps.length = 0) = true := by simpa using h
   refine callF (zaj 3) (by simp -implicitDefEqProofs only [go_sem, hq]) ?_
   simp -implicitDefEqProofs only [go_sem, hq]
   refine callF (zaj 3) (by simp -implicitDefEqProofs only [go_sem, hq]) ?_
   simp -implicitDefEqProofs only [go_sem, hq]
   refine ⟨fun h1 => ?_, fun h1 => ?_⟩
   ·rw [hN, show (v == []) = false by simpa using h1, Bool.and_false, Bool.false_and]
   ·have h1' : (v == []) = true := by simpa using h1
    refine callF (zl2 a ha) (by simp -implicitDefEqProofs only [go_sem, zaa]) ?_
    simp -implicitDefEqProofs only [go_sem, zaa]
    refine And.symm ⟨fun h2 => ?_, fun h2 => ?_⟩
    ·rw [hN, show a.atomOk = false by simpa using h2, Bool.and_false, Bool.false_and, Bool.false_and]
    ·have h2' : a.atomOk = true := by simpa using h2
     refine callF (zaq ps (fun x => !x.forms) _ [] H1) (by simp -implicitDefEqProofs only [go_sem]) ?_
     simp -implicitDefEqProofs only [go_sem]
     rw [zc0, hN, h', h1', h2']; rfl
  ·rw [hN, show decide (ps.length = 0) = false by simpa using h]; rfl
 ·have hH : Fm.here (.mk 4 a v ps) = (decide (ps.length = 1) && a.none && (v == [])) := rfl
  rw [hH] at hN
  have hq : isQ 4 = false := rfl
  have hb : zkd 4 = false := rfl
  simp only [fmD, zab, Fm.op, Fm.atom, Fm.var, Fm.parts]
  refine zam Tryz.call182 Tryz.func182 rfl (by kernel_rfl) (za1 (by kernel_rfl)) ?_
  simp -implicitDefEqProofs only [go_sem, Tryz.results182]
  simp only [e1]
  refine ⟨fun h => ?_, fun h => ?_⟩
  ·have h' : decide (ps.length = 1) = true := by simpa using h
   refine callF (zaj 4) (by simp -implicitDefEqProofs only [go_sem, hq]) ?_
   simp -implicitDefEqProofs only [go_sem, hq]
   refine callF (zaj 4) (by simp -implicitDefEqProofs only [go_sem, hq]) ?_
   simp -implicitDefEqProofs only [go_sem, hq]
   refine ⟨fun h1 => ?_, fun h1 => ?_⟩
   ·rw [hN, show (v == []) = false by simpa using h1, Bool.and_false, Bool.false_and]
   ·have h1' : (v == []) = true := by simpa using h1
    refine callF (zbr a) (by simp -implicitDefEqProofs only [go_sem, zaa]) ?_
    simp -implicitDefEqProofs only [go_sem, zaa]
    refine ⟨fun h2 => ?_, fun h2 => ?_⟩
    ·rw [hN, show a.none = false by simpa using h2, Bool.and_false, Bool.false_and, Bool.false_and]
    ·have h2' : a.none = true := by simpa using h2
     refine callF (zaq ps (fun x => !x.forms) _ [] H1) (by simp -implicitDefEqProofs only [go_sem]) ?_
     simp -implicitDefEqProofs only [go_sem]
     rw [zc0, hN, h', h1', h2']; rfl
  ·rw [hN, show decide (ps.length = 1) = false by simpa using h]; rfl
 ·have hH : Fm.here (.mk 5 a v ps) = (decide (ps.length = 2) && a.none && (v == [])) := rfl
  rw [hH] at hN
  have hq : isQ 5 = false := rfl
  have hb : zkd 5 = true := rfl
  simp only [fmD, zab, Fm.op, Fm.atom, Fm.var, Fm.parts]
  refine zam Tryz.call182 Tryz.func182 rfl (by kernel_rfl) (za1 (by kernel_rfl)) ?_
  simp -implicitDefEqProofs only [go_sem, Tryz.results182]
  refine callF (zaj 5) (by simp -implicitDefEqProofs only [go_sem, hq]) ?_
  simp -implicitDefEqProofs only [go_sem, hq]
  refine callF (zfh 5) (by simp -implicitDefEqProofs only [go_sem, hb]) ?_
  simp -implicitDefEqProofs only [go_sem, hb]
  simp only [e2]
  refine ⟨fun h => ?_, fun h => ?_⟩
  ·have h' : decide (ps.length = 2) = true := by simpa using h
   refine callF (zaj 5) (by simp -implicitDefEqProofs only [go_sem, hq]) ?_
   simp -implicitDefEqProofs only [go_sem, hq]
   refine callF (zaj 5) (by simp -implicitDefEqProofs only [go_sem, hq]) ?_
   simp -implicitDefEqProofs only [go_sem, hq]
   refine ⟨fun h1 => ?_, fun h1 => ?_⟩
   ·rw [hN, show (v == []) = false by simpa using h1, Bool.and_false, Bool.false_and]
   ·have h1' : (v == []) = true := by simpa using h1
    refine callF (zbr a) (by simp -implicitDefEqProofs only [go_sem, zaa]) ?_
    simp -implicitDefEqProofs only [go_sem, zaa]
    refine ⟨fun h2 => ?_, fun h2 => ?_⟩
    ·rw [hN, show a.none = false by simpa using h2, Bool.and_false, Bool.false_and, Bool.false_and]
    ·have h2' : a.none = true := by simpa using h2
     refine callF (zaq ps (fun x => !x.forms) _ [] H1) (by simp -implicitDefEqProofs only [go_sem]) ?_
     simp -implicitDefEqProofs only [go_sem]
     rw [zc0, hN, h', h1', h2']; rfl
  ·rw [hN, show decide (ps.length = 2) = false by simpa using h]; rfl
 ·have hH : Fm.here (.mk 6 a v ps) = (decide (ps.length = 2) && a.none && (v == [])) := rfl
  rw [hH] at hN
  have hq : isQ 6 = false := rfl
  have hb : zkd 6 = true := rfl
  simp only [fmD, zab, Fm.op, Fm.atom, Fm.var, Fm.parts]
  refine zam Tryz.call182 Tryz.func182 rfl (by kernel_rfl) (za1 (by kernel_rfl)) ?_
  simp -implicitDefEqProofs only [go_sem, Tryz.results182]
  refine callF (zaj 6) (by simp -implicitDefEqProofs only [go_sem, hq]) ?_
  simp -implicitDefEqProofs only [go_sem, hq]
  refine callF (zfh 6) (by simp -implicitDefEqProofs only [go_sem, hb]) ?_
  simp -implicitDefEqProofs only [go_sem, hb]
  simp only [e2]
  refine ⟨fun h => ?_, fun h => ?_⟩
  ·have h' : decide (ps.length = 2) = true := by simpa using h
   refine callF (zaj 6) (by simp -implicitDefEqProofs only [go_sem, hq]) ?_
   simp -implicitDefEqProofs only [go_sem, hq]
   refine callF (zaj 6) (by simp -implicitDefEqProofs only [go_sem, hq]) ?_
   simp -implicitDefEqProofs only [go_sem, hq]
   refine ⟨fun h1 => ?_, fun h1 => ?_⟩
   ·rw [hN, show (v == []) = false by simpa using h1, Bool.and_false, Bool.false_and]
   ·have h1' : (v == []) = true := by simpa using h1
    refine callF (zbr a) (by simp -implicitDefEqProofs only [go_sem, zaa]) ?_
    simp -implicitDefEqProofs only [go_sem, zaa]
    refine ⟨fun h2 => ?_, fun h2 => ?_⟩
    ·rw [hN, show a.none = false by simpa using h2, Bool.and_false, Bool.false_and, Bool.false_and]
    ·have h2' : a.none = true := by simpa using h2
     refine callF (zaq ps (fun x => !x.forms) _ [] H1) (by simp -implicitDefEqProofs only [go_sem]) ?_
     simp -implicitDefEqProofs only [go_sem]
     rw [zc0, hN, h', h1', h2']; rfl
  ·rw [hN, show decide (ps.length = 2) = false by simpa using h]; rfl
 ·have hH : Fm.here (.mk 7 a v ps) = (decide (ps.length = 2) && a.none && (v == [])) := rfl
  rw [hH] at hN
  have hq : isQ 7 = false := rfl
  have hb : zkd 7 = true := rfl
  simp only [fmD, zab, Fm.op, Fm.atom, Fm.var, Fm.parts]
  refine zam Tryz.call182 Tryz.func182 rfl (by kernel_rfl) (za1 (by kernel_rfl)) ?_
  simp -implicitDefEqProofs only [go_sem, Tryz.results182]
  refine callF (zaj 7) (by simp -implicitDefEqProofs only [go_sem, hq]) ?_
  simp -implicitDefEqProofs only [go_sem, hq]
  refine callF (zfh 7) (by simp -implicitDefEqProofs only [go_sem, hb]) ?_
  simp -implicitDefEqProofs only [go_sem, hb]
  simp only [e2]
  refine ⟨fun h => ?_, fun h => ?_⟩
  ·have h' : decide (ps.length = 2) = true := by simpa using h
   refine callF (zaj 7) (by simp -implicitDefEqProofs only [go_sem, hq]) ?_
   simp -implicitDefEqProofs only [go_sem, hq]
   refine callF (zaj 7) (by simp -implicitDefEqProofs only [go_sem, hq]) ?_
   simp -implicitDefEqProofs only [go_sem, hq]
   refine ⟨fun h1 => ?_, fun h1 => ?_⟩
   ·rw [hN, show (v == []) = false by simpa using h1, Bool.and_false, Bool.false_and]
   ·have h1' : (v == []) = true := by simpa using h1
    refine callF (zbr a) (by simp -implicitDefEqProofs only [go_sem, zaa]) ?_
    simp -implicitDefEqProofs only [go_sem, zaa]
    refine ⟨fun h2 => ?_, fun h2 => ?_⟩
    ·rw [hN, show a.none = false by simpa using h2, Bool.and_false, Bool.false_and, Bool.false_and]
    ·have h2' : a.none = true := by simpa using h2
     refine callF (zaq ps (fun x => !x.forms) _ [] H1) (by simp -implicitDefEqProofs only [go_sem]) ?_
     simp -implicitDefEqProofs only [go_sem]
     rw [zc0, hN, h', h1', h2']; rfl
  ·rw [hN, show decide (ps.length = 2) = false by simpa using h]; rfl
 ·have hH : Fm.here (.mk 8 a v ps) = (decide (ps.length = 1) && a.none && za2 v) := rfl
  rw [hH] at hN
  have hq : isQ 8 = true := rfl
  have hb : zkd 8 = false := rfl
  simp only [fmD, zab, Fm.op, Fm.atom, Fm.var, Fm.parts]
  refine zam Tryz.call182 Tryz.func182 rfl (by kernel_rfl) (za1 (by kernel_rfl)) ?_
  simp -implicitDefEqProofs only [go_sem, Tryz.results182]
  refine callF (zaj 8) (by simp -implicitDefEqProofs only [go_sem, hq]) ?_
  simp -implicitDefEqProofs only [go_sem, hq]
  simp only [e1]
  refine ⟨fun h => ?_, fun h => ?_⟩
  ·have h' : decide (ps.length = 1) = true := by simpa using h
   refine callF (zaj 8) (by simp -implicitDefEqProofs only [go_sem, hq]) ?_
   simp -implicitDefEqProofs only [go_sem, hq]
   refine callF (ze1 v) (by simp -implicitDefEqProofs only [go_sem]) ?_
   simp -implicitDefEqProofs only [go_sem]
   refine ⟨fun h1 => ?_, fun h1 => ?_⟩
   ·have h1' : za2 v = true := by simpa using h1
    refine callF (zaj 8) (by simp -implicitDefEqProofs only [go_sem, hq]) ?_
    simp -implicitDefEqProofs only [go_sem, hq]
    refine callF (zbr a) (by simp -implicitDefEqProofs only [go_sem, zaa]) ?_
    simp -implicitDefEqProofs only [go_sem, zaa]
    refine ⟨fun h2 => ?_, fun h2 => ?_⟩
    ·rw [hN, show a.none = false by simpa using h2, Bool.and_false, Bool.false_and, Bool.false_and]
    ·have h2' : a.none = true := by simpa using h2
     refine callF (zaq ps (fun x => !x.forms) _ [] H1) (by simp -implicitDefEqProofs only [go_sem]) ?_
     simp -implicitDefEqProofs only [go_sem]
     rw [zc0, hN, h', h1', h2']; rfl
   ·rw [hN, show za2 v = false by simpa using h1, Bool.and_false, Bool.false_and]
  ·rw [hN, show decide (ps.length = 1) = false by simpa using h]; rfl
 ·have hH : Fm.here (.mk 9 a v ps) = (decide (ps.length = 1) && a.none && za2 v) := rfl
  rw [hH] at hN
  have hq : isQ 9 = true := rfl
  have hb : zkd 9 = false := rfl
  simp only [fmD, zab, Fm.op, Fm.atom, Fm.var, Fm.parts]
  refine zam Tryz.call182 Tryz.func182 rfl (by kernel_rfl) (za1 (by kernel_rfl)) ?_
  simp -implicitDefEqProofs only [go_sem, Tryz.results182]
  refine callF (zaj 9) (by simp -implicitDefEqProofs only [go_sem, hq]) ?_
  simp -implicitDefEqProofs only [go_sem, hq]
  simp only [e1]
  refine ⟨fun h => ?_, fun h => ?_⟩
  ·have h' : decide (ps.length = 1) = true := by simpa using h
   refine callF (zaj 9) (by simp -implicitDefEqProofs only [go_sem, hq]) ?_
   simp -implicitDefEqProofs only [go_sem, hq]
   refine callF (ze1 v) (by simp -implicitDefEqProofs only [go_sem]) ?_
   simp -implicitDefEqProofs only [go_sem]
   refine ⟨fun h1 => ?_, fun h1 => ?_⟩
   ·have h1' : za2 v = true := by simpa using h1
    refine callF (zaj 9) (by simp -implicitDefEqProofs only [go_sem, hq]) ?_
    simp -implicitDefEqProofs only [go_sem, hq]
    refine callF (zbr a) (by simp -implicitDefEqProofs only [go_sem, zaa]) ?_
    simp -implicitDefEqProofs only [go_sem, zaa]
    refine ⟨fun h2 => ?_, fun h2 => ?_⟩
    ·rw [hN, show a.none = false by simpa using h2, Bool.and_false, Bool.false_and, Bool.false_and]
    ·have h2' : a.none = true := by simpa using h2
     refine callF (zaq ps (fun x => !x.forms) _ [] H1) (by simp -implicitDefEqProofs only [go_sem]) ?_
     simp -implicitDefEqProofs only [go_sem]
     rw [zc0, hN, h', h1', h2']; rfl
   ·rw [hN, show za2 v = false by simpa using h1, Bool.and_false, Bool.false_and]
  ·rw [hN, show decide (ps.length = 1) = false by simpa using h]; rfl
 ·have hH : Fm.here (.mk o a v ps) = false := by simp [Fm.here, zkd, isQ, Fm.op, *]
  rw [hH] at hN
  have f1 : (o == 1) = false := by simpa using n1
  have f2 : (o == 2) = false := by simpa using n2
  have f3 : (o == 3) = false := by simpa using n3
  have f4 : (o == 4) = false := by simpa using n4
  have hq : isQ o = false := by simp [isQ, n8, n9]
  have hb : zkd o = false := by simp [zkd, n5, n6, n7]
  simp only [fmD, zab, Fm.op, Fm.atom, Fm.var, Fm.parts]
  refine zam Tryz.call182 Tryz.func182 rfl (by kernel_rfl) (za1 (by kernel_rfl)) ?_
  simp -implicitDefEqProofs only [go_sem, Tryz.results182, f1, f2, f3, f4]
  refine callF (zaj o) (by simp -implicitDefEqProofs only [go_sem, hq]) ?_
  simp -implicitDefEqProofs only [go_sem, hq]
  refine callF (zfh o) (by simp -implicitDefEqProofs only [go_sem, hb]) ?_
  simp -implicitDefEqProofs only [go_sem, hb]
  rw [hN]; rfl
theorem zvb : ∀ a : Fm, a.wt <= 1099511627776 -> FC Tryz.prog 182 [fmD a] [bD a.forms] :=
 zba fun o a v xs ih hs => zuh (.mk o a v xs) hs fun x hx => ih x hx (Nat.le_trans (zb7 (a := .mk o a v xs) hx) hs)
theorem zcf (a : Fm) (hs : a.wt <= 1099511627776) : FC Tryz.prog 116 [fmD a] [bD a.good] := by
 simp only [fmD, zab]
 refine zam Tryz.call116 Tryz.func116 rfl (by kernel_rfl) (za1 (by kernel_rfl)) ?_
 simp -implicitDefEqProofs only [go_sem, Tryz.results116]
 refine callF (qa9 a hs) (by simp -implicitDefEqProofs only [go_sem, zab]) ?_
 simp -implicitDefEqProofs only [go_sem, zab]
 rw [qaq]
 refine ⟨fun h => ?_, fun h => ?_⟩
 ·refine callF (zvb a hs) (by simp -implicitDefEqProofs only [go_sem, zab]) ?_
  simp -implicitDefEqProofs only [go_sem, zab]
  rw [Fm.good, h, Bool.true_and]
 ·rw [Fm.good, h, Bool.false_and]
end Go.Proofs.YtemnhgmgeijkcaaGreat
namespace Go.Proofs.YtemnhgmgeijkcaaGreat
set_option linter.unusedSimpArgs false
set_option linter.unusedVariables false
set_option linter.unusedSectionVars false
set_option maxRecDepth 4000
open Go.RowKit
theorem zpd {a : Tm} (h : a.none = true) : a = .mk [] [] := by
 obtain ⟨n, xs⟩ := a
 simp only [Tm.none, Tm.name, Tm.args, Bool.and_eq_true, beq_iff_eq, decide_eq_true_eq, List.length_eq_zero_iff] at h
 rw [h.1, h.2]
theorem len1 {α : Type} {xs : List α} (h : xs.length = 1) : ∃ x, xs = [x] := by
 match xs, h with
 | [x], _ => exact ⟨x, rfl⟩
theorem len2 {α : Type} {xs : List α} (h : xs.length = 2) : ∃ x y, xs = [x, y] := by
 match xs, h with
 | [x, y], _ => exact ⟨x, y, rfl⟩
theorem zqk (o : Int) (a : Tm) (v : Str) (ps : List Fm) : Fm.here (.mk o a v ps) =
  if (o == 1 || o == 2) = true then decide (ps.length = 0) && a.none && (v == [])
  else if (o == 3) = true then decide (ps.length = 0) && a.atomOk && (v == [])
  else if (o == 4) = true then decide (ps.length = 1) && a.none && (v == [])
  else if (o == 5 || o == 6 || o == 7) = true then decide (ps.length = 2) && a.none && (v == [])
  else if (o == 8 || o == 9) = true then decide (ps.length = 1) && a.none && za2 v
  else false := rfl
theorem zie {f : Fm} (h : f.forms = true) :
  (f.parts = [] /\ (f.op = 1 \/ f.op = 2 \/ f.op = 3)) \/ (∃ p : Fm, f = mkF 4 [p] /\ p.forms = true) \/ (∃ (o : Int) (p q : Fm), (o = 5 \/ o = 6 \/ o = 7) /\ f = mkF o [p, q] /\ p.forms = true /\ q.forms = true) ∨
   ∃ (o : Int) (v : Str) (p : Fm), (o = 8 \/ o = 9) /\ f = .mk o (.mk [] []) v [p] /\ p.forms = true := by
 rw [Fm.forms_eq, Bool.and_eq_true] at h
 obtain ⟨h1, h2⟩ := h
 obtain ⟨o, a, v, ps⟩ := f
 rw [zqk] at h1
 simp only [Fm.op, Fm.parts] at h2 ⊢
 by_cases h12 : (o == 1 || o == 2) = true
 ·rw [if_pos h12] at h1
  simp only [Bool.or_eq_true, beq_iff_eq, Bool.and_eq_true, decide_eq_true_eq, List.length_eq_zero_iff] at h12 h1
  exact Or.inl ⟨h1.1.1, by omega⟩
 rw [if_neg h12] at h1
 by_cases h3 : (o == 3) = true
 ·rw [if_pos h3] at h1
  simp only [beq_iff_eq, Bool.and_eq_true, decide_eq_true_eq, List.length_eq_zero_iff] at h3 h1
  exact Or.inl ⟨h1.1.1, by omega⟩
 rw [if_neg h3] at h1
 by_cases h4 : (o == 4) = true
 ·rw [if_pos h4] at h1
  simp only [beq_iff_eq, Bool.and_eq_true, decide_eq_true_eq] at h4 h1
  obtain ⟨⟨h5, h6⟩, h7⟩ := h1
  obtain ⟨x, rfl⟩ := len1 h5
  rw [h4, zpd h6, h7]
  exact Or.inr (Or.inl ⟨x, rfl, by simpa using h2⟩)
 rw [if_neg h4] at h1
 by_cases h5 : (o == 5 || o == 6 || o == 7) = true
 ·rw [if_pos h5] at h1
  simp only [Bool.or_eq_true, beq_iff_eq, Bool.and_eq_true, decide_eq_true_eq] at h5 h1
  obtain ⟨⟨h6, h7⟩, h8⟩ := h1
  obtain ⟨x, y, rfl⟩ := len2 h6
  rw [zpd h7, h8]
  simp only [List.all_cons, List.all_nil, Bool.and_true, Bool.and_eq_true] at h2
  exact Or.inr (Or.inr (Or.inl ⟨o, x, y, by omega, rfl, h2.1, h2.2⟩))
 rw [if_neg h5] at h1
 by_cases h6 : (o == 8 || o == 9) = true
 ·rw [if_pos h6] at h1
  simp only [Bool.or_eq_true, beq_iff_eq, Bool.and_eq_true, decide_eq_true_eq] at h6 h1
  obtain ⟨⟨h7, h8⟩, h9⟩ := h1
  obtain ⟨x, rfl⟩ := len1 h7
  rw [zpd h8]
  exact Or.inr (Or.inr (Or.inr ⟨o, v, x, by omega, rfl, by simpa using h2⟩))
 ·rw [if_neg h6] at h1; cases h1
theorem qei (o : Int) (ps : List Fm) : (mkF o ps).parts = ps := rfl
end Go.Proofs.YtemnhgmgeijkcaaGreat
namespace Go.Proofs.YtemnhgmgeijkcaaGreat
set_option linter.unusedSimpArgs false
set_option linter.unusedVariables false
set_option linter.unusedSectionVars false
set_option maxRecDepth 4000
open Go.RowKit Go.Sort
theorem ztf {P : Program} {f : FuncId} (hc : za0 P f) (hS : ∀ (blk off cap : Nat) (zs : List (List UInt8)) (w : World), Holds encStr w blk off zs.toArray -> zs.length <= 9223372036854775807 -> zs.length <= cap →
   Calls P f #[.slice (some ⟨blk, off, none⟩) zs.length cap] w fun e w' => e = .returned (.slice (some ⟨blk, off, none⟩) (Lib.compact zs).length cap) /\ ∃ q, w' = putRow encStr (Sort.ahead w q) blk off (Lib.compact zs ++ List.replicate (zs.length - (Lib.compact zs).length) []).toArray)
  (hN : ∀ (a : Option Addr) (cap : Nat) (w : World), Calls P f #[.slice a 0 cap] w fun e w' => e = .returned (.slice a 0 cap) /\ w' = w) (hsub : ∀ zs : List (List UInt8), (Lib.compact zs).length <= zs.length /\ ∀ s ∈ Lib.compact zs, s ∈ zs) (ss : List Str) : GC P f [(true, .one (zb2 ss))] [.one (zb2 (Lib.compact ss))] := by
 refine ⟨hc, fun w vs fp tp hv hn => ?_⟩
 obtain ⟨v, _, f1, _, t1, _, rfl, rfl, rfl, ⟨hg, _⟩, hv⟩ := hv
 obtain ⟨rfl, rfl, rfl⟩ := hv
 unfold zat at hg
 obtain ⟨ao, cap, rfl, q1, q2, q3⟩ := hg
 rw [List.length_map] at q1 ⊢
 rcases q3 with ⟨rfl, rfl, q3, rfl⟩ | ⟨b, cells, ty, fps, rfl, rfl, q3, q4, q5⟩
 ·have hs : ss = [] := List.map_eq_nil_iff.1 q3
  subst hs
  refine (hN none 0 w).mono ?_
  rintro e w' ⟨rfl, rfl⟩
  refine ⟨[_], [], [], rfl, ⟨_, [], [], [], [], [], rfl, rfl, rfl, ⟨?_, rfl⟩, rfl, rfl, rfl⟩, List.nodup_nil, by simp, Bk.refl _ _⟩
  unfold zat
  exact ⟨none, 0, rfl, by simp [Lib.compact, Lib.compactUpTo], by simp, Or.inl ⟨rfl, rfl, by simp [Lib.compact, Lib.compactUpTo], rfl⟩⟩
 ·obtain ⟨_, vs, k1, k2, k3⟩ := q5.vals
  rw [zew] at k3
  obtain ⟨rfl, rfl, k4⟩ := zlo k3
  have hsz : ss.length <= cells.size := by omega
  have ht : cells.toList.take ss.length = ss.map encStr := by
   apply List.ext_getElem?
   intro j
   by_cases hj : j < ss.length
   ·rw [List.getElem?_take_of_lt hj, Array.getElem?_toList]
    have := k2 j _ (List.getElem?_eq_getElem (by simpa using hj))
    rw [Nat.zero_add] at this
    rw [this, List.getElem?_eq_getElem (by simpa using hj)]
   ·rw [List.getElem?_take_eq_none (by omega), List.getElem?_eq_none (by simp; omega)]
  have hM : (9223372036854775807 : Nat) = zei := rfl
  refine (hS b 0 cap ss w (holds_of_block q3 ht) (by omega) q1).mono ?_
  rintro e w' ⟨rfl, q, rfl⟩
  obtain ⟨hsl, hsm⟩ := hsub ss
  have hw : putRow encStr (Sort.ahead w q) b 0 (Lib.compact ss ++ List.replicate (ss.length - (Lib.compact ss).length) []).toArray = grow (putRow encStr (Sort.ahead w q) b 0 (Lib.compact ss ++ List.replicate (ss.length - (Lib.compact ss).length) []).toArray) #[] := by unfold grow; simp only [Array.append_empty]
  rw [hw]
  have hgr := grownBy_sorted (w := w) (g := b) (n := q) (os := #[]) (Lib.compact ss ++ List.replicate (ss.length - (Lib.compact ss).length) []).toArray
  have hlen : (Lib.compact ss ++ List.replicate (ss.length - (Lib.compact ss).length) ([] : Str)).length = ss.length := by simp; omega
  have htk := take_putCells cells (Lib.compact ss ++ List.replicate (ss.length - (Lib.compact ss).length) []) (by omega)
  refine ⟨[_], [b], [b], rfl, ⟨_, [], [b], [], [b], [], rfl, rfl, rfl, ⟨?_, rfl⟩, rfl, rfl, rfl⟩, by simp, fun x hx => Or.inl (by simpa using hx), ⟨hgr.os, hgr.tape, hgr.output, hgr.size, fun k hk => hgr.block k hk.1 fun e => hk.2 (by cases e; simp)⟩⟩
  unfold zat
  refine ⟨_, cap, by rw [List.length_map], by rw [List.length_map]; omega, q2, Or.inr ⟨b, _, ty, [], rfl, rfl, heap_sorted _ q3, by simp [putCells, q4], ?_⟩⟩
  refine zag.of_vals (znb _) (by rw [zew]; exact zlz fun s hs => k4 s (hsm s hs)) fun j u hu => ?_
  have hu' : ((Lib.compact ss ++ List.replicate (ss.length - (Lib.compact ss).length) ([] : Str)).map encStr)[j]? = some u := by
   rw [List.map_append]
   have hj : j < ((Lib.compact ss).map encStr).length := (List.getElem?_eq_some_iff.1 hu).1
   rw [List.getElem?_append_left hj]; exact hu
  rw [<- htk, List.getElem?_take] at hu'
  split at hu'
  ·simpa using hu'
  ·cases hu'
theorem zo9 (zs : List (List UInt8)) : (Lib.compact zs).length <= zs.length /\ ∀ s ∈ Lib.compact zs, s ∈ zs := by
 unfold Lib.compact Lib.compactUpTo
 refine ⟨?_, fun s hs => ?_⟩
 ·rw [List.length_map]
  have := List.length_filter_le (Lib.keeps zs.toArray) (List.range zs.length)
  simpa using this
 ·obtain ⟨i, hi, rfl⟩ := List.mem_map.1 hs
  have hi : i < zs.length := by simpa using List.mem_range.1 (List.mem_filter.1 hi).1
  simp [hi]
theorem zne (ss : List Str) : GC Tryz.prog 119 [(true, .one (zb2 ss))] [.one (zb2 (Lib.compact ss))] :=
 ztf Tryz.call119 (fun blk off cap zs w h1 h2 h3 => Any.slices_Compact_string Tryz.lays194 blk off cap zs w h1 h2 h3) (fun a cap w => Any.slices_Compact_string_empty Tryz.lays194 a cap w) zo9 ss
end Go.Proofs.YtemnhgmgeijkcaaGreat
namespace Go.Proofs.YtemnhgmgeijkcaaGreat
set_option linter.unusedSimpArgs false
set_option linter.unusedVariables false
set_option linter.unusedSectionVars false
set_option maxRecDepth 4000
open Go.RowKit
theorem zdw {f : Fm} {x : Fm} (h : x ∈ f.parts) : x.nodes < f.nodes := by
 have := f.nodes_eq
 obtain ⟨i, hi, rfl⟩ := List.getElem_of_mem h
 have := zbk Fm.nodes f.parts _ (List.getElem_mem hi)
 omega
def exN (f : Fm) : List Str × Fm := if h : f.op = 9 /\ 0 < f.parts.length then (f.var :: (exN (f.parts[0]'h.2)).1, (exN (f.parts[0]'h.2)).2) else ([], f)
termination_by f.nodes
decreasing_by all_goals exact zdw (List.getElem_mem h.2)
theorem zwp {f : Fm} (h : (f.op == 9) = false) : exN f = ([], f) := by rw [exN, dif_neg]; rintro ⟨h1, _⟩; rw [h1] at h; exact absurd h (by decide)
theorem zq3 {f : Fm} (h : (f.op == 9) = true) (hf : f.forms = true) : ∃ p, f.parts = [p] /\ p.forms = true := by
 rw [Fm.forms_eq, Bool.and_eq_true] at hf
 have h9 : f.op = 9 := by simpa using h
 have h1 := hf.1
 unfold Fm.here at h1
 rw [h9] at h1
 simp only [show ((9 : Int) == 1 || (9 : Int) == 2) = false by decide, show ((9 : Int) == 3) = false by decide, show ((9 : Int) == 4) = false by decide, show zkd 9 = false by decide, show isQ 9 = true by decide, if_true, Bool.false_eq_true, if_false, Bool.and_eq_true, decide_eq_true_eq] at h1
 obtain ⟨p, hp⟩ := List.length_eq_one_iff.1 h1.1.1
 exact ⟨p, hp, List.all_eq_true.1 hf.2 p (by rw [hp]; simp)⟩
theorem zzk {f p : Fm} (h : (f.op == 9) = true) (hp : f.parts = [p]) : exN f = (f.var :: (exN p).1, (exN p).2) := by
 have h9 : f.op = 9 := by simpa using h
 have hl : 0 < f.parts.length := by rw [hp]; simp
 rw [exN, dif_pos ⟨h9, hl⟩]
 have : f.parts[0]'hl = p := by simp [hp]
 rw [this]
theorem zey : ∀ f : Fm, (exN f).1.length <= f.nodes := zba fun o a v ps ih => by
 by_cases h : ((Fm.mk o a v ps).op = 9 /\ 0 < (Fm.mk o a v ps).parts.length)
 ·rw [exN, dif_pos h]
  have hm := List.getElem_mem h.2
  have h1 := ih _ hm
  have h2 := zdw hm
  simp only [List.length_cons]
  omega
 ·rw [exN, dif_neg h]; exact Nat.zero_le _
theorem zxg : ∀ f : Fm, (exN f).2.wt <= f.wt := zba fun o a v ps ih => by
 by_cases h : ((Fm.mk o a v ps).op = 9 /\ 0 < (Fm.mk o a v ps).parts.length)
 ·rw [exN, dif_pos h]
  have hm := List.getElem_mem h.2
  exact Nat.le_trans (ih _ hm) (zb7 hm)
 ·rw [exN, dif_neg h]; exact Nat.le_refl _
theorem zza : ∀ f : Fm, f.forms = true -> (exN f).2.forms = true := zba fun o a v ps ih hf => by
 by_cases h : ((Fm.mk o a v ps).op = 9 /\ 0 < (Fm.mk o a v ps).parts.length)
 ·rw [exN, dif_pos h]
  have hm := List.getElem_mem h.2
  rw [Fm.forms_eq, Bool.and_eq_true] at hf
  exact ih _ hm (List.all_eq_true.1 hf.2 _ hm)
 ·rw [exN, dif_neg h]; exact hf
theorem zrk (f : Fm) (hf : f.forms = true) (hw : f.wt <= 1048576) : XC Tryz.prog 65 [(false, fmD f)] [(true, .one (zb2 (exN f).1)), (false, fmD (exN f).2)] := by
 have hN := zcz f
 have hL := zey f
 simp only [fmD, zab]
 refine XC_of Tryz.call65 Tryz.func65 rfl (by kernel_rfl) (by simp only [List.length_cons, List.length_nil, Tryz.ntmps65]; omega) (by simp [zby, T.isPin]) ?_
 simp -implicitDefEqProofs only [go_sem, Tryz.results65]
 refine zbl (by simp -implicitDefEqProofs only [go_sem]) ?_
 simp -implicitDefEqProofs only [go_sem]
 refine zaf (fun x : List Str × Fm => hd [(1, .one (.bx 1 0)), (3, .one (.bx 3 0)), (4, .one (.ow 160 0))] [(1, [.t (.int .i64 x.2.op), .t (.str x.2.atom.name), .rn (tmS x.2.atom.args), .t (.str x.2.var), .rn (fmS x.2.parts)]), (3, [.any, .any, .any, .any, .any])] [(160, ⟨true, 1, x.1.map fun s => [.str s], 0, true⟩)]) (fun x => x.2.forms = true /\ x.1 ++ (exN x.2).1 = (exN f).1 /\ (exN x.2).2 = (exN f).2) (fun x => x.2.nodes) ([], f) (zac ?_) ⟨hf, rfl, rfl⟩ ?_
 ·simp -implicitDefEqProofs only [go_sem]
 ·rintro ⟨ns, g⟩ ⟨h1, h2, h3⟩
  simp only at h1 h2 h3
  have hG := zey g
  cases h9 : g.op == 9
  ·rw [zwp h9] at h2 h3
   rw [List.append_nil] at h2
   simp only at h2 h3
   subst h2 h3
   simp -implicitDefEqProofs only [go_sem, h9]
   refine drawn (by kernel_rfl) ?_
   simp -implicitDefEqProofs only [go_sem]
   kernel_rfl
  ·obtain ⟨p, hp, hpf⟩ := zq3 h9 h1
   rw [zzk h9 hp] at h2 h3
   have hl : ns.length <= 4294967295 := by
    have := congrArg List.length h2
    simp only [List.length_append, List.length_cons] at this
    omega
   have hp0 : g.parts.length = 1 := by rw [hp]; rfl
   simp -implicitDefEqProofs only [go_sem, h9]
   refine zbl (by simp -implicitDefEqProofs only [go_sem]) ?_
   simp -implicitDefEqProofs only [go_sem]
   refine apD true (by simp -implicitDefEqProofs only [go_sem, hl, ne_eq, List.length_map]) ?_
   simp -implicitDefEqProofs only [go_sem, hl, ne_eq, List.length_map]
   have e0 : (List.map fmC g.parts).getD 0 [] = fmC p := by rw [hp]; rfl
   simp -implicitDefEqProofs only [go_sem, hp0, e0, zab p]
   refine ⟨(ns ++ [g.var], p), ⟨hpf, by rw [List.append_assoc]; exact h2, h3⟩, zdw (by rw [hp]; simp), zac ?_⟩
   simp -implicitDefEqProofs only [go_sem]
   simp
theorem zm7 (f : Fm) (hf : f.forms = true) (hw : f.wt <= 1048576) : XC Tryz.prog 111 [(false, fmD f)] [(true, .one (zb2 (exN f).1)), (false, fmD (exN f).2)] := by
 have hN := zcz f
 have hL := zey f
 simp only [fmD, zab]
 refine XC_of Tryz.call111 Tryz.func111 rfl (by kernel_rfl) (by simp only [List.length_cons, List.length_nil, Tryz.ntmps111]; omega) (by simp [zby, T.isPin]) ?_
 simp -implicitDefEqProofs only [go_sem, Tryz.results111]
 refine zbl (by simp -implicitDefEqProofs only [go_sem]) ?_
 simp -implicitDefEqProofs only [go_sem]
 refine zaf (fun x : List Str × Fm => hd [(1, .one (.bx 1 0)), (3, .one (.bx 3 0)), (4, .one (.ow 160 0))] [(1, [.t (.int .i64 x.2.op), .t (.str x.2.atom.name), .rn (tmS x.2.atom.args), .t (.str x.2.var), .rn (fmS x.2.parts)]), (3, [.any, .any, .any, .any, .any])] [(160, ⟨true, 1, x.1.map fun s => [.str s], 0, true⟩)]) (fun x => x.2.forms = true /\ x.1 ++ (exN x.2).1 = (exN f).1 /\ (exN x.2).2 = (exN f).2) (fun x => x.2.nodes) ([], f) (zac ?_) ⟨hf, rfl, rfl⟩ ?_
 ·simp -implicitDefEqProofs only [go_sem]
 ·rintro ⟨ns, g⟩ ⟨h1, h2, h3⟩
  simp only at h1 h2 h3
  have hG := zey g
  cases h9 : g.op == 9
  ·rw [zwp h9] at h2 h3
   rw [List.append_nil] at h2
   simp only at h2 h3
   subst h2 h3
   simp -implicitDefEqProofs only [go_sem, h9]
   refine drawn (by kernel_rfl) ?_
   simp -implicitDefEqProofs only [go_sem]
   kernel_rfl
  ·obtain ⟨p, hp, hpf⟩ := zq3 h9 h1
   rw [zzk h9 hp] at h2 h3
   have hl : ns.length <= 4294967295 := by
    have := congrArg List.length h2
    simp only [List.length_append, List.length_cons] at this
    omega
   have hp0 : g.parts.length = 1 := by rw [hp]; rfl
   simp -implicitDefEqProofs only [go_sem, h9]
   refine zbl (by simp -implicitDefEqProofs only [go_sem]) ?_
   simp -implicitDefEqProofs only [go_sem]
   refine apD true (by simp -implicitDefEqProofs only [go_sem, hl, ne_eq, List.length_map]) ?_
   simp -implicitDefEqProofs only [go_sem, hl, ne_eq, List.length_map]
   have e0 : (List.map fmC g.parts).getD 0 [] = fmC p := by rw [hp]; rfl
   simp -implicitDefEqProofs only [go_sem, hp0, e0, zab p]
   refine ⟨(ns ++ [g.var], p), ⟨hpf, by rw [List.append_assoc]; exact h2, h3⟩, zdw (by rw [hp]; simp), zac ?_⟩
   simp -implicitDefEqProofs only [go_sem]
   simp
def zbh : Fm -> Bool := Fm.fold fun o _ _ _ rs => !(o == 8 || o == 9) && rs.all id
theorem zdx (f : Fm) : zbh f = (!(f.op == 8 || f.op == 9) && f.parts.all zbh) := by
 unfold zbh
 rw [Fm.fold_eq]
 simp only [List.all_map]
 rfl
theorem zzi (f : Fm) (H : FC Tryz.prog 121 [fmD f, .one (qdu [8, 9])] [bD (!zbh f)]) : FC Tryz.prog 187 [fmD f, .one (.ptr [qdu [8, 9]])] [bD (!zbh f)] := by
 simp only [fmD, zab] at H ⊢
 refine zam Tryz.call187 Tryz.func187 rfl (by kernel_rfl) (za1 (by kernel_rfl)) ?_
 simp -implicitDefEqProofs only [go_sem, Tryz.results187]
 refine callF (H) (by simp -implicitDefEqProofs only [go_sem]) ?_
 simp -implicitDefEqProofs only [go_sem]
theorem qb3 (f : Fm) (H : ∀ x ∈ f.parts, FC Tryz.prog 121 [fmD x, .one (qdu [8, 9])] [bD (!zbh x)]) : FC Tryz.prog 121 [fmD f, .one (qdu [8, 9])] [bD (!zbh f)] := by
 have HC := zaq f.parts (fun x => !zbh x) 187 [.ptr [qdu [8, 9]]] fun x hx => zzi x (H x hx)
 have h9 : ([8, 9] : List Int).contains f.op = (f.op == 8 || f.op == 9) := by simp only [List.contains, List.elem]; cases h : f.op == 8 <;> cases h2 : f.op == 9 <;> rfl
 have hv := zdx f
 simp only [fmD, zab]
 refine zam Tryz.call121 Tryz.func121 rfl (by kernel_rfl) (za1 (by kernel_rfl)) ?_
 simp -implicitDefEqProofs only [go_sem, Tryz.results121]
 refine callF (zl3 [8, 9] f.op) (by simp -implicitDefEqProofs only [go_sem, h9]) ?_
 simp -implicitDefEqProofs only [go_sem, h9]
 refine ⟨fun h => ?_, fun h => ?_⟩
 ·refine callF (HC) (by simp -implicitDefEqProofs only [go_sem]) ?_
  simp -implicitDefEqProofs only [go_sem]
  rw [hv, h]
  simp [List.any_eq_not_all_not]
 ·rw [hv, h]; rfl
theorem qgv : ∀ f : Fm, FC Tryz.prog 121 [fmD f, .one (qdu [8, 9])] [bD (!zbh f)] := zba fun o a v ps ih => qb3 (.mk o a v ps) ih
theorem zqb (f : Fm) (hw : f.wt <= 1048576) (H : ∀ x ∈ f.parts, FC Tryz.prog 172 [fmD x] [bD (zbh x)]) : FC Tryz.prog 172 [fmD f] [bD (zbh f)] := by
 have hv := zdx f
 have hW := f.wt_eq
 simp only [fmD, zab]
 refine zam Tryz.call172 Tryz.func172 rfl (by kernel_rfl) (za1 (by kernel_rfl)) ?_
 simp -implicitDefEqProofs only [go_sem, Tryz.results172]
 cases h8 : f.op == 8
 ·cases h9 : f.op == 9
  ·rw [h8, h9] at hv
   simp only [Bool.or_self, Bool.not_false, Bool.true_and] at hv
   simp -implicitDefEqProofs only [go_sem, h8, h9]
   refine zaf (fun k : Nat => hd [(1, .one (.bx 1 0)), (3, vI k)] [(1, [.t (.int .i64 f.op), .t (.str f.atom.name), .t (tmS f.atom.args), .t (.str f.var), .t (fmS f.parts)])] []) (fun k => k <= f.parts.length /\ (f.parts.take k).all zbh = true) (fun k => f.parts.length - k) 0 (zac ?_) ⟨Nat.zero_le _, rfl⟩ ?_
   ·simp -implicitDefEqProofs only [go_sem]
   ·rintro k ⟨hk, hT⟩
    by_cases hlt : k < f.parts.length
    ·have HC := H f.parts[k] (List.getElem_mem hlt)
     simp only [fmD, zab f.parts[k]] at HC
     simp -implicitDefEqProofs only [go_sem, zai, hlt, zab f.parts[k]]
     refine callF (HC) (by simp -implicitDefEqProofs only [go_sem]) ?_
     simp -implicitDefEqProofs only [go_sem]
     refine ⟨fun h => ?_, fun h => ?_⟩
     ·have hn : f.parts.all zbh = false := by
       rw [List.all_eq_false]
       exact ⟨_, List.getElem_mem hlt, by simpa using h⟩
      rw [hv, hn]
     ·refine ⟨k + 1, ⟨hlt, ?_⟩, by omega, zac ?_⟩
      ·rw [List.take_succ_eq_append_getElem hlt, List.all_append, hT]
       simpa using h
      ·simp -implicitDefEqProofs only [go_sem]
       rw [zao (by omega)]
    ·simp -implicitDefEqProofs only [go_sem, hlt]
     rw [List.take_of_length_le (by omega)] at hT
     rw [hv, hT]
  ·simp -implicitDefEqProofs only [go_sem, h8, h9]
   rw [hv, h8, h9]; rfl
 ·simp -implicitDefEqProofs only [go_sem, h8]
  rw [hv, h8]; rfl
theorem zsx : ∀ f : Fm, f.wt <= 1048576 -> FC Tryz.prog 172 [fmD f] [bD (zbh f)] := zba fun o a v ps ih hw => zqb (.mk o a v ps) hw fun x hx => ih x hx (Nat.le_trans (zb7 (a := .mk o a v ps) hx) hw)
end Go.Proofs.YtemnhgmgeijkcaaGreat
namespace Go.Proofs.YtemnhgmgeijkcaaGreat
set_option linter.unusedSimpArgs false
set_option linter.unusedVariables false
set_option linter.unusedSectionVars false
set_option maxRecDepth 4000
open Go.RowKit
theorem zs8 (n : Str) (t : Tm) (x : Str) : FC Tryz.prog 239 [.agg [sbS [(n, t)]], sD x] [iD (if (n == x) = true then 0 else -1)] := by
 have hS : sbS [(n, t)] = .sl 3 [[.str n, .str t.name, .sl 2 (t.args.map tmC)]] := by unfold sbS; rw [List.map_singleton, zq2]
 rw [hS]
 refine zam Tryz.call239 Tryz.func239 rfl (by kernel_rfl) (za1 (by kernel_rfl)) ?_
 simp -implicitDefEqProofs only [go_sem, Tryz.results239]
 refine zaf (fun k : Nat => hd [(1, vT (.str x)), (2, .one (.bx 2 0)), (5, vI k)] [(2, [.t (.sl 3 [[.str n, .str t.name, .sl 2 (t.args.map tmC)]])])] []) (fun k => k = 0 \/ (k = 1 /\ (n == x) = false)) (fun k => 1 - k) 0 (zac ?_) (Or.inl rfl) ?_
 ·simp -implicitDefEqProofs only [go_sem]
 ·rintro k (rfl | ⟨rfl, hn⟩)
  ·cases hn : n == x
   ·simp -implicitDefEqProofs only [go_sem, hn]
    refine ⟨1, Or.inr rfl, by decide, zac ?_⟩
    have hz : IntKind.i64.wrap 1 = 1 := by decide
    simp -implicitDefEqProofs only [go_sem, hz]
   ·simp -implicitDefEqProofs only [go_sem, hn]
  ·simp -implicitDefEqProofs only [go_sem, hn]
theorem zut (n : Str) (t : Tm) (ht : t.wt <= 1048576) (hn : (t.name == n) = false) : FC Tryz.prog 176 [.agg [sbS []], sD n, tmD t] [.agg [sbS [(n, t)]]] := by
 have hS : sbS [(n, t)] = .sl 3 [[.str n, .str t.name, .sl 2 (t.args.map tmC)]] := by unfold sbS; rw [List.map_singleton, zq2]
 have hS0 : sbS [] = .sl 3 [] := rfl
 have HK := zqf t ht
 rw [hS, hS0]
 simp only [tmD, zaa t] at HK ⊢
 refine zc3 Tryz.call176 Tryz.func176 rfl (by kernel_rfl) (za1 (by kernel_rfl)) ?_
 simp -implicitDefEqProofs only [go_sem, Tryz.results176, hn]
 refine zaf (fun k : Nat => hd [(1, vT (.str n)), (3, .one (.bx 3 0)), (5, .one (.bx 5 0)), (6, .one (.bx 6 0)), (7, vI (0 : Nat))] [(3, [.rn (.sl 3 [])]), (5, [.t (.str t.name), .rn (.sl 2 (t.args.map tmC))]), (6, [.nl 3])] []) (fun k => k = 0) (fun k => 0) 0 (zac ?_) rfl ?_
 ·simp -implicitDefEqProofs only [go_sem]
 ·rintro k rfl
  simp -implicitDefEqProofs only [go_sem]
  refine zbl (by simp -implicitDefEqProofs only [go_sem]) ?_
  simp -implicitDefEqProofs only [go_sem]
  refine apD true (by simp -implicitDefEqProofs only [go_sem, ne_eq]) ?_
  simp -implicitDefEqProofs only [go_sem, ne_eq]
  refine callF (HK) (by simp -implicitDefEqProofs only [go_sem]) ?_
  simp -implicitDefEqProofs only [go_sem]
  refine zbl (by simp -implicitDefEqProofs only [go_sem]) ?_
  simp -implicitDefEqProofs only [go_sem]
  refine apD true (by simp -implicitDefEqProofs only [go_sem, ne_eq]) ?_
  simp -implicitDefEqProofs only [go_sem, ne_eq]
  refine apD true (by simp -implicitDefEqProofs only [go_sem, ne_eq]) ?_
  simp -implicitDefEqProofs only [go_sem, ne_eq]
theorem zte (n : Str) (t : Tm) (hn : (t.name == n) = true) : RC Tryz.prog 176 [.agg [sbS []], sD n, tmD t] [.agg [sbS []]] := by
 have hS0 : sbS [] = .sl 3 [] := rfl
 rw [hS0]
 simp only [tmD, zaa t]
 refine RC_of Tryz.call176 Tryz.func176 rfl (by kernel_rfl) (za1 (by kernel_rfl)) ?_
 simp -implicitDefEqProofs only [go_sem, Tryz.results176, hn]
def zb8 (l : List (Str × Tm)) : Tm -> Tm := Tm.fold fun m _ rs => if za2 m = true then (match l.find? fun p => p.1 == m with | some p => p.2 | none => .mk m []) else .mk m rs
theorem zfy (l : List (Str × Tm)) (a : Tm) : zb8 l a = if za2 a.name = true then (match l.find? fun p => p.1 == a.name with | some p => p.2 | none => .mk a.name []) else .mk a.name (a.args.map (zb8 l)) := by unfold zb8; rw [Tm.fold_eq]
theorem zqe (x : Str) : FC Tryz.prog 239 [.agg [sbS []], sD x] [iD (-1)] := by
 have hS : sbS [] = .sl 3 [] := rfl
 rw [hS]
 refine zam Tryz.call239 Tryz.func239 rfl (by kernel_rfl) (za1 (by kernel_rfl)) ?_
 simp -implicitDefEqProofs only [go_sem, Tryz.results239]
 refine zaf (fun k : Nat => hd [(1, vT (.str x)), (2, .one (.bx 2 0)), (5, vI (0 : Nat))] [(2, [.t (.sl 3 [])])] []) (fun k => k = 0) (fun k => 0) 0 (zac ?_) rfl ?_
 ·simp -implicitDefEqProofs only [go_sem]
 ·rintro k rfl
  simp -implicitDefEqProofs only [go_sem]
theorem zta (l : List (Str × Tm)) (hl : l.length <= 1) (hw : ∀ p ∈ l, p.2.wt <= 1048576) (a : Tm) (ha : a.args.length <= 1048576) (H : ∀ x ∈ a.args, FC Tryz.prog 175 [.agg [sbS l], tmD x] [tmD (zb8 l x)]) : FC Tryz.prog 175 [.agg [sbS l], tmD a] [tmD (zb8 l a)] := by
 have hv := zfy l a
 have HV := zjc a.name
 cases hva : za2 a.name
 ·rw [hva, if_neg (by simp)] at hv
  rw [hva] at HV
  rw [hv]
  have e1 : tmD (.mk a.name (a.args.map (zb8 l))) = .agg [.str a.name, .sl 2 (a.args.map fun x => tmC (zb8 l x))] := by unfold tmD; rw [zaa]; simp only [Tm.name, Tm.args, List.map_map, Function.comp_def]
  rw [e1]
  simp only [tmD, zaa a] at H ⊢
  unfold sbS at H ⊢
  generalize l.map bnC = L at H ⊢
  refine zam Tryz.call175 Tryz.func175 rfl (by kernel_rfl) (za1 (by kernel_rfl)) ?_
  simp -implicitDefEqProofs only [go_sem, Tryz.results175]
  refine callF (HV) (by simp -implicitDefEqProofs only [go_sem]) ?_
  simp -implicitDefEqProofs only [go_sem]
  refine zaf (fun k : Nat => hd [(2, .one (.bx 2 0)), (3, .one (.bx 3 0)), (4, .one (.bx 4 0)), (6, .one (.bx 6 0)), (7, vI k)] [(2, [.t (.sl 3 L)]), (3, [.t (.str a.name), .t (tmS a.args)]), (4, [.t (.str []), .nl 2]), (6, [.t (.str a.name), .ow 3000 0])] [(3000, ⟨true, 2, (a.args.take k).map fun x => tmC (zb8 l x), 0, true⟩)]) (fun k => k <= a.args.length) (fun k => a.args.length - k) 0 (zac ?_) (Nat.zero_le _) ?_
  ·simp -implicitDefEqProofs only [go_sem]
  ·intro k hk
   by_cases hlt : k < a.args.length
   ·have HC := H a.args[k] (List.getElem_mem hlt)
    have hmin : min k a.args.length <= 4294967295 := by omega
    simp only [zaa a.args[k], zaa (zb8 l a.args[k])] at HC
    simp -implicitDefEqProofs only [go_sem, hlt]
    refine drawn (by kernel_rfl) ?_
    simp -implicitDefEqProofs only [go_sem, zai, hlt, zaa a.args[k]]
    refine za6 (HC) (by simp -implicitDefEqProofs only [go_sem]) ?_
    simp -implicitDefEqProofs only [go_sem]
    refine zbo (by simp -implicitDefEqProofs only [go_sem]) ?_
    simp -implicitDefEqProofs only [go_sem]
    refine zmv true (by simp -implicitDefEqProofs only [go_sem, ne_eq, List.length_map, List.length_take, hmin]) ?_
    simp -implicitDefEqProofs only [go_sem, ne_eq, List.length_map, List.length_take, hmin]
    refine ⟨by kernel_rfl, k + 1, hlt, by omega, zac ?_⟩
    simp -implicitDefEqProofs only [go_sem]
    rw [zao (by omega), List.take_succ_eq_append_getElem hlt, List.map_append, List.map_singleton]
    simp only [zaa]
    trivial
   ·have ht : a.args.take k = a.args := List.take_of_length_le (by omega)
    simp -implicitDefEqProofs only [go_sem, hlt, ht]
 ·rw [hva, if_pos rfl] at hv
  rw [hva] at HV
  rw [hv]
  match l, hl with
  | [], _ =>
   have HN := zqe a.name
   simp only [List.find?_nil]
   have e1 : tmD (.mk a.name []) = .agg [.str a.name, .sl 2 []] := rfl
   have hS : sbS [] = .sl 3 [] := rfl
   rw [hS] at HN ⊢
   rw [e1]
   simp only [tmD, zaa a]
   refine zam Tryz.call175 Tryz.func175 rfl (by kernel_rfl) (za1 (by kernel_rfl)) ?_
   simp -implicitDefEqProofs only [go_sem, Tryz.results175]
   refine callF (HV) (by simp -implicitDefEqProofs only [go_sem]) ?_
   simp -implicitDefEqProofs only [go_sem]
   refine callF (HN) (by simp -implicitDefEqProofs only [go_sem]) ?_
   simp -implicitDefEqProofs only [go_sem]
  | [(n, t)], _ =>
   have HO := zs8 n t a.name
   have HK := zqf t (hw (n, t) (by simp))
   have hS : sbS [(n, t)] = .sl 3 [[.str n, .str t.name, .sl 2 (t.args.map tmC)]] := by unfold sbS; rw [List.map_singleton, zq2]
   rw [hS] at HO ⊢
   cases hn : n == a.name
   ·rw [hn] at HO
    simp only [List.find?_cons, hn, List.find?_nil]
    have e1 : tmD (.mk a.name []) = .agg [.str a.name, .sl 2 []] := rfl
    rw [e1]
    simp only [tmD, zaa a]
    refine zam Tryz.call175 Tryz.func175 rfl (by kernel_rfl) (za1 (by kernel_rfl)) ?_
    simp -implicitDefEqProofs only [go_sem, Tryz.results175]
    refine callF (HV) (by simp -implicitDefEqProofs only [go_sem]) ?_
    simp -implicitDefEqProofs only [go_sem]
    refine callF (HO) (by simp -implicitDefEqProofs only [go_sem]) ?_
    simp -implicitDefEqProofs only [go_sem]
   ·rw [hn] at HO
    simp only [List.find?_cons, hn]
    simp only [tmD, zaa a, zaa t] at HK ⊢
    refine zam Tryz.call175 Tryz.func175 rfl (by kernel_rfl) (za1 (by kernel_rfl)) ?_
    simp -implicitDefEqProofs only [go_sem, Tryz.results175]
    refine callF (HV) (by simp -implicitDefEqProofs only [go_sem]) ?_
    simp -implicitDefEqProofs only [go_sem]
    refine callF (HO) (by simp -implicitDefEqProofs only [go_sem]) ?_
    simp -implicitDefEqProofs only [go_sem]
    refine callF (HK) (by simp -implicitDefEqProofs only [go_sem]) ?_
    simp -implicitDefEqProofs only [go_sem]
theorem zyp (l : List (Str × Tm)) (hl : l.length <= 1) (hw : ∀ p ∈ l, p.2.wt <= 1048576) : ∀ a : Tm, a.wt <= 1048576 -> FC Tryz.prog 175 [.agg [sbS l], tmD a] [tmD (zb8 l a)] :=
 zbd fun m xs ih hs => by
  obtain ⟨h1, h2⟩ := Tm.wt_args hs
  exact zta l hl hw (.mk m xs) h1 fun x hx => ih x hx (h2 x hx)
end Go.Proofs.YtemnhgmgeijkcaaGreat
namespace Go.Proofs.YtemnhgmgeijkcaaGreat
set_option linter.unusedSimpArgs false
set_option linter.unusedVariables false
set_option linter.unusedSectionVars false
set_option maxRecDepth 4000
open Go.RowKit
def bnd (n : Str) (t : Tm) : List (Str × Tm) := if (t.name == n) = true then [] else [(n, t)]
def qe2 (ps : List Fm) : List Str := match ps with
 | p :: _ => zbf [] (vf p [])
 | [] => []
def zcp (n : Str) (t : Tm) : Fm -> Fm × Bool := Fm.fold fun o a v ps rs =>
 if (o == 3) = true then (.mk o (zb8 (bnd n t) a) v [], (zb8 (bnd n t) a).atomOk)
 else if (isQ o && (v == n || !((qe2 ps).contains n))) = true then (.mk o a v ps, true)
 else if (isQ o && (zbf [] (voS t)).contains v) = true then (.mk o (.mk [] []) v [], false)
 else (.mk o (.mk [] []) v ((rs.takeWhile Prod.snd).map Prod.fst), rs.all Prod.snd)
theorem qdy {α β : Type} (p : β -> Bool) (f : α -> β) : ∀ xs : List α, (xs.map f).takeWhile p = (xs.takeWhile fun x => p (f x)).map f
 | [] => rfl
 | x :: xs => by
  simp only [List.map_cons, List.takeWhile_cons]
  cases p (f x)
  ·rfl
  ·simp only [if_true, List.map_cons, qdy p f xs]
theorem zo8 (n : Str) (t : Tm) (f : Fm) : zcp n t f = if (f.op == 3) = true then (.mk f.op (zb8 (bnd n t) f.atom) f.var [], (zb8 (bnd n t) f.atom).atomOk)
  else if (isQ f.op && (f.var == n || !((qe2 f.parts).contains n))) = true then (f, true)
  else if (isQ f.op && (zbf [] (voS t)).contains f.var) = true then (.mk f.op (.mk [] []) f.var [], false)
  else (.mk f.op (.mk [] []) f.var ((f.parts.takeWhile fun x => (zcp n t x).2).map fun x => (zcp n t x).1), f.parts.all fun x => (zcp n t x).2) := by
 cases f with
 | mk o a v ps =>
  conv => lhs; unfold zcp; rw [Fm.fold_eq]
  simp only [qdy, List.map_map, List.all_map]
  rfl
theorem qfz {f : Fm} (h : isQ f.op = true) (hf : f.forms = true) : ∃ p, f.parts = [p] /\ p.forms = true := by
 rw [Fm.forms_eq, Bool.and_eq_true] at hf
 have h1 := hf.1
 unfold Fm.here at h1
 have h2 : (f.op == 1 || f.op == 2) = false /\ (f.op == 3) = false /\ (f.op == 4) = false /\ zkd f.op = false := by
  have h8 : f.op = 8 \/ f.op = 9 := by unfold isQ at h; rw [Bool.or_eq_true, beq_iff_eq, beq_iff_eq] at h; exact h
  rcases h8 with e | e <;> rw [e] <;> decide
 rw [h2.1, h2.2.1, h2.2.2.1, h2.2.2.2, h] at h1
 simp only [Bool.false_eq_true, if_false, if_true, Bool.and_eq_true, decide_eq_true_eq] at h1
 obtain ⟨p, hp⟩ := List.length_eq_one_iff.1 h1.1.1
 exact ⟨p, hp, List.all_eq_true.1 hf.2 p (by rw [hp]; simp)⟩
theorem qhq (n : Str) (t : Tm) : (bnd n t).length <= 1 := by unfold bnd; split <;> simp
theorem bnd_wt (n : Str) (t : Tm) (ht : t.wt <= 1048576) : ∀ p ∈ bnd n t, p.2.wt <= 1048576 := by
 unfold bnd
 split
 ·simp
 ·intro p hp; simp at hp; rw [hp]; exact ht
set_option maxHeartbeats 2000000 in
theorem qbt (n : Str) (t : Tm) (ht : t.wt <= 1048576) (f : Fm) (hf : f.forms = true) (hw : f.wt <= 1048576) (hwa : (zb8 (bnd n t) f.atom).wt <= 1099511627776) (H : ∀ x ∈ f.parts, FC Tryz.prog 113 [fmD x, sD n, tmD t] [fmD (zcp n t x).1, bD (zcp n t x).2]) :
  FC Tryz.prog 113 [fmD f, sD n, tmD t] [fmD (zcp n t f).1, bD (zcp n t f).2] := by
 have hv := zo8 n t f
 have hfl : f.parts.length <= 1048576 := by have := f.wt_eq; omega
 cases h3 : f.op == 3
 ·rw [h3, if_neg (by simp)] at hv
  cases hq : isQ f.op
  ·rw [hq, Bool.false_and, if_neg (by simp), Bool.false_and, if_neg (by simp)] at hv
   have hq8 : (f.op == 8) = false /\ (f.op == 9) = false := by unfold isQ at hq; rw [Bool.or_eq_false_iff] at hq; exact hq
   simp only [fmD, zab f, tmD, zaa t]
   refine zam Tryz.call113 Tryz.func113 rfl (by kernel_rfl) (za1 (by kernel_rfl)) ?_
   simp -implicitDefEqProofs only [go_sem, Tryz.results113, h3, hq8.1, hq8.2]
   refine zaf (fun k : Nat => hd [(1, vT (.str n)), (3, .one (.bx 3 0)), (5, .one (.bx 5 0)), (6, .one (.bx 6 0)), (8, .one (.bx 8 0)), (9, vI k)] [(3, [.t (.int .i64 f.op), .t (.str f.atom.name), .t (tmS f.atom.args), .t (.str f.var), .t (fmS f.parts)]), (5, [.t (.str t.name), .t (tmS t.args)]), (6, [.t (.int .i64 0), .t (.str []), .nl 2, .t (.str []), .nl 5]), (8, [.t (.int .i64 f.op), .t (.str []), .nl 2, .t (.str f.var), .ow 8000 0])] [(8000, ⟨true, 5, (f.parts.take k).map fun x => fmC (zcp n t x).1, 0, true⟩)]) (fun k => k <= f.parts.length /\ ∀ x ∈ f.parts.take k, (zcp n t x).2 = true) (fun k => f.parts.length - k) 0 (zac ?_) ⟨Nat.zero_le _, by simp⟩ ?_
   ·simp -implicitDefEqProofs only [go_sem]
   ·rintro k ⟨hk, hT⟩
    by_cases hlt : k < f.parts.length
    ·have HC := H f.parts[k] (List.getElem_mem hlt)
     have hmin : min k f.parts.length <= 4294967295 := by omega
     simp only [fmD, zab f.parts[k], zab (zcp n t f.parts[k]).1, tmD, zaa t] at HC
     cases hk2 : (zcp n t f.parts[k]).2
     ·rw [hk2] at HC
      have htw := (zdo (p := fun x => (zcp n t x).2) hk hT fun _ => hk2).1
      have hall : (f.parts.all fun x => (zcp n t x).2) = false := by rw [List.all_eq_false]; exact ⟨_, List.getElem_mem hlt, by rw [hk2]; simp⟩
      rw [htw, hall] at hv
      rw [hv]
      simp -implicitDefEqProofs only [go_sem, hlt]
      refine drawn (by kernel_rfl) ?_
      simp -implicitDefEqProofs only [go_sem, zai, hlt, zab f.parts[k]]
      refine za6 (HC) (by simp -implicitDefEqProofs only [go_sem]) ?_
      simp -implicitDefEqProofs only [go_sem]
      refine ⟨by kernel_rfl, ?_⟩
      simp -implicitDefEqProofs only [go_sem, zeq, List.map_map, Function.comp_def]
      exact ⟨rfl, rfl⟩
     ·rw [hk2] at HC
      simp -implicitDefEqProofs only [go_sem, hlt]
      refine drawn (by kernel_rfl) ?_
      simp -implicitDefEqProofs only [go_sem, zai, hlt, zab f.parts[k]]
      refine za6 (HC) (by simp -implicitDefEqProofs only [go_sem]) ?_
      simp -implicitDefEqProofs only [go_sem]
      refine ⟨by kernel_rfl, ?_⟩
      refine zbl (by simp -implicitDefEqProofs only [go_sem]) ?_
      simp -implicitDefEqProofs only [go_sem]
      refine apD true (by simp -implicitDefEqProofs only [go_sem, ne_eq, List.length_map, List.length_take, hmin]) ?_
      simp -implicitDefEqProofs only [go_sem, ne_eq, List.length_map, List.length_take, hmin]
      refine ⟨k + 1, ⟨hlt, fun x hx => ?_⟩, by omega, zac ?_⟩
      ·rw [List.take_succ_eq_append_getElem hlt] at hx
       rcases List.mem_append.1 hx with hx | hx
       ·exact hT x hx
       ·rw [List.mem_singleton] at hx; subst hx; exact hk2
      ·simp -implicitDefEqProofs only [go_sem]
       rw [zao (by omega), List.take_succ_eq_append_getElem hlt, List.map_append, List.map_singleton]
       simp only [zab]
       trivial
    ·have htk : f.parts.take k = f.parts := List.take_of_length_le (by omega)
     rw [htk] at hT
     have hall : (f.parts.all fun x => (zcp n t x).2) = true := List.all_eq_true.2 hT
     have htw : (f.parts.takeWhile fun x => (zcp n t x).2) = f.parts := by
      have := (zdo (l := f.parts) (p := fun x => (zcp n t x).2) (k := f.parts.length) (Nat.le_refl _) (by rw [List.take_length]; exact hT) fun h => absurd h (Nat.lt_irrefl _)).1
      rw [this, List.take_length]
     rw [htw, hall] at hv
     rw [hv]
     simp -implicitDefEqProofs only [go_sem, hlt, htk, zeq, List.map_map, Function.comp_def]
     exact ⟨rfl, rfl⟩
  ·obtain ⟨q, hp, hpf⟩ := qfz hq hf
   have key : (f.op == 8) = true \/ ((f.op == 8) = false /\ (f.op == 9) = true) := by
    have hq8 := hq
    unfold isQ at hq8
    cases h8 : f.op == 8
    ·rw [h8, Bool.false_or] at hq8; exact Or.inr ⟨rfl, hq8⟩
    ·exact Or.inl rfl
   have HFr := zqz q hpf (by have := f.wt_eq; rw [hp] at this; simp only [List.map_cons, List.map_nil, List.sum_cons, List.sum_nil] at this; omega)
   have HOw := zop f hw
   have hfr : qe2 f.parts = zbf [] (vf q []) := by rw [hp]; rfl
   rw [hfr] at hv
   generalize zbf [] (vf q []) = V at hv HFr
   have HIn := zq8 V n
   have hvl := zkx t
   have HVs := zk1 t (by omega) (by omega)
   generalize zbf [] (voS t) = TV at hv HVs
   have HIt := zq8 TV f.var
   rw [hq, Bool.true_and, Bool.true_and] at hv
   have hp0 : f.parts.length = 1 := by rw [hp]; rfl
   have e0 : (List.map fmC f.parts).getD 0 [] = fmC q := by rw [hp]; rfl
   cases hvn : f.var == n
   ·rw [hvn, Bool.false_or] at hv
    cases hcn : V.contains n
    ·rw [hcn, if_pos (by simp)] at hv
     rw [hcn] at HIn
     rw [hv]
     simp only [fmD, zab f, tmD, zaa t, zab q] at HOw HFr ⊢
     rcases key with e8 | ⟨e8, e9⟩
     ·refine zam Tryz.call113 Tryz.func113 rfl (by kernel_rfl) (za1 (by kernel_rfl)) ?_
      simp -implicitDefEqProofs only [go_sem, Tryz.results113, h3, e8, hvn, hp0, e0, zab q]
      refine callF (HFr) (by simp -implicitDefEqProofs only [go_sem]) ?_
      simp -implicitDefEqProofs only [go_sem]
      refine callF (HIn) (by simp -implicitDefEqProofs only [go_sem]) ?_
      simp -implicitDefEqProofs only [go_sem]
      refine callF (HOw) (by simp -implicitDefEqProofs only [go_sem]) ?_
      simp -implicitDefEqProofs only [go_sem]
     ·refine zam Tryz.call113 Tryz.func113 rfl (by kernel_rfl) (za1 (by kernel_rfl)) ?_
      simp -implicitDefEqProofs only [go_sem, Tryz.results113, h3, e8, e9, hvn, hp0, e0, zab q]
      refine callF (HFr) (by simp -implicitDefEqProofs only [go_sem]) ?_
      simp -implicitDefEqProofs only [go_sem]
      refine callF (HIn) (by simp -implicitDefEqProofs only [go_sem]) ?_
      simp -implicitDefEqProofs only [go_sem]
      refine callF (HOw) (by simp -implicitDefEqProofs only [go_sem]) ?_
      simp -implicitDefEqProofs only [go_sem]
    ·rw [hcn, if_neg (by simp)] at hv
     rw [hcn] at HIn
     cases hti : TV.contains f.var
     ·rw [hti, if_neg (by simp)] at hv
      rw [hti] at HIt
      simp only [fmD, zab f, tmD, zaa t, zab q] at HVs HFr ⊢
      rcases key with e8 | ⟨e8, e9⟩
      ·refine zam Tryz.call113 Tryz.func113 rfl (by kernel_rfl) (za1 (by kernel_rfl)) ?_
       simp -implicitDefEqProofs only [go_sem, Tryz.results113, h3, e8, hvn, hp0, e0, zab q]
       refine callF (HFr) (by simp -implicitDefEqProofs only [go_sem]) ?_
       simp -implicitDefEqProofs only [go_sem]
       refine callF (HIn) (by simp -implicitDefEqProofs only [go_sem]) ?_
       simp -implicitDefEqProofs only [go_sem]
       refine drawn (by kernel_rfl) ?_
       simp -implicitDefEqProofs only [go_sem]
       refine za6 (HVs) (by simp -implicitDefEqProofs only [go_sem]) ?_
       simp -implicitDefEqProofs only [go_sem]
       refine za6 (HIt) (by simp -implicitDefEqProofs only [go_sem]) ?_
       simp -implicitDefEqProofs only [go_sem]
       refine ⟨by kernel_rfl, ?_⟩
       refine zaf (fun k : Nat => hd [(1, vT (.str n)), (3, .one (.bx 3 0)), (5, .one (.bx 5 0)), (6, .one (.bx 6 0)), (8, .one (.bx 8 0)), (9, vI k)] [(3, [.t (.int .i64 f.op), .t (.str f.atom.name), .t (tmS f.atom.args), .t (.str f.var), .t (fmS f.parts)]), (5, [.t (.str t.name), .t (tmS t.args)]), (6, [.t (.int .i64 0), .t (.str []), .nl 2, .t (.str []), .nl 5]), (8, [.t (.int .i64 f.op), .t (.str []), .nl 2, .t (.str f.var), .ow 8000 0])] [(8000, ⟨true, 5, (f.parts.take k).map fun x => fmC (zcp n t x).1, 0, true⟩)]) (fun k => k <= f.parts.length /\ ∀ x ∈ f.parts.take k, (zcp n t x).2 = true) (fun k => f.parts.length - k) 0 (zac ?_) ⟨Nat.zero_le _, by simp⟩ ?_
       ·simp -implicitDefEqProofs only [go_sem]
       ·rintro k ⟨hk, hT⟩
        by_cases hlt : k < f.parts.length
        ·have HC := H f.parts[k] (List.getElem_mem hlt)
         have hmin : min k f.parts.length <= 4294967295 := by omega
         simp only [fmD, zab f.parts[k], zab (zcp n t f.parts[k]).1, tmD, zaa t] at HC
         cases hk2 : (zcp n t f.parts[k]).2
         ·rw [hk2] at HC
          have htw := (zdo (p := fun x => (zcp n t x).2) hk hT fun _ => hk2).1
          have hall : (f.parts.all fun x => (zcp n t x).2) = false := by rw [List.all_eq_false]; exact ⟨_, List.getElem_mem hlt, by rw [hk2]; simp⟩
          rw [htw, hall] at hv
          rw [hv]
          simp -implicitDefEqProofs only [go_sem, hlt]
          refine drawn (by kernel_rfl) ?_
          simp -implicitDefEqProofs only [go_sem, zai, hlt, zab f.parts[k]]
          refine za6 (HC) (by simp -implicitDefEqProofs only [go_sem]) ?_
          simp -implicitDefEqProofs only [go_sem]
          refine ⟨by kernel_rfl, ?_⟩
          simp -implicitDefEqProofs only [go_sem, zeq, List.map_map, Function.comp_def]
          exact ⟨rfl, rfl⟩
         ·rw [hk2] at HC
          simp -implicitDefEqProofs only [go_sem, hlt]
          refine drawn (by kernel_rfl) ?_
          simp -implicitDefEqProofs only [go_sem, zai, hlt, zab f.parts[k]]
          refine za6 (HC) (by simp -implicitDefEqProofs only [go_sem]) ?_
          simp -implicitDefEqProofs only [go_sem]
          refine ⟨by kernel_rfl, ?_⟩
          refine zbl (by simp -implicitDefEqProofs only [go_sem]) ?_
          simp -implicitDefEqProofs only [go_sem]
          refine apD true (by simp -implicitDefEqProofs only [go_sem, ne_eq, List.length_map, List.length_take, hmin]) ?_
          simp -implicitDefEqProofs only [go_sem, ne_eq, List.length_map, List.length_take, hmin]
          refine ⟨k + 1, ⟨hlt, fun x hx => ?_⟩, by omega, zac ?_⟩
          ·rw [List.take_succ_eq_append_getElem hlt] at hx
           rcases List.mem_append.1 hx with hx | hx
           ·exact hT x hx
           ·rw [List.mem_singleton] at hx; subst hx; exact hk2
          ·simp -implicitDefEqProofs only [go_sem]
           rw [zao (by omega), List.take_succ_eq_append_getElem hlt, List.map_append, List.map_singleton]
           simp only [zab]
           trivial
        ·have htk : f.parts.take k = f.parts := List.take_of_length_le (by omega)
         rw [htk] at hT
         have hall : (f.parts.all fun x => (zcp n t x).2) = true := List.all_eq_true.2 hT
         have htw : (f.parts.takeWhile fun x => (zcp n t x).2) = f.parts := by
          have := (zdo (l := f.parts) (p := fun x => (zcp n t x).2) (k := f.parts.length) (Nat.le_refl _) (by rw [List.take_length]; exact hT) fun h => absurd h (Nat.lt_irrefl _)).1
          rw [this, List.take_length]
         rw [htw, hall] at hv
         rw [hv]
         simp -implicitDefEqProofs only [go_sem, hlt, htk, zeq, List.map_map, Function.comp_def]
         exact ⟨rfl, rfl⟩
      ·refine zam Tryz.call113 Tryz.func113 rfl (by kernel_rfl) (za1 (by kernel_rfl)) ?_
       simp -implicitDefEqProofs only [go_sem, Tryz.results113, h3, e8, e9, hvn, hp0, e0, zab q]
       refine callF (HFr) (by simp -implicitDefEqProofs only [go_sem]) ?_
       simp -implicitDefEqProofs only [go_sem]
       refine callF (HIn) (by simp -implicitDefEqProofs only [go_sem]) ?_
       simp -implicitDefEqProofs only [go_sem]
       refine drawn (by kernel_rfl) ?_
       simp -implicitDefEqProofs only [go_sem]
       refine za6 (HVs) (by simp -implicitDefEqProofs only [go_sem]) ?_
       simp -implicitDefEqProofs only [go_sem]
       refine za6 (HIt) (by simp -implicitDefEqProofs only [go_sem]) ?_
       simp -implicitDefEqProofs only [go_sem]
       refine ⟨by kernel_rfl, ?_⟩
       refine zaf (fun k : Nat => hd [(1, vT (.str n)), (3, .one (.bx 3 0)), (5, .one (.bx 5 0)), (6, .one (.bx 6 0)), (8, .one (.bx 8 0)), (9, vI k)] [(3, [.t (.int .i64 f.op), .t (.str f.atom.name), .t (tmS f.atom.args), .t (.str f.var), .t (fmS f.parts)]), (5, [.t (.str t.name), .t (tmS t.args)]), (6, [.t (.int .i64 0), .t (.str []), .nl 2, .t (.str []), .nl 5]), (8, [.t (.int .i64 f.op), .t (.str []), .nl 2, .t (.str f.var), .ow 8000 0])] [(8000, ⟨true, 5, (f.parts.take k).map fun x => fmC (zcp n t x).1, 0, true⟩)]) (fun k => k <= f.parts.length /\ ∀ x ∈ f.parts.take k, (zcp n t x).2 = true) (fun k => f.parts.length - k) 0 (zac ?_) ⟨Nat.zero_le _, by simp⟩ ?_
       ·simp -implicitDefEqProofs only [go_sem]
       ·rintro k ⟨hk, hT⟩
        by_cases hlt : k < f.parts.length
        ·have HC := H f.parts[k] (List.getElem_mem hlt)
         have hmin : min k f.parts.length <= 4294967295 := by omega
         simp only [fmD, zab f.parts[k], zab (zcp n t f.parts[k]).1, tmD, zaa t] at HC
         cases hk2 : (zcp n t f.parts[k]).2
         ·rw [hk2] at HC
          have htw := (zdo (p := fun x => (zcp n t x).2) hk hT fun _ => hk2).1
          have hall : (f.parts.all fun x => (zcp n t x).2) = false := by rw [List.all_eq_false]; exact ⟨_, List.getElem_mem hlt, by rw [hk2]; simp⟩
          rw [htw, hall] at hv
          rw [hv]
          simp -implicitDefEqProofs only [go_sem, hlt]
          refine drawn (by kernel_rfl) ?_
          simp -implicitDefEqProofs only [go_sem, zai, hlt, zab f.parts[k]]
          refine za6 (HC) (by simp -implicitDefEqProofs only [go_sem]) ?_
          simp -implicitDefEqProofs only [go_sem]
          refine ⟨by kernel_rfl, ?_⟩
          simp -implicitDefEqProofs only [go_sem, zeq, List.map_map, Function.comp_def]
          exact ⟨rfl, rfl⟩
         ·rw [hk2] at HC
          simp -implicitDefEqProofs only [go_sem, hlt]
          refine drawn (by kernel_rfl) ?_
          simp -implicitDefEqProofs only [go_sem, zai, hlt, zab f.parts[k]]
          refine za6 (HC) (by simp -implicitDefEqProofs only [go_sem]) ?_
          simp -implicitDefEqProofs only [go_sem]
          refine ⟨by kernel_rfl, ?_⟩
          refine zbl (by simp -implicitDefEqProofs only [go_sem]) ?_
          simp -implicitDefEqProofs only [go_sem]
          refine apD true (by simp -implicitDefEqProofs only [go_sem, ne_eq, List.length_map, List.length_take, hmin]) ?_
          simp -implicitDefEqProofs only [go_sem, ne_eq, List.length_map, List.length_take, hmin]
          refine ⟨k + 1, ⟨hlt, fun x hx => ?_⟩, by omega, zac ?_⟩
          ·rw [List.take_succ_eq_append_getElem hlt] at hx
           rcases List.mem_append.1 hx with hx | hx
           ·exact hT x hx
           ·rw [List.mem_singleton] at hx; subst hx; exact hk2
          ·simp -implicitDefEqProofs only [go_sem]
           rw [zao (by omega), List.take_succ_eq_append_getElem hlt, List.map_append, List.map_singleton]
           simp only [zab]
           trivial
        ·have htk : f.parts.take k = f.parts := List.take_of_length_le (by omega)
         rw [htk] at hT
         have hall : (f.parts.all fun x => (zcp n t x).2) = true := List.all_eq_true.2 hT
         have htw : (f.parts.takeWhile fun x => (zcp n t x).2) = f.parts := by
          have := (zdo (l := f.parts) (p := fun x => (zcp n t x).2) (k := f.parts.length) (Nat.le_refl _) (by rw [List.take_length]; exact hT) fun h => absurd h (Nat.lt_irrefl _)).1
          rw [this, List.take_length]
         rw [htw, hall] at hv
         rw [hv]
         simp -implicitDefEqProofs only [go_sem, hlt, htk, zeq, List.map_map, Function.comp_def]
         exact ⟨rfl, rfl⟩
     ·rw [hti, if_pos rfl] at hv
      rw [hti] at HIt
      rw [hv]
      have e5 : fmD (.mk f.op (.mk [] []) f.var []) = .agg [.int .i64 f.op, .str [], .sl 2 [], .str f.var, .sl 5 []] := by unfold fmD; rw [zab]; rfl
      rw [e5]
      simp only [fmD, zab f, tmD, zaa t, zab q] at HVs HFr ⊢
      rcases key with e8 | ⟨e8, e9⟩
      ·refine zam Tryz.call113 Tryz.func113 rfl (by kernel_rfl) (za1 (by kernel_rfl)) ?_
       simp -implicitDefEqProofs only [go_sem, Tryz.results113, h3, e8, hvn, hp0, e0, zab q]
       refine callF (HFr) (by simp -implicitDefEqProofs only [go_sem]) ?_
       simp -implicitDefEqProofs only [go_sem]
       refine callF (HIn) (by simp -implicitDefEqProofs only [go_sem]) ?_
       simp -implicitDefEqProofs only [go_sem]
       refine drawn (by kernel_rfl) ?_
       simp -implicitDefEqProofs only [go_sem]
       refine za6 (HVs) (by simp -implicitDefEqProofs only [go_sem]) ?_
       simp -implicitDefEqProofs only [go_sem]
       refine za6 (HIt) (by simp -implicitDefEqProofs only [go_sem]) ?_
       simp -implicitDefEqProofs only [go_sem]
       kernel_rfl
      ·refine zam Tryz.call113 Tryz.func113 rfl (by kernel_rfl) (za1 (by kernel_rfl)) ?_
       simp -implicitDefEqProofs only [go_sem, Tryz.results113, h3, e8, e9, hvn, hp0, e0, zab q]
       refine callF (HFr) (by simp -implicitDefEqProofs only [go_sem]) ?_
       simp -implicitDefEqProofs only [go_sem]
       refine callF (HIn) (by simp -implicitDefEqProofs only [go_sem]) ?_
       simp -implicitDefEqProofs only [go_sem]
       refine drawn (by kernel_rfl) ?_
       simp -implicitDefEqProofs only [go_sem]
       refine za6 (HVs) (by simp -implicitDefEqProofs only [go_sem]) ?_
       simp -implicitDefEqProofs only [go_sem]
       refine za6 (HIt) (by simp -implicitDefEqProofs only [go_sem]) ?_
       simp -implicitDefEqProofs only [go_sem]
       kernel_rfl
   ·rw [hvn, Bool.true_or, if_pos rfl] at hv
    rw [hv]
    simp only [fmD, zab f, tmD, zaa t] at HOw ⊢
    rcases key with e8 | ⟨e8, e9⟩
    ·refine zam Tryz.call113 Tryz.func113 rfl (by kernel_rfl) (za1 (by kernel_rfl)) ?_
     simp -implicitDefEqProofs only [go_sem, Tryz.results113, h3, e8, hvn]
     refine callF (HOw) (by simp -implicitDefEqProofs only [go_sem]) ?_
     simp -implicitDefEqProofs only [go_sem]
    ·refine zam Tryz.call113 Tryz.func113 rfl (by kernel_rfl) (za1 (by kernel_rfl)) ?_
     simp -implicitDefEqProofs only [go_sem, Tryz.results113, h3, e8, e9, hvn]
     refine callF (HOw) (by simp -implicitDefEqProofs only [go_sem]) ?_
     simp -implicitDefEqProofs only [go_sem]
 ·rw [h3, if_pos rfl] at hv
  have HA := zyp (bnd n t) (qhq n t) (bnd_wt n t ht) f.atom (by have := zk0 f; omega)
  rw [hv]
  generalize zb8 (bnd n t) f.atom = R at HA hwa ⊢
  have HO := zqs R hwa
  cases hn : t.name == n
  ·have e0 : bnd n t = [(n, t)] := by unfold bnd; rw [hn, if_neg (by simp)]
   have HP := zut n t ht hn
   have hS0 : sbS [] = .sl 3 [] := rfl
   rw [e0] at HA
   generalize [(n, t)] = B at HA HP
   rw [hS0] at HP
   unfold sbS at HP HA
   generalize B.map bnC = L at HA HP
   simp only [fmD, zab f, tmD, zaa t, zaa f.atom, zaa R, zeq, List.map_nil] at HA HP HO ⊢
   refine zam Tryz.call113 Tryz.func113 rfl (by kernel_rfl) (za1 (by kernel_rfl)) ?_
   simp -implicitDefEqProofs only [go_sem, Tryz.results113, h3]
   refine drawn (by kernel_rfl) ?_
   simp -implicitDefEqProofs only [go_sem]
   refine za6 (HP) (by simp -implicitDefEqProofs only [go_sem]) ?_
   simp -implicitDefEqProofs only [go_sem]
   refine za6 (HA) (by simp -implicitDefEqProofs only [go_sem]) ?_
   simp -implicitDefEqProofs only [go_sem]
   refine ⟨by kernel_rfl, ?_⟩
   refine drawn (by kernel_rfl) ?_
   simp -implicitDefEqProofs only [go_sem]
   refine za6 (HO) (by simp -implicitDefEqProofs only [go_sem]) ?_
   simp -implicitDefEqProofs only [go_sem]
   kernel_rfl
  ·have e0 : bnd n t = [] := by unfold bnd; rw [hn, if_pos rfl]
   have HP := zte n t hn
   have hS0 : sbS [] = .sl 3 [] := rfl
   rw [e0] at HA
   rw [hS0] at HP HA
   simp only [fmD, zab f, tmD, zaa t, zaa f.atom, zaa R, zeq, List.map_nil] at HA HP HO ⊢
   refine zam Tryz.call113 Tryz.func113 rfl (by kernel_rfl) (za1 (by kernel_rfl)) ?_
   simp -implicitDefEqProofs only [go_sem, Tryz.results113, h3]
   refine drawn (by kernel_rfl) ?_
   simp -implicitDefEqProofs only [go_sem]
   refine dCallR HP (by simp -implicitDefEqProofs only [go_sem]) ?_
   simp -implicitDefEqProofs only [go_sem]
   refine za6 (HA) (by simp -implicitDefEqProofs only [go_sem]) ?_
   simp -implicitDefEqProofs only [go_sem]
   refine ⟨by kernel_rfl, ?_⟩
   refine drawn (by kernel_rfl) ?_
   simp -implicitDefEqProofs only [go_sem]
   refine za6 (HO) (by simp -implicitDefEqProofs only [go_sem]) ?_
   simp -implicitDefEqProofs only [go_sem]
   kernel_rfl
end Go.Proofs.YtemnhgmgeijkcaaGreat
namespace Go.Proofs.YtemnhgmgeijkcaaGreat
set_option linter.unusedSimpArgs false
set_option linter.unusedVariables false
set_option linter.unusedSectionVars false
set_option maxRecDepth 4000
open Go.RowKit
theorem zw1 (l : List (Str × Tm)) (W : Nat) (hW : ∀ p ∈ l, p.2.wt <= W) : ∀ a : Tm, (zb8 l a).wt <= a.wt + a.nodes * W := zbd fun m xs ih => by
 rw [zfy, Tm.nodes_eq]
 show (if za2 m = true then (match l.find? fun (p : Str × Tm) => p.1 == m with | some p => p.2 | none => .mk m []) else .mk m (xs.map (zb8 l))).wt <= (Tm.mk m xs).wt + (1 + (xs.map Tm.nodes).sum) * W
 have hs : (xs.map fun x => (zb8 l x).wt).sum <= (xs.map Tm.wt).sum + (xs.map Tm.nodes).sum * W := by
  revert ih
  induction xs with
  | nil => simp
  | cons x xs ih2 =>
   intro ih
   have h1 := ih x (by simp)
   have h2 := ih2 fun y hy => ih y (by simp [hy])
   simp only [List.map_cons, List.sum_cons, Nat.add_mul]
   omega
 have h0 := Tm.wt_eq (.mk m xs)
 have h0 : (Tm.mk m xs).wt = m.length + xs.length + (xs.map Tm.wt).sum := h0
 rw [Nat.add_mul, Nat.one_mul]
 split
 ·split
  ·rename_i p hp
   have := hW p (List.mem_of_find?_eq_some hp)
   omega
  ·have h1 := Tm.wt_eq (.mk m [])
   have h1 : (Tm.mk m []).wt = m.length + 0 + 0 := h1
   omega
 ·have h1 := Tm.wt_eq (.mk m (xs.map (zb8 l)))
  have h1 : (Tm.mk m (xs.map (zb8 l))).wt = m.length + (xs.map (zb8 l)).length + ((xs.map (zb8 l)).map Tm.wt).sum := h1
  rw [List.length_map, List.map_map] at h1
  have h2 : (xs.map (Tm.wt ∘ zb8 l)).sum = (xs.map fun x => (zb8 l x).wt).sum := rfl
  omega
theorem qe8 (n : Str) (t : Tm) : ∀ p ∈ bnd n t, p.2.wt <= t.wt := by
 unfold bnd
 split
 ·simp
 ·intro p hp; simp at hp; rw [hp]; exact Nat.le_refl _
theorem qfa (n : Str) (t : Tm) (ht : t.wt <= 1048576) : ∀ f : Fm, f.forms = true -> f.wt <= 1048576 -> f.wt + (1 + f.wt) * t.wt <= 1099511627776 -> FC Tryz.prog 113 [fmD f, sD n, tmD t] [fmD (zcp n t f).1, bD (zcp n t f).2] :=
 zba fun o a v ps ih hf hw hb => by
  refine qbt n t ht (.mk o a v ps) hf hw ?_ fun x hx => ih x hx (by rw [Fm.forms_eq, Bool.and_eq_true] at hf; exact List.all_eq_true.1 hf.2 x hx) (Nat.le_trans (zb7 (a := .mk o a v ps) hx) hw) ?_
  ·have h1 := zw1 (bnd n t) t.wt (qe8 n t) a
   have h2 := zff a
   have h3 : a.wt <= (Fm.mk o a v ps).wt := zk0 (.mk o a v ps)
   have h4 : a.nodes * t.wt <= (1 + (Fm.mk o a v ps).wt) * t.wt := Nat.mul_le_mul_right _ (by omega)
   show (zb8 (bnd n t) a).wt <= _
   omega
  ·have h3 := zb7 (a := .mk o a v ps) hx
   have h4 : (1 + x.wt) * t.wt <= (1 + (Fm.mk o a v ps).wt) * t.wt := Nat.mul_le_mul_right _ (by omega)
   omega
end Go.Proofs.YtemnhgmgeijkcaaGreat
namespace Go.Proofs.YtemnhgmgeijkcaaGreat
set_option linter.unusedSimpArgs false
set_option linter.unusedVariables false
set_option linter.unusedSectionVars false
set_option maxRecDepth 4000
open Go.RowKit
attribute [local go_sem] Oper.semAt_some
set_option maxHeartbeats 1000000 in
theorem zjj : zws Tryz.prog 129 191 := by
 refine ⟨Tryz.call129, fun a len cap w => ?_⟩
 refine callsIn_wide.1 (callsIn_of_wp (n := 0) Tryz.func129 rfl trivial ?_ rfl)
 simp only [Tryz.ntmps129, List.size_toArray, List.length_cons, List.length_nil, Nat.reduceAdd, Nat.reduceSub, Array.replicate_succ, Array.replicate_zero, List.push_toArray, List.append_toArray, List.nil_append, List.cons_append]
 gi_wp2
 go_ret
 exact ⟨_, rfl, rfl⟩
set_option maxRecDepth 100000 in
set_option maxHeartbeats 2000000 in
theorem zk6 : zrj Tryz.prog 191 true 5 := by
 intro l Bs n W J hmax hlen0 hrd h0
 obtain ⟨ao, cap, hBs⟩ := hlen0 W h0
 have hmax : n <= 9223372036854775807 := hmax
 have hw1 : IntKind.i64.wrap ((n : Int) - 1) = (n : Int) - 1 := by rw [IntKind.wrap_i64]; omega
 have hro : (FR none).round = none := rfl
 refine callsIn_of_wp Tryz.func191 rfl trivial ?_ rfl
 simp only [Tryz.ntmps191, List.size_toArray, List.length_cons, List.length_nil, Nat.reduceAdd, Nat.reduceSub, Array.replicate_succ, Array.replicate_zero, List.push_toArray, List.append_toArray, List.nil_append, List.cons_append]
 gi_wp2
 gi_loopw [3] (fun i wr => ∃ k : Nat, k <= n /\ i = .int .i64 ((n : Int) - 1 - k) /\ J k wr) (fun i _ => (intOf i + 1).toNat)
 case atStart => exact ⟨0, Nat.zero_le _, by simp, h0⟩
 case round =>
  obtain ⟨k, hk, rfl, hJs⟩ := hrel
  by_cases hlt : k < n
  ·obtain ⟨m, hm⟩ : ∃ m, n - 1 - k = m := ⟨_, rfl⟩
   have hml : m < n := by omega
   obtain ⟨b, o, cap', r, hb, hr, hcell, fn, tmps, assign, body, hy, hR⟩ := hrd k wr hJs hlt
   match r, hr, hcell, hy with
   | [v0, v1, v2, v3, v4], _, hcell, hy =>
    rw [hm] at hcell hy
    rw [show (n : Int) - 1 - k = (m : Int) by omega]
    have e1 : wr.cell? ⟨b, o + m * 5, none⟩ = _ := hcell 0 v0 rfl
    have e2 : wr.cell? ⟨b, o + m * 5 + 1, none⟩ = _ := hcell 1 v1 rfl
    have e3 : wr.cell? ⟨b, o + m * 5 + 2, none⟩ = _ := hcell 2 v2 rfl
    have e4 : wr.cell? ⟨b, o + m * 5 + 3, none⟩ = _ := hcell 3 v3 rfl
    have e5 : wr.cell? ⟨b, o + m * 5 + 4, none⟩ = _ := hcell 4 v4 rfl
    simp only [agv, if_true] at hy
    have hw2 : IntKind.i64.wrap ((m : Int) - 1) = (m : Int) - 1 := by rw [IntKind.wrap_i64]; omega
    gi_wp2
    refine hR.mono ?_
    rintro e W3 ⟨rfl, hJ3⟩
    gi_wp2
    go_roundw
    case rel => exact ⟨k + 1, by omega, by go_num, hJ3⟩
    case measure => simp [intOf]
  ·obtain rfl : k = n := by omega
   gi_wp2
   go_end0
   exact ⟨⟨_, rfl⟩, hJs⟩
end Go.Proofs.YtemnhgmgeijkcaaGreat
namespace Go.Proofs.YtemnhgmgeijkcaaGreat
set_option linter.unusedSimpArgs false
set_option linter.unusedVariables false
set_option linter.unusedSectionVars false
set_option maxRecDepth 4000
open Go.RowKit
structure OF where
 op : Int
 name : Str
 a : Option Addr × Nat × Nat
 var : Str
 p : Option Addr × Nat × Nat
def ofC (x : OF) : List T := [.int .i64 x.op, .str x.name, .vs x.a.1 x.a.2.1 x.a.2.2, .str x.var, .vs x.p.1 x.p.2.1 x.p.2.2]
theorem zd1 (x : OF) : ofC x = [.int .i64 x.op, .str x.name, .vs x.a.1 x.a.2.1 x.a.2.2, .str x.var, .vs x.p.1 x.p.2.1 x.p.2.2] := rfl
def jnC (op : Int) : List OF -> List T
 | [] => []
 | [x] => ofC x
 | x :: xs => [.int .i64 op, .str [], .sl 2 [], .str [], .sl 5 [ofC x, jnC op xs]]
theorem zk8 (op : Int) (x : OF) {xs : List OF} (h : xs ≠ []) : jnC op (x :: xs) = [.int .i64 op, .str [], .sl 2 [], .str [], .sl 5 [ofC x, jnC op xs]] := by
 cases xs with
 | nil => exact absurd rfl h
 | cons y ys => rfl
theorem zy0 (op : Int) (x y : OF) : FC Tryz.prog 130 [iD op, .agg (ofC x), .agg (ofC y)] [.agg [.int .i64 op, .str [], .sl 2 [], .str [], .sl 5 [ofC x, ofC y]]] := by
 simp only [zd1]
 refine zam Tryz.call130 Tryz.func130 rfl (by kernel_rfl) (za1 (by kernel_rfl)) ?_
 simp -implicitDefEqProofs only [go_sem, Tryz.results130]
 refine zbl (by simp -implicitDefEqProofs only [go_sem]) ?_
 simp -implicitDefEqProofs only [go_sem]
theorem zve (op o2 : Int) (x : OF) (R : List (List T)) : GC Tryz.prog 130 [(false, iD op), (false, .agg (ofC x)), (true, .agg [.int .i64 o2, .str [], .sl 2 [], .str [], .sl 5 R])] [.agg [.int .i64 op, .str [], .sl 2 [], .str [], .sl 5 [ofC x, [.int .i64 o2, .str [], .sl 2 [], .str [], .sl 5 R]]]] := by
 simp only [zd1]
 refine zur Tryz.call130 Tryz.func130 rfl (by kernel_rfl) (by simp only [List.length_cons, List.length_nil, Tryz.ntmps130]; omega) (by simp [zby, T.isPin]) ?_
 simp -implicitDefEqProofs only [go_sem, Tryz.results130]
 refine zbl (by simp -implicitDefEqProofs only [go_sem]) ?_
 simp -implicitDefEqProofs only [go_sem]
def cbH (op : Int) (xs : List OF) (z : OF) : Nat -> St
 | 0 => hd [(3, .one (.bx 3 0)), (6, .one (.bx 6 0)), (7, .one (.bx 7 0)), (25, .one (.fn 191 [25]))]
   [(3, [.t (.int .i64 op)]), (6, [.t (.int .i64 0), .t (.str []), .nl 2, .t (.str []), .nl 5]), (7, (ofC (xs.getD (xs.length - 1) z)).map .t), (25, [.rn (.sl 5 ((xs.map ofC).take (xs.length - 1)))])] []
 | k + 1 => hd [(3, .one (.bx 3 0)), (6, .one (.bx 6 0)), (7, .one (.bx 7 0)), (25, .one (.fn 191 [25]))]
   [(3, [.t (.int .i64 op)]), (6, [.t (.int .i64 0), .t (.str []), .nl 2, .t (.str []), .nl 5]), (7, [.t (.int .i64 op), .t (.str []), .ow 994 0, .t (.str []), .ow 996 0]), (25, [.rn (.sl 5 ((xs.map ofC).take (xs.length - 1)))])]
   [(994, ⟨true, 2, [], 0, true⟩), (996, ⟨true, 5, [ofC (xs.getD (xs.length - 1 - 1 - k) z), jnC op (xs.drop (xs.length - 1 - k))], 0, true⟩)]
set_option maxHeartbeats 1000000 in
theorem zjr (op : Int) (xs : List OF) (z : OF) : FC Tryz.prog 71 [iD op, .one (.sl 5 (xs.map ofC)), .agg (ofC z)] [.agg (if xs = [] then ofC z else jnC op xs)] := by
 cases hx : xs with
 | nil =>
  simp only [if_true, List.map_nil, ofC]
  refine zzj Tryz.call71 Tryz.func71 rfl rfl (by kernel_rfl) (za1 (by kernel_rfl)) ?_
  simp -implicitDefEqProofs only [go_sem, Tryz.results71]
 | cons x0 r0 =>
  rw [<- hx]
  have hne : xs ≠ [] := by rw [hx]; simp
  have hn : 0 < xs.length := by rw [hx]; simp
  refine zdm (fun hw => ?_) Tryz.call71
  have hl : xs.length <= 9223372036854775807 := by simpa [zhp, wfT] using hw.2.1.1
  clear hw hx
  have e0 : ((xs.length : Int) == 0) = false := by simp; omega
  have e1 : IntKind.i64.wrap ((xs.length : Int) - 1) = ((xs.length - 1 : Nat) : Int) := by rw [zbp (by omega) (by omega)]; omega
  have hi : xs.length - 1 < xs.length := by omega
  rw [if_neg hne]
  simp only [ofC]
  refine zzj Tryz.call71 Tryz.func71 rfl rfl (by kernel_rfl) (za1 (by kernel_rfl)) ?_
  simp -implicitDefEqProofs only [go_sem, Tryz.results71, e0, e1, hi, zai, List.length_map, zd1]
  refine ⟨by omega, ?_⟩
  refine callB (sz := 5) (rows := (xs.map ofC).take (xs.length - 1)) zjj (by simp -implicitDefEqProofs only [go_sem]) ?_
  simp -implicitDefEqProofs only [go_sem]
  have hlen : ((xs.map ofC).take (xs.length - 1)).length = xs.length - 1 := by simp
  have hlast : xs.getD (xs.length - 1) z = xs[xs.length - 1] := by simp [hi]
  refine loopB zk6 Tryz.call191 25 (cbH op xs z) ((xs.map ofC).take (xs.length - 1)) (by kernel_rfl) rfl (fun k => by cases k <;> exact ⟨rfl, rfl⟩) (fun k => by cases k <;> exact ⟨rfl, rfl, rfl, rfl, rfl, rfl, rfl, trivial⟩) (zac (by simp -implicitDefEqProofs only [go_sem, hlast, zd1])) ?_ ?_
  ·intro k hk
   rw [hlen] at hk ⊢
   have hrow : ((xs.map ofC).take (xs.length - 1)).getD (xs.length - 1 - 1 - k) [] = ofC (xs.getD (xs.length - 1 - 1 - k) z) := by
    have h1 : xs.length - 1 - 1 - k < xs.length - 1 := by omega
    have h2 : xs.length - 1 - 1 - k < xs.length := by omega
    simp [List.getD, List.getElem?_take, h1, h2]
   rw [hrow]
   have hd1 : xs.drop (xs.length - 1) = [xs.getD (xs.length - 1) z] := by
    rw [List.drop_eq_getElem_cons hi, List.drop_of_length_le (by omega), hlast]
   cases k with
   | zero =>
    simp only [cbH, qef, if_true, Nat.sub_zero]
    simp -implicitDefEqProofs only [go_sem, zd1, qef, T.toN]
    refine callF (zy0 op (xs.getD (xs.length - 1 - 1) z) (xs.getD (xs.length - 1) z)) (by simp -implicitDefEqProofs only [go_sem, zd1]) ?_
    simp -implicitDefEqProofs only [go_sem, zd1]
    refine zac ?_
    rw [hd1]
    simp -implicitDefEqProofs only [go_sem, jnC, zd1]
   | succ k =>
    have hdk : xs.drop (xs.length - 1 - (k + 1)) = xs.getD (xs.length - 1 - 1 - k) z :: xs.drop (xs.length - 1 - k) := by
     have h1 : xs.length - 1 - (k + 1) < xs.length := by omega
     rw [List.drop_eq_getElem_cons h1, show xs.length - 1 - (k + 1) + 1 = xs.length - 1 - k by omega]
     congr 1
     rw [show xs.length - 1 - 1 - k = xs.length - 1 - (k + 1) by omega]
     simp [h1]
    have hdn : xs.drop (xs.length - 1 - k) ≠ [] := by
     intro e
     have := congrArg List.length e
     simp at this; omega
    simp only [cbH, qef, if_true]
    rw [hdk, zk8 op _ hdn]
    generalize xs.getD (xs.length - 1 - 1 - (k + 1)) z = x
    generalize xs.getD (xs.length - 1 - 1 - k) z = y
    generalize jnC op (xs.drop (xs.length - 1 - k)) = J
    simp -implicitDefEqProofs only [go_sem, zd1 x, T.toN]
    refine callG [(28, vI op), (29, .agg ((ofC x).map .t)), (30, .agg [.t (.int .i64 op), .t (.str []), .ow 994 0, .t (.str []), .ow 996 0])]
     [(3, .one (.bx 3 0)), (6, .one (.bx 6 0)), (7, .one (.bx 7 0)), (25, .one (.fn 191 [25]))] []
     [(3, [.t (.int .i64 op)]), (6, [.t (.int .i64 0), .t (.str []), .nl 2, .t (.str []), .nl 5]), (7, [.any, .any, .any, .any, .any]), (25, [.rn (.sl 5 ((xs.map ofC).take (xs.length - 1)))])]
     [(994, ⟨true, 2, [], 0, true⟩), (996, ⟨true, 5, [ofC y, J], 0, true⟩)] [] [] (zve op op x [ofC y, J]) (by simp -implicitDefEqProofs only [go_sem, zd1 x]) (by simp -implicitDefEqProofs only [go_sem]) (by simp -implicitDefEqProofs only [go_sem, zd1 x]) (by simp -implicitDefEqProofs only [go_sem]) ?_
    simp -implicitDefEqProofs only [go_sem]
    refine zac ?_
    simp -implicitDefEqProofs only [go_sem, zd1 x]
  ·rw [hlen]
   cases hm : xs.length - 1 with
   | zero =>
    have hx1 : xs = [xs.getD (xs.length - 1) z] := by
     rw [hlast]
     have : xs.length = 1 := by omega
     match xs, this with
     | [x], _ => rfl
    rw [hm] at hx1
    rw [hx1]
    generalize xs.getD 0 z = x
    show ex _ _ _ _ (cbH op [x] z 0)
    simp only [cbH]
    simp -implicitDefEqProofs only [go_sem, jnC, zd1, Tryz.results71]
   | succ m =>
    have h0 : 0 < xs.length := hn
    have hx2 : jnC op xs = [.int .i64 op, .str [], .sl 2 [], .str [], .sl 5 [ofC (xs.getD 0 z), jnC op (xs.drop 1)]] := by
     match xs, hm with
     | x :: r, hm =>
      rw [zk8 op x (by intro e; rw [e] at hm; simp at hm)]
      rfl
    rw [hx2]
    simp only [cbH]
    rw [show xs.length - 1 - 1 - m = 0 by omega, show xs.length - 1 - m = 1 by omega]
    generalize xs.getD 0 z = x
    generalize jnC op (xs.drop 1) = J
    simp -implicitDefEqProofs only [go_sem, Tryz.results71]
end Go.Proofs.YtemnhgmgeijkcaaGreat
namespace Go.Proofs.YtemnhgmgeijkcaaGreat
set_option linter.unusedSimpArgs false
set_option linter.unusedVariables false
set_option linter.unusedSectionVars false
set_option maxRecDepth 4000
open Go.RowKit
def zc1 (op : Int) : List Fm -> Fm -> Fm
 | [], z => z
 | [x], _ => x
 | x :: xs, z => mkF op [x, zc1 op xs z]
theorem zfi (op : Int) (x : Fm) {xs : List Fm} (h : xs ≠ []) (z : Fm) : zc1 op (x :: xs) z = mkF op [x, zc1 op xs z] := by
 cases xs with
 | nil => exact absurd rfl h
 | cons y ys => rfl
theorem of_fm {w : World} {x : Fm} {vs : List Value} {f : List Nat} (h : zas w (fmC x) vs f) : ∃ y : OF, (∀ A : Nat -> Prop, zad w A (ofC y) vs) /\ ∀ w' : World, (∀ b ∈ f, w'.heap[b]? = w.heap[b]?) -> zjd w' (ofC y) (fmC x) f := by
 rw [zab] at h ⊢
 obtain ⟨v1, _, f1, _, rfl, rfl, h1, h⟩ := h
 obtain ⟨v2, _, f2, _, rfl, rfl, h2, h⟩ := h
 obtain ⟨v3, _, f3, _, rfl, rfl, h3, h⟩ := h
 obtain ⟨v4, _, f4, _, rfl, rfl, h4, h⟩ := h
 obtain ⟨v5, _, f5, _, rfl, rfl, h5, h⟩ := h
 obtain ⟨rfl, rfl⟩ := h
 unfold zat at h1 h2 h4
 obtain ⟨rfl, n1, n2, rfl⟩ := h1
 obtain ⟨rfl, n3, rfl⟩ := h2
 obtain ⟨rfl, n4, rfl⟩ := h4
 have g3 := h3
 have g5 := h5
 unfold zat at g3 g5
 obtain ⟨a3, c3, rfl, _⟩ := g3
 obtain ⟨a5, c5, rfl, _⟩ := g5
 refine ⟨⟨x.op, x.atom.name, (a3, (x.atom.args.map tmC).length, c3), x.var, (a5, (x.parts.map fmC).length, c5)⟩, fun A => ?_, fun w' hs => ?_⟩
 ·unfold ofC
  simp only [zad, zak]
  exact ⟨_, _, rfl, ⟨rfl, n1, n2⟩, _, _, rfl, ⟨rfl, n3⟩, _, _, rfl, rfl, _, _, rfl, ⟨rfl, n4⟩, _, _, rfl, rfl, rfl⟩
 ·unfold ofC
  simp only [zjd, GrT]
  refine ⟨_, _, [], _, rfl, rfl, ⟨rfl, rfl⟩, _, _, [], _, rfl, rfl, ⟨rfl, rfl⟩, _, _, f3, _, rfl, rfl, zat.keep _ _ _ h3 fun b hb => hs b (by simp [hb]), _, _, [], _, rfl, rfl, ⟨rfl, rfl⟩, _, _, f5, _, rfl, rfl, zat.keep _ _ _ h5 fun b hb => hs b (by simp [hb]), rfl, rfl⟩
theorem qel {w : World} {cells : Array Value} {b : Nat} {ty : TypeId} (hc : w.heap[b]? = some (.cells cells ty (0, 0))) : ∀ {xs : List Fm} {o : Nat} {fps : List Nat}, zag w cells o 5 (xs.map fmC) fps →
  ∃ ys : List OF, ys.length = xs.length /\ (∀ A : Nat -> Prop, zal w A b o 5 (ys.map ofC)) /\ ∀ w' : World, (∀ b ∈ fps, w'.heap[b]? = w.heap[b]?) -> zb4 w' (ys.map ofC) (xs.map fmC) fps
 | [], o, fps, h => by
  rw [List.map_nil] at h
  unfold zag at h
  subst h
  exact ⟨[], rfl, fun A => by rw [List.map_nil]; unfold zal; trivial, fun w' _ => by rw [List.map_nil, List.map_nil]; unfold zb4; exact ⟨rfl, rfl⟩⟩
 | x :: xs, o, fps, h => by
  rw [List.map_cons] at h
  unfold zag at h
  obtain ⟨h1, f1, f2, rfl, h2, h3⟩ := h
  obtain ⟨vs, k1, k2, k3⟩ := h2.vals
  obtain ⟨y, l1, l2⟩ := of_fm k3
  obtain ⟨ys, m1, m2, m3⟩ := qel hc h3
  refine ⟨y :: ys, by simp [m1], fun A => ?_, fun w' hs => ?_⟩
  ·rw [List.map_cons]
   unfold zal
   refine ⟨rfl, za5.mk fun j c hj => ?_, m2 A⟩
   obtain ⟨v, q1, q2⟩ := (l1 A).at j c hj
   exact ⟨v, by simp [World.cell?, hc, k2 j v q1], q2⟩
  ·rw [List.map_cons, List.map_cons]
   unfold zb4
   exact ⟨_, _, f1, f2, rfl, rfl, l2 w' fun b hb => hs b (by simp [hb]), m3 w' fun b hb => hs b (by simp [hb])⟩
theorem zu6 {w : World} (op : Int) (z : Fm) : ∀ {xs : List Fm} {ys : List OF} {fps : List Nat}, xs ≠ [] -> zb4 w (ys.map ofC) (xs.map fmC) fps -> zjd w (jnC op ys) (fmC (zc1 op xs z)) fps
 | [], _, _, h, _ => absurd rfl h
 | x :: xs, [], _, _, h => by rw [List.map_nil, List.map_cons] at h; unfold zb4 at h; exact absurd h.1 (by simp)
 | x :: xs, y :: ys, fps, _, h => by
  rw [List.map_cons, List.map_cons] at h
  unfold zb4 at h
  obtain ⟨r', rs', e1, e2, h0, rfl, h1, h2⟩ := h
  simp only [List.cons.injEq] at h0
  obtain ⟨rfl, rfl⟩ := h0
  have hlen := h2.len
  simp only [List.length_map] at hlen
  by_cases hx : xs = []
  ·subst hx
   have hy : ys = [] := List.length_eq_zero_iff.1 (by simpa using hlen.symm)
   subst hy
   rw [List.map_nil, List.map_nil] at h2
   unfold zb4 at h2
   rw [h2.2, List.append_nil]
   exact h1
  ·have hy : ys ≠ [] := fun e => hx (List.length_eq_zero_iff.1 (by rw [hlen, e]; rfl))
   rw [zk8 op y hy, zfi op x hx, zcm, List.map_cons, List.map_cons, List.map_nil]
   have h3 := zu6 op z hx h2
   simp only [zjd, GrT, zb4]
   exact ⟨_, _, [], _, rfl, rfl, ⟨rfl, rfl⟩, _, _, [], _, rfl, rfl, ⟨rfl, rfl⟩, _, _, [], _, rfl, rfl, ⟨[], rfl, rfl, rfl⟩, _, _, [], _, rfl, rfl, ⟨rfl, rfl⟩, _, _, e1 ++ e2, [], rfl, by simp, ⟨_, rfl, _, _, e1, e2, rfl, rfl, h1, _, _, e2, [], rfl, by simp, h3, rfl, rfl⟩, rfl, rfl⟩
theorem ztz (op : Int) (xs : List Fm) (z : Fm) : GC Tryz.prog 71 [(false, iD op), (true, .one (fmS xs)), (true, fmD z)] [fmD (zc1 op xs z)] := by
 refine zqj Tryz.call71 fun w vs fp tp hv hn => ?_
 obtain ⟨v1, _, rfl, h1, hv⟩ := hv
 obtain ⟨v2, _, f2, _, t2, _, rfl, rfl, rfl, h2, hv⟩ := hv
 obtain ⟨v3, _, f3, _, t3, _, rfl, rfl, rfl, h3, hv⟩ := hv
 obtain ⟨rfl, rfl, rfl⟩ := hv
 obtain ⟨a, rfl, h3⟩ := h3
 have h2 : zat w (fmS xs) v2 f2 := h2.1
 have h3 : zas w (fmC z) a f3 := zas.of_g h3
 obtain ⟨y, k1, k2⟩ := of_fm h3
 have hlt3 : ∀ b ∈ f3, b < w.heap.size := zas.lt h3
 have hlt2 : ∀ b ∈ f2, b < w.heap.size := zat.lt _ _ _ h2
 have hi : ztx w (fun b => b < w.heap.size) (iD op) v1 := by
  have : za9 w (fun b => b < w.heap.size) [iD op] [v1] := za9.keep (fun _ _ => rfl) (fun b hb => hb.1) (⟨v1, [], rfl, h1, rfl⟩ : za9 w (fun b => b < w.heap.size /\ b ∉ f2 ++ (f3 ++ [])) [iD op] [v1])
  obtain ⟨_, _, e, h4, _⟩ := this
  cases e; exact h4
 obtain ⟨n1, n2, -⟩ := List.nodup_append.1 hn
 rw [List.append_nil] at n2
 have hS : ∃ (ys : List OF) (f : List Nat), ys.length = xs.length /\ f.Nodup /\ (∀ b ∈ f, b ∈ f2) /\ zak w (fun b => b < w.heap.size) (.sl 5 (ys.map ofC)) v2 /\ ∀ w' : World, (∀ b ∈ f, w'.heap[b]? = w.heap[b]?) -> zb4 w' (ys.map ofC) (xs.map fmC) f := by
  unfold fmS at h2
  unfold zat at h2
  obtain ⟨ao, cap, rfl, q1, q2, q3⟩ := h2
  rw [List.length_map] at q1
  rcases q3 with ⟨rfl, rfl, q3, rfl⟩ | ⟨b, cells, ty, fps, rfl, rfl, q3, q4, q5⟩
  ·have hx : xs = [] := by simpa using q3
   subst hx
   refine ⟨[], [], rfl, List.nodup_nil, fun b hb => hb, ?_, fun _ _ => by rw [List.map_nil, List.map_nil]; unfold zb4; exact ⟨rfl, rfl⟩⟩
   unfold zak
   exact ⟨none, 0, rfl, Nat.le_refl _, by simp, Or.inl rfl⟩
  ·obtain ⟨ys, r1, r2, r3⟩ := qel q3 q5
   refine ⟨ys, fps, r1, (List.nodup_cons.1 n1).2, fun b hb => by simp [hb], ?_, r3⟩
   unfold zak
   exact ⟨_, cap, by rw [List.length_map, List.length_map, r1], by rw [List.length_map, r1]; exact q1, q2, Or.inr ⟨b, 0, rfl, hlt2 b (by simp), r2 _⟩⟩
 obtain ⟨ys, f, r1, r4, r5, r2, r3⟩ := hS
 by_cases hx : xs = []
 ·subst hx
  have hy : ys = [] := List.length_eq_zero_iff.1 (by simpa using r1)
  refine ⟨[iD op, .one (.sl 5 (ys.map ofC)), .agg (ofC y)], _, f3, zjr op ys y, ⟨v1, _, rfl, hi, v2, _, rfl, r2, _, _, rfl, ⟨a, rfl, k1 _⟩, rfl⟩, n2, fun b hb => ⟨by simp [hb], hlt3 b hb⟩, fun w' hs => ?_⟩
  rw [if_pos hy]
  exact k2 w' hs
 ·have hy : ys ≠ [] := fun e => hx (List.length_eq_zero_iff.1 (by rw [<- r1, e]; rfl))
  refine ⟨[iD op, .one (.sl 5 (ys.map ofC)), .agg (ofC y)], _, f, zjr op ys y, ⟨v1, _, rfl, hi, v2, _, rfl, r2, _, _, rfl, ⟨a, rfl, k1 _⟩, rfl⟩, r4, fun b hb => ⟨by simp [r5 b hb], hlt2 b (r5 b hb)⟩, fun w' hs => ?_⟩
  rw [if_neg hy]
  exact zu6 op z hx (r3 w' hs)
end Go.Proofs.YtemnhgmgeijkcaaGreat
namespace Go.Proofs.YtemnhgmgeijkcaaGreat
set_option linter.unusedSimpArgs false
set_option linter.unusedVariables false
set_option linter.unusedSectionVars false
set_option maxRecDepth 4000
open Go.RowKit
def jS (op : Int) (xs : List Fm) (J : Fm) (i : Int) (a b : Nat) : St := hd [(0, vT (fmS xs)), (1, .one (.t (.int .i64 op))), (6, .one (.bx 6 0)), (7, .one (.bx 7 0)), (8, .one (.t (.int .i64 i)))]
 [(6, [.t (.int .i64 0), .t (.str []), .nl 2, .t (.str []), .nl 5]), (7, [.t (.int .i64 J.op), .t (.str J.atom.name), .ow a 0, .t (.str J.var), .ow b 0])] [(a, ⟨true, 2, J.atom.args.map tmC, 0, true⟩), (b, ⟨true, 5, J.parts.map fmC, 0, true⟩)]
theorem qgn (op : Int) (xs : List Fm) (J : Fm) (i : Int) : Wk (jS op xs J i 642 644) (jS op xs J i 2002 644) := znj 642 2002 _ _ _
theorem qgk (op : Int) (xs : List Fm) (J : Fm) (i : Int) : Wk (jS op xs J i 2002 644) (jS op xs J i 2002 2000) := znj 644 2000 _ _ _
theorem qgm (op : Int) (xs : List Fm) (J : Fm) (i : Int) : Wk (jS op xs J i 2003 1120) (jS op xs J i 2003 2000) := znj 1120 2000 _ _ _
theorem qe4 (op : Int) (xs : List Fm) (J : Fm) (i : Int) : Wk (jS op xs J i 2003 2000) (jS op xs J i 2002 2000) := znj 2003 2002 _ _ _
theorem mkF_op (o : Int) (ps : List Fm) : (mkF o ps).op = o := rfl
theorem qck (o : Int) (ps : List Fm) : (mkF o ps).atom.name = [] := rfl
theorem qat (o : Int) (ps : List Fm) : (mkF o ps).atom.args = [] := rfl
theorem qgl (o : Int) (ps : List Fm) : (mkF o ps).var = [] := rfl
theorem zux (o : Int) (ps : List Fm) : (mkF o ps).parts = ps := rfl
theorem zoc (xs : List Fm) (op none : Int) (hs : xs.length <= 1099511627776) (hwt : ∀ k (h : k < xs.length), xs[k].wt <= 1048576) : FC Tryz.prog 115 [.one (fmS xs), iD op, iD none] [fmD (zc1 op xs (mkF none []))] := by
 by_cases hx : xs = []
 ·subst hx
  show FC _ _ _ [fmD (mkF none [])]
  simp only [fmD, zcm, List.map_nil, fmS]
  refine zam Tryz.call115 Tryz.func115 rfl (by kernel_rfl) (za1 (by kernel_rfl)) ?_
  simp -implicitDefEqProofs only [go_sem, Tryz.results115]
 ·have hn : 0 < xs.length := List.length_pos_iff.2 hx
  have e0 : ((xs.length : Int) == 0) = false := by simp; omega
  have e1 : IntKind.i64.wrap ((xs.length : Int) - 1) = ((xs.length - 1 : Nat) : Int) := by rw [zbp (by omega) (by omega)]; omega
  have e2 : IntKind.i64.wrap ((xs.length : Int) - 2) = (xs.length : Int) - 2 := zbp (by omega) (by omega)
  have hi : xs.length - 1 < xs.length := by omega
  have hR : ∃ R, zc1 op xs (mkF none []) = R := ⟨_, rfl⟩
  obtain ⟨R, hR⟩ := hR
  rw [hR]
  simp only [fmD, zab R]
  have hL := zab xs[xs.length - 1]
  refine zam Tryz.call115 Tryz.func115 rfl (by kernel_rfl) (za1 (by kernel_rfl)) ?_
  simp -implicitDefEqProofs only [go_sem, Tryz.results115, e0, e1, hi, zai, hL]
  refine callF (zop xs[xs.length - 1] (hwt _ hi)) (by simp -implicitDefEqProofs only [go_sem, zab xs[xs.length - 1], e2]) ?_
  simp -implicitDefEqProofs only [go_sem, zab xs[xs.length - 1], e2]
  have hd1 : zc1 op (xs.drop (xs.length - 1)) (mkF none []) = xs[xs.length - 1] := by
   rw [List.drop_eq_getElem_cons hi, List.drop_of_length_le (by omega)]; rfl
  refine zaf (fun k : Nat => jS op xs (zc1 op (xs.drop (xs.length - 1 - k)) (mkF none [])) ((xs.length : Int) - 2 - k) 2002 2000) (fun k => k <= xs.length - 1) (fun k => xs.length - 1 - k) 0 (Wk.trans ?_ ((qgn _ _ _ _).trans (qgk _ _ _ _))) (Nat.zero_le _) ?_
  ·rw [Nat.sub_zero, hd1]
   unfold jS
   refine zac ?_
   simp -implicitDefEqProofs only [go_sem]
   simp
  ·intro k hk
   by_cases hlt : k < xs.length - 1
   ·obtain ⟨m, hm⟩ : ∃ m, xs.length - 2 - k = m := ⟨_, rfl⟩
    have hml : m < xs.length := by omega
    have hge : ((0 : Int) <= (m : Int)) = True := by simp
    have hdk : zc1 op (xs.drop (xs.length - 1 - (k + 1))) (mkF none []) = mkF op [xs[m], zc1 op (xs.drop (xs.length - 1 - k)) (mkF none [])] := by
     rw [show xs.length - 1 - (k + 1) = m by omega, List.drop_eq_getElem_cons hml, show m + 1 = xs.length - 1 - k by omega]
     refine zfi op _ ?_ _
     intro e
     have := congrArg List.length e
     simp at this; omega
    have hwm := hwt m hml
    have hnx : Wk (jS op xs (zc1 op (xs.drop (xs.length - 1 - (k + 1))) (mkF none [])) ((xs.length : Int) - 2 - ((k + 1 : Nat) : Int)) 2003 1120) (jS op xs (zc1 op (xs.drop (xs.length - 1 - (k + 1))) (mkF none [])) ((xs.length : Int) - 2 - ((k + 1 : Nat) : Int)) 2002 2000) := (qgm _ _ _ _).trans (qe4 _ _ _ _)
    have e3 : IntKind.i64.wrap ((m : Int) - 1) = (xs.length : Int) - 2 - ((k + 1 : Nat) : Int) := by rw [zbp (by omega) (by omega)]; omega
    rw [show (xs.length : Int) - 2 - (k : Int) = (m : Int) by omega]
    generalize hJ : zc1 op (xs.drop (xs.length - 1 - k)) (mkF none []) = J at hdk ⊢
    generalize hX : xs[m] = x at hdk hwm
    have hxE := zab x
    unfold jS
    simp -implicitDefEqProofs only [go_sem, hge, zai, hml, hX, hxE]
    refine drawn (by kernel_rfl) ?_
    simp -implicitDefEqProofs only [go_sem, zai, hml, hX, hxE]
    refine za6 (zop x hwm) (by simp -implicitDefEqProofs only [go_sem, hxE]) ?_
    simp -implicitDefEqProofs only [go_sem, hxE]
    refine zbo (by simp -implicitDefEqProofs only [go_sem]) ?_
    simp -implicitDefEqProofs only [go_sem]
    refine ⟨by kernel_rfl, k + 1, by omega, by omega, Wk.trans ?_ hnx⟩
    rw [hdk]
    unfold jS
    refine zac ?_
    simp -implicitDefEqProofs only [go_sem, e3, mkF_op, qck, qat, qgl, zux, List.map_cons, List.map_nil, hxE]
    rw [zab J]
   ·have hk2 : k = xs.length - 1 := by omega
    subst hk2
    have hlt0 : ((xs.length : Int) - 2 - ((xs.length - 1 : Nat) : Int)) = -1 := by omega
    rw [Nat.sub_self, List.drop_zero, hR, hlt0]
    unfold jS
    simp -implicitDefEqProofs only [go_sem]
end Go.Proofs.YtemnhgmgeijkcaaGreat
namespace Go.Proofs.YtemnhgmgeijkcaaGreat
set_option linter.unusedSimpArgs false
set_option linter.unusedVariables false
set_option linter.unusedSectionVars false
set_option maxRecDepth 4000
open Go.RowKit
def mtd : Nat -> Nat -> Str -> Str
 | 0, _, acc => acc
 | fuel + 1, n, acc => if n = 0 then acc else mtd fuel (n / 10) (UInt8.ofNat (48 + n % 10) :: acc)
def mtx (k : Nat) : Str := 109 :: mtd (k + 1) k []
theorem zl7 (fuel n : Nat) (acc : Str) (h : 0 < n) : mtd (fuel + 1) n acc = mtd fuel (n / 10) (UInt8.ofNat (48 + n % 10) :: acc) := by rw [mtd, if_neg (by omega)]
theorem zrh : ∀ (f f' n : Nat) (acc : Str), n < f -> n < f' -> mtd f n acc = mtd f' n acc
 | 0, _, n, _, h, _ => absurd h (by omega)
 | _ + 1, 0, n, _, _, h => absurd h (by omega)
 | f + 1, f' + 1, n, acc, h, h' => by
  by_cases h0 : n = 0
  ·simp [mtd, h0]
  ·rw [zl7 _ _ _ (by omega), zl7 _ _ _ (by omega)]
   exact zrh f f' _ _ (by omega) (by omega)
theorem qfe {n : Nat} (h : n < 256) : IntKind.u8.wrap (n : Int) = n := by
 have e : IntKind.u8.wrap (n : Int) = (n : Int) % 256 := rfl
 rw [e]; omega
theorem zdb (k : Nat) (hk0 : 0 < k) (hk : k <= 4611686018427387904) : FC Tryz.prog 131 [iD k] [sD (mtx k)] := by
 have h0 : ((k : Int) <= 0) = False := by simp; omega
 refine zam Tryz.call131 Tryz.func131 rfl (by kernel_rfl) (za1 (by kernel_rfl)) ?_
 simp -implicitDefEqProofs only [go_sem, Tryz.results131, h0]
 refine zaf (fun (x : Nat × Str) => hd [(0, vI x.1), (3, vT (.str x.2))] [] []) (fun x => mtx k = 109 :: mtd (x.1 + 1) x.1 x.2 /\ x.1 * 10 ^ x.2.length <= k /\ x.2.length <= 19) (fun x => x.1) (k, []) (zac ?_) ?_ ?_
 ·simp -implicitDefEqProofs only [go_sem]
 ·exact ⟨rfl, by simp, by simp⟩
 ·intro ⟨n, s⟩ ⟨h1, h2, hl⟩
  have hl : s.length <= 19 := hl
  have hn : n <= k := Nat.le_trans (Nat.le_mul_of_pos_right _ (Nat.pow_pos (by omega))) h2
  have hs : s.length <= 18 \/ n = 0 := by
   by_cases h : n = 0
   ·exact Or.inr h
   ·left
    refine Nat.le_of_not_lt fun hl => ?_
    have : 10 ^ 19 <= 10 ^ s.length := Nat.pow_le_pow_right (by omega) (by omega)
    have : 1 * 10 ^ s.length <= n * 10 ^ s.length := Nat.mul_le_mul_right _ (by omega)
    have h2 : n * 10 ^ s.length <= k := h2
    omega
  by_cases hp : 0 < n
  ·have hp' : ((n : Int) > 0) = True := by simp; omega
   have e1 : (n : Int).tmod 10 = ((n % 10 : Nat) : Int) := by rw [Int.tmod_eq_emod_of_nonneg (by omega)]; omega
   have e2 : (n : Int).tdiv 10 = ((n / 10 : Nat) : Int) := by rw [Int.tdiv_eq_ediv_of_nonneg (by omega)]; omega
   have e3 : IntKind.i64.wrap (48 + ((n % 10 : Nat) : Int)) = ((48 + n % 10 : Nat) : Int) := by rw [zbp (by omega) (by omega)]; omega
   have e4 : IntKind.u8.wrap ((48 + n % 10 : Nat) : Int) = ((48 + n % 10 : Nat) : Int) := qfe (by omega)
   have e5 : IntKind.i64.wrap ((n / 10 : Nat) : Int) = ((n / 10 : Nat) : Int) := zbp (by omega) (by omega)
   simp -implicitDefEqProofs only [go_sem, hp', e1, e2, e3, e4, e5]
   refine ⟨by omega, ?_⟩
   refine zbl (by simp -implicitDefEqProofs only [go_sem]) ?_
   simp -implicitDefEqProofs only [go_sem]
   have hs' : s.length <= 18 := by omega
   refine ⟨by omega, by omega, (n / 10, UInt8.ofNat (48 + n % 10) :: s), ⟨?_, ?_, show s.length + 1 <= 19 by omega⟩, by omega, zac (by simp -implicitDefEqProofs only [go_sem, e2, e5])⟩
   ·rw [h1]
    show (109 :: mtd (n + 1) n s : Str) = 109 :: mtd (n / 10 + 1) (n / 10) (UInt8.ofNat (48 + n % 10) :: s)
    rw [zl7 _ _ _ hp, zrh n (n / 10 + 1) _ _ (by omega) (by omega)]
   ·show n / 10 * 10 ^ (s.length + 1) <= k
    rw [Nat.pow_succ, Nat.mul_comm _ 10, <- Nat.mul_assoc]
    exact Nat.le_trans (Nat.mul_le_mul_right _ (by omega)) h2
  ·have h0' : n = 0 := by omega
   subst h0'
   simp -implicitDefEqProofs only [go_sem]
   refine ⟨by omega, ?_⟩
   rw [h1]; simp [mtd]
end Go.Proofs.YtemnhgmgeijkcaaGreat
