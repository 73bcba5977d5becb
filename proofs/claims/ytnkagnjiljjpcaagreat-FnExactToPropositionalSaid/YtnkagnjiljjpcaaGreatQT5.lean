/-
  The walk over plain data, and contracts of functions of the program and of its laws.
  Conditions: those that each theorem names.
-/
import Derived.Test.YtnkagnjiljjpcaaGreatQT4
import Derived.RangeFuncNested
import Derived.RangeFuncBound
import Derived.RangeFuncCalls
import Derived.TacticsInMore
import Derived.LoopNIn
import Derived.LoopIn
import Derived.MapKept
import Derived.Lib.Walk
import Derived.Lib.SliceRun
import Derived.Lib.AppendZeros
namespace Go.Proofs.YtnkagnjiljjpcaaGreat
set_option linter.unusedSimpArgs false
set_option linter.unusedVariables false
set_option linter.unusedSectionVars false
set_option maxRecDepth 4000
open Go.RowKit
def Tm.nodes : Tm -> Nat := Tm.fold fun _ _ rs => 1 + rs.sum
theorem Tm.nodes_eq (a : Tm) : a.nodes = 1 + (a.args.map Tm.nodes).sum := Tm.fold_eq _ a
def Tm.depth : Tm -> Nat := Tm.fold fun _ _ rs => rs.foldl max 0 + 1
theorem Tm.depth_eq (a : Tm) : a.depth = (a.args.map Tm.depth).foldl max 0 + 1 := Tm.fold_eq _ a
theorem zge : ∀ a : Tm, a.nodes <= 1 + a.wt := by
 refine zbd fun n xs ih => ?_
 rw [Tm.nodes_eq, Tm.wt_eq]
 show 1 + (xs.map Tm.nodes).sum <= 1 + (n.length + xs.length + (xs.map Tm.wt).sum)
 have : (xs.map Tm.nodes).sum <= xs.length + (xs.map Tm.wt).sum := by
  clear n
  induction xs with
  | nil => simp
  | cons x xs ih2 =>
   have h1 := ih x (by simp)
   have h2 := ih2 fun y hy => ih y (by simp [hy])
   simp only [List.map_cons, List.sum_cons, List.length_cons]
   omega
 omega
theorem zf0 {B : Nat} : ∀ (xs : List Nat) (m : Nat), m <= B -> (∀ x ∈ xs, x <= B) -> xs.foldl max m <= B
 | [], m, h, _ => h
 | x :: xs, m, h, h2 => zf0 xs (max m x) (by have := h2 x (by simp); omega) fun y hy => h2 y (by simp [hy])
theorem zgt : ∀ a : Tm, a.depth <= a.nodes := by
 refine zbd fun n xs ih => ?_
 rw [Tm.nodes_eq, Tm.depth_eq]
 show (xs.map Tm.depth).foldl max 0 + 1 <= 1 + (xs.map Tm.nodes).sum
 have := zf0 (B := (xs.map Tm.nodes).sum) (xs.map Tm.depth) 0 (by omega) fun d hd => by
  obtain ⟨x, hx, rfl⟩ := List.mem_map.1 hd
  exact Nat.le_trans (ih x hx) (zb8 Tm.nodes xs x hx)
 omega
def szL (lim : Int) : Int -> List Int -> Int
 | n, [] => n
 | n, r :: rs => if n > lim then n else szL lim (n + r) rs
def zdm : Tm -> Int := Tm.fold fun _ _ rs => szL 30 1 rs
theorem zqr (a : Tm) : zdm a = szL 30 1 (a.args.map zdm) := Tm.fold_eq _ a
theorem zqo {α : Type} (f : α -> Int) (g : α -> Nat) (lim : Int) : ∀ (xs : List α) (n : Int), 0 <= n -> (∀ x ∈ xs, 1 <= f x /\ f x <= g x /\ (f x <= lim -> f x = g x)) -> szL lim n (xs.map f) <= n + (xs.map g).sum /\ n <= szL lim n (xs.map f) /\ (szL lim n (xs.map f) <= lim -> szL lim n (xs.map f) = n + (xs.map g).sum)
 | [], n, _, _ => by simp [szL]
 | x :: xs, n, hn, h => by
  obtain ⟨h1, h2, h3⟩ := h x (by simp)
  obtain ⟨k1, k2, k3⟩ := zqo f g lim xs (n + f x) (by omega) fun y hy => h y (by simp [hy])
  simp only [List.map_cons, szL, List.sum_cons]
  split
  ·refine ⟨by omega, by omega, fun hh => by omega⟩
  ·refine ⟨by omega, by omega, fun hh => ?_⟩
   have := k3 hh
   rw [this]
   have : f x = g x := h3 (by omega)
   omega
theorem zit : ∀ a : Tm, 1 <= zdm a /\ zdm a <= a.nodes /\ (zdm a <= 30 -> zdm a = a.nodes) := by
 refine zbd fun n xs ih => ?_
 rw [zqr, Tm.nodes_eq]
 show 1 <= szL 30 1 (xs.map zdm) /\ szL 30 1 (xs.map zdm) <= ((1 + (xs.map Tm.nodes).sum : Nat) : Int) /\ _
 obtain ⟨k1, k2, k3⟩ := zqo zdm Tm.nodes 30 xs 1 (by omega) ih
 refine ⟨k2, by omega, fun h => ?_⟩
 have := k3 h
 show szL 30 1 (xs.map zdm) = _
 rw [this]; show _ = ((1 + (xs.map Tm.nodes).sum : Nat) : Int); omega
theorem zxy (a : Tm) : decide (zdm a <= 30) = decide (a.nodes <= 30) := by
 obtain ⟨h1, h2, h3⟩ := zit a
 rw [decide_eq_decide]
 exact ⟨fun h => by have := h3 h; omega, fun h => by omega⟩
def qcg {α : Type} (f : α -> Nat) (xs : List α) (k : Nat) : Nat := ((xs.drop k).map f).sum
theorem zlo {α : Type} (f : α -> Nat) (xs : List α) : qcg f xs 0 = (xs.map f).sum := by simp [qcg]
theorem ztl {α : Type} (f : α -> Nat) (xs : List α) (k : Nat) (h : k < xs.length) : qcg f xs k = f xs[k] + qcg f xs (k + 1) := by
 unfold qcg
 rw [List.drop_eq_getElem_cons h, List.map_cons, List.sum_cons]
set_option maxHeartbeats 400000 in
theorem qds (a : Tm) (hs : a.wt <= 1099511627776) (H : ∀ x ∈ a.args, FC Tryz.prog 161 [tmD x] [iD (zdm x)]) : FC Tryz.prog 161 [tmD a] [iD (zdm a)] := by
 refine zbw (fun hw => ?_) Tryz.call161
 have hl : a.args.length <= 9223372036854775807 := by rw [Tm.wt_eq] at hs; omega
 have hn := zge a
 have hN := a.nodes_eq
 simp only [tmD, zaa]
 refine zan Tryz.call161 Tryz.func161 rfl (by kernel_rfl) (za3 (by kernel_rfl)) ?_
 simp -implicitDefEqProofs only [go_sem, Tryz.results161]
 refine zag (fun p : Nat × Int => hd [(3, vI p.2), (7, vT (tmS a.args)), (8, vI a.args.length), (9, vI p.1)] [] []) (fun p => p.1 <= a.args.length /\ zdm a = szL 30 p.2 ((a.args.drop p.1).map zdm) /\ 1 <= p.2 /\ p.2 + qcg Tm.nodes a.args p.1 <= a.nodes) (fun p => a.args.length - p.1) (0, 1) (zab ?_) ?_ ?_
 ·simp -implicitDefEqProofs only [go_sem]
 ·exact ⟨by simp, by rw [zqr]; rfl, by omega, by rw [zlo]; omega⟩
 ·intro ⟨k, n⟩ ⟨hk, hr, h1, h2⟩
  simp only at hk hr h1 h2
  by_cases hlt : k < a.args.length
  ·have hd := ztl Tm.nodes a.args k hlt
   obtain ⟨s1, s2, s3⟩ := zit a.args[k]
   rw [List.drop_eq_getElem_cons hlt, List.map_cons, szL] at hr
   simp -implicitDefEqProofs only [go_sem, zaf, hlt, zaa]
   refine ⟨fun h => ?_, fun h => ?_⟩
   ·rw [hr, if_pos (by simpa using h)]
   ·refine callF (H a.args[k] (List.getElem_mem hlt)) (by simp -implicitDefEqProofs only [go_sem, zaa]) ?_
    simp -implicitDefEqProofs only [go_sem, zaa]
    rw [if_neg (by simpa using h)] at hr
    exact ⟨(k + 1, n + zdm a.args[k]), ⟨hlt, hr, by simp only; omega, by simp only; omega⟩, by simp only; omega, zab (by simp -implicitDefEqProofs only [go_sem]; rw [zam (by omega), za4 (by omega) (by omega)]; exact ⟨rfl, rfl⟩)⟩
  ·simp -implicitDefEqProofs only [go_sem, hlt]
   rw [hr, List.drop_of_length_le (by omega)]; rfl
theorem size_c : ∀ a : Tm, a.wt <= 1099511627776 -> FC Tryz.prog 161 [tmD a] [iD (zdm a)] :=
 zbd fun n xs ih hs => qds (.mk n xs) hs fun x hx => ih x hx (by
  have := Tm.wt_eq (.mk n xs)
  have := zb8 Tm.wt xs x hx
  simp only [Tm.args] at *; omega)
set_option maxHeartbeats 400000 in
theorem zzq (a : Tm) (hs : a.wt <= 1099511627776) (H : ∀ x ∈ a.args, FC Tryz.prog 111 [tmD x] [iD x.depth]) : FC Tryz.prog 111 [tmD a] [iD a.depth] := by
 have hl : a.args.length <= 9223372036854775807 := by rw [Tm.wt_eq] at hs; omega
 have hn := zge a
 have hdn := zgt a
 have hD := a.depth_eq
 simp only [tmD, zaa]
 refine zan Tryz.call111 Tryz.func111 rfl (by kernel_rfl) (za3 (by kernel_rfl)) ?_
 simp -implicitDefEqProofs only [go_sem, Tryz.results111]
 refine zag (fun p : Nat × Nat => hd [(3, vI p.2), (7, vT (tmS a.args)), (8, vI a.args.length), (9, vI p.1)] [] []) (fun p => p.1 <= a.args.length /\ a.depth = ((a.args.drop p.1).map Tm.depth).foldl max p.2 + 1) (fun p => a.args.length - p.1) (0, 0) (zab ?_) ?_ ?_
 ·simp -implicitDefEqProofs only [go_sem]
 ·exact ⟨by simp, hD⟩
 ·intro ⟨k, n⟩ ⟨hk, hr⟩
  simp only at hk hr
  by_cases hlt : k < a.args.length
  ·rw [List.drop_eq_getElem_cons hlt, List.map_cons, List.foldl_cons] at hr
   simp -implicitDefEqProofs only [go_sem, zaf, hlt, zaa]
   refine callF (H a.args[k] (List.getElem_mem hlt)) (by simp -implicitDefEqProofs only [go_sem, zaa]) ?_
   simp -implicitDefEqProofs only [go_sem, zaa]
   exact ⟨(k + 1, max n a.args[k].depth), ⟨hlt, hr⟩, by simp only; omega, zab (by simp -implicitDefEqProofs only [go_sem]; rw [zam (by omega)]; exact ⟨by congr 1; omega, rfl⟩)⟩
  ·simp -implicitDefEqProofs only [go_sem, hlt]
   rw [List.drop_of_length_le (by omega)] at hr
   simp only [List.map_nil, List.foldl_nil] at hr
   rw [hr, zam (by omega)]
theorem qeh : ∀ a : Tm, a.wt <= 1099511627776 -> FC Tryz.prog 111 [tmD a] [iD a.depth] :=
 zbd fun n xs ih hs => zzq (.mk n xs) hs fun x hx => ih x hx (by
  have := Tm.wt_eq (.mk n xs)
  have := zb8 Tm.wt xs x hx
  simp only [Tm.args] at *; omega)
def zd7 (a : Tm) : Bool := decide (a.nodes <= 30) && decide (a.depth <= 8)
theorem zmw (a : Tm) (hs : a.wt <= 1099511627776) : FC Tryz.prog 113 [tmD a] [bD (zd7 a)] := by
 simp only [tmD, zaa]
 refine zan Tryz.call113 Tryz.func113 rfl (by kernel_rfl) (za3 (by kernel_rfl)) ?_
 simp -implicitDefEqProofs only [go_sem, Tryz.results113]
 refine callF (size_c a hs) (by simp -implicitDefEqProofs only [go_sem, zaa]) ?_
 simp -implicitDefEqProofs only [go_sem, zaa]
 rw [zxy]
 refine ⟨fun h => ?_, fun h => ?_⟩
 ·refine callF (qeh a hs) (by simp -implicitDefEqProofs only [go_sem, zaa]) ?_
  simp -implicitDefEqProofs only [go_sem, zaa]
  rw [zd7, h, Bool.true_and]
  congr 1
  rw [decide_eq_decide]; omega
 ·rw [zd7, h]; rfl
end Go.Proofs.YtnkagnjiljjpcaaGreat
namespace Go.Proofs.YtnkagnjiljjpcaaGreat
set_option linter.unusedSimpArgs false
set_option linter.unusedVariables false
set_option linter.unusedSectionVars false
set_option maxRecDepth 4000
open Go.RowKit
theorem zzn (σ : St) (caps : List T) : VDs σ (caps.map fun t => .one (.t t)) (caps.map .one) = True := by
 induction caps with
 | nil => simp [VDs]
 | cons t ts ih => rw [List.map_cons, List.map_cons, zqm, ih]; simp [qbt, CT_t]
attribute [go_sem] zzn
def zgl {α : Type} (xs : List α) (p : α -> Bool) : Int := if xs.any p then xs.findIdx p else -1
theorem zd0 {α : Type} {xs : List α} {p : α -> Bool} {k : Nat} (hk : k < xs.length) (hn : ∀ x ∈ xs.take k, p x = false) (h : p xs[k] = true) : zgl xs p = k := by
 have ha : xs.any p = true := List.any_eq_true.2 ⟨xs[k], List.getElem_mem hk, h⟩
 have hf : xs.findIdx p = k := (List.findIdx_eq hk).2 ⟨h, fun j hj => hn _ (by
  rw [List.mem_take_iff_getElem]; exact ⟨j, by omega, rfl⟩)⟩
 rw [zgl, if_pos ha, hf]
theorem zh0 {α : Type} {xs : List α} {p : α -> Bool} (hn : ∀ x ∈ xs, p x = false) : zgl xs p = -1 := by
 have ha : xs.any p = false := by rw [List.any_eq_false]; exact fun x hx => by simp [hn x hx]
 rw [zgl, ha]; rfl
theorem zqn {α : Type} (xs : List α) (p : α -> Bool) : decide (0 <= zgl xs p) = xs.any p := by
 unfold zgl
 cases xs.any p <;> simp
theorem zdb {α : Type} {xs : List α} {p : α -> Bool} {k : Nat} (hk : k < xs.length) (hn : ∀ x ∈ xs.take k, p x = false) (h : p xs[k] = false) : ∀ x ∈ xs.take (k + 1), p x = false := by
 rw [List.take_succ_eq_append_getElem hk]
 intro x hx
 rcases List.mem_append.1 hx with hx | hx
 ·exact hn x hx
 ·rw [List.mem_singleton.1 hx]; exact h
theorem zdu (xs : List Tm) (p : Tm -> Bool) (g : FuncId) (caps : List T) (H : ∀ x ∈ xs, FC Tryz.prog g (tmD x :: caps.map .one) [bD (p x)]) : FC Tryz.prog 112 [.one (tmS xs), .one (.fn g caps)] [iD (zgl xs p)] := by
 refine zbw (fun hw => ?_) Tryz.call112
 have hl : xs.length <= 9223372036854775807 := by simpa [zd3, wfT] using hw.1.1
 refine zan Tryz.call112 Tryz.func112 rfl (by kernel_rfl) (za3 (by kernel_rfl)) ?_
 simp -implicitDefEqProofs only [go_sem, Tryz.results112]
 refine zag (fun k : Nat => hd [(0, vT (tmS xs)), (1, vT (.fn g caps)), (7, vI xs.length), (8, vI k)] [] []) (fun k => k <= xs.length /\ ∀ x ∈ xs.take k, p x = false) (fun k => xs.length - k) 0 (zab ?_) ?_ ?_
 ·simp -implicitDefEqProofs only [go_sem]
 ·simp
 ·intro k ⟨hk, hr⟩
  by_cases hlt : k < xs.length
  ·simp -implicitDefEqProofs only [go_sem, zaf, hlt, zaa]
   refine callF (H xs[k] (List.getElem_mem hlt)) (by simp -implicitDefEqProofs only [go_sem, zaa]) ?_
   simp -implicitDefEqProofs only [go_sem, zaa]
   refine ⟨fun h => ?_, fun h => ⟨k + 1, ⟨hlt, zdb hlt hr h⟩, by omega, zab (by simp -implicitDefEqProofs only [go_sem]; rw [zam (by omega)])⟩⟩
   rw [zd0 hlt hr h]
  ·simp -implicitDefEqProofs only [go_sem, hlt]
   rw [List.take_of_length_le (by omega)] at hr
   rw [zh0 hr]
theorem zcn (xs : List Tm) (p : Tm -> Bool) (g : FuncId) (caps : List T) (H : ∀ x ∈ xs, FC Tryz.prog g (tmD x :: caps.map .one) [bD (p x)]) : FC Tryz.prog 61 [.one (tmS xs), .one (.fn g caps)] [bD (xs.any p)] := by
 refine zan Tryz.call61 Tryz.func61 rfl (by kernel_rfl) (za3 (by kernel_rfl)) ?_
 simp -implicitDefEqProofs only [go_sem, Tryz.results61]
 refine callF (zdu xs p g caps H) (by simp -implicitDefEqProofs only [go_sem]) ?_
 simp -implicitDefEqProofs only [go_sem]
 rw [zqn]
end Go.Proofs.YtnkagnjiljjpcaaGreat
namespace Go.Proofs.YtnkagnjiljjpcaaGreat
set_option linter.unusedSimpArgs false
set_option linter.unusedVariables false
set_option linter.unusedSectionVars false
set_option maxRecDepth 4000
open Go.RowKit
def Tm.names : Tm -> Bool := Tm.fold fun n xs rs => if za7 n = true then decide (xs.length = 0) else zca n && decide (xs.length <= 4) && rs.all id
theorem Tm.names_eq (a : Tm) : a.names = if za7 a.name = true then decide (a.args.length = 0) else zca a.name && decide (a.args.length <= 4) && a.args.all Tm.names := by
 unfold Tm.names
 rw [Tm.fold_eq]
 simp only [List.all_map]
 rfl
theorem qcx {α : Type} (xs : List α) (p : α -> Bool) : (!xs.any fun x => !p x) = xs.all p := by
 induction xs with
 | nil => rfl
 | cons x xs ih => simp only [List.any_cons, List.all_cons, Bool.not_or, Bool.not_not, ih]
theorem zok (a : Tm) (H : ∀ x ∈ a.args, FC Tryz.prog 114 [tmD x] [bD x.names]) : FC Tryz.prog 114 [tmD a] [bD a.names] := by
 have H1 : ∀ x ∈ a.args, FC Tryz.prog 164 [tmD x] [bD (!x.names)] := fun x hx => by
  simp only [tmD, zaa]
  refine zan Tryz.call164 Tryz.func164 rfl (by kernel_rfl) (za3 (by kernel_rfl)) ?_
  simp -implicitDefEqProofs only [go_sem, Tryz.results164]
  refine callF (H x hx) (by simp -implicitDefEqProofs only [go_sem, zaa]) ?_
  simp -implicitDefEqProofs only [go_sem, zaa]
 have hN := a.names_eq
 simp only [tmD, zaa]
 refine zan Tryz.call114 Tryz.func114 rfl (by kernel_rfl) (za3 (by kernel_rfl)) ?_
 simp -implicitDefEqProofs only [go_sem, Tryz.results114]
 refine callF (zmc a.name) (by simp -implicitDefEqProofs only [go_sem]) ?_
 simp -implicitDefEqProofs only [go_sem]
 refine ⟨fun h => ?_, fun h => ?_⟩
 ·rw [hN, if_pos h]
  congr 1
  rw [Bool.eq_iff_iff]; simp
 ·rw [h] at hN
  simp only [Bool.false_eq_true, if_false] at hN
  refine callF (ziz a.name) (by simp -implicitDefEqProofs only [go_sem]) ?_
  simp -implicitDefEqProofs only [go_sem]
  refine ⟨fun h1 => ⟨fun h2 => ?_, fun h2 => ?_⟩, fun h1 => ?_⟩
  ·refine callF (zcn a.args (fun x => !x.names) _ [] H1) (by simp -implicitDefEqProofs only [go_sem]) ?_
   simp -implicitDefEqProofs only [go_sem]
   rw [qcx, hN, h1, Bool.true_and]
   rw [show decide (a.args.length <= 4) = true by simp at h2 ⊢; omega]; rfl
  ·rw [hN, h1, Bool.true_and, show decide (a.args.length <= 4) = false by simp at h2 ⊢; omega]; rfl
  ·rw [hN, h1]; rfl
theorem ze4 : ∀ a : Tm, FC Tryz.prog 114 [tmD a] [bD a.names] := zbd fun n xs ih => zok (.mk n xs) ih
def Tm.good (a : Tm) : Bool := zd7 a && a.names
theorem zjg (a : Tm) (hs : a.wt <= 1099511627776) : FC Tryz.prog 63 [tmD a] [bD a.good] := by
 simp only [tmD, zaa]
 refine zan Tryz.call63 Tryz.func63 rfl (by kernel_rfl) (za3 (by kernel_rfl)) ?_
 simp -implicitDefEqProofs only [go_sem, Tryz.results63]
 refine callF (zmw a hs) (by simp -implicitDefEqProofs only [go_sem, zaa]) ?_
 simp -implicitDefEqProofs only [go_sem, zaa]
 refine ⟨fun h => ?_, fun h => ?_⟩
 ·refine callF (ze4 a) (by simp -implicitDefEqProofs only [go_sem, zaa]) ?_
  simp -implicitDefEqProofs only [go_sem, zaa]
  rw [Tm.good, h, Bool.true_and]
 ·rw [Tm.good, h, Bool.false_and]
theorem zfo (a : Tm) : FC Tryz.prog 98 [tmD a] [bD (a.name == [61])] := by
 simp only [tmD, zaa]
 refine zan Tryz.call98 Tryz.func98 rfl (by kernel_rfl) (za3 (by kernel_rfl)) ?_
 simp -implicitDefEqProofs only [go_sem, Tryz.results98]
def Tm.atomOk (a : Tm) : Bool := if (a.name == [61]) = true then decide (a.args.length = 2) && zd7 a && a.args.all Tm.names else zca a.name && a.good
theorem zv4 {α : Type} {xs : List α} {p : α -> Bool} (h : xs.length = 2) : xs.all p = (p (xs[0]'(by omega)) && p (xs[1]'(by omega))) := by
 match xs, h with
 | [a, b], _ => simp
theorem zj4 (a : Tm) (hs : a.wt <= 1099511627776) : FC Tryz.prog 168 [tmD a] [bD a.atomOk] := by
 have hN : a.atomOk = if (a.name == [61]) = true then decide (a.args.length = 2) && zd7 a && a.args.all Tm.names else zca a.name && a.good := rfl
 simp only [tmD, zaa]
 refine zan Tryz.call168 Tryz.func168 rfl (by kernel_rfl) (za3 (by kernel_rfl)) ?_
 simp -implicitDefEqProofs only [go_sem, Tryz.results168]
 refine callF (zfo a) (by simp -implicitDefEqProofs only [go_sem, zaa]) ?_
 simp -implicitDefEqProofs only [go_sem, zaa]
 refine ⟨fun h => ?_, fun h => ?_⟩
 ·rw [if_pos h] at hN
  by_cases h2 : a.args.length = 2
  ·have k0 : 0 < a.args.length := by omega
   have k1 : 1 < a.args.length := by omega
   have e2 : ((a.args.length : Int) == 2) = true := by simp [h2]
   have l0 : (0 : Int) < a.args.length := by omega
   have l1 : (1 : Int) < a.args.length := by omega
   rw [zv4 h2, show decide (a.args.length = 2) = true by simp [h2]] at hN
   simp only [Bool.true_and] at hN
   simp only [e2, zuz, zdq, qdf, zcw, and_true]
   refine callF (zmw a hs) (by simp -implicitDefEqProofs only [go_sem, zaa, l0, zaf, k0]) ?_
   simp -implicitDefEqProofs only [go_sem, zaa, l0, zaf, k0]
   refine ⟨fun h3 => ?_, fun h3 => ?_⟩
   ·refine callF (ze4 a.args[0]) (by simp -implicitDefEqProofs only [go_sem, zaa, l1, zaf, k1]) ?_
    simp -implicitDefEqProofs only [go_sem, zaa, l1, zaf, k1]
    refine ⟨fun h4 => ?_, fun h4 => ?_⟩
    ·refine callF (ze4 a.args[1]) (by simp -implicitDefEqProofs only [go_sem, zaa]) ?_
     simp -implicitDefEqProofs only [go_sem, zaa]
     rw [hN, h3, h4]; rfl
    ·rw [hN, h3, h4]; rfl
   ·rw [hN, h3]; rfl
  ·have e2 : ((a.args.length : Int) == 2) = false := by simp; omega
   simp only [e2, zuz, qcb, zdq, zcw, and_true, true_and, qcp]
   rw [hN, show decide (a.args.length = 2) = false by simpa using h2]; rfl
 ·rw [h] at hN
  simp only [Bool.false_eq_true, if_false] at hN
  refine callF (ziz a.name) (by simp -implicitDefEqProofs only [go_sem]) ?_
  simp -implicitDefEqProofs only [go_sem]
  refine ⟨fun h3 => ?_, fun h3 => ?_⟩
  ·refine callF (zjg a hs) (by simp -implicitDefEqProofs only [go_sem, zaa]) ?_
   simp -implicitDefEqProofs only [go_sem, zaa]
   rw [hN, h3, Bool.true_and]
  ·rw [hN, h3, Bool.false_and]
end Go.Proofs.YtnkagnjiljjpcaaGreat
namespace Go.Proofs.YtnkagnjiljjpcaaGreat
set_option linter.unusedSimpArgs false
set_option linter.unusedVariables false
set_option linter.unusedSectionVars false
set_option maxRecDepth 4000
open Go.RowKit
def voI : Tm -> List Str := Tm.fold fun n xs rs => if (decide (xs.length = 0) && zfw (n.getD 0 0)) = true then [n] else rs.flatten
theorem zw0 (a : Tm) : voI a = if (decide (a.args.length = 0) && zfw (a.name.getD 0 0)) = true then [a.name] else (a.args.map voI).flatten := Tm.fold_eq _ a
def voS : Tm -> List Str := Tm.fold fun n _ rs => if za7 n = true then [n] else rs.flatten
theorem zop (a : Tm) : voS a = if za7 a.name = true then [a.name] else (a.args.map voS).flatten := Tm.fold_eq _ a
def Tm.ne : Tm -> Bool := Tm.fold fun n xs rs => (!decide (xs.length = 0) || decide (0 < n.length)) && rs.all id
theorem Tm.ne_eq' (a : Tm) : a.ne = ((!decide (a.args.length = 0) || decide (0 < a.name.length)) && a.args.all Tm.ne) := by
 unfold Tm.ne
 rw [Tm.fold_eq]
 simp only [List.all_map]
 rfl
def zkr (l : List Str) (s : Str) : List Str := if l.contains s = true then l else l ++ [s]
def zbn (l : List Str) (ss : List Str) : List Str := ss.foldl zkr l
theorem zym (l : List Str) (s : Str) : (zkr l s).length <= l.length + 1 := by unfold zkr; split <;> simp
theorem zew : ∀ (ss : List Str) (l : List Str), (zbn l ss).length <= l.length + ss.length
 | [], l => by simp [zbn]
 | s :: ss, l => by have := zew ss (zkr l s); have := zym l s; simp only [zbn, List.foldl_cons, List.length_cons] at *; omega
theorem zgn (l a b : List Str) : zbn l (a ++ b) = zbn (zbn l a) b := List.foldl_append ..
theorem zyl (l : List Str) (s x : Str) : x ∈ zkr l s ↔ x = s \/ x ∈ l := by
 unfold zkr
 split
 ·rename_i h
  have h : s ∈ l := by simpa using h
  exact ⟨Or.inr, fun k => k.elim (fun e => e ▸ h) id⟩
 ·simp [or_comm]
theorem zmp : ∀ (ss l : List Str) (x : Str), x ∈ zbn l ss ↔ x ∈ ss \/ x ∈ l
 | [], l, x => by simp [zbn]
 | s :: ss, l, x => by
  show x ∈ zbn (zkr l s) ss ↔ _
  rw [zmp ss, zyl]; simp [or_assoc, or_left_comm, or_comm]
theorem qee {l : List Str} (h : l.Nodup) (s : Str) : (zkr l s).Nodup := by
 unfold zkr
 split
 ·exact h
 ·rename_i hn
  have hn : s ∉ l := by simpa using hn
  exact List.nodup_append.2 ⟨h, by simp, fun a ha b hb e => hn (by rw [List.mem_singleton.1 hb] at e; exact e ▸ ha)⟩
theorem zpz : ∀ (ss : List Str) {l : List Str}, l.Nodup -> (zbn l ss).Nodup
 | [], _, h => h
 | s :: ss, _, h => zpz ss (qee h s)
def zb7 (l : List Str) (ss : List Str) : List Str := ss.foldl zsf l
theorem zz3 (l : List Str) (s : Str) : (zsf l s).length <= l.length + 1 := by
 unfold zsf
 split
 ·omega
 ·have : l.length = ((l.takeWhile fun x => Op.bytesLess x s) ++ l.dropWhile fun x => Op.bytesLess x s).length := by rw [List.takeWhile_append_dropWhile]
  simp only [List.length_append, List.length_cons, List.length_nil] at *; omega
theorem zle : ∀ (ss : List Str) (l : List Str), (zb7 l ss).length <= l.length + ss.length
 | [], l => by simp [zb7]
 | s :: ss, l => by have := zle ss (zsf l s); have := zz3 l s; simp only [zb7, List.foldl_cons, List.length_cons] at *; omega
theorem zku (l a b : List Str) : zb7 l (a ++ b) = zb7 (zb7 l a) b := List.foldl_append ..
theorem zks : ∀ (ss l : List Str) (x : Str), x ∈ zb7 l ss ↔ x ∈ ss \/ x ∈ l
 | [], l, x => by simp [zb7]
 | s :: ss, l, x => by
  show x ∈ zb7 (zsf l s) ss ↔ _
  rw [zks ss, zyz]; simp [or_assoc, or_left_comm, or_comm]
theorem zlk : ∀ (ss : List Str) {l : List Str}, Srt l -> Srt (zb7 l ss)
 | [], _, h => h
 | s :: ss, _, h => zlk ss (zz2 h s)
theorem zpt (ss : List Str) : zwp (zbn [] ss) = zb7 [] ss :=
 qca (zwz (zpz ss List.nodup_nil)) (zlk ss List.Pairwise.nil) fun s => by rw [zt7, zmp, zks]
theorem zm4 (a : Tm) (h : 0 < a.name.length) : FC Tryz.prog 90 [tmD a] [bD (zfw (a.name.getD 0 0))] := by
 simp only [tmD, zaa]
 refine zan Tryz.call90 Tryz.func90 rfl (by kernel_rfl) (za3 (by kernel_rfl)) ?_
 simp -implicitDefEqProofs only [go_sem, Tryz.results90]
 have h0 : (0 : Int) < a.name.length := by omega
 simp -implicitDefEqProofs only [go_sem, h0, h]
 refine callF (zmf (a.name.getD 0 0)) (by simp -implicitDefEqProofs only [go_sem]) ?_
 simp -implicitDefEqProofs only [go_sem]
theorem zc2 {α : Type} (f : α -> List Str) (xs : List α) (k : Nat) (h : k < xs.length) : ((xs.take (k + 1)).map f).flatten = ((xs.take k).map f).flatten ++ f xs[k] := by
 rw [List.take_succ_eq_append_getElem h, List.map_append, List.flatten_append]; simp
theorem zn9 {α : Type} (f : α -> List Str) : ∀ (xs : List α), ∀ x ∈ xs, (f x).length <= ((xs.map f).flatten).length
 | [], x, h => by simp at h
 | a :: xs, x, h => by
  rcases List.mem_cons.1 h with rfl | h
  ·simp
  ·have := zn9 f xs x h; simp at *; omega
theorem zb4 {α : Type} (f : α -> List Str) (xs : List α) (k : Nat) (h : k < xs.length) : (((xs.take k).map f).flatten).length + (f xs[k]).length <= ((xs.map f).flatten).length := by
 have e : xs = xs.take k ++ xs[k] :: xs.drop (k + 1) := by rw [<- List.drop_eq_getElem_cons h, List.take_append_drop]
 conv => rhs; rw [e]
 simp only [List.map_append, List.map_cons, List.flatten_append, List.flatten_cons, List.length_append]; omega
set_option maxHeartbeats 1000000 in
theorem zrj (a : Tm) (ha : a.ne = true) (H : ∀ x ∈ a.args, ∀ ys : List Str, ys.length + (voI x).length <= 1073741824 -> GC Tryz.prog 125 [(true, .one (zix ys)), (false, tmD x)] [.one (zix (zbn ys (voI x)))])
  (ys : List Str) (hs : ys.length + (voI a).length <= 1073741824) (hl : a.args.length <= 1099511627776) : GC Tryz.prog 125 [(true, .one (zix ys)), (false, tmD a)] [.one (zix (zbn ys (voI a)))] := by
 have hv := zw0 a
 rw [Tm.ne_eq'] at ha
 simp only [tmD, zaa]
 refine zv6 Tryz.call125 Tryz.func125 rfl (by kernel_rfl) (by simp only [List.length_cons, List.length_nil, Tryz.ntmps125]; omega) (by simp [zci, T.isPin]) ?_
 simp -implicitDefEqProofs only [go_sem, Tryz.results125]
 by_cases h0 : a.args.length = 0
 ·have hn : 0 < a.name.length := by simp [h0] at ha; omega
  have e0 : ((a.args.length : Int) == 0) = true := by simp [h0]
  have hV := zm4 a hn
  simp only [tmD, zaa] at hV
  simp -implicitDefEqProofs only [go_sem, e0]
  refine callF (hV) (by simp -implicitDefEqProofs only [go_sem]) ?_
  simp -implicitDefEqProofs only [go_sem]
  refine ⟨fun h1 => ?_, fun h1 => ?_⟩
  ·rw [h1, show decide (a.args.length = 0) = true by simpa using h0, Bool.true_and, if_pos rfl] at hv
   rw [hv] at hs ⊢
   refine callF (zej ys a.name) (by simp -implicitDefEqProofs only [go_sem]) ?_
   simp -implicitDefEqProofs only [go_sem]
   have hy : ys.length + 1 <= 4294967296 := by simp at hs; omega
   have hy2 : ys.length <= 4294967295 := by simp at hs; omega
   refine ⟨fun h2 => ?_, fun h2 => ?_⟩
   ·have h2 : ys.contains a.name = false := by simpa using h2
    refine zbt (by simp -implicitDefEqProofs only [go_sem]) ?_
    simp -implicitDefEqProofs only [go_sem]
    refine apD true (by simp -implicitDefEqProofs only [go_sem, hy, hy2, ne_eq, List.length_map]) ?_
    simp -implicitDefEqProofs only [go_sem, hy, hy2, ne_eq, List.length_map]
    have e : zbn ys [a.name] = ys ++ [a.name] := by show zkr ys a.name = _; unfold zkr; rw [h2]; simp
    exact Or.inl (by rw [e]; simp)
   ·have h2 : ys.contains a.name = true := by simpa using h2
    have e : zbn ys [a.name] = ys := by show zkr ys a.name = _; unfold zkr; rw [h2]; simp
    exact Or.inl (by rw [e])
  ·rw [h1, Bool.and_false, if_neg (by simp), List.length_eq_zero_iff.1 h0, List.map_nil, List.flatten_nil] at hv
   have hv : voI a = (a.args.map voI).flatten := by rw [hv, List.length_eq_zero_iff.1 h0]; rfl
   rw [hv] at hs ⊢
   refine zag (fun k : Nat => hd [(0, .one (.ow 0 0)), (27, .one (.rn (tmS a.args))), (28, vI a.args.length), (29, vI k)] [] [(0, ⟨true, 1, (zbn ys ((a.args.take k).map voI).flatten).map fun s => [.str s], 0, true⟩)]) (fun k => k <= a.args.length) (fun k => a.args.length - k) 0 (zab ?_) (Nat.zero_le _) ?_
   ·simp -implicitDefEqProofs only [go_sem]
    rfl
   ·intro k hk
    by_cases hlt : k < a.args.length
    ·have hf := zb4 voI a.args k hlt
     have hL := zew ((a.args.take k).map voI).flatten ys
     have hx := zn9 voI a.args _ (List.getElem_mem hlt)
     have HC := H a.args[k] (List.getElem_mem hlt) (zbn ys ((a.args.take k).map voI).flatten) (by omega)
     rw [<- zgn, <- zc2 voI a.args k hlt] at HC
     simp only [tmD, zaa a.args[k]] at HC
     simp -implicitDefEqProofs only [go_sem, zaf, hlt, zaa a.args[k]]
     refine zhl [27, 28, 29] [33, 34] [] (HC) (by simp -implicitDefEqProofs only [go_sem]) (by simp -implicitDefEqProofs only [go_sem]) (by simp -implicitDefEqProofs only [go_sem]) (by simp -implicitDefEqProofs only [go_sem]) ?_
     simp -implicitDefEqProofs only [go_sem]
     refine ⟨k + 1, hlt, by omega, zco 0 1120 ?_⟩
     simp -implicitDefEqProofs only [go_sem]
     rw [zam (by omega)]
    ·simp -implicitDefEqProofs only [go_sem, hlt]
     exact Or.inl (by rw [List.take_of_length_le (by omega)])
 ·have e0 : ((a.args.length : Int) == 0) = false := by simp [h0]
  rw [show decide (a.args.length = 0) = false by simpa using h0, Bool.false_and, if_neg (by simp)] at hv
  rw [hv] at hs ⊢
  simp -implicitDefEqProofs only [go_sem, e0]
  refine zag (fun k : Nat => hd [(0, .one (.ow 0 0)), (27, .one (.rn (tmS a.args))), (28, vI a.args.length), (29, vI k)] [] [(0, ⟨true, 1, (zbn ys ((a.args.take k).map voI).flatten).map fun s => [.str s], 0, true⟩)]) (fun k => k <= a.args.length) (fun k => a.args.length - k) 0 (zab ?_) (Nat.zero_le _) ?_
  ·simp -implicitDefEqProofs only [go_sem]
   rfl
  ·intro k hk
   by_cases hlt : k < a.args.length
   ·have hf := zb4 voI a.args k hlt
    have hL := zew ((a.args.take k).map voI).flatten ys
    have hx := zn9 voI a.args _ (List.getElem_mem hlt)
    have HC := H a.args[k] (List.getElem_mem hlt) (zbn ys ((a.args.take k).map voI).flatten) (by omega)
    rw [<- zgn, <- zc2 voI a.args k hlt] at HC
    simp only [tmD, zaa a.args[k]] at HC
    simp -implicitDefEqProofs only [go_sem, zaf, hlt, zaa a.args[k]]
    refine zhl [27, 28, 29] [33, 34] [] (HC) (by simp -implicitDefEqProofs only [go_sem]) (by simp -implicitDefEqProofs only [go_sem]) (by simp -implicitDefEqProofs only [go_sem]) (by simp -implicitDefEqProofs only [go_sem]) ?_
    simp -implicitDefEqProofs only [go_sem]
    refine ⟨k + 1, hlt, by omega, zco 0 1120 ?_⟩
    simp -implicitDefEqProofs only [go_sem]
    rw [zam (by omega)]
   ·simp -implicitDefEqProofs only [go_sem, hlt]
    exact Or.inl (by rw [List.take_of_length_le (by omega)])
theorem zww : ∀ a : Tm, a.ne = true -> a.wt <= 1099511627776 -> ∀ ys : List Str, ys.length + (voI a).length <= 1073741824 -> GC Tryz.prog 125 [(true, .one (zix ys)), (false, tmD a)] [.one (zix (zbn ys (voI a)))] :=
 zbd fun n xs ih ha hw ys hs => zrj (.mk n xs) ha (fun x hx ys hs => ih x hx (by rw [Tm.ne_eq', Bool.and_eq_true] at ha; exact List.all_eq_true.1 ha.2 x hx) (by
  have := Tm.wt_eq (.mk n xs)
  have := zb8 Tm.wt xs x hx
  simp only [Tm.args] at *; omega) ys hs) ys hs (by have := Tm.wt_eq (.mk n xs); omega)
theorem zuc (a : Tm) (H : ∀ x ∈ a.args, ∀ ys : List Str, ys.length + (voS x).length <= 1073741824 -> GC Tryz.prog 136 [(true, .one (zix ys)), (false, tmD x)] [.one (zix (zb7 ys (voS x)))])
  (ys : List Str) (hs : ys.length + (voS a).length <= 1073741824) (hl : a.args.length <= 1099511627776) : GC Tryz.prog 136 [(true, .one (zix ys)), (false, tmD a)] [.one (zix (zb7 ys (voS a)))] := by
 have hv := zop a
 simp only [tmD, zaa]
 refine zv6 Tryz.call136 Tryz.func136 rfl (by kernel_rfl) (by simp only [List.length_cons, List.length_nil, Tryz.ntmps136]; omega) (by simp [zci, T.isPin]) ?_
 simp -implicitDefEqProofs only [go_sem, Tryz.results136]
 refine callF (zi5 a.name) (by simp -implicitDefEqProofs only [go_sem]) ?_
 simp -implicitDefEqProofs only [go_sem]
 refine ⟨fun h => ?_, fun h => ?_⟩
 ·rw [if_pos h] at hv
  rw [hv] at hs ⊢
  refine zhl [] [9, 11] [] (qd6 ys a.name (by simp at hs; omega)) (by simp -implicitDefEqProofs only [go_sem]) (by simp -implicitDefEqProofs only [go_sem]) (by simp -implicitDefEqProofs only [go_sem]) (by simp -implicitDefEqProofs only [go_sem]) ?_
  simp -implicitDefEqProofs only [go_sem]
  exact Or.inl rfl
 ·rw [h, if_neg (by simp)] at hv
  rw [hv] at hs ⊢
  refine zag (fun k : Nat => hd [(0, .one (.ow 0 0)), (3, .one (.bx 3 0)), (5, vI k)] [(3, [.t (.str a.name), .rn (tmS a.args)])] [(0, ⟨true, 1, (zb7 ys ((a.args.take k).map voS).flatten).map fun s => [.str s], 0, true⟩)]) (fun k => k <= a.args.length) (fun k => a.args.length - k) 0 (zab ?_) (Nat.zero_le _) ?_
  ·simp -implicitDefEqProofs only [go_sem]
   rfl
  ·intro k hk
   by_cases hlt : k < a.args.length
   ·have hf := zb4 voS a.args k hlt
    have hL := zle ((a.args.take k).map voS).flatten ys
    have HC := H a.args[k] (List.getElem_mem hlt) (zb7 ys ((a.args.take k).map voS).flatten) (by omega)
    rw [<- zku, <- zc2 voS a.args k hlt] at HC
    simp only [tmD, zaa a.args[k]] at HC
    simp -implicitDefEqProofs only [go_sem, zaf, hlt, zaa a.args[k]]
    refine zhl [3, 5] [20, 25] [] (HC) (by simp -implicitDefEqProofs only [go_sem]) (by simp -implicitDefEqProofs only [go_sem]) (by simp -implicitDefEqProofs only [go_sem]) (by simp -implicitDefEqProofs only [go_sem]) ?_
    simp -implicitDefEqProofs only [go_sem]
    refine ⟨k + 1, hlt, by omega, zco 0 832 ?_⟩
    simp -implicitDefEqProofs only [go_sem]
    rw [zam (by omega)]
   ·simp -implicitDefEqProofs only [go_sem, hlt]
    exact Or.inl (by rw [List.take_of_length_le (by omega)])
end Go.Proofs.YtnkagnjiljjpcaaGreat
namespace Go.Proofs.YtnkagnjiljjpcaaGreat
set_option linter.unusedSimpArgs false
set_option linter.unusedVariables false
set_option linter.unusedSectionVars false
set_option maxRecDepth 4000
open Go.RowKit
theorem znr {a x : Tm} (h : x ∈ a.args) : x.wt <= a.wt := by
 have := Tm.wt_eq a
 have := zb8 Tm.wt a.args x h
 omega
def mnL (zpm : Int) : Int -> List (Int -> Int) -> Int
 | n, [] => n
 | n, r :: rs => if n <= zpm then mnL zpm (n + r (zpm - n)) rs else n
theorem zpd {α : Type} (f : α -> Int -> Int) (g : α -> Nat) (zpm : Int) : ∀ (xs : List α) (n : Int), 0 <= n -> (∀ x ∈ xs, ∀ m, 0 <= m -> 1 <= f x m /\ f x m <= g x /\ (f x m <= m -> f x m = g x)) -> mnL zpm n (xs.map f) <= n + (xs.map g).sum /\ n <= mnL zpm n (xs.map f) /\ (mnL zpm n (xs.map f) <= zpm -> mnL zpm n (xs.map f) = n + (xs.map g).sum)
 | [], n, _, _ => by simp [mnL]
 | x :: xs, n, hn, h => by
  simp only [List.map_cons, mnL, List.sum_cons]
  split
  ·obtain ⟨h1, h2, h3⟩ := h x (by simp) (zpm - n) (by omega)
   obtain ⟨k1, k2, k3⟩ := zpd f g zpm xs (n + f x (zpm - n)) (by omega) fun y hy => h y (by simp [hy])
   refine ⟨by omega, by omega, fun hh => ?_⟩
   have := k3 hh
   have : f x (zpm - n) = g x := h3 (by omega)
   omega
  ·refine ⟨by omega, by omega, fun hh => by omega⟩
def zc7 : Tm -> Int -> Int := Tm.fold fun _ _ rs m => mnL m 1 rs
theorem zqi (a : Tm) (m : Int) : zc7 a m = mnL m 1 (a.args.map zc7) := congrFun (Tm.fold_eq _ a) m
theorem zic : ∀ (a : Tm) (m : Int), 0 <= m -> 1 <= zc7 a m /\ zc7 a m <= a.nodes /\ (zc7 a m <= m -> zc7 a m = a.nodes) := by
 refine zbd fun b0 xs ih m hm => ?_
 rw [zqi, Tm.nodes_eq]
 show 1 <= mnL m 1 (xs.map zc7) /\ mnL m 1 (xs.map zc7) <= ((1 + (xs.map Tm.nodes).sum : Nat) : Int) /\ (mnL m 1 (xs.map zc7) <= m -> mnL m 1 (xs.map zc7) = ((1 + (xs.map Tm.nodes).sum : Nat) : Int))
 obtain ⟨k1, k2, k3⟩ := zpd zc7 Tm.nodes m xs 1 (by omega) ih
 refine ⟨k2, by omega, fun h => ?_⟩
 have := k3 h
 omega
theorem zz6 (a : Tm) (m : Nat) : decide (zc7 a m <= m) = decide (a.nodes <= m) := by
 obtain ⟨h1, h2, h3⟩ := zic a m (by omega)
 rw [decide_eq_decide]
 exact ⟨fun h => by have := h3 h; omega, fun h => by omega⟩
set_option maxHeartbeats 400000 in
theorem zsr (a : Tm) (hs : a.wt <= 1099511627776) (H : ∀ x ∈ a.args, ∀ m : Int, 0 <= m -> m <= 1099511627776 -> FC Tryz.prog 156 [tmD x, iD m] [iD (zc7 x m)]) (m : Int) (h0 : 0 <= m) (h1 : m <= 1099511627776) : FC Tryz.prog 156 [tmD a, iD m] [iD (zc7 a m)] := by
 have hl : a.args.length <= 9223372036854775807 := by rw [Tm.wt_eq] at hs; omega
 have hn := zge a
 have hN := a.nodes_eq
 simp only [tmD, zaa]
 refine zan Tryz.call156 Tryz.func156 rfl (by kernel_rfl) (za3 (by kernel_rfl)) ?_
 simp -implicitDefEqProofs only [go_sem, Tryz.results156]
 refine zag (fun p : Nat × Int => hd [(1, vI m), (2, .one (.bx 2 0)), (5, vI p.2), (6, vI p.1)] [(2, [.t (.str a.name), .t (tmS a.args)])] []) (fun p => p.1 <= a.args.length /\ zc7 a m = mnL m p.2 ((a.args.drop p.1).map zc7) /\ 1 <= p.2 /\ p.2 + qcg Tm.nodes a.args p.1 <= a.nodes) (fun p => a.args.length - p.1) (0, 1) (zab ?_) ?_ ?_
 ·simp -implicitDefEqProofs only [go_sem]
 ·exact ⟨by simp, by rw [zqi]; rfl, by omega, by rw [zlo]; omega⟩
 ·intro ⟨k, n⟩ ⟨hk, hr, h2, h3⟩
  simp only at hk hr h2 h3
  by_cases hlt : k < a.args.length
  ·have hd := ztl Tm.nodes a.args k hlt
   rw [List.drop_eq_getElem_cons hlt, List.map_cons, mnL] at hr
   simp -implicitDefEqProofs only [go_sem, zaf, hlt, zaa]
   refine ⟨fun h => ?_, fun h => ?_⟩
   ·have hle : n <= m := by simpa using h
    obtain ⟨s1, s2, s3⟩ := zic a.args[k] (m - n) (by omega)
    rw [za4 (n := m - n) (by omega) (by omega)]
    refine callF (H a.args[k] (List.getElem_mem hlt) (m - n) (by omega) (by omega)) (by simp -implicitDefEqProofs only [go_sem, zaa]) ?_
    simp -implicitDefEqProofs only [go_sem, zaa]
    rw [if_pos hle] at hr
    exact ⟨(k + 1, n + zc7 a.args[k] (m - n)), ⟨hlt, hr, by simp only; omega, by simp only; omega⟩, by simp only; omega, zab (by simp -implicitDefEqProofs only [go_sem]; rw [zam (by omega), za4 (by omega) (by omega)]; exact ⟨rfl, rfl⟩)⟩
   ·rw [hr, if_neg (by simpa using h)]
  ·simp -implicitDefEqProofs only [go_sem, hlt]
   rw [hr, List.drop_of_length_le (by omega)]; rfl
theorem zzx : ∀ a : Tm, a.wt <= 1099511627776 -> ∀ m : Int, 0 <= m -> m <= 1099511627776 -> FC Tryz.prog 156 [tmD a, iD m] [iD (zc7 a m)] :=
 zbd fun b0 xs ih hs => zsr (.mk b0 xs) hs fun x hx => ih x hx (Nat.le_trans (znr (a := .mk b0 xs) hx) hs)
end Go.Proofs.YtnkagnjiljjpcaaGreat
namespace Go.Proofs.YtnkagnjiljjpcaaGreat
set_option linter.unusedSimpArgs false
set_option linter.unusedVariables false
set_option linter.unusedSectionVars false
set_option maxRecDepth 4000
open Go.RowKit
set_option maxHeartbeats 400000 in
theorem zrg (a : Tm) (hs : a.wt <= 1099511627776) (H : ∀ x ∈ a.args, FC Tryz.prog 53 [tmD x] [iD x.depth]) : FC Tryz.prog 53 [tmD a] [iD a.depth] := by
 have hl : a.args.length <= 9223372036854775807 := by rw [Tm.wt_eq] at hs; omega
 have hn := zge a
 have hdn := zgt a
 have hD := a.depth_eq
 simp only [tmD, zaa]
 refine zan Tryz.call53 Tryz.func53 rfl (by kernel_rfl) (za3 (by kernel_rfl)) ?_
 simp -implicitDefEqProofs only [go_sem, Tryz.results53]
 refine zag (fun p : Nat × Nat => hd [(1, .one (.bx 1 0)), (3, vI p.2), (4, vI p.1)] [(1, [.t (.str a.name), .t (tmS a.args)])] []) (fun p => p.1 <= a.args.length /\ a.depth = ((a.args.drop p.1).map Tm.depth).foldl max p.2 + 1) (fun p => a.args.length - p.1) (0, 0) (zab ?_) ?_ ?_
 ·simp -implicitDefEqProofs only [go_sem]
 ·exact ⟨by simp, hD⟩
 ·intro ⟨k, n⟩ ⟨hk, hr⟩
  simp only at hk hr
  by_cases hlt : k < a.args.length
  ·rw [List.drop_eq_getElem_cons hlt, List.map_cons, List.foldl_cons] at hr
   simp -implicitDefEqProofs only [go_sem, zaf, hlt, zaa]
   refine callF (H a.args[k] (List.getElem_mem hlt)) (by simp -implicitDefEqProofs only [go_sem, zaa]) ?_
   simp -implicitDefEqProofs only [go_sem, zaa]
   refine callF (qak n a.args[k].depth) (by simp -implicitDefEqProofs only [go_sem, zaa]) ?_
   simp -implicitDefEqProofs only [go_sem, zaa]
   exact ⟨(k + 1, max n a.args[k].depth), ⟨hlt, hr⟩, by simp only; omega, zab (by simp -implicitDefEqProofs only [go_sem]; rw [zam (by omega)]; exact ⟨by congr 1; omega, rfl⟩)⟩
  ·simp -implicitDefEqProofs only [go_sem, hlt]
   rw [List.drop_of_length_le (by omega)] at hr
   simp only [List.map_nil, List.foldl_nil] at hr
   rw [hr, zam (by omega)]
theorem zsp : ∀ a : Tm, a.wt <= 1099511627776 -> FC Tryz.prog 53 [tmD a] [iD a.depth] :=
 zbd fun n xs ih hs => zrg (.mk n xs) hs fun x hx => ih x hx (Nat.le_trans (znr (a := .mk n xs) hx) hs)
theorem zo2 (a : Tm) (hs : a.wt <= 1099511627776) : FC Tryz.prog 104 [tmD a] [bD (zd7 a)] := by
 simp only [tmD, zaa]
 refine zan Tryz.call104 Tryz.func104 rfl (by kernel_rfl) (za3 (by kernel_rfl)) ?_
 simp -implicitDefEqProofs only [go_sem, Tryz.results104]
 refine callF (zzx a hs 30 (by omega) (by omega)) (by simp -implicitDefEqProofs only [go_sem, zaa]) ?_
 simp -implicitDefEqProofs only [go_sem, zaa]
 rw [show decide (zc7 a 30 <= 30) = decide (a.nodes <= 30) from zz6 a 30]
 refine ⟨fun h => ?_, fun h => ?_⟩
 ·refine callF (zsp a hs) (by simp -implicitDefEqProofs only [go_sem, zaa]) ?_
  simp -implicitDefEqProofs only [go_sem, zaa]
  rw [zd7, h, Bool.true_and]
  congr 1
  rw [decide_eq_decide]; omega
 ·rw [zd7, h]; rfl
theorem zrh (a : Tm) (H : ∀ x ∈ a.args, FC Tryz.prog 105 [tmD x] [bD x.names]) : FC Tryz.prog 105 [tmD a] [bD a.names] := by
 refine zbw (fun hw => ?_) Tryz.call105
 have hl : a.args.length <= 9223372036854775807 := by simp only [tmD, zaa] at hw; simp [zd3, wfT, zli] at hw; exact hw.2.1
 have hN := a.names_eq
 simp only [tmD, zaa]
 refine zan Tryz.call105 Tryz.func105 rfl (by kernel_rfl) (za3 (by kernel_rfl)) ?_
 simp -implicitDefEqProofs only [go_sem, Tryz.results105]
 refine callF (zi5 a.name) (by simp -implicitDefEqProofs only [go_sem]) ?_
 simp -implicitDefEqProofs only [go_sem]
 refine ⟨fun h => ?_, fun h => ?_⟩
 ·rw [hN, if_pos h]
  congr 1
  rw [Bool.eq_iff_iff]; simp
 ·rw [h] at hN
  simp only [Bool.false_eq_true, if_false] at hN
  refine callF (zii a.name) (by simp -implicitDefEqProofs only [go_sem]) ?_
  simp -implicitDefEqProofs only [go_sem]
  by_cases hy : zca a.name = true
  ·by_cases h4 : a.args.length <= 4
   ·rw [hy, show decide (a.args.length <= 4) = true by simpa using h4, Bool.true_and, Bool.true_and] at hN
    refine ⟨fun _ => ⟨fun h => by simp at h; omega, fun _ => ?_⟩, fun h => by simp [hy] at h⟩
    refine zag (fun k : Nat => hd [(1, .one (.bx 1 0)), (3, vI k)] [(1, [.t (.str a.name), .t (tmS a.args)])] []) (fun k => k <= a.args.length /\ a.names = (a.args.drop k).all Tm.names) (fun k => a.args.length - k) 0 (zab ?_) ?_ ?_
    ·simp -implicitDefEqProofs only [go_sem]
    ·exact ⟨by simp, hN⟩
    ·intro k ⟨hk, hr⟩
     by_cases hlt : k < a.args.length
     ·rw [List.drop_eq_getElem_cons hlt, List.all_cons] at hr
      simp -implicitDefEqProofs only [go_sem, zaf, hlt, zaa]
      refine callF (H a.args[k] (List.getElem_mem hlt)) (by simp -implicitDefEqProofs only [go_sem, zaa]) ?_
      simp -implicitDefEqProofs only [go_sem, zaa]
      refine ⟨fun h => ?_, fun h => ⟨k + 1, ⟨hlt, ?_⟩, by omega, zab (by simp -implicitDefEqProofs only [go_sem]; rw [zam (by omega)])⟩⟩
      ·rw [hr, show a.args[k].names = false by simpa using h]; rfl
      ·rw [hr, show a.args[k].names = true by simpa using h]; rfl
     ·simp -implicitDefEqProofs only [go_sem, hlt]
      rw [hr, List.drop_of_length_le (by omega)]; rfl
   ·refine ⟨fun _ => ⟨fun _ => ?_, fun h => by simp at h; omega⟩, fun h => by simp [hy] at h⟩
    rw [hN, show decide (a.args.length <= 4) = false by simpa using h4, Bool.and_false]; rfl
  ·have hy' : zca a.name = false := by simpa using hy
   refine ⟨fun h => by simp [hy'] at h, fun _ => ?_⟩
   rw [hN, hy']; rfl
theorem zhz : ∀ a : Tm, FC Tryz.prog 105 [tmD a] [bD a.names] := zbd fun n xs ih => zrh (.mk n xs) ih
theorem qah (a : Tm) (hs : a.wt <= 1099511627776) : FC Tryz.prog 55 [tmD a] [bD a.good] := by
 simp only [tmD, zaa]
 refine zan Tryz.call55 Tryz.func55 rfl (by kernel_rfl) (za3 (by kernel_rfl)) ?_
 simp -implicitDefEqProofs only [go_sem, Tryz.results55]
 refine callF (zo2 a hs) (by simp -implicitDefEqProofs only [go_sem, zaa]) ?_
 simp -implicitDefEqProofs only [go_sem, zaa]
 refine ⟨fun h => ?_, fun h => ?_⟩
 ·refine callF (zhz a) (by simp -implicitDefEqProofs only [go_sem, zaa]) ?_
  simp -implicitDefEqProofs only [go_sem, zaa]
  rw [Tm.good, h, Bool.true_and]
 ·rw [Tm.good, h, Bool.false_and]
theorem zx5 (a : Tm) (hs : a.wt <= 1099511627776) : FC Tryz.prog 116 [tmD a] [bD a.atomOk] := by
 have hN : a.atomOk = if (a.name == [61]) = true then decide (a.args.length = 2) && zd7 a && a.args.all Tm.names else zca a.name && a.good := rfl
 simp only [tmD, zaa]
 refine zan Tryz.call116 Tryz.func116 rfl (by kernel_rfl) (za3 (by kernel_rfl)) ?_
 simp -implicitDefEqProofs only [go_sem, Tryz.results116]
 refine ⟨fun h => ?_, fun h => ?_⟩
 ·rw [if_pos h] at hN
  by_cases h2 : a.args.length = 2
  ·have k0 : 0 < a.args.length := by omega
   have k1 : 1 < a.args.length := by omega
   have e2 : ((a.args.length : Int) == 2) = true := by simp [h2]
   have l0 : (0 : Int) < a.args.length := by omega
   have l1 : (1 : Int) < a.args.length := by omega
   rw [zv4 h2, show decide (a.args.length = 2) = true by simp [h2]] at hN
   simp only [Bool.true_and] at hN
   simp only [e2, zuz, zdq, qdf, zcw, and_true]
   refine callF (zo2 a hs) (by simp -implicitDefEqProofs only [go_sem, zaa, l0, zaf, k0]) ?_
   simp -implicitDefEqProofs only [go_sem, zaa, l0, zaf, k0]
   refine ⟨fun h3 => ?_, fun h3 => ?_⟩
   ·refine callF (zhz a.args[0]) (by simp -implicitDefEqProofs only [go_sem, zaa, l1, zaf, k1]) ?_
    simp -implicitDefEqProofs only [go_sem, zaa, l1, zaf, k1]
    refine ⟨fun h4 => ?_, fun h4 => ?_⟩
    ·refine callF (zhz a.args[1]) (by simp -implicitDefEqProofs only [go_sem, zaa]) ?_
     simp -implicitDefEqProofs only [go_sem, zaa]
     rw [hN, h3, h4]; rfl
    ·rw [hN, h3, h4]; rfl
   ·rw [hN, h3]; rfl
  ·have e2 : ((a.args.length : Int) == 2) = false := by simp; omega
   simp only [e2, zuz, qcb, zdq, zcw, and_true, true_and, qcp]
   rw [hN, show decide (a.args.length = 2) = false by simpa using h2]; rfl
 ·rw [h] at hN
  simp only [Bool.false_eq_true, if_false] at hN
  refine callF (zii a.name) (by simp -implicitDefEqProofs only [go_sem]) ?_
  simp -implicitDefEqProofs only [go_sem]
  refine ⟨fun h3 => ?_, fun h3 => ?_⟩
  ·refine callF (qah a hs) (by simp -implicitDefEqProofs only [go_sem, zaa]) ?_
   simp -implicitDefEqProofs only [go_sem, zaa]
   rw [hN, h3, Bool.true_and]
  ·rw [hN, h3, Bool.false_and]
end Go.Proofs.YtnkagnjiljjpcaaGreat
namespace Go.Proofs.YtnkagnjiljjpcaaGreat
set_option linter.unusedSimpArgs false
set_option linter.unusedVariables false
set_option linter.unusedSectionVars false
set_option maxRecDepth 4000
open Go.RowKit
theorem zx7 : ∀ a : Tm, a.wt <= 1099511627776 -> ∀ ys : List Str, ys.length + (voS a).length <= 1073741824 -> GC Tryz.prog 136 [(true, .one (zix ys)), (false, tmD a)] [.one (zix (zb7 ys (voS a)))] :=
 zbd fun n xs ih hw ys hs => zuc (.mk n xs) (fun x hx ys hs => ih x hx (Nat.le_trans (znr (a := .mk n xs) hx) hw) ys hs) ys hs (by have := Tm.wt_eq (.mk n xs); omega)
theorem zov {s : Str} (h : za7 s = true) : zfw (s.getD 0 0) = true /\ 0 < s.length := by
 unfold za7 at h
 rw [Bool.and_eq_true] at h
 cases s with
 | nil => exact absurd h.2 (by decide)
 | cons b s =>
  have := zqh (s := b :: s) (by simp)
  rw [h.1] at this
  have := (Bool.and_eq_true _ _).mp this.symm
  exact ⟨this.1, by simp⟩
theorem up_low {b : UInt8} (h : zdr b = true) : zfw b = false := by
 unfold zdr zfw at *
 simp only [Bool.and_eq_true, decide_eq_true_eq, Bool.and_eq_false_iff, decide_eq_false_iff_not] at *
 omega
theorem zlt {s : Str} (h : zca s = true) : zfw (s.getD 0 0) = false /\ 0 < s.length := by
 unfold zca at h
 simp only [Bool.and_eq_true] at h
 cases s with
 | nil => exact absurd h.1.2 (by decide)
 | cons b s =>
  have := zlq (s := b :: s) (by simp)
  rw [h.1.1] at this
  have := (Bool.and_eq_true _ _).mp this.symm
  exact ⟨up_low this.1, by simp⟩
theorem zpi : ∀ a : Tm, a.names = true -> voI a = voS a /\ a.ne = true := zbd fun n xs ih h => by
 rw [Tm.names_eq] at h
 rw [zw0, zop, Tm.ne_eq']
 change (if za7 n = true then decide (xs.length = 0) else zca n && decide (xs.length <= 4) && xs.all Tm.names) = true at h
 change (if (decide (xs.length = 0) && zfw (n.getD 0 0)) = true then [n] else (xs.map voI).flatten) = (if za7 n = true then [n] else (xs.map voS).flatten) /\ ((!decide (xs.length = 0) || decide (0 < n.length)) && xs.all Tm.ne) = true
 change ∀ x ∈ xs, _ at ih
 by_cases hv : za7 n = true
 ·rw [if_pos hv] at h ⊢
  obtain ⟨h1, h2⟩ := zov hv
  have h : xs.length = 0 := of_decide_eq_true h
  have hx : xs = [] := List.length_eq_zero_iff.1 h
  subst hx
  rw [h1]
  exact ⟨rfl, by simp [h2]⟩
 ·rw [if_neg hv] at h ⊢
  simp only [Bool.and_eq_true] at h
  obtain ⟨h1, h2⟩ := zlt h.1.1
  rw [h1, Bool.and_false, if_neg (by simp)]
  have hI := fun x hx => ih x hx (List.all_eq_true.1 h.2 x hx)
  refine ⟨by rw [List.map_congr_left fun x hx => (hI x hx).1], ?_⟩
  rw [Bool.and_eq_true]
  exact ⟨by simp [h2], List.all_eq_true.2 fun x hx => (hI x hx).2⟩
theorem zth {a : Tm} (h : a.atomOk = true) : voI a = voS a /\ a.ne = true := by
 unfold Tm.atomOk at h
 split at h
 ·rename_i he
  have he : a.name = [61] := by simpa using he
  simp only [Bool.and_eq_true, decide_eq_true_eq] at h
  rw [zw0, zop, Tm.ne_eq', he]
  have hI := fun x hx => zpi x (List.all_eq_true.1 h.2 x hx)
  rw [show zfw (([61] : Str).getD 0 0) = false by decide, show za7 [61] = false by decide, Bool.and_false, if_neg (by simp), if_neg (by simp)]
  refine ⟨by rw [List.map_congr_left fun x hx => (hI x hx).1], ?_⟩
  rw [Bool.and_eq_true]
  exact ⟨by simp, List.all_eq_true.2 fun x hx => (hI x hx).2⟩
 ·simp only [Bool.and_eq_true] at h
  have := h.2
  unfold Tm.good at this
  rw [Bool.and_eq_true] at this
  exact zpi a this.2
end Go.Proofs.YtnkagnjiljjpcaaGreat
namespace Go.Proofs.YtnkagnjiljjpcaaGreat
set_option linter.unusedSimpArgs false
set_option linter.unusedVariables false
set_option linter.unusedSectionVars false
set_option maxRecDepth 4000
open Go.RowKit
variable {P : Program}
def T.fs : T -> Bool
 | .sl _ _ => true
 | t => t.flat
theorem CRs.ones {σ : St} {g : Gh} {w : World} : ∀ {cs : List C} {vs : List Value}, CRs σ g w cs vs -> VRl σ g w (cs.map .one) vs
 | [], _, h => h
 | c :: cs, _, h => by obtain ⟨v, vs', rfl, h1, h2⟩ := h; exact ⟨v, vs', rfl, h1, CRs.ones h2⟩
end Go.Proofs.YtnkagnjiljjpcaaGreat
namespace Go.Proofs.YtnkagnjiljjpcaaGreat
set_option linter.unusedSimpArgs false
set_option linter.unusedVariables false
set_option linter.unusedSectionVars false
set_option maxRecDepth 4000
open Go.RowKit
variable {P : Program}
attribute [go_sem] bxA List.flatten_cons List.flatten_nil
end Go.Proofs.YtnkagnjiljjpcaaGreat
namespace Go.Proofs.YtnkagnjiljjpcaaGreat
set_option linter.unusedSimpArgs false
set_option linter.unusedVariables false
set_option linter.unusedSectionVars false
set_option maxRecDepth 4000
open Go.RowKit
variable {P : Program}
section
variable {ks : List Fr} {Q : Exit -> St -> Prop} {σ : St} {ops : Array Oper} {os : List Oper} {L : List (List Ky × List Ky)} {ty : TypeId} {ps : String} {af : Array Edge} {d : Nat} {x : Operand} {asx : Array Operand} {ts : Array TypeId} {f : FuncId} {res : List (Bool × D)}
theorem zba {ds0 res0 : List D} {gR : List Ky} (h : FC P f ds0 res0) (hp : zap (zav (σ.get P 0 x)) fun p => p.1 = f /\ VDs σ (σ.gets P asx ts ++ p.2) ds0 /\ zey d 0 (zaw res0) σ.ev)
  (k : exd P ops os (L ++ [(gR ++ (zaq (x :: asx.toList) ++ (vsK σ (σ.gets P asx ts ++ qel (zav (σ.get P 0 x))) ++ eK (owL d 0 (zaw res0)))), dK (some d) ++ eK (owL d 0 (zaw res0)))]) ks Q (σ.callF d res0)) :
  zol P ops ⟨some d, .call ⟨.value x, asx, ts⟩, ty, ps, af, none⟩ os L gR ks Q σ := by
 obtain ⟨⟨f', cvs⟩, h1, rfl, h2, h3⟩ := zao hp
 rw [h1] at k
 exact qdi _ _ _ _ _ _ rfl (zl2 rfl rfl h h1 h2 h3) k
end
end Go.Proofs.YtnkagnjiljjpcaaGreat
namespace Go.Proofs.YtnkagnjiljjpcaaGreat
set_option linter.unusedSimpArgs false
set_option linter.unusedVariables false
set_option linter.unusedSectionVars false
set_option maxRecDepth 4000
open Go.RowKit
theorem zvz (s : Str) : FC Tryz.prog 149 [sD s] [bD false] := by
 refine zan Tryz.call149 Tryz.func149 rfl (by kernel_rfl) (za3 (by kernel_rfl)) ?_
 simp -implicitDefEqProofs only [go_sem, Tryz.results149]
 simp
def zkl (s t : Str) : Int := if Op.bytesLess s t = true then -1 else if (s == t) = true then 0 else 1
theorem zy6 (s t : Str) : FC Tryz.prog 92 [sD s, sD t] [iD (zkl s t)] := by
 have hc : zkl s t = if Op.bytesLess s t = true then -1 else if (s == t) = true then 0 else 1 := rfl
 refine zan Tryz.call92 Tryz.func92 rfl (by kernel_rfl) (za3 (by kernel_rfl)) ?_
 simp -implicitDefEqProofs only [go_sem, Tryz.results92]
 refine callF (zvz s) (by simp -implicitDefEqProofs only [go_sem]) ?_
 simp -implicitDefEqProofs only [go_sem]
 refine callF (zvz t) (by simp -implicitDefEqProofs only [go_sem]) ?_
 simp -implicitDefEqProofs only [go_sem]
 refine ⟨fun h => by rw [hc, if_pos h], fun h => ⟨fun h2 => ?_, fun h2 => ?_⟩⟩
 ·rw [h, Bool.false_or, Bool.not_eq_true'] at h2
  rw [hc, h, h2]; rfl
 ·rw [h, Bool.false_or, Bool.not_eq_false'] at h2
  rw [hc, h, h2]; rfl
end Go.Proofs.YtnkagnjiljjpcaaGreat
namespace Go.Proofs.YtnkagnjiljjpcaaGreat
set_option linter.unusedSimpArgs false
set_option linter.unusedVariables false
set_option linter.unusedSectionVars false
set_option maxRecDepth 4000
open Go.RowKit
def eqL {α : Type} (p : α -> α -> Bool) : List α -> List α -> Bool
 | [], [] => true
 | a :: xs, b :: ys => p a b && eqL p xs ys
 | _, _ => false
theorem ztf {α : Type} {p : α -> α -> Bool} : ∀ {xs ys : List α}, xs.length ≠ ys.length -> eqL p xs ys = false
 | [], [], h => absurd rfl h
 | [], _ :: _, _ => rfl
 | _ :: _, [], _ => rfl
 | a :: xs, b :: ys, h => by simp only [eqL]; rw [ztf (by simpa using h), Bool.and_false]
theorem zoz {α : Type} {p : α -> α -> Bool} : ∀ {xs ys : List α}, (∀ x ∈ xs, ∀ y, p x y = same x y) -> eqL p xs ys = same xs ys
 | [], [], _ => zd2.symm
 | [], _ :: _, _ => (zbc.2 (by simp)).symm
 | _ :: _, [], _ => (zbc.2 (by simp)).symm
 | a :: xs, b :: ys, h => by simp only [eqL]; rw [zbl, h a (by simp) b, zoz fun x hx y => h x (by simp [hx]) y]
set_option maxRecDepth 10000 in
set_option maxHeartbeats 400000 in
theorem zhc (xs ys : List Tm) (p : Tm -> Tm -> Bool) (g : FuncId) (caps : List T) (H : ∀ x ∈ xs, ∀ y ∈ ys, FC Tryz.prog g (tmD x :: tmD y :: caps.map .one) [bD (p x y)]) : FC Tryz.prog 137 [.one (tmS xs), .one (tmS ys), .one (.fn g caps)] [bD (eqL p xs ys)] := by
 refine zbw (fun hw => ?_) Tryz.call137
 have hl : xs.length <= 9223372036854775807 := by simpa [zd3, wfT] using hw.1.1
 have hl2 : ys.length <= 9223372036854775807 := by simpa [zd3, wfT] using hw.2.1.1
 refine zan Tryz.call137 Tryz.func137 rfl (by kernel_rfl) (za3 (by kernel_rfl)) ?_
 simp -implicitDefEqProofs only [go_sem, Tryz.results137]
 refine ⟨fun h => ?_, fun h => ?_⟩
 ·rw [ztf (by rintro e; simp [e] at h)]
 ·have hlen : xs.length = ys.length := by simp at h; omega
  refine zag (fun k : Nat => hd [(1, vT (tmS ys)), (2, .one (.t (.fn g caps))), (15, vT (tmS xs)), (16, vI xs.length), (17, vI k)] [] []) (fun k => k <= xs.length /\ eqL p xs ys = eqL p (xs.drop k) (ys.drop k)) (fun k => xs.length - k) 0 (zab ?_) ?_ ?_
  ·simp -implicitDefEqProofs only [go_sem]
  ·simp
  ·intro k ⟨hk, hr⟩
   by_cases hlt : k < xs.length
   ·have hk2 : k < ys.length := by omega
    simp -implicitDefEqProofs only [go_sem, List.length_map, zaf, hlt, hk2, zaa]
    refine callF (H xs[k] (List.getElem_mem hlt) ys[k] (List.getElem_mem hk2)) (by simp -implicitDefEqProofs only [go_sem, zaa]) ?_
    simp -implicitDefEqProofs only [go_sem, zaa]
    rw [List.drop_eq_getElem_cons hlt, List.drop_eq_getElem_cons hk2, eqL] at hr
    refine ⟨fun h => ?_, fun h => ?_⟩
    ·rw [hr, show p xs[k] ys[k] = false by simpa using h]; rfl
    ·rw [show p xs[k] ys[k] = true by simpa using h, Bool.true_and] at hr
     rw [zam (by omega)]
     exact ⟨k + 1, ⟨by omega, hr⟩, by omega, zab (by simp -implicitDefEqProofs only [go_sem])⟩
   ·simp -implicitDefEqProofs only [go_sem, List.length_map, hlt]
    rw [hr, List.drop_of_length_le (by omega), List.drop_of_length_le (by omega)]; rfl
end Go.Proofs.YtnkagnjiljjpcaaGreat
namespace Go.Proofs.YtnkagnjiljjpcaaGreat
set_option linter.unusedSimpArgs false
set_option linter.unusedVariables false
set_option linter.unusedSectionVars false
set_option maxRecDepth 4000
open Go.RowKit
theorem zhk (a b : Tm) : same a b = (same a.name b.name && same a.args b.args) := by
 cases a; cases b
 rw [Bool.eq_iff_iff]
 simp only [Bool.and_eq_true, za1, Tm.name, Tm.args, Tm.mk.injEq]
theorem zgg {α : Type} [BEq α] [LawfulBEq α] (a b : α) : (a == b) = same a b := by
 rw [Bool.eq_iff_iff, beq_iff_eq, za1]
theorem zr4 (a b : Tm) (H : FC Tryz.prog 137 [.one (tmS a.args), .one (tmS b.args), .one (.fn 86 [])] [bD (same a.args b.args)]) :
  FC Tryz.prog 86 [tmD a, tmD b] [bD (same a b)] := by
 simp only [tmD, zaa]
 refine zan Tryz.call86 Tryz.func86 rfl (by kernel_rfl) (za3 (by kernel_rfl)) ?_
 simp -implicitDefEqProofs only [go_sem, Tryz.results86]
 refine ⟨fun h => ?_, fun h => ?_⟩
 ·refine callF (H) (by simp -implicitDefEqProofs only [go_sem]) ?_
  simp -implicitDefEqProofs only [go_sem]
  rw [zhk, <- zgg a.name, h, Bool.true_and]
 ·rw [zhk, <- zgg a.name, h]; rfl
theorem zbk : ∀ a b : Tm, FC Tryz.prog 86 [tmD a, tmD b] [bD (same a b)] :=
 zbd fun n xs ih b => zr4 (.mk n xs) b (by
  rw [show same (Tm.mk n xs).args b.args = eqL same (Tm.mk n xs).args b.args from (zoz fun _ _ _ => rfl).symm]
  exact zhc xs b.args same _ [] fun x hx y _ => ih x hx y)
theorem zxe (a b : Tm) (H : ∀ x ∈ a.args, ∀ y, FC Tryz.prog 103 [tmD x, tmD y] [bD (same x y)]) : FC Tryz.prog 103 [tmD a, tmD b] [bD (same a b)] := by
 refine zbw (fun hw => ?_) Tryz.call103
 simp only [tmD, zaa] at hw ⊢
 have hl : a.args.length <= 9223372036854775807 := by simp [zd3, wfT, zli] at hw; exact hw.1.2.1
 refine zan Tryz.call103 Tryz.func103 rfl (by kernel_rfl) (za3 (by kernel_rfl)) ?_
 simp -implicitDefEqProofs only [go_sem, Tryz.results103]
 refine ⟨fun h1 => ?_, fun h1 => by rw [zhk, <- zgg a.name, show (a.name == b.name) = false by simpa using h1]; rfl⟩
 have h1' : same a.name b.name = true := by rw [<- zgg]; simpa using h1
 refine ⟨fun h2 => ?_, fun h2 => ?_⟩
 ·rw [zhk, h1', Bool.true_and, zbc.2 (by rintro e; simp [e] at h2)]
 have hlen : a.args.length = b.args.length := by simp at h2; omega
 have hs : same a b = same a.args b.args := by rw [zhk, h1', Bool.true_and]
 refine zag (fun k : Nat => hd [(2, .one (.bx 2 0)), (3, .one (.bx 3 0)), (4, vB false), (5, vI k)] [(2, [.t (.str a.name), .t (tmS a.args)]), (3, [.t (.str b.name), .t (tmS b.args)])] []) (fun k => k <= a.args.length /\ same a.args b.args = same (a.args.drop k) (b.args.drop k)) (fun k => a.args.length - k) 0 (zab ?_) ?_ ?_
 ·simp -implicitDefEqProofs only [go_sem]
 ·simp
 ·intro k ⟨hk, hr⟩
  by_cases hlt : k < a.args.length
  ·have hk2 : k < b.args.length := by omega
   simp -implicitDefEqProofs only [go_sem, hlt]
   refine drawn (by kernel_rfl) ?_
   simp -implicitDefEqProofs only [go_sem, zaf, hlt, hk2, zaa]
   refine za0 (H a.args[k] (List.getElem_mem hlt) b.args[k]) (by simp -implicitDefEqProofs only [go_sem, zaa]) ?_
   simp -implicitDefEqProofs only [go_sem, zaa]
   rw [List.drop_eq_getElem_cons hlt, List.drop_eq_getElem_cons hk2, zbl] at hr
   refine ⟨by kernel_rfl, fun h => ?_, fun h => ?_⟩
   ·rw [hs, hr, show same a.args[k] b.args[k] = false by simpa using h]; rfl
   ·rw [show same a.args[k] b.args[k] = true by simpa using h, Bool.true_and] at hr
    rw [zam (by omega)]
    exact ⟨k + 1, ⟨by omega, hr⟩, by omega, zab (by simp -implicitDefEqProofs only [go_sem])⟩
  ·simp -implicitDefEqProofs only [go_sem, hlt]
   rw [hs, hr, List.drop_of_length_le (by omega), List.drop_of_length_le (by omega), zd2]
theorem zdd : ∀ a b : Tm, FC Tryz.prog 103 [tmD a, tmD b] [bD (same a b)] := zbd fun n xs ih b => zxe (.mk n xs) b ih
end Go.Proofs.YtnkagnjiljjpcaaGreat
namespace Go.Proofs.YtnkagnjiljjpcaaGreat
set_option linter.unusedSimpArgs false
set_option linter.unusedVariables false
set_option linter.unusedSectionVars false
set_option maxRecDepth 4000
open Go.RowKit
attribute [local go_sem] Oper.semAt_some
end Go.Proofs.YtnkagnjiljjpcaaGreat
namespace Go.Proofs.YtnkagnjiljjpcaaGreat
set_option linter.unusedSimpArgs false
set_option linter.unusedVariables false
set_option linter.unusedSectionVars false
set_option maxRecDepth 4000
open Go.RowKit
def mtd : Nat -> Nat -> Str -> Str
 | 0, _, acc => acc
 | fuel + 1, n, acc => if n = 0 then acc else mtd fuel (n / 10) (UInt8.ofNat (48 + n % 10) :: acc)
def mtx (k : Nat) : Str := 109 :: mtd (k + 1) k []
theorem zkc (fuel n : Nat) (acc : Str) (h : 0 < n) : mtd (fuel + 1) n acc = mtd fuel (n / 10) (UInt8.ofNat (48 + n % 10) :: acc) := by rw [mtd, if_neg (by omega)]
theorem zpj : ∀ (f f' n : Nat) (acc : Str), n < f -> n < f' -> mtd f n acc = mtd f' n acc
 | 0, _, n, _, h, _ => absurd h (by omega)
 | _ + 1, 0, n, _, _, h => absurd h (by omega)
 | f + 1, f' + 1, n, acc, h, h' => by
  by_cases h0 : n = 0
  ·simp [mtd, h0]
  ·rw [zkc _ _ _ (by omega), zkc _ _ _ (by omega)]
   exact zpj f f' _ _ (by omega) (by omega)
theorem qc6 {n : Nat} (h : n < 256) : IntKind.u8.wrap (n : Int) = n := by
 have e : IntKind.u8.wrap (n : Int) = (n : Int) % 256 := rfl
 rw [e]; omega
theorem zis (k : Nat) (hk0 : 0 < k) (hk : k <= 4611686018427387904) : FC Tryz.prog 42 [iD k] [sD (mtx k)] := by
 have h0 : ((k : Int) <= 0) = False := by simp; omega
 refine zan Tryz.call42 Tryz.func42 rfl (by kernel_rfl) (za3 (by kernel_rfl)) ?_
 simp -implicitDefEqProofs only [go_sem, Tryz.results42, h0]
 refine zag (fun (x : Nat × Str) => hd [(0, vI x.1), (3, vT (.str x.2))] [] []) (fun x => mtx k = 109 :: mtd (x.1 + 1) x.1 x.2 /\ x.1 * 10 ^ x.2.length <= k /\ x.2.length <= 19) (fun x => x.1) (k, []) (zab ?_) ?_ ?_
 ·simp -implicitDefEqProofs only [go_sem]
 ·exact ⟨rfl, by simp, by simp⟩
 ·intro ⟨n, s⟩ ⟨h1, h2, hl⟩
  have hl : s.length <= 19 := hl
  have hn : n <= k := Nat.le_trans (Nat.le_mul_of_pos_right _ (Nat.pow_pos (by omega))) h2
  have hs : s.length <= 18 \/ n = 0 := by
   by_cases h : n = 0
   ·exact Or.inr h
   ·left
    refine Nat.le_of_not_lt fun hl => ?_
    have : 10 ^ 19 <= 10 ^ s.length := Nat.pow_le_pow_right (by omega) (by omega)
    have : 1 * 10 ^ s.length <= n * 10 ^ s.length := Nat.mul_le_mul_right _ (by omega)
    have h2 : n * 10 ^ s.length <= k := h2
    omega
  by_cases hp : 0 < n
  ·have hp' : ((n : Int) > 0) = True := by simp; omega
   have e1 : (n : Int).tmod 10 = ((n % 10 : Nat) : Int) := by rw [Int.tmod_eq_emod_of_nonneg (by omega)]; omega
   have e2 : (n : Int).tdiv 10 = ((n / 10 : Nat) : Int) := by rw [Int.tdiv_eq_ediv_of_nonneg (by omega)]; omega
   have e3 : IntKind.i64.wrap (48 + ((n % 10 : Nat) : Int)) = ((48 + n % 10 : Nat) : Int) := by rw [za4 (by omega) (by omega)]; omega
   have e4 : IntKind.u8.wrap ((48 + n % 10 : Nat) : Int) = ((48 + n % 10 : Nat) : Int) := qc6 (by omega)
   have e5 : IntKind.i64.wrap ((n / 10 : Nat) : Int) = ((n / 10 : Nat) : Int) := za4 (by omega) (by omega)
   simp -implicitDefEqProofs only [go_sem, hp', e1, e2, e3, e4, e5]
   refine ⟨by omega, ?_⟩
   refine zbt (by simp -implicitDefEqProofs only [go_sem]) ?_
   simp -implicitDefEqProofs only [go_sem]
   have hs' : s.length <= 18 := by omega
   refine ⟨by omega, by omega, (n / 10, UInt8.ofNat (48 + n % 10) :: s), ⟨?_, ?_, show s.length + 1 <= 19 by omega⟩, by omega, zab (by simp -implicitDefEqProofs only [go_sem, e2, e5])⟩
   ·rw [h1]
    show (109 :: mtd (n + 1) n s : Str) = 109 :: mtd (n / 10 + 1) (n / 10) (UInt8.ofNat (48 + n % 10) :: s)
    rw [zkc _ _ _ hp, zpj n (n / 10 + 1) _ _ (by omega) (by omega)]
   ·show n / 10 * 10 ^ (s.length + 1) <= k
    rw [Nat.pow_succ, Nat.mul_comm _ 10, <- Nat.mul_assoc]
    exact Nat.le_trans (Nat.mul_le_mul_right _ (by omega)) h2
  ·have h0' : n = 0 := by omega
   subst h0'
   simp -implicitDefEqProofs only [go_sem]
   refine ⟨by omega, ?_⟩
   rw [h1]; simp [mtd]
end Go.Proofs.YtnkagnjiljjpcaaGreat
namespace Go.Proofs.YtnkagnjiljjpcaaGreat
set_option linter.unusedSimpArgs false
set_option linter.unusedVariables false
set_option linter.unusedSectionVars false
set_option maxRecDepth 4000
open Go.RowKit
mutual
def zf4 : Tm -> Nat -> Tm × Nat
 | .mk n0 s0, k => (.mk (mtx k) (zbu s0 (k + 1)).1, (zbu s0 (k + 1)).2)
def zbu : List Tm -> Nat -> List Tm × Nat
 | [], k => ([], k)
 | a :: xs, k => ((zf4 a k).1 :: (zbu xs (zf4 a k).2).1, (zbu xs (zf4 a k).2).2)
end
mutual
def zf3 : Tm -> Nat
 | .mk n0 s0 => 1 + 1 + zdi s0
def zdi : List Tm -> Nat
 | [] => 0
 | a :: xs => zf3 a + zdi xs
end
mutual
theorem zvj : ∀ (a : Tm) (k : Nat), k <= (zf4 a k).2 /\ (zf4 a k).2 <= k + zf3 a
 | .mk n0 s0, k => by have h_s0 := zei s0 (k + 1); simp only [zf4, zf3]; omega
theorem zei : ∀ (xs : List Tm) (k : Nat), k <= (zbu xs k).2 /\ (zbu xs k).2 <= k + zdi xs
 | [], k => ⟨Nat.le_refl _, Nat.le_refl _⟩
 | a :: xs, k => by have h1 := zvj a k; have h2 := zei xs (zf4 a k).2; simp only [zbu, zdi]; omega
end
theorem zmx : ∀ xs : List Tm, xs.length <= zdi xs
 | [] => Nat.le_refl _
 | a :: xs => by
  have := zmx xs
  have : 1 <= zf3 a := by obtain ⟨n0, s0⟩ := a; simp only [zf3]; omega
  simp only [List.length_cons, zdi]; omega
theorem zfm (xs : List Tm) (H : ∀ a ∈ xs, ∀ k : Nat, 0 < k -> k + zdi a.args <= 4611686018427387904 -> IC Tryz.prog 14 [] (.one (tmS a.args)) [iD k] (.one (tmS (zbu a.args k).1)) [iD (zbu a.args k).2]) :
  ∀ k : Nat, 0 < k -> k + zdi xs <= 4611686018427387904 -> IC Tryz.prog 14 [] (.one (tmS xs)) [iD k] (.one (tmS (zbu xs k).1)) [iD (zbu xs k).2] := by
 intro k h0 hk
 refine zma Tryz.call14 Tryz.func14 rfl (by kernel_rfl) (by simp only [zc0, rd, List.map_cons, List.map_nil, List.nil_append, List.length_cons, List.length_nil, Tryz.ntmps14]; omega) (by simp only [Tryz.ntmps14]; omega) (fun vs => ?_)
 simp -implicitDefEqProofs only [go_sem, Tryz.results14, zq2, zkz, zc0, PI]
 refine zag (fun (x : List Tm × List Tm × Nat) => hd [(0, .one (.ow 0 0)), (1000000, .one (.ow 0 0)), (1, vI x.2.2), (5, vI x.1.length)] [] [(0, ⟨true, 2, x.1.map tmC ++ zde vs x.1.length (x.2.1.map tmC), 0, true⟩)])
  (fun x => (zbu xs k).1 = x.1 ++ (zbu x.2.1 x.2.2).1 /\ (zbu xs k).2 = (zbu x.2.1 x.2.2).2 /\ 0 < x.2.2 /\ x.2.2 + zdi x.2.1 <= 4611686018427387904 /\ x.1.length + x.2.1.length = xs.length /\ ∀ a ∈ x.2.1, a ∈ xs) (fun x => x.2.1.length) ([], xs, k) (zab ?_) ?_ ?_
 ·simp -implicitDefEqProofs only [go_sem]
 ·exact ⟨rfl, rfl, h0, hk, by simp, fun _ h => h⟩
 ·intro ⟨dn, rest, kk⟩ ⟨h1, h2, h3, h4, h6, h5⟩
  simp only at h1 h2 h3 h4 h5 h6
  cases rest with
  | nil =>
   simp only [zbu, List.append_nil] at h1 h2
   simp -implicitDefEqProofs only [go_sem, h1, h2]
  | cons a rest =>
   obtain ⟨n0, s0⟩ := a
   simp only [zbu, zf4, zdi, zf3] at h1 h2 h4
   have hc_s0 := zei s0 (kk + 1)
   have w0 : IntKind.i64.wrap (((kk : Nat) : Int) + 1) = ((kk + 1 : Nat) : Int) := zam (by omega)
   have hln := zmx xs
   rw [List.length_cons] at h6
   have wl : IntKind.i64.wrap ((dn.length : Int) + 1) = ((dn.length + 1 : Nat) : Int) := zam (by omega)
   simp -implicitDefEqProofs only [go_sem, zaa (.mk _ _), Tm.name, Tm.args]
   refine callF (zis kk (by omega) (by omega)) (by simp -implicitDefEqProofs only [go_sem, w0]) ?_
   simp -implicitDefEqProofs only [go_sem, w0]
   refine zfi (by simp -implicitDefEqProofs only [go_sem, implies_true, w0]) ?_
   simp -implicitDefEqProofs only [go_sem, implies_true, w0]
   refine callN (l := [(0, .one (.ow 0 0)), (1000000, .one (.ow 0 0)), (5, vI dn.length), (24, .one (.cv (vs dn.length 1))), (25, vI ((kk + 1) : Nat))]) (bl := []) (el := [(0, ⟨true, 2, dn.map tmC ++ [.str (mtx kk), .pin (vs dn.length 1) (tmS s0)] :: zde vs (dn.length + 1) (rest.map tmC), 0, true⟩)]) 0 dn.length 1 (H (.mk n0 s0) (h5 _ (by simp)) (kk + 1) (by omega) (by show (kk + 1) + zdi s0 <= _; omega)) (by simp -implicitDefEqProofs only [go_sem, w0, tmS]) rfl rfl rfl (by simp -implicitDefEqProofs only [go_sem, tmS, Tm.name, Tm.args]) rfl ?_
   simp -implicitDefEqProofs only [go_sem, w0, Tm.name, Tm.args]
   refine ⟨(dn ++ [.mk (mtx kk) (zbu s0 (kk + 1)).1], rest, (zbu s0 (kk + 1)).2), ⟨by simpa using h1, h2, by show 0 < (zbu s0 (kk + 1)).2; omega, by show (zbu s0 (kk + 1)).2 + zdi rest <= _; omega, by simp; omega, fun b hb => h5 b (by simp [hb])⟩, by simp, zab ?_⟩
   simp -implicitDefEqProofs only [go_sem, wl, zaa (.mk _ _), Tm.name, Tm.args, List.map_append, List.append_assoc]
theorem zm9 (xs : List Tm) (k : Nat) (h0 : 0 < k) (hk : k + zdi xs <= 4611686018427387904) : IC Tryz.prog 14 [] (.one (tmS xs)) [iD k] (.one (tmS (zbu xs k).1)) [iD (zbu xs k).2] :=
 zfm xs (fun a _ => zbd (P := fun a => ∀ k : Nat, 0 < k -> k + zdi a.args <= 4611686018427387904 -> IC Tryz.prog 14 [] (.one (tmS a.args)) [iD k] (.one (tmS (zbu a.args k).1)) [iD (zbu a.args k).2]) (fun n ys ih => zfm ys ih) a) k h0 hk
end Go.Proofs.YtnkagnjiljjpcaaGreat
namespace Go.Proofs.YtnkagnjiljjpcaaGreat
set_option linter.unusedSimpArgs false
set_option linter.unusedVariables false
set_option linter.unusedSectionVars false
set_option maxRecDepth 4000
open Go.RowKit
mutual
theorem zw6 : ∀ a : Tm, zf3 a <= 2 + 2 * a.wt
 | .mk n s => by
  have := zkk s
  rw [Tm.wt_eq, zf3]; unfold zqx at this
  simp only [Tm.name, Tm.args]; omega
theorem zkk : ∀ xs : List Tm, zdi xs <= 2 * zqx xs
 | [] => by simp [zdi]
 | a :: xs => by
  have h1 := zw6 a
  have h2 := zkk xs
  unfold zqx at h2 ⊢
  rw [zdi, List.length_cons, List.map_cons, List.sum_cons]; omega
end
end Go.Proofs.YtnkagnjiljjpcaaGreat
namespace Go.Proofs.YtnkagnjiljjpcaaGreat
set_option linter.unusedSimpArgs false
set_option linter.unusedVariables false
set_option linter.unusedSectionVars false
set_option maxRecDepth 4000
open Go.RowKit
set_option maxHeartbeats 400000 in
theorem zrl (xs : List Tm) (H : ∀ x ∈ xs, ∀ l : Int, 0 <= l -> l <= 1048576 -> FC Tryz.prog 65 [tmD x, iD l] [iD (szR x.wt l)]) (l : Int) (h0 : 0 <= l) (h1 : l <= 1048576) :
  FC Tryz.prog 24 [.one (tmS xs), iD l] [iD (szR (zqx xs) l)] := by
 refine zbw (fun hw => ?_) Tryz.call24
 have hl : xs.length <= 9223372036854775807 := by simpa [zd3, wfT] using hw.1.1
 refine zan Tryz.call24 Tryz.func24 rfl (by kernel_rfl) (za3 (by kernel_rfl)) ?_
 simp -implicitDefEqProofs only [go_sem, Tryz.results24]
 rw [za4 (by omega) (by omega)]
 have hW : zqx xs = xs.length + (xs.map Tm.wt).sum := rfl
 refine ⟨fun h => ?_, fun h => ?_⟩
 ·rw [zcp (by simp at h; omega)]
 ·have hlen : (xs.length : Int) <= l := by simp at h; omega
  refine zag (fun k : Nat => hd [(0, vT (tmS xs)), (1, vI (l - xs.length - zko Tm.wt xs k)), (5, vI k)] [] []) (fun k => k <= xs.length /\ 0 <= l - xs.length - zko Tm.wt xs k) (fun k => xs.length - k) 0 (zab ?_) ?_ ?_
  ·simp -implicitDefEqProofs only [go_sem]
   simp [zc1]
  ·simpa [zc1] using hlen
  ·intro k ⟨hk, hp⟩
   by_cases hlt : k < xs.length
   ·have hs := zg0 Tm.wt xs k hlt
    have hs2 := znt Tm.wt xs (k + 1)
    simp -implicitDefEqProofs only [go_sem, List.length_map, zaf, hlt, zaa]
    refine callF (H xs[k] (List.getElem_mem hlt) (l - xs.length - zko Tm.wt xs k) hp (by omega)) (by simp -implicitDefEqProofs only [go_sem, zaa]) ?_
    simp -implicitDefEqProofs only [go_sem, zaa]
    refine ⟨fun h => ?_, fun h => ?_⟩
    ·have := ze0 hp (by simpa using h)
     rw [zcp (by omega)]
    ·obtain ⟨h2, h3⟩ := zec (by simpa using h)
     rw [zam (by omega)]
     exact ⟨k + 1, ⟨hlt, by omega⟩, by omega, zab (by simp -implicitDefEqProofs only [go_sem]; rw [h3]; congr 1; omega)⟩
   ·simp -implicitDefEqProofs only [go_sem, List.length_map, hlt]
    have hall := zja Tm.wt xs k (by omega)
    rw [hall, zih (by omega)]; congr 1; omega
set_option maxHeartbeats 400000 in
theorem zqz (xs : List Tm) (H : ∀ x ∈ xs, FC Tryz.prog 70 [tmD x] [tmD x]) (hs : xs.length <= 1048576) :
  FC Tryz.prog 27 [.one (tmS xs)] [.one (tmS xs)] := by
 refine zbw (fun hw => ?_) Tryz.call27
 refine zan Tryz.call27 Tryz.func27 rfl (by kernel_rfl) (za3 (by kernel_rfl)) ?_
 simp -implicitDefEqProofs only [go_sem, Tryz.results27]
 refine zx3 (by simp -implicitDefEqProofs only [go_sem]; omega) ?_
 simp -implicitDefEqProofs only [go_sem]
 refine zag (fun k : Nat => hd [(0, vT (tmS xs)), (3, .one (.ow 224 0)), (4, vI k)] [] [(224, ⟨true, 2, (xs.take k).map tmC ++ List.replicate (xs.length - k) [T.str [], T.sl 2 []], 0, true⟩)]) (fun k => k <= xs.length) (fun k => xs.length - k) 0 (zab ?_) ?_ ?_
 ·simp -implicitDefEqProofs only [go_sem]
  simp
 ·simp
 ·intro k hk
  by_cases hlt : k < xs.length
  ·have hlen : ((xs.take k).map tmC ++ List.replicate (xs.length - k) [T.str [], T.sl 2 []]).length = xs.length := by simp; omega
   have hlt2 : k < k + (xs.length - k) := by omega
   simp -implicitDefEqProofs only [go_sem, List.length_map, zaf, hlt, zaa]
   refine callF (H xs[k] (List.getElem_mem hlt)) (by simp -implicitDefEqProofs only [go_sem, zaa, hlen, hlt, List.length_append, List.length_map, List.length_take, List.length_replicate, Nat.min_eq_left hk, hlt2]) ?_
   simp -implicitDefEqProofs only [go_sem, zaa, hlen, hlt, List.length_append, List.length_map, List.length_take, List.length_replicate, Nat.min_eq_left hk, hlt2]
   refine zfi (by simp -implicitDefEqProofs only [go_sem]; simp) ?_
   simp -implicitDefEqProofs only [go_sem]
   rw [zam (by omega)]
   refine ⟨k + 1, by omega, by omega, zab ?_⟩
   simp -implicitDefEqProofs only [go_sem]
   have hf := zeu ((xs.take k).map tmC) xs.length k [T.str [], T.sl 2 []] (tmC xs[k]) (by simp; omega) hlt (by simp [zaa])
   simp only [zaa] at hf
   rw [hf, List.take_succ_eq_append_getElem hlt, List.map_append, List.map_singleton]
   simp only [zaa]
  ·simp -implicitDefEqProofs only [go_sem, List.length_map, hlt]
   simp [List.take_of_length_le (show xs.length <= k by omega), show xs.length - k = 0 by omega]
set_option maxHeartbeats 400000 in
theorem zsa (xs ys : List Tm) (H : ∀ x ∈ xs, ∀ y, FC Tryz.prog 40 [tmD x, tmD y] [bD (same x y)]) :
  FC Tryz.prog 11 [.one (tmS xs), .one (tmS ys)] [bD (same xs ys)] := by
 refine zbw (fun hw => ?_) Tryz.call11
 have hl : xs.length <= 9223372036854775807 := by simpa [zd3, wfT] using hw.1.1
 have hl2 : ys.length <= 9223372036854775807 := by simpa [zd3, wfT] using hw.2.1.1
 refine zan Tryz.call11 Tryz.func11 rfl (by kernel_rfl) (za3 (by kernel_rfl)) ?_
 simp -implicitDefEqProofs only [go_sem, Tryz.results11]
 refine ⟨fun h => ?_, fun h => ?_⟩
 ·rw [zbc.2 (by rintro rfl; simp at h)]
 ·have hlen : xs.length = ys.length := by simp at h; omega
  refine zag (fun k : Nat => hd [(0, vT (tmS xs)), (1, vT (tmS ys)), (4, vB false), (5, vI k)] [] []) (fun k => k <= xs.length /\ same xs ys = same (xs.drop k) (ys.drop k)) (fun k => xs.length - k) 0 (zab ?_) ?_ ?_
  ·simp -implicitDefEqProofs only [go_sem]
  ·simp
  ·intro k ⟨hk, hr⟩
   by_cases hlt : k < xs.length
   ·have hk2 : k < ys.length := by omega
    simp -implicitDefEqProofs only [go_sem, List.length_map, hlt]
    refine drawn (by kernel_rfl) ?_
    simp -implicitDefEqProofs only [go_sem, List.length_map, zaf, hlt, hk2, zaa]
    refine za0 (H xs[k] (List.getElem_mem hlt) ys[k]) (by simp -implicitDefEqProofs only [go_sem, zaa]) ?_
    simp -implicitDefEqProofs only [go_sem, zaa]
    refine ⟨by kernel_rfl, fun h => ?_, fun h => ?_⟩
    ·rw [hr, List.drop_eq_getElem_cons hlt, List.drop_eq_getElem_cons hk2, zbl, show same xs[k] ys[k] = false by simpa using h]; rfl
    ·rw [List.drop_eq_getElem_cons hlt, List.drop_eq_getElem_cons hk2, zbl, show same xs[k] ys[k] = true by simpa using h, Bool.true_and] at hr
     rw [zam (by omega)]
     exact ⟨k + 1, ⟨by omega, hr⟩, by omega, zab (by simp -implicitDefEqProofs only [go_sem])⟩
   ·simp -implicitDefEqProofs only [go_sem, List.length_map, hlt]
    rw [hr, List.drop_of_length_le (by omega), List.drop_of_length_le (by omega), zd2]
set_option maxHeartbeats 400000 in
theorem zvw (a : Tm) (H : ∀ l : Int, 0 <= l -> l <= 1048576 -> FC Tryz.prog 24 [.one (tmS a.args), iD l] [iD (szR (zqx a.args) l)]) (l : Int) (h0 : 0 <= l) (h1 : l <= 1048576) :
  FC Tryz.prog 65 [tmD a, iD l] [iD (szR a.wt l)] := by
 refine zbw (fun hw => ?_) Tryz.call65
 simp only [tmD, zaa] at hw ⊢
 have hW := a.wt_eq
 have hls : a.name.length <= 9223372036854775807 /\ True := by simp [zd3, wfT, zli] at hw; simp [hw]
 refine zan Tryz.call65 Tryz.func65 rfl (by kernel_rfl) (za3 (by kernel_rfl)) ?_
 simp -implicitDefEqProofs only [go_sem, Tryz.results65]
 rw [za4 (by omega) (by omega)]
 refine ⟨fun h1 => ?_, fun h1 => ?_⟩
 ·rw [zcp (by simp at h1; have hu0 : zqx a.args = a.args.length + (a.args.map Tm.wt).sum := rfl;  omega)]
 have k1 : (a.name.length : Int) <= l := by simp at h1; omega
 refine callF (H (l - (a.name.length : Int)) (by omega) (by omega)) (by simp -implicitDefEqProofs only [go_sem, zaa]) ?_
 simp -implicitDefEqProofs only [go_sem, zaa]
 refine ⟨fun h2 => ?_, fun h2 => ?_⟩
 ·have := ze0 (by omega) (show szR (zqx a.args) (l - (a.name.length : Int)) < 0 by simpa using h2)
  rw [zcp (by have hu0 : zqx a.args = a.args.length + (a.args.map Tm.wt).sum := rfl;  omega)]
 obtain ⟨k2, j2⟩ := zec (show ¬ szR (zqx a.args) (l - (a.name.length : Int)) < 0 by simpa using h2)
 rw [show szR a.wt l = l - a.wt from zih (by have hu0 : zqx a.args = a.args.length + (a.args.map Tm.wt).sum := rfl;  omega)]; exact zlm (by have hu0 : zqx a.args = a.args.length + (a.args.map Tm.wt).sum := rfl;  omega)
set_option maxHeartbeats 400000 in
theorem zs1 (a : Tm) (H : FC Tryz.prog 27 [.one (tmS a.args)] [.one (tmS a.args)]) (hs : a.wt <= 1048576) : FC Tryz.prog 70 [tmD a] [tmD a] := by
 have hW := a.wt_eq
 simp only [tmD, zaa]
 refine zan Tryz.call70 Tryz.func70 rfl (by kernel_rfl) (za3 (by kernel_rfl)) ?_
 simp -implicitDefEqProofs only [go_sem, Tryz.results70]
 refine callF (H) (by simp -implicitDefEqProofs only [go_sem, zaa]) ?_
 simp -implicitDefEqProofs only [go_sem, zaa]
set_option maxHeartbeats 400000 in
theorem zvm (a b : Tm) (H : FC Tryz.prog 11 [.one (tmS a.args), .one (tmS b.args)] [bD (same a.args b.args)]) : FC Tryz.prog 40 [tmD a, tmD b] [bD (same a b)] := by
 simp only [tmD, zaa]
 refine zan Tryz.call40 Tryz.func40 rfl (by kernel_rfl) (za3 (by kernel_rfl)) ?_
 simp -implicitDefEqProofs only [go_sem, Tryz.results40]
 refine ⟨fun h1 => ?_, fun h1 => ?_⟩
 ·rw [zbc.2 (by rintro rfl; simp [zau] at h1)]
 refine callF (H) (by simp -implicitDefEqProofs only [go_sem, zaa]) ?_
 simp -implicitDefEqProofs only [go_sem, zaa]
 refine ⟨fun h2 => ?_, fun h2 => ?_⟩
 ·rw [zbc.2 (by rintro rfl; simp [zau] at h2)]
 rw [za1.2 (by cases a; cases b; simp [za1, Tm.name, Tm.args] at h1 h2 ⊢; simp [h1, h2])]
theorem qas : ∀ a : Tm, ∀ l : Int, 0 <= l -> l <= 1048576 -> FC Tryz.prog 65 [tmD a, iD l] [iD (szR a.wt l)] :=
 zbd fun b0 xs ih l h0 h1 => zvw (.mk b0 xs) (fun l h0 h1 => zrl xs ih l h0 h1) l h0 h1
theorem zz5 : ∀ a : Tm, a.wt <= 1048576 -> FC Tryz.prog 70 [tmD a] [tmD a] := by
 refine zbd fun b0 xs ih hs => ?_
 have hW := Tm.wt_eq (.mk b0 xs)
 simp only [Tm.name, Tm.args] at hW
 refine zs1 _ (zqz xs (fun x hx => ih x hx ?_) (by omega)) hs
 have := zb8 Tm.wt xs x hx
 omega
theorem qam : ∀ a b : Tm, FC Tryz.prog 40 [tmD a, tmD b] [bD (same a b)] :=
 zbd fun b0 xs ih b => zvm (.mk b0 xs) b (zsa xs b.args ih)
end Go.Proofs.YtnkagnjiljjpcaaGreat
namespace Go.Proofs.YtnkagnjiljjpcaaGreat
set_option linter.unusedSimpArgs false
set_option linter.unusedVariables false
set_option linter.unusedSectionVars false
set_option maxRecDepth 4000
open Go.RowKit
theorem zmn (ns : List Str) : (zwp ns).length = ns.length := (List.mergeSort_perm ns leB).length_eq
end Go.Proofs.YtnkagnjiljjpcaaGreat
namespace Go.Proofs.YtnkagnjiljjpcaaGreat
set_option linter.unusedSimpArgs false
set_option linter.unusedVariables false
set_option linter.unusedSectionVars false
set_option maxRecDepth 4000
open Go.RowKit
variable {P : Program}
section
variable {ks : List Fr} {Q : Exit -> St -> Prop} {σ : St} {ops : Array Oper} {os : List Oper} {L : List (List Ky × List Ky)} {d : Nat} {t : TypeId} {ty : TypeId} {ps : String} {af : Array Edge} {len : Nat} {parts : Array (Nat × Operand)}
theorem zgm (h : zap (blS P σ t len parts) fun _ => σ.ev (d * 32) = none)
  (k : exd P ops os (L ++ [(zaq (parts.toList.map (·.2)) ++ (rK (zy3 (zh1 P (σ.get P) t len parts)) ++ [(2, d * 32)]), dK (some d) ++ eK (blK d (blS P σ t len parts)))]) ks Q ((σ.bl d (blS P σ t len parts)).put (some d) (.one (.ow (d * 32) 0)))) :
  exd P ops (⟨some d, .buildSlice t len parts, ty, ps, af, none⟩ :: os) L ks Q σ := by
 obtain ⟨⟨x, cons⟩, h1, h2⟩ := zao h
 rw [h1] at k
 unfold blS at h1
 obtain ⟨p, e1, h1⟩ := Option.bind_eq_some_iff.1 h1
 obtain ⟨q, e2, h1⟩ := Option.map_eq_some_iff.1 h1
 simp only [Prod.mk.injEq] at h1
 obtain ⟨rfl, rfl⟩ := h1
 rw [e1] at k
 exact qdc ⟨e1, e2, h2⟩ k
end
end Go.Proofs.YtnkagnjiljjpcaaGreat
namespace Go.Proofs.YtnkagnjiljjpcaaGreat
set_option linter.unusedSimpArgs false
set_option linter.unusedVariables false
set_option linter.unusedSectionVars false
set_option maxRecDepth 4000
open Go.RowKit
variable {P : Program} {N : Nat}
attribute [go_sem] Option.bind_some Option.map_some
end Go.Proofs.YtnkagnjiljjpcaaGreat
namespace Go.Proofs.YtnkagnjiljjpcaaGreat
set_option linter.unusedSimpArgs false
set_option linter.unusedVariables false
set_option linter.unusedSectionVars false
set_option maxRecDepth 4000
open Go.RowKit
theorem zyh {α : Type} (f : α -> Nat) : ∀ xs : List α, (xs.map fun x => 8 * f x).sum = 8 * (xs.map f).sum
 | [] => rfl
 | x :: xs => by rw [List.map_cons, List.sum_cons, zyh f xs, List.map_cons, List.sum_cons]; omega
theorem zj5 {α : Type} (w : α -> Nat) : ∀ xs : List α, (xs.map fun x => 1 + w x).sum = xs.length + (xs.map w).sum
 | [] => rfl
 | a :: l => by rw [List.map_cons, List.sum_cons, zj5 w l, List.length_cons, List.map_cons, List.sum_cons]; omega
end Go.Proofs.YtnkagnjiljjpcaaGreat
namespace Go.Proofs.YtnkagnjiljjpcaaGreat
set_option linter.unusedSimpArgs false
set_option linter.unusedVariables false
set_option linter.unusedSectionVars false
set_option maxRecDepth 4000
open Go.RowKit
theorem zmk (a t : Tm) : FC Tryz.prog 152 [tmD a, .one (.ptr (tmC t))] [bD (same a t)] := by
 have H := zbk a t
 simp only [tmD, zaa] at H ⊢
 refine zan Tryz.call152 Tryz.func152 rfl (by kernel_rfl) (za3 (by kernel_rfl)) ?_
 simp -implicitDefEqProofs only [go_sem, Tryz.results152]
 refine callF (H) (by simp -implicitDefEqProofs only [go_sem]) ?_
 simp -implicitDefEqProofs only [go_sem]
theorem zjs (xs : List Tm) (t : Tm) : FC Tryz.prog 99 [.one (tmS xs), tmD t] [iD (zgl xs fun a => same a t)] := by
 have H := zdu xs (fun a => same a t) 152 [.ptr (tmC t)] fun x _ => zmk x t
 simp only [tmD, zaa t] at H ⊢
 refine zan Tryz.call99 Tryz.func99 rfl (by kernel_rfl) (za3 (by kernel_rfl)) ?_
 simp -implicitDefEqProofs only [go_sem, Tryz.results99]
 refine callF (H) (by simp -implicitDefEqProofs only [go_sem]) ?_
 simp -implicitDefEqProofs only [go_sem]
theorem zr8 (xs : List Tm) (t : Tm) : FC Tryz.prog 96 [.one (tmS xs), tmD t] [iD (zgl xs fun a => same a t)] := by
 refine zbw (fun hw => ?_) Tryz.call96
 have hl : xs.length <= 9223372036854775807 := by simpa [zd3, wfT] using hw.1.1
 simp only [tmD, zaa t]
 refine zan Tryz.call96 Tryz.func96 rfl (by kernel_rfl) (za3 (by kernel_rfl)) ?_
 simp -implicitDefEqProofs only [go_sem, Tryz.results96]
 refine zag (fun k : Nat => hd [(0, vT (tmS xs)), (3, .one (.bx 3 0)), (5, vI k)] [(3, [.t (.str t.name), .t (tmS t.args)])] []) (fun k => k <= xs.length /\ ∀ x ∈ xs.take k, same x t = false) (fun k => xs.length - k) 0 (zab ?_) ⟨Nat.zero_le _, by simp⟩ ?_
 ·simp -implicitDefEqProofs only [go_sem]
 ·rintro k ⟨hk, hT⟩
  by_cases hlt : k < xs.length
  ·have HC := zdd xs[k] t
   simp only [tmD, zaa xs[k], zaa t] at HC
   simp -implicitDefEqProofs only [go_sem, hlt]
   refine drawn (by kernel_rfl) ?_
   simp -implicitDefEqProofs only [go_sem, zaf, hlt, zaa xs[k]]
   refine za0 (HC) (by simp -implicitDefEqProofs only [go_sem]) ?_
   simp -implicitDefEqProofs only [go_sem]
   refine ⟨by kernel_rfl, fun h => ?_, fun h => ?_⟩
   ·rw [zd0 hlt hT h]
   ·refine ⟨k + 1, ⟨hlt, zdb hlt hT h⟩, by omega, zab ?_⟩
    simp -implicitDefEqProofs only [go_sem]
    rw [zam (by omega)]
  ·simp -implicitDefEqProofs only [go_sem, hlt]
   rw [List.take_of_length_le (by omega)] at hT
   rw [zh0 hT]
end Go.Proofs.YtnkagnjiljjpcaaGreat
namespace Go.Proofs.YtnkagnjiljjpcaaGreat
set_option linter.unusedSimpArgs false
set_option linter.unusedVariables false
set_option linter.unusedSectionVars false
set_option maxRecDepth 4000
open Go.RowKit
noncomputable def dec (p : Prop) : Bool := @decide p (Classical.propDecidable _)
theorem zb0 {p : Prop} : dec p = true ↔ p := by simp [dec]
end Go.Proofs.YtnkagnjiljjpcaaGreat
namespace Go.Proofs.YtnkagnjiljjpcaaGreat
set_option linter.unusedSimpArgs false
set_option linter.unusedVariables false
set_option linter.unusedSectionVars false
set_option maxRecDepth 4000
open Go.RowKit
def orE (x y : Int) : Int := if x = 0 then y else x
structure GCmp {α : Type} (c : α -> α -> Int) : Prop where
 neg : ∀ a b, c b a = - c a b
 tr : ∀ a b d, c a b <= 0 -> c b d <= 0 -> c a d <= 0
section
variable {α β : Type} {c c1 c2 : α -> α -> Int}
theorem GCmp.self (h : GCmp c) (a : α) : c a a = 0 := by have := h.neg a a; omega
theorem GCmp.comp (h : GCmp c) (f : β -> α) : GCmp fun x y => c (f x) (f y) := ⟨fun a b => h.neg _ _, fun a b d => h.tr _ _ _⟩
theorem GCmp.lex (h1 : GCmp c1) (h2 : GCmp c2) : GCmp fun a b => orE (c1 a b) (c2 a b) := by
 refine ⟨fun a b => ?_, fun a b d => ?_⟩
 ·have n1 := h1.neg a b
  have n2 := h2.neg a b
  unfold orE
  split <;> split <;> omega
 ·have t1 := h1.tr a b d
  have t2 := h2.tr a b d
  have n1 := h1.neg a b
  have n2 := h1.neg b d
  have n3 := h1.neg a d
  have t3 := h1.tr d a b
  have t4 := h1.tr b d a
  unfold orE
  split <;> split <;> split <;> omega
end
def zsm {α : Type} (c : α -> α -> Int) : List α -> List α -> Int
 | [], [] => 0
 | [], _ :: _ => -1
 | _ :: _, [] => 1
 | x :: xs, y :: ys => orE (c x y) (zsm c xs ys)
theorem ztd {α : Type} {c : α -> α -> Int} (h : GCmp c) : GCmp (zsm c) := by
 have hn : ∀ a b, zsm c b a = - zsm c a b := by
  intro a
  induction a with
  | nil => intro b; cases b <;> rfl
  | cons x xs ih =>
   intro b
   cases b with
   | nil => rfl
   | cons y ys =>
    have n1 := h.neg x y
    have n2 := ih ys
    unfold zsm orE
    split <;> split <;> omega
 refine ⟨hn, ?_⟩
 intro a
 induction a with
 | nil => intro b d h1 h2; cases d with
  | nil => exact Int.le_refl _
  | cons => unfold zsm; omega
 | cons x xs ih =>
  intro b d h1 h2
  cases b with
  | nil => unfold zsm at h1; omega
  | cons y ys =>
   cases d with
   | nil => unfold zsm at h2; omega
   | cons z zs =>
    have t1 := h.tr x y z
    have t2 := ih ys zs
    have n1 := h.neg x y
    have n2 := h.neg y z
    have n3 := h.neg x z
    have t3 := h.tr z x y
    have t4 := h.tr y z x
    unfold zsm orE at h1 h2 ⊢
    split at h1 <;> split at h2 <;> split <;> omega
def zjq (x y : Bool) : Int := if (x && !y) = true then -1 else if (y && !x) = true then 1 else 0
def qcu (x y : Nat) : Int := if x < y then -1 else if y < x then 1 else 0
theorem ziy : GCmp zjq := ⟨by decide, by decide⟩
theorem zll : GCmp qcu := by
 refine ⟨fun a b => ?_, fun a b d => ?_⟩ <;> unfold qcu <;> repeat' split
 all_goals omega
theorem zlg : GCmp zkl := by
 have hc : ∀ s t : Str, zkl s t = if s < t then -1 else if s = t then 0 else 1 := fun s t => by
  unfold zkl
  rw [zjb]
  simp only [decide_eq_true_eq, beq_iff_eq]
 have tot : ∀ s t : Str, ¬ s < t -> s ≠ t -> t < s := fun s t h1 h2 => by
  rcases List.le_iff_lt_or_eq.1 (List.not_lt.1 h1) with h | h
  ·exact h
  ·exact absurd h.symm h2
 refine ⟨fun a b => ?_, fun a b d => ?_⟩
 ·rw [hc, hc]
  by_cases h1 : a < b
  ·have h2 : ¬ b < a := fun h => zg3 a (List.lt_trans h1 h)
   have h3 : b ≠ a := fun e => zg3 a (e ▸ h1)
   rw [if_pos h1, if_neg h2, if_neg h3]; rfl
  ·by_cases h2 : a = b
   ·subst h2
    rw [if_neg h1, if_pos rfl]; rfl
   ·rw [if_neg h1, if_neg h2, if_pos (tot _ _ h1 h2)]
 ·rw [hc, hc, hc]
  intro h1 h2
  by_cases h3 : a < b
  ·by_cases h4 : b < d
   ·rw [if_pos (List.lt_trans h3 h4)]; omega
   ·rw [if_neg h4] at h2
    by_cases h5 : b = d
    ·subst h5; rw [if_pos h3]; omega
    ·rw [if_neg h5] at h2; omega
  ·rw [if_neg h3] at h1
   by_cases h4 : a = b
   ·subst h4; exact h2
   ·rw [if_neg h4] at h1; omega
theorem zgs {s t : Str} : zkl s t = 0 ↔ s = t := by
 unfold zkl
 rw [zjb]
 by_cases h : s < t
 ·have : s ≠ t := fun e => zg3 t (e ▸ h)
  simp [h, this]
 ·by_cases h2 : s = t
  ·simp [h2]
  ·simp [h, h2]
def hdT (a b : Tm) : Int := orE (zjq (za7 a.name) (za7 b.name)) (orE (zkl a.name b.name) (qcu a.args.length b.args.length))
mutual
def zb9 : Tm -> Tm -> Int
 | .mk n xs, b => orE (hdT (.mk n xs) b) (zdc xs b.args)
def zdc : List Tm -> List Tm -> Int
 | [], _ => 0
 | _ :: _, [] => 0
 | x :: xs, y :: ys => orE (zb9 x y) (zdc xs ys)
end
theorem zj3 (a b : Tm) : zb9 a b = orE (hdT a b) (zdc a.args b.args) := by cases a; rw [zb9]; rfl
def cmpK : Nat -> Tm -> Tm -> Int
 | 0, _, _ => 0
 | k + 1, a, b => orE (hdT a b) (zsm (cmpK k) a.args b.args)
theorem zyq : GCmp hdT := GCmp.lex (ziy.comp fun a : Tm => za7 a.name) (GCmp.lex (zlg.comp Tm.name) (zll.comp fun a : Tm => a.args.length))
theorem zho : ∀ k, GCmp (cmpK k)
 | 0 => ⟨fun _ _ => rfl, fun _ _ _ _ _ => Int.le_refl _⟩
 | k + 1 => GCmp.lex zyq ((ztd (zho k)).comp Tm.args)
theorem zi0 {a b : Tm} : hdT a b = 0 ↔ a.name = b.name /\ a.args.length = b.args.length := by
 unfold hdT
 constructor
 ·intro h
  unfold orE at h
  split at h
  ·split at h
   ·rename_i h2
    refine ⟨zgs.1 h2, ?_⟩
    unfold qcu at h
    split at h
    ·omega
    ·split at h <;> omega
   ·exact absurd h ‹_›
  ·exact absurd h ‹_›
 ·rintro ⟨h1, h2⟩
  rw [h1, h2, ziy.self, zlg.self, zll.self]; rfl
def Tm.dp : Tm -> Nat := Tm.fold fun _ _ rs => 1 + rs.sum
theorem Tm.dp_eq (a : Tm) : a.dp = 1 + (a.args.map Tm.dp).sum := Tm.fold_eq _ a
theorem zqa (c : Tm -> Tm -> Int) : ∀ (xs ys : List Tm), xs.length = ys.length -> (∀ x ∈ xs, ∀ y, zb9 x y = c x y) -> zdc xs ys = zsm c xs ys
 | [], [], _, _ => by rw [zdc]; rfl
 | [], _ :: _, h, _ => by simp at h
 | _ :: _, [], h, _ => by simp at h
 | x :: xs, y :: ys, h, H => by
  rw [zdc, zsm, H x (by simp) y, zqa c xs ys (by simpa using h) fun x hx => H x (by simp [hx])]
theorem zp3 : ∀ (a : Tm) (k : Nat), a.dp <= k -> ∀ b, zb9 a b = cmpK k a b := zbd fun n xs ih k hk b => by
 have hd : (Tm.mk n xs).dp = 1 + (xs.map Tm.dp).sum := Tm.dp_eq _
 cases k with
 | zero => omega
 | succ k =>
  rw [zj3, cmpK]
  by_cases h : hdT (.mk n xs) b = 0
  ·rw [show (Tm.mk n xs).args = xs from rfl, zqa (cmpK k) xs b.args (zi0.1 h).2 fun x hx y => ih x hx k (by have := zb8 Tm.dp xs x hx; omega) y]
  ·unfold orE
   rw [if_neg h, if_neg h]
theorem zc9 (a b : Tm) : zb9 b a = - zb9 a b := by
 rw [zp3 a (a.dp + b.dp) (by omega), zp3 b (a.dp + b.dp) (by omega)]
 exact (zho _).neg a b
theorem zm6 (a b d : Tm) (h1 : zb9 a b <= 0) (h2 : zb9 b d <= 0) : zb9 a d <= 0 := by
 rw [zp3 a (a.dp + b.dp) (by omega)] at h1 ⊢
 rw [zp3 b (a.dp + b.dp) (by omega)] at h2
 exact (zho _).tr a b d h1 h2
theorem zhh : GCmp zb9 := ⟨zc9, zm6⟩
theorem zhm : ∀ a b : Tm, zb9 a b = 0 ↔ a = b := zbd fun n xs ih b => by
 rw [zj3]
 have hts : ∀ (xs : List Tm), (∀ x ∈ xs, ∀ b, zb9 x b = 0 ↔ x = b) -> ∀ ys, xs.length = ys.length -> (zdc xs ys = 0 ↔ xs = ys) := fun xs => by
  induction xs with
  | nil => intro _ ys h; cases ys with
   | nil => simp [zdc]
   | cons => simp at h
  | cons x xs ih2 =>
   intro H ys h
   cases ys with
   | nil => simp at h
   | cons y ys =>
    have h1 := H x (by simp) y
    have h2 := ih2 (fun x hx => H x (by simp [hx])) ys (by simpa using h)
    rw [zdc, List.cons.injEq, <- h1, <- h2]
    unfold orE
    split
    ·rename_i e; simp [e]
    ·rename_i e; simp [e]
 constructor
 ·intro h
  unfold orE at h
  split at h
  ·rename_i h0
   obtain ⟨e1, e2⟩ := zi0.1 h0
   have := (hts xs ih b.args e2).1 h
   cases b with
   | mk m ys =>
    obtain rfl : n = m := e1
    obtain rfl : xs = ys := this
    rfl
  ·exact absurd h ‹_›
 ·rintro rfl
  rw [zi0.2 ⟨rfl, rfl⟩]
  exact (hts xs ih xs rfl).2 rfl
def ltT (a b : Tm) : Bool := decide (zb9 a b < 0)
noncomputable def zfg (l : List Tm) (t : Tm) : List Tm := if dec ((l.dropWhile fun x => ltT x t).head? = some t) = true then l else l.takeWhile (fun x => ltT x t) ++ [t] ++ l.dropWhile fun x => ltT x t
abbrev zxs (l : List Tm) : Prop := l.Pairwise fun a b => zb9 a b < 0
theorem zef {a b d : Tm} (h1 : zb9 a b < 0) (h2 : zb9 b d <= 0) : zb9 a d < 0 := by
 have n1 := zc9 a b
 have n2 := zc9 b d
 have n3 := zc9 a d
 have t1 := zm6 a b d
 have t2 := zm6 b d a
 omega
theorem zye {l : List Tm} {t x : Tm} : x ∈ zfg l t ↔ x ∈ l \/ x = t := by
 unfold zfg
 split
 ·rename_i h
  have : t ∈ l := (List.dropWhile_suffix _).subset (List.mem_of_mem_head? (zb0.1 h))
  constructor
  ·exact Or.inl
  ·rintro (h | rfl)
   ·exact h
   ·exact this
 ·conv => rhs; rw [<- List.takeWhile_append_dropWhile (p := fun x => ltT x t) (l := l)]
  simp only [List.mem_append, List.mem_singleton]
  constructor
  ·rintro ((h | h) | h)
   ·exact Or.inl (Or.inl h)
   ·exact Or.inr h
   ·exact Or.inl (Or.inr h)
  ·rintro ((h | h) | h)
   ·exact Or.inl (Or.inl h)
   ·exact Or.inr h
   ·exact Or.inl (Or.inr h)
theorem zyi {l : List Tm} (hs : zxs l) (t : Tm) : zxs (zfg l t) := by
 unfold zfg
 split
 ·exact hs
 ·rename_i h
  have hl := List.takeWhile_append_dropWhile (p := fun x => ltT x t) (l := l)
  have hs' := hs
  rw [<- hl] at hs'
  unfold zxs at hs' ⊢
  rw [List.pairwise_append] at hs'
  obtain ⟨s1, s2, s3⟩ := hs'
  have h1 : ∀ x ∈ l.takeWhile (fun x => ltT x t), zb9 x t < 0 := fun x hx => by
   exact of_decide_eq_true (List.all_eq_true.1 (List.all_takeWhile (p := fun x => ltT x t) (l := l)) x hx)
  have h2 : ∀ x ∈ l.dropWhile (fun x => ltT x t), zb9 t x < 0 := fun x hx => by
   cases hd : l.dropWhile fun x => ltT x t with
   | nil => rw [hd] at hx; cases hx
   | cons y ys =>
    have hy : ltT y t = false := by
     have := List.head?_dropWhile_not (fun x => ltT x t) l
     rw [hd] at this
     simpa using this
    rw [hd] at h s2 hx
    have hy1 : ¬ zb9 y t < 0 := of_decide_eq_false hy
    have hy2 : zb9 y t ≠ 0 := fun e => h (zb0.2 (by rw [List.head?_cons, (zhm y t).1 e]))
    have hty : zb9 t y < 0 := by have := zc9 y t; omega
    rcases List.mem_cons.1 hx with rfl | hx
    ·exact hty
    ·exact zef hty (Int.le_of_lt ((List.pairwise_cons.1 s2).1 x hx))
  rw [List.pairwise_append, List.pairwise_append]
  refine ⟨⟨s1, List.pairwise_singleton _ _, fun a ha b hb => ?_⟩, s2, fun a ha b hb => ?_⟩
  ·rw [List.mem_singleton] at hb; subst hb; exact h1 a ha
  ·rcases List.mem_append.1 ha with ha | ha
   ·exact s3 a ha b hb
   ·rw [List.mem_singleton] at ha; subst ha; exact h2 b hb
theorem zrk {l : List Tm} (h : zxs l) : l.Nodup := List.Pairwise.imp (fun {a b} h e => by subst e; rw [zhh.self] at h; omega) h
end Go.Proofs.YtnkagnjiljjpcaaGreat
namespace Go.Proofs.YtnkagnjiljjpcaaGreat
set_option linter.unusedSimpArgs false
set_option linter.unusedVariables false
set_option linter.unusedSectionVars false
set_option maxRecDepth 4000
open Go.RowKit
noncomputable def ixT (l : List Tm) (t : Tm) : Nat := (zgl l fun a => same a t).toNat
theorem zwx {l : List Tm} {t : Tm} (h : t ∈ l) : ∃ hi : ixT l t < l.length, l[ixT l t] = t /\ (zgl l fun a => same a t) = (ixT l t : Nat) := by
 obtain ⟨k, hk, h1, h2⟩ : ∃ k, ∃ hk : k < l.length, l[k] = t /\ ∀ x ∈ l.take k, x ≠ t := by
  induction l with
  | nil => cases h
  | cons a l ih =>
   by_cases e : a = t
   ·exact ⟨0, by simp, by simpa using e, by simp⟩
   ·have hm : t ∈ l := by
     rcases List.mem_cons.1 h with h | h
     ·exact absurd h.symm e
     ·exact h
    obtain ⟨k, hk, h1, h2⟩ := ih hm
    refine ⟨k + 1, by simpa using hk, by simpa using h1, fun x hx => ?_⟩
    rw [List.take_succ_cons] at hx
    rcases List.mem_cons.1 hx with rfl | hx
    ·exact e
    ·exact h2 x hx
 have hI : (zgl l fun a => same a t) = (k : Nat) := zd0 hk (fun x hx => zbc.2 (h2 x hx)) (by rw [h1]; exact zau _)
 have hx : ixT l t = k := by unfold ixT; rw [hI]; rfl
 rw [hx]
 exact ⟨hk, h1, hI⟩
noncomputable def zep (l : List Tm) (t : Tm) : List Tm := if (l.any fun a => same a t) = true then l else l ++ [t]
theorem qaf {l : List Tm} {t x : Tm} : x ∈ zep l t ↔ x ∈ l \/ x = t := by
 unfold zep
 split
 ·rename_i h
  obtain ⟨y, hy, h⟩ := List.any_eq_true.1 h
  have := za1.1 h
  subst this
  constructor
  ·exact Or.inl
  ·rintro (h | rfl)
   ·exact h
   ·exact hy
 ·rw [List.mem_append, List.mem_singleton]
theorem qd8 {l : List Tm} (h : l.Nodup) (t : Tm) : (zep l t).Nodup := by
 unfold zep
 split
 ·exact h
 ·rename_i h2
  rw [List.nodup_append]
  refine ⟨h, by simp, fun a ha b hb e => h2 (List.any_eq_true.2 ⟨a, ha, ?_⟩)⟩
  rw [List.mem_singleton] at hb
  rw [za1, e, hb]
theorem zgy : ∀ (ts l : List Tm) (x : Tm), x ∈ ts.foldl zep l ↔ x ∈ l \/ x ∈ ts
 | [], l, x => by simp
 | t :: ts, l, x => by rw [List.foldl_cons, zgy ts, qaf, List.mem_cons, or_assoc]
theorem zpf : ∀ (ts : List Tm) {l : List Tm}, l.Nodup -> (ts.foldl zep l).Nodup
 | [], _, h => h
 | t :: ts, _, h => zpf ts (qd8 h t)
theorem zhb : ∀ (ts l : List Tm) (x : Tm), x ∈ ts.foldl zfg l ↔ x ∈ l \/ x ∈ ts
 | [], l, x => by simp
 | t :: ts, l, x => by rw [List.foldl_cons, zhb ts, zye, List.mem_cons, or_assoc]
theorem zg2 : ∀ (ts : List Tm) {l : List Tm}, zxs l -> zxs (ts.foldl zfg l)
 | [], _, h => h
 | t :: ts, _, h => zg2 ts (zyi h t)
end Go.Proofs.YtnkagnjiljjpcaaGreat
namespace Go.Proofs.YtnkagnjiljjpcaaGreat
set_option linter.unusedSimpArgs false
set_option linter.unusedVariables false
set_option linter.unusedSectionVars false
set_option maxRecDepth 4000
open Go.RowKit
section
variable {P : Program}
theorem ct0_A {n0 : Nat -> Prop} {N : Nat} {σ : St} {g : Gh} {a : Act} {w : World} (hR : Rel n0 N σ g a w) {c : C} {t : T} (h : CT0 σ c t) {v : Value} (hv : CR σ g w c v) : zak w (fun b => b < w.heap.size /\ g.A0 b) t v := by
 have hF : ∀ b, Fix σ g w b -> b < w.heap.size /\ g.A0 b := fun b hb => ⟨hb.2.2.1, hb.2.2.2⟩
 have hFr : ∀ b, zcg σ g w b -> b < w.heap.size /\ g.A0 b := fun b hb => hF b hb.1
 cases c with
 | t x =>
  have h : x = t := h
  subst h
  exact zak.keep (fun _ _ => rfl) hF x v hv
 | rn x =>
  have h : x = t := h
  subst h
  exact zak.keep (fun _ _ => rfl) hFr x v hv
 | nl s =>
  cases t with
  | sl sz rows =>
   have h : rows = [] := h
   subst h
   have hv : v = .slice none 0 0 := hv
   subst hv
   unfold zak
   exact ⟨none, 0, rfl, Nat.le_refl _, by simp, Or.inl rfl⟩
  | _ => exact h.elim
 | ow e n =>
  cases t with
  | sl sz rows =>
   obtain ⟨d, o, he⟩ := h
   obtain ⟨rfl, -⟩ := hv
   cases o
   ·exact zak.keep (fun _ _ => rfl) hF _ _ (hR.offs e _ he rfl).1
   ·have hOn : σ.On e := ⟨_, he, rfl⟩
    have hlt : ∀ b ∈ g.φ e, b < w.heap.size := (hR.evs e _ he rfl).lt
    obtain ⟨ao, cap, e1, e2, e3, e4⟩ := hR.evs e _ he rfl
    unfold zak
    refine ⟨ao, cap, e1, e2, e3, ?_⟩
    rcases e4 with ⟨_, _, e4, _⟩ | ⟨b, cells, ty, fps, k1, k2, k3, k4, k5⟩
    ·exact Or.inl e4
    ·have hA : ∀ b' ∈ g.φ e, b' < w.heap.size /\ g.A0 b' := fun b' hb' => ⟨hlt b' hb', (hR.ebase e hOn b' hb').1⟩
     refine Or.inr ⟨b, 0, k1, hA b (by rw [k2]; simp), ?_⟩
     split at k5
     ·exact zad.rep b cells ty k3 0 sz rows fps k5 fun b' hb' => hA b' (by rw [k2]; simp [hb'])
     ·exact zaj.keep (fun _ _ => rfl) hF b rfl 0 sz rows k5.2
  | _ => exact h.elim
 | el cs o =>
  cases t with
  | ptr cs' =>
   obtain ⟨rfl, rfl⟩ := h
   obtain ⟨b, q, h1, h2, h3⟩ := hv
   unfold zak
   exact ⟨b, q, h1, hF b h2, zaz.keep (fun _ _ => rfl) hF b rfl q cs h3⟩
  | _ => exact h.elim
 | er cs o =>
  cases t with
  | ptr cs' =>
   obtain ⟨rfl, rfl⟩ := h
   obtain ⟨b, q, h1, h2, h3⟩ := hv
   unfold zak
   exact ⟨b, q, h1, hFr b h2, zaz.keep (fun _ _ => rfl) hFr b rfl q cs h3⟩
  | _ => exact h.elim
 | _ => cases t <;> exact h.elim
theorem qb6 {n0 : Nat -> Prop} {N : Nat} {σ : St} {g : Gh} {a : Act} {w : World} (hR : Rel n0 N σ g a w) : ∀ {cs : List C} {ts : List T}, zlv σ cs ts -> ∀ {vs : List Value}, CRs σ g w cs vs -> zac w (fun b => b < w.heap.size /\ g.A0 b) ts vs
 | [], ts, h, vs, hv => by rw [show ts = [] from h]; unfold zac; exact hv
 | c :: cs, ts, h, vs, hv => by
  obtain ⟨t, ts', rfl, h1, h2⟩ := h
  obtain ⟨v, vs', rfl, k1, k2⟩ := hv
  unfold zac
  exact ⟨v, vs', rfl, ct0_A hR h1 k1, qb6 hR h2 k2⟩
def RVe (σ : St) : List V -> List D -> Prop
 | [], [] => True
 | .one c :: vs, .one t :: ds => CT0 σ c t /\ RVe σ vs ds
 | .agg cs :: vs, .agg ts :: ds => zlv σ cs ts /\ RVe σ vs ds
 | _, _ => False
theorem RVe.rep {n0 : Nat -> Prop} {N : Nat} {σ : St} {g : Gh} {a : Act} {w : World} (hR : Rel n0 N σ g a w) : ∀ {vs : List V} {ds : List D}, RVe σ vs ds -> ∀ {us : List Value}, VRl σ g w vs us -> za5 w (fun b => b < w.heap.size /\ g.A0 b) ds us
 | [], [], _, us, hv => hv
 | .one c :: vs, .one t :: ds, h, us, hv => by
  obtain ⟨u, us', rfl, k1, k2⟩ := hv
  exact ⟨u, us', rfl, ct0_A hR h.1 k1, RVe.rep hR h.2 k2⟩
 | .agg cs :: vs, .agg ts :: ds, h, us, hv => by
  obtain ⟨u, us', rfl, ⟨q, rfl, k1⟩, k2⟩ := hv
  exact ⟨_, us', rfl, ⟨q, rfl, qb6 hR h.1 k1⟩, RVe.rep hR h.2 k2⟩
 | [], _ :: _, h, _, _ => h.elim
 | .one _ :: _, [], h, _, _ => h.elim
 | .one _ :: _, .agg _ :: _, h, _, _ => h.elim
 | .agg _ :: _, [], h, _, _ => h.elim
 | .agg _ :: _, .one _ :: _, h, _, _ => h.elim
 | .tup _ :: _, [], h, _, _ => h.elim
 | .tup _ :: _, _ :: _, h, _, _ => h.elim
def PRe (P : Program) (rs : List ResultVar) (res : List D) (e : Exit) (σ : St) : Prop := match e with
 | .normal => zap (zbs P σ rs) fun vs => RVe σ vs res
 | .ret => zap (zbs P σ rs) fun vs => RVe σ vs res
 | _ => False
theorem ziq {f : FuncId} {fn : Func} {c : Code} {args res : List D} (hc : zbe P f) (hf : P.funcs[f]? = some fn) (hb : fn.body = some c) (hd : zc8 fn.ntmps c = true) (hN : (rd args).length <= fn.ntmps)
  (h : ex P c [] (PRe P fn.results.toList res) (zdt (rd args))) : RC P f args res := by
 refine ⟨hc, fun w vs A hv => ?_⟩
 refine calls_of_wp hf hb ?_
 have hg : ∀ (ds : List D) (vs : List Value), za5 w (fun b => b < w.heap.size /\ A b) ds vs -> za2 w (fun b => b < w.heap.size /\ A b /\ b ∉ ([] : List Nat)) (rd ds) vs [] [] := by
  intro ds
  induction ds with
  | nil => intro vs h; exact ⟨h, rfl, rfl⟩
  | cons d ds ih =>
   rintro vs ⟨v, vs', rfl, h1, h2⟩
   refine ⟨v, vs', rfl, ?_, ih _ h2⟩
   cases d with
   | one t => exact zak.keep (fun _ _ => rfl) (fun b hb => ⟨hb.1, hb.2, by simp⟩) t _ h1
   | agg ts => obtain ⟨a, h0, h1⟩ := h1; exact ⟨a, h0, zac.keep (fun _ _ => rfl) (fun b hb => ⟨hb.1, hb.2, by simp⟩) ts a h1⟩
 obtain ⟨g, hg, hR⟩ := Rel.start (A := A) (A0 := fun b => A b \/ w.heap.size <= b) (R0 := RP.of fun _ => True) (N := fn.ntmps) (hg _ _ hv) List.nodup_nil (zcy args) hN (fun _ hb => Or.inl hb) (fun b hb => by simp at hb) (fun b hb => ⟨Or.inr (by
  refine Nat.le_of_not_lt fun hlt => hb ⟨hlt, by simp⟩), trivial⟩)
 refine wp_mono (zbh (w0 := w) c (zdt (rd args)) _ hd h g _ w hR (fun k hk => hk.1) (Bk.refl _ _) hg) fun e a' w' hq => ?_
 obtain ⟨σ', g', h1, h2, h3, h4, h5⟩ := hq
 have key : zap (zbs P σ' fn.results.toList) (fun vs => RVe σ' vs res) -> ∃ v, (results fn a'.tmps).run P w' = .ok v w' /\ ∃ us, Ending.returned v = .returned (zch us) /\ za5 w' (fun b => b < w'.heap.size /\ (A b \/ w.heap.size <= b)) res us /\ Below w.heap.size w w' := fun hk => by
  unfold zap at hk
  split at hk
  ·rename_i vs hvs
   obtain ⟨us, r1, r2⟩ := zce h2 fn hvs
   refine ⟨_, r1, us, rfl, (RVe.rep h2 hk r2).keep (fun _ _ => rfl) fun b hb => ⟨hb.1, ?_⟩, h4.os, h4.tape, h4.output, h4.size, fun k hk => h4.block k ⟨hk, by simp⟩⟩
   have := hb.2
   simp only [Prod.mk.injEq] at h5
   rw [h5.1] at this
   exact this
  ·exact hk.elim
 cases e with
 | normal => exact ⟨h2.defers, key h1⟩
 | ret => exact ⟨h2.defers, key h1⟩
 | exit _ => exact h1.elim
 | goto _ => exact h1.elim
 | panic _ => exact h1.elim
 | outgrown => exact h1.elim
attribute [go_sem] PRe RVe
end
end Go.Proofs.YtnkagnjiljjpcaaGreat
namespace Go.Proofs.YtnkagnjiljjpcaaGreat
set_option linter.unusedSimpArgs false
set_option linter.unusedVariables false
set_option linter.unusedSectionVars false
set_option maxRecDepth 4000
open Go.RowKit
theorem zui {α : Type} (L : List (List α)) (k : Nat) : (L.take k).flatten.length <= L.flatten.length := by
 have := congrArg (fun l => l.flatten.length) (List.take_append_drop k L)
 simp only [List.flatten_append, List.length_append] at this
 omega
theorem zgh {α β : Type} (f : α -> List β) (w : α -> Nat) : ∀ (l : List α), (∀ x ∈ l, (f x).length <= w x) -> (l.map f).flatten.length <= (l.map w).sum
 | [], _ => by simp
 | a :: l, h => by
  have h1 := h a (by simp)
  have h2 := zgh f w l fun x hx => h x (by simp [hx])
  simp only [List.map_cons, List.flatten_cons, List.length_append, List.sum_cons]
  omega
end Go.Proofs.YtnkagnjiljjpcaaGreat
namespace Go.Proofs.YtnkagnjiljjpcaaGreat
set_option linter.unusedSimpArgs false
set_option linter.unusedVariables false
set_option linter.unusedSectionVars false
set_option maxRecDepth 4000
open Go.RowKit
theorem zry (a t : Tm) : FC Tryz.prog 85 [tmD a, .one (.ptr (tmC t))] [bD (same a t)] := by
 have H := zbk a t
 simp only [tmD, zaa] at H ⊢
 refine zan Tryz.call85 Tryz.func85 rfl (by kernel_rfl) (za3 (by kernel_rfl)) ?_
 simp -implicitDefEqProofs only [go_sem, Tryz.results85]
 refine callF (H) (by simp -implicitDefEqProofs only [go_sem]) ?_
 simp -implicitDefEqProofs only [go_sem]
theorem zuf (ys : List Tm) (t : Tm) (hw : t.wt <= 1048576) (hs : ys.length <= 1048577) : GC Tryz.prog 37 [(true, .one (tmS ys)), (false, tmD t)] [.one (tmS (zep ys t))] := by
 have HF := zcn ys (fun a => same a t) 85 [.ptr (tmC t)] fun x _ => zry x t
 have HC := zq3 t hw
 have hv : zep ys t = if (ys.any fun a => same a t) = true then ys else ys ++ [t] := rfl
 have ha : ys.length <= 4294967295 := by omega
 simp only [tmD, zaa t] at HF HC ⊢
 generalize (ys.any fun a => same a t) = b at HF hv
 refine zv6 Tryz.call37 Tryz.func37 rfl (by kernel_rfl) (by simp only [List.length_cons, List.length_nil, Tryz.ntmps37]; omega) (by simp [zci, T.isPin]) ?_
 simp -implicitDefEqProofs only [go_sem, Tryz.results37]
 refine callF (HF) (by simp -implicitDefEqProofs only [go_sem]) ?_
 simp -implicitDefEqProofs only [go_sem]
 refine ⟨fun h => ?_, fun h => ?_⟩
 ·rw [hv, if_pos (by simpa using h)]
  exact Or.inl rfl
 ·rw [hv, if_neg (by simpa using h)]
  refine callF (HC) (by simp -implicitDefEqProofs only [go_sem]) ?_
  simp -implicitDefEqProofs only [go_sem]
  refine zbt (by simp -implicitDefEqProofs only [go_sem]) ?_
  simp -implicitDefEqProofs only [go_sem]
  refine apD true (by simp -implicitDefEqProofs only [go_sem, ne_eq, List.length_map, ha]) ?_
  simp -implicitDefEqProofs only [go_sem, ne_eq, List.length_map, ha]
  exact Or.inl (by simp [tmS, zaa t])
theorem zev : ∀ (ts ys : List Tm), (ts.foldl zep ys).length <= ys.length + ts.length
 | [], ys => by simp
 | t :: ts, ys => by
  have h1 := zev ts (zep ys t)
  have h2 : (zep ys t).length <= ys.length + 1 := by unfold zep; split <;> simp
  rw [List.foldl_cons, List.length_cons]; omega
end Go.Proofs.YtnkagnjiljjpcaaGreat
namespace Go.Proofs.YtnkagnjiljjpcaaGreat
set_option linter.unusedSimpArgs false
set_option linter.unusedVariables false
set_option linter.unusedSectionVars false
set_option maxRecDepth 4000
open Go.RowKit
theorem zml (l : List Str) : (zbn [] l).length = 0 ↔ l = [] := by
 constructor
 ·intro h
  cases l with
  | nil => rfl
  | cons a l =>
   exfalso
   have h1 : ∀ (l ys : List Str), ys ≠ [] -> zbn ys l ≠ [] := fun l => by
    induction l with
    | nil => exact fun ys h => h
    | cons a l ih =>
     intro ys h
     show zbn (zkr ys a) l ≠ []
     refine ih _ ?_
     unfold zkr
     split
     ·exact h
     ·simp
   have : zbn [] (a :: l) = zbn (zkr [] a) l := rfl
   rw [this] at h
   exact h1 l (zkr [] a) (by unfold zkr; simp) (List.length_eq_zero_iff.1 h)
 ·rintro rfl; rfl
theorem qa7 : ∀ a : Tm, (voS a).length <= 1 + a.wt := zbd fun n xs ih => by
 rw [zop]
 split
 ·simp only [List.length_cons, List.length_nil]; omega
 ·have h1 := zgh voS (fun x => 1 + x.wt) xs ih
  have h2 := zj5 Tm.wt xs
  have h3 : (Tm.mk n xs).wt = n.length + xs.length + (xs.map Tm.wt).sum := Tm.wt_eq _
  simp only [Tm.args]
  omega
end Go.Proofs.YtnkagnjiljjpcaaGreat
namespace Go.Proofs.YtnkagnjiljjpcaaGreat
set_option linter.unusedSimpArgs false
set_option linter.unusedVariables false
set_option linter.unusedSectionVars false
set_option maxRecDepth 4000
open Go.RowKit
def zoa (a b : Li) : Int := orE (zb9 a.atom b.atom) (zjq b.pos a.pos)
theorem zyf {x y : Int} : orE x y = 0 ↔ x = 0 /\ y = 0 := by
 unfold orE
 split <;> simp_all
def okc (ls : List Li) : Prop := ∀ k (h : k < ls.length), ls[k].atom.atomOk = true /\ (0 < k -> zoa (ls[k - 1]'(by omega)) ls[k] < 0)
noncomputable def Cq.ok (c : Cq) : Bool := decide (c.lits.length <= 8) && dec (okc c.lits)
def Cq.vo (c : Cq) : List Str := (c.lits.map fun l => voS l.atom).flatten
noncomputable def grC (c : Cq) : Bool := c.ok && decide (c.vo = [])
theorem zhx {c : Cq} (h : c.ok = true) : ∀ l ∈ c.lits, l.atom.atomOk = true := fun l hl => by
 unfold Cq.ok at h
 rw [Bool.and_eq_true, zb0] at h
 obtain ⟨k, hk, rfl⟩ := List.getElem_of_mem hl
 exact (h.2 k hk).1
theorem zmr {c : Cq} (h : c.ok = true) : c.lits.length <= 8 := by
 unfold Cq.ok at h
 rw [Bool.and_eq_true] at h
 exact of_decide_eq_true h.1
theorem zu5 {c : Cq} (h : grC c = true) : c.ok = true := by
 unfold grC at h
 exact ((Bool.and_eq_true _ _).mp h).1
def atL (ls : List Li) : List Tm := ls.map Li.atom
def atC (cs : List Cq) : List Tm := (cs.map fun c => atL c.lits).flatten
noncomputable def gaL (cs : List Cq) : List Tm := (atC cs).foldl zfg []
noncomputable def zoh (cs : List Cq) : Bool := decide (cs.length <= 40) && cs.all grC && decide ((gaL cs).length <= 12)
noncomputable def gaR (cs : List Cq) : List Tm := if zoh cs = true then gaL cs else []
theorem qde (ts : List Tm) : (ts.foldl zep []).Perm (ts.foldl zfg []) := by
 refine (List.perm_ext_iff_of_nodup (zpf _ List.nodup_nil) (zrk (zg2 _ List.Pairwise.nil))).2 fun t => ?_
 rw [zgy, zhb]
theorem qbx (cs : List Cq) : zxs (gaL cs) := zg2 _ List.Pairwise.nil
theorem ga_mem {cs : List Cq} {t : Tm} : t ∈ gaL cs ↔ t ∈ atC cs := by unfold gaL; rw [zhb]; simp
theorem zun {cs : List Cq} {t : Tm} : t ∈ atC cs ↔ ∃ c ∈ cs, ∃ l ∈ c.lits, l.atom = t := by
 unfold atC atL
 simp only [List.mem_flatten, List.mem_map]
 constructor
 ·rintro ⟨_, ⟨c, hc, rfl⟩, h⟩
  obtain ⟨l, hl, rfl⟩ := List.mem_map.1 h
  exact ⟨c, hc, l, hl, rfl⟩
 ·rintro ⟨c, hc, l, hl, rfl⟩
  exact ⟨_, ⟨c, hc, rfl⟩, List.mem_map_of_mem hl⟩
def upT : Tm -> Bool := Tm.fold fun n _ rs => decide (0 < n.length) && (zfw (n.getD 0 0) == za7 n) && rs.all id
theorem zso (a : Tm) : upT a = (decide (0 < a.name.length) && (zfw (a.name.getD 0 0) == za7 a.name) && a.args.all upT) := by
 unfold upT
 rw [Tm.fold_eq, List.all_map]
 rfl
theorem zor : ∀ a : Tm, a.names = true -> upT a = true := zbd fun n xs ih h => by
 rw [Tm.names_eq] at h
 rw [zso]
 change (if za7 n = true then decide (xs.length = 0) else zca n && decide (xs.length <= 4) && xs.all Tm.names) = true at h
 change (decide (0 < n.length) && (zfw (n.getD 0 0) == za7 n) && xs.all upT) = true
 by_cases hv : za7 n = true
 ·rw [if_pos hv] at h
  obtain ⟨h1, h2⟩ := zov hv
  have hx : xs = [] := List.length_eq_zero_iff.1 (of_decide_eq_true h)
  subst hx
  rw [h1, hv]
  simp [h2]
 ·rw [if_neg hv] at h
  simp only [Bool.and_eq_true] at h
  obtain ⟨h1, h2⟩ := zlt h.1.1
  rw [h1, show za7 n = false by simpa using hv]
  simp only [Bool.and_eq_true, decide_eq_true_eq]
  exact ⟨⟨h2, rfl⟩, List.all_eq_true.2 fun x hx => ih x hx (List.all_eq_true.1 h.2 x hx)⟩
theorem zn8 {a : Tm} (h : a.atomOk = true) : upT a = true := by
 unfold Tm.atomOk at h
 split at h
 ·rename_i he
  have he : a.name = [61] := by simpa using he
  simp only [Bool.and_eq_true, decide_eq_true_eq] at h
  rw [zso, he]
  rw [Bool.and_eq_true]
  exact ⟨by decide, List.all_eq_true.2 fun x hx => zor x (List.all_eq_true.1 h.2 x hx)⟩
 ·simp only [Bool.and_eq_true] at h
  have := h.2
  unfold Tm.good at this
  rw [Bool.and_eq_true] at this
  exact zor a this.2
end Go.Proofs.YtnkagnjiljjpcaaGreat
namespace Go.Proofs.YtnkagnjiljjpcaaGreat
set_option linter.unusedSimpArgs false
set_option linter.unusedVariables false
set_option linter.unusedSectionVars false
set_option maxRecDepth 4000
open Go.RowKit
set_option maxHeartbeats 400000 in
theorem zlz (a : Li) (l : Int) (h0 : 0 <= l) (h1 : l <= 1048576) :
  FC Tryz.prog 115 [liD a, iD l] [iD (szR a.wt l)] := by
 refine zbw (fun hw => ?_) Tryz.call115
 simp only [liD, zai, zaa] at hw ⊢
 have hW := a.wt_eq
 have hls : True := by simp [zd3, wfT, zli] at hw; simp [hw]
 refine zan Tryz.call115 Tryz.func115 rfl (by kernel_rfl) (za3 (by kernel_rfl)) ?_
 simp -implicitDefEqProofs only [go_sem, Tryz.results115]
 refine callF (qas a.atom l (by omega) (by omega)) (by simp -implicitDefEqProofs only [go_sem, zai, zaa, zaa]) ?_
 simp -implicitDefEqProofs only [go_sem, zai, zaa, zaa]
 refine ⟨fun h1 => ?_, fun h1 => ?_⟩
 ·have := ze0 (by omega) (show szR a.atom.wt l < 0 by simpa using h1)
  rw [zcp (by  omega)]
 obtain ⟨k1, j1⟩ := zec (show ¬ szR a.atom.wt l < 0 by simpa using h1)
 rw [show szR a.wt l = l - a.wt from zih (by  omega)]; exact zlm (by  omega)
set_option maxHeartbeats 400000 in
theorem zl7 (a : Li) (hs : a.wt <= 1048576) : FC Tryz.prog 122 [liD a] [liD a] := by
 have hW := a.wt_eq
 simp only [liD, zai, zaa]
 refine zan Tryz.call122 Tryz.func122 rfl (by kernel_rfl) (za3 (by kernel_rfl)) ?_
 simp -implicitDefEqProofs only [go_sem, Tryz.results122]
 refine callF (zz5 a.atom (by  omega)) (by simp -implicitDefEqProofs only [go_sem, zai, zaa, zaa]) ?_
 simp -implicitDefEqProofs only [go_sem, zai, zaa, zaa]
set_option maxHeartbeats 400000 in
theorem zmi (a b : Li) : FC Tryz.prog 135 [liD a, liD b] [bD (same a b)] := by
 simp only [liD, zai, zaa]
 refine zan Tryz.call135 Tryz.func135 rfl (by kernel_rfl) (za3 (by kernel_rfl)) ?_
 simp -implicitDefEqProofs only [go_sem, Tryz.results135]
 refine ⟨fun h1 => ?_, fun h1 => ?_⟩
 ·rw [zbc.2 (by rintro rfl; simp [zau] at h1)]
 refine callF (qam a.atom b.atom) (by simp -implicitDefEqProofs only [go_sem, zai, zaa, zaa]) ?_
 simp -implicitDefEqProofs only [go_sem, zai, zaa, zaa]
 refine ⟨fun h2 => ?_, fun h2 => ?_⟩
 ·rw [zbc.2 (by rintro rfl; simp [zau] at h2)]
 rw [za1.2 (by cases a; cases b; simp [za1, Li.pos, Li.atom] at h1 h2 ⊢; simp [h1, h2])]
theorem zm8 (a : Li) (l : Int) (h0 : 0 <= l) (h1 : l <= 1048576) : FC Tryz.prog 115 [liD a, iD l] [iD (szR a.wt l)] := zlz a l h0 h1
theorem zne (a : Li) (hs : a.wt <= 1048576) : FC Tryz.prog 122 [liD a] [liD a] := zl7 a hs
theorem zm3 (a b : Li) : FC Tryz.prog 135 [liD a, liD b] [bD (same a b)] := zmi a b
set_option maxHeartbeats 400000 in
theorem zjh (xs : List Li) (H : ∀ x ∈ xs, ∀ l : Int, 0 <= l -> l <= 1048576 -> FC Tryz.prog 115 [liD x, iD l] [iD (szR x.wt l)]) (l : Int) (h0 : 0 <= l) (h1 : l <= 1048576) :
  FC Tryz.prog 64 [.one (liS xs), iD l] [iD (szR (zgf xs) l)] := by
 refine zbw (fun hw => ?_) Tryz.call64
 have hl : xs.length <= 9223372036854775807 := by simpa [zd3, wfT] using hw.1.1
 refine zan Tryz.call64 Tryz.func64 rfl (by kernel_rfl) (za3 (by kernel_rfl)) ?_
 simp -implicitDefEqProofs only [go_sem, Tryz.results64]
 rw [za4 (by omega) (by omega)]
 have hW : zgf xs = xs.length + (xs.map Li.wt).sum := rfl
 refine ⟨fun h => ?_, fun h => ?_⟩
 ·rw [zcp (by simp at h; omega)]
 ·have hlen : (xs.length : Int) <= l := by simp at h; omega
  refine zag (fun k : Nat => hd [(0, vT (liS xs)), (1, vI (l - xs.length - zko Li.wt xs k)), (5, vI k)] [] []) (fun k => k <= xs.length /\ 0 <= l - xs.length - zko Li.wt xs k) (fun k => xs.length - k) 0 (zab ?_) ?_ ?_
  ·simp -implicitDefEqProofs only [go_sem]
   simp [zc1]
  ·simpa [zc1] using hlen
  ·intro k ⟨hk, hp⟩
   by_cases hlt : k < xs.length
   ·have hs := zg0 Li.wt xs k hlt
    have hs2 := znt Li.wt xs (k + 1)
    simp -implicitDefEqProofs only [go_sem, List.length_map, zaf, hlt, zai, zaa]
    refine callF (H xs[k] (List.getElem_mem hlt) (l - xs.length - zko Li.wt xs k) hp (by omega)) (by simp -implicitDefEqProofs only [go_sem, zai, zaa]) ?_
    simp -implicitDefEqProofs only [go_sem, zai, zaa]
    refine ⟨fun h => ?_, fun h => ?_⟩
    ·have := ze0 hp (by simpa using h)
     rw [zcp (by omega)]
    ·obtain ⟨h2, h3⟩ := zec (by simpa using h)
     rw [zam (by omega)]
     exact ⟨k + 1, ⟨hlt, by omega⟩, by omega, zab (by simp -implicitDefEqProofs only [go_sem]; rw [h3]; congr 1; omega)⟩
   ·simp -implicitDefEqProofs only [go_sem, List.length_map, hlt]
    have hall := zja Li.wt xs k (by omega)
    rw [hall, zih (by omega)]; congr 1; omega
set_option maxHeartbeats 400000 in
theorem zi6 (xs : List Li) (H : ∀ x ∈ xs, FC Tryz.prog 122 [liD x] [liD x]) (hs : xs.length <= 1048576) :
  FC Tryz.prog 69 [.one (liS xs)] [.one (liS xs)] := by
 refine zbw (fun hw => ?_) Tryz.call69
 refine zan Tryz.call69 Tryz.func69 rfl (by kernel_rfl) (za3 (by kernel_rfl)) ?_
 simp -implicitDefEqProofs only [go_sem, Tryz.results69]
 refine zx3 (by simp -implicitDefEqProofs only [go_sem]; omega) ?_
 simp -implicitDefEqProofs only [go_sem]
 refine zag (fun k : Nat => hd [(0, vT (liS xs)), (3, .one (.ow 224 0)), (4, vI k)] [] [(224, ⟨true, 3, (xs.take k).map liC ++ List.replicate (xs.length - k) [T.bool false, T.str [], T.sl 2 []], 0, true⟩)]) (fun k => k <= xs.length) (fun k => xs.length - k) 0 (zab ?_) ?_ ?_
 ·simp -implicitDefEqProofs only [go_sem]
  simp
 ·simp
 ·intro k hk
  by_cases hlt : k < xs.length
  ·have hlen : ((xs.take k).map liC ++ List.replicate (xs.length - k) [T.bool false, T.str [], T.sl 2 []]).length = xs.length := by simp; omega
   have hlt2 : k < k + (xs.length - k) := by omega
   simp -implicitDefEqProofs only [go_sem, List.length_map, zaf, hlt, zai, zaa]
   refine callF (H xs[k] (List.getElem_mem hlt)) (by simp -implicitDefEqProofs only [go_sem, zai, zaa, hlen, hlt, List.length_append, List.length_map, List.length_take, List.length_replicate, Nat.min_eq_left hk, hlt2]) ?_
   simp -implicitDefEqProofs only [go_sem, zai, zaa, hlen, hlt, List.length_append, List.length_map, List.length_take, List.length_replicate, Nat.min_eq_left hk, hlt2]
   refine zfi (by simp -implicitDefEqProofs only [go_sem]; simp) ?_
   simp -implicitDefEqProofs only [go_sem]
   rw [zam (by omega)]
   refine ⟨k + 1, by omega, by omega, zab ?_⟩
   simp -implicitDefEqProofs only [go_sem]
   have hf := zeu ((xs.take k).map liC) xs.length k [T.bool false, T.str [], T.sl 2 []] (liC xs[k]) (by simp; omega) hlt (by simp [zai, zaa])
   simp only [zai, zaa] at hf
   rw [hf, List.take_succ_eq_append_getElem hlt, List.map_append, List.map_singleton]
   simp only [zai, zaa]
  ·simp -implicitDefEqProofs only [go_sem, List.length_map, hlt]
   simp [List.take_of_length_le (show xs.length <= k by omega), show xs.length - k = 0 by omega]
set_option maxHeartbeats 400000 in
theorem zi3 (xs ys : List Li) (H : ∀ x ∈ xs, ∀ y, FC Tryz.prog 135 [liD x, liD y] [bD (same x y)]) :
  FC Tryz.prog 80 [.one (liS xs), .one (liS ys)] [bD (same xs ys)] := by
 refine zbw (fun hw => ?_) Tryz.call80
 have hl : xs.length <= 9223372036854775807 := by simpa [zd3, wfT] using hw.1.1
 have hl2 : ys.length <= 9223372036854775807 := by simpa [zd3, wfT] using hw.2.1.1
 refine zan Tryz.call80 Tryz.func80 rfl (by kernel_rfl) (za3 (by kernel_rfl)) ?_
 simp -implicitDefEqProofs only [go_sem, Tryz.results80]
 refine ⟨fun h => ?_, fun h => ?_⟩
 ·rw [zbc.2 (by rintro rfl; simp at h)]
 ·have hlen : xs.length = ys.length := by simp at h; omega
  refine zag (fun k : Nat => hd [(0, vT (liS xs)), (1, vT (liS ys)), (4, vB false), (5, vI k)] [] []) (fun k => k <= xs.length /\ same xs ys = same (xs.drop k) (ys.drop k)) (fun k => xs.length - k) 0 (zab ?_) ?_ ?_
  ·simp -implicitDefEqProofs only [go_sem]
  ·simp
  ·intro k ⟨hk, hr⟩
   by_cases hlt : k < xs.length
   ·have hk2 : k < ys.length := by omega
    simp -implicitDefEqProofs only [go_sem, List.length_map, hlt]
    refine drawn (by kernel_rfl) ?_
    simp -implicitDefEqProofs only [go_sem, List.length_map, zaf, hlt, hk2, zai, zaa]
    refine za0 (H xs[k] (List.getElem_mem hlt) ys[k]) (by simp -implicitDefEqProofs only [go_sem, zai, zaa]) ?_
    simp -implicitDefEqProofs only [go_sem, zai, zaa]
    refine ⟨by kernel_rfl, fun h => ?_, fun h => ?_⟩
    ·rw [hr, List.drop_eq_getElem_cons hlt, List.drop_eq_getElem_cons hk2, zbl, show same xs[k] ys[k] = false by simpa using h]; rfl
    ·rw [List.drop_eq_getElem_cons hlt, List.drop_eq_getElem_cons hk2, zbl, show same xs[k] ys[k] = true by simpa using h, Bool.true_and] at hr
     rw [zam (by omega)]
     exact ⟨k + 1, ⟨by omega, hr⟩, by omega, zab (by simp -implicitDefEqProofs only [go_sem])⟩
   ·simp -implicitDefEqProofs only [go_sem, List.length_map, hlt]
    rw [hr, List.drop_of_length_le (by omega), List.drop_of_length_le (by omega), zd2]
theorem zk6 (xs : List Li) (l : Int) (h0 : 0 <= l) (h1 : l <= 1048576) : FC Tryz.prog 64 [.one (liS xs), iD l] [iD (szR (zgf xs) l)] := zjh xs (fun x _ l h0 h1 => zm8 x l h0 h1) l h0 h1
theorem zmu (xs : List Li) (hs : zgf xs <= 1048576) : FC Tryz.prog 69 [.one (liS xs)] [.one (liS xs)] := by
 have hW : zgf xs = xs.length + (xs.map Li.wt).sum := rfl
 exact zi6 xs (fun x hx => zne x (by have := zb8 Li.wt xs x hx; omega)) (by omega)
theorem zlu (xs ys : List Li) : FC Tryz.prog 80 [.one (liS xs), .one (liS ys)] [bD (same xs ys)] := zi3 xs ys fun x _ y => zm3 x y
set_option maxHeartbeats 400000 in
theorem znw (a : Cq) (l : Int) (h0 : 0 <= l) (h1 : l <= 1048576) :
  FC Tryz.prog 23 [cqD a, iD l] [iD (szR a.wt l)] := by
 refine zbw (fun hw => ?_) Tryz.call23
 simp only [cqD, zat, zai, zaa] at hw ⊢
 have hW := a.wt_eq
 have hls : True := by simp [zd3, wfT, zli] at hw; simp [hw]
 refine zan Tryz.call23 Tryz.func23 rfl (by kernel_rfl) (za3 (by kernel_rfl)) ?_
 simp -implicitDefEqProofs only [go_sem, Tryz.results23]
 refine callF (zk6 a.lits l (by omega) (by omega)) (by simp -implicitDefEqProofs only [go_sem, zat, zai, zaa]) ?_
 simp -implicitDefEqProofs only [go_sem, zat, zai, zaa]
 refine ⟨fun h1 => ?_, fun h1 => ?_⟩
 ·have := ze0 (by omega) (show szR (zgf a.lits) l < 0 by simpa using h1)
  rw [zcp (by have hu0 : zgf a.lits = a.lits.length + (a.lits.map Li.wt).sum := rfl;  omega)]
 obtain ⟨k1, j1⟩ := zec (show ¬ szR (zgf a.lits) l < 0 by simpa using h1)
 rw [show szR a.wt l = l - a.wt from zih (by have hu0 : zgf a.lits = a.lits.length + (a.lits.map Li.wt).sum := rfl;  omega)]; exact zlm (by have hu0 : zgf a.lits = a.lits.length + (a.lits.map Li.wt).sum := rfl;  omega)
set_option maxHeartbeats 400000 in
theorem zod (a : Cq) (hs : a.wt <= 1048576) : FC Tryz.prog 26 [cqD a] [cqD a] := by
 have hW := a.wt_eq
 simp only [cqD, zat, zai, zaa]
 refine zan Tryz.call26 Tryz.func26 rfl (by kernel_rfl) (za3 (by kernel_rfl)) ?_
 simp -implicitDefEqProofs only [go_sem, Tryz.results26]
 refine callF (zmu a.lits (by have hu0 : zgf a.lits = a.lits.length + (a.lits.map Li.wt).sum := rfl;  omega)) (by simp -implicitDefEqProofs only [go_sem, zat, zai, zaa]) ?_
 simp -implicitDefEqProofs only [go_sem, zat, zai, zaa]
set_option maxHeartbeats 400000 in
theorem zn3 (a b : Cq) : FC Tryz.prog 29 [cqD a, cqD b] [bD (same a b)] := by
 simp only [cqD, zat, zai, zaa]
 refine zan Tryz.call29 Tryz.func29 rfl (by kernel_rfl) (za3 (by kernel_rfl)) ?_
 simp -implicitDefEqProofs only [go_sem, Tryz.results29]
 refine callF (zlu a.lits b.lits) (by simp -implicitDefEqProofs only [go_sem, zat, zai, zaa]) ?_
 simp -implicitDefEqProofs only [go_sem, zat, zai, zaa]
 refine ⟨fun h1 => ?_, fun h1 => ?_⟩
 ·rw [zbc.2 (by rintro rfl; simp [zau] at h1)]
 rw [za1.2 (by cases a; cases b; simp [za1, Cq.lits] at h1 ⊢; simp [h1])]
theorem zrb (a : Cq) (l : Int) (h0 : 0 <= l) (h1 : l <= 1048576) : FC Tryz.prog 23 [cqD a, iD l] [iD (szR a.wt l)] := znw a l h0 h1
theorem zq5 (a : Cq) (hs : a.wt <= 1048576) : FC Tryz.prog 26 [cqD a] [cqD a] := zod a hs
theorem zq0 (a b : Cq) : FC Tryz.prog 29 [cqD a, cqD b] [bD (same a b)] := zn3 a b
set_option maxHeartbeats 400000 in
theorem zmo (xs : List Cq) (H : ∀ x ∈ xs, ∀ l : Int, 0 <= l -> l <= 1048576 -> FC Tryz.prog 23 [cqD x, iD l] [iD (szR x.wt l)]) (l : Int) (h0 : 0 <= l) (h1 : l <= 1048576) :
  FC Tryz.prog 7 [.one (cqS xs), iD l] [iD (szR (zij xs) l)] := by
 refine zbw (fun hw => ?_) Tryz.call7
 have hl : xs.length <= 9223372036854775807 := by simpa [zd3, wfT] using hw.1.1
 refine zan Tryz.call7 Tryz.func7 rfl (by kernel_rfl) (za3 (by kernel_rfl)) ?_
 simp -implicitDefEqProofs only [go_sem, Tryz.results7]
 rw [za4 (by omega) (by omega)]
 have hW : zij xs = xs.length + (xs.map Cq.wt).sum := rfl
 refine ⟨fun h => ?_, fun h => ?_⟩
 ·rw [zcp (by simp at h; omega)]
 ·have hlen : (xs.length : Int) <= l := by simp at h; omega
  refine zag (fun k : Nat => hd [(0, vT (cqS xs)), (1, vI (l - xs.length - zko Cq.wt xs k)), (5, vI k)] [] []) (fun k => k <= xs.length /\ 0 <= l - xs.length - zko Cq.wt xs k) (fun k => xs.length - k) 0 (zab ?_) ?_ ?_
  ·simp -implicitDefEqProofs only [go_sem]
   simp [zc1]
  ·simpa [zc1] using hlen
  ·intro k ⟨hk, hp⟩
   by_cases hlt : k < xs.length
   ·have hs := zg0 Cq.wt xs k hlt
    have hs2 := znt Cq.wt xs (k + 1)
    simp -implicitDefEqProofs only [go_sem, List.length_map, zaf, hlt, zat, zai, zaa]
    refine callF (H xs[k] (List.getElem_mem hlt) (l - xs.length - zko Cq.wt xs k) hp (by omega)) (by simp -implicitDefEqProofs only [go_sem, zat, zai, zaa]) ?_
    simp -implicitDefEqProofs only [go_sem, zat, zai, zaa]
    refine ⟨fun h => ?_, fun h => ?_⟩
    ·have := ze0 hp (by simpa using h)
     rw [zcp (by omega)]
    ·obtain ⟨h2, h3⟩ := zec (by simpa using h)
     rw [zam (by omega)]
     exact ⟨k + 1, ⟨hlt, by omega⟩, by omega, zab (by simp -implicitDefEqProofs only [go_sem]; rw [h3]; congr 1; omega)⟩
   ·simp -implicitDefEqProofs only [go_sem, List.length_map, hlt]
    have hall := zja Cq.wt xs k (by omega)
    rw [hall, zih (by omega)]; congr 1; omega
set_option maxHeartbeats 400000 in
theorem zl9 (xs : List Cq) (H : ∀ x ∈ xs, FC Tryz.prog 26 [cqD x] [cqD x]) (hs : xs.length <= 1048576) :
  FC Tryz.prog 9 [.one (cqS xs)] [.one (cqS xs)] := by
 refine zbw (fun hw => ?_) Tryz.call9
 refine zan Tryz.call9 Tryz.func9 rfl (by kernel_rfl) (za3 (by kernel_rfl)) ?_
 simp -implicitDefEqProofs only [go_sem, Tryz.results9]
 refine zx3 (by simp -implicitDefEqProofs only [go_sem]; omega) ?_
 simp -implicitDefEqProofs only [go_sem]
 refine zag (fun k : Nat => hd [(0, vT (cqS xs)), (3, .one (.ow 224 0)), (4, vI k)] [] [(224, ⟨true, 1, (xs.take k).map cqC ++ List.replicate (xs.length - k) [T.sl 3 []], 0, true⟩)]) (fun k => k <= xs.length) (fun k => xs.length - k) 0 (zab ?_) ?_ ?_
 ·simp -implicitDefEqProofs only [go_sem]
  simp
 ·simp
 ·intro k hk
  by_cases hlt : k < xs.length
  ·have hlen : ((xs.take k).map cqC ++ List.replicate (xs.length - k) [T.sl 3 []]).length = xs.length := by simp; omega
   have hlt2 : k < k + (xs.length - k) := by omega
   simp -implicitDefEqProofs only [go_sem, List.length_map, zaf, hlt, zat, zai, zaa]
   refine callF (H xs[k] (List.getElem_mem hlt)) (by simp -implicitDefEqProofs only [go_sem, zat, zai, zaa, hlen, hlt, List.length_append, List.length_map, List.length_take, List.length_replicate, Nat.min_eq_left hk, hlt2]) ?_
   simp -implicitDefEqProofs only [go_sem, zat, zai, zaa, hlen, hlt, List.length_append, List.length_map, List.length_take, List.length_replicate, Nat.min_eq_left hk, hlt2]
   refine zfi (by simp -implicitDefEqProofs only [go_sem]; simp) ?_
   simp -implicitDefEqProofs only [go_sem]
   rw [zam (by omega)]
   refine ⟨k + 1, by omega, by omega, zab ?_⟩
   simp -implicitDefEqProofs only [go_sem]
   have hf := zeu ((xs.take k).map cqC) xs.length k [T.sl 3 []] (cqC xs[k]) (by simp; omega) hlt (by simp [zat, zai, zaa])
   simp only [zat, zai, zaa] at hf
   rw [hf, List.take_succ_eq_append_getElem hlt, List.map_append, List.map_singleton]
   simp only [zat, zai, zaa]
  ·simp -implicitDefEqProofs only [go_sem, List.length_map, hlt]
   simp [List.take_of_length_le (show xs.length <= k by omega), show xs.length - k = 0 by omega]
set_option maxHeartbeats 400000 in
theorem zkx (xs ys : List Cq) (H : ∀ x ∈ xs, ∀ y, FC Tryz.prog 29 [cqD x, cqD y] [bD (same x y)]) :
  FC Tryz.prog 12 [.one (cqS xs), .one (cqS ys)] [bD (same xs ys)] := by
 refine zbw (fun hw => ?_) Tryz.call12
 have hl : xs.length <= 9223372036854775807 := by simpa [zd3, wfT] using hw.1.1
 have hl2 : ys.length <= 9223372036854775807 := by simpa [zd3, wfT] using hw.2.1.1
 refine zan Tryz.call12 Tryz.func12 rfl (by kernel_rfl) (za3 (by kernel_rfl)) ?_
 simp -implicitDefEqProofs only [go_sem, Tryz.results12]
 refine ⟨fun h => ?_, fun h => ?_⟩
 ·rw [zbc.2 (by rintro rfl; simp at h)]
 ·have hlen : xs.length = ys.length := by simp at h; omega
  refine zag (fun k : Nat => hd [(0, vT (cqS xs)), (1, vT (cqS ys)), (4, vB false), (5, vI k)] [] []) (fun k => k <= xs.length /\ same xs ys = same (xs.drop k) (ys.drop k)) (fun k => xs.length - k) 0 (zab ?_) ?_ ?_
  ·simp -implicitDefEqProofs only [go_sem]
  ·simp
  ·intro k ⟨hk, hr⟩
   by_cases hlt : k < xs.length
   ·have hk2 : k < ys.length := by omega
    simp -implicitDefEqProofs only [go_sem, List.length_map, hlt]
    refine drawn (by kernel_rfl) ?_
    simp -implicitDefEqProofs only [go_sem, List.length_map, zaf, hlt, hk2, zat, zai, zaa]
    refine za0 (H xs[k] (List.getElem_mem hlt) ys[k]) (by simp -implicitDefEqProofs only [go_sem, zat, zai, zaa]) ?_
    simp -implicitDefEqProofs only [go_sem, zat, zai, zaa]
    refine ⟨by kernel_rfl, fun h => ?_, fun h => ?_⟩
    ·rw [hr, List.drop_eq_getElem_cons hlt, List.drop_eq_getElem_cons hk2, zbl, show same xs[k] ys[k] = false by simpa using h]; rfl
    ·rw [List.drop_eq_getElem_cons hlt, List.drop_eq_getElem_cons hk2, zbl, show same xs[k] ys[k] = true by simpa using h, Bool.true_and] at hr
     rw [zam (by omega)]
     exact ⟨k + 1, ⟨by omega, hr⟩, by omega, zab (by simp -implicitDefEqProofs only [go_sem])⟩
   ·simp -implicitDefEqProofs only [go_sem, List.length_map, hlt]
    rw [hr, List.drop_of_length_le (by omega), List.drop_of_length_le (by omega), zd2]
theorem zn2 (xs : List Cq) (l : Int) (h0 : 0 <= l) (h1 : l <= 1048576) : FC Tryz.prog 7 [.one (cqS xs), iD l] [iD (szR (zij xs) l)] := zmo xs (fun x _ l h0 h1 => zrb x l h0 h1) l h0 h1
theorem zob (xs : List Cq) (hs : zij xs <= 1048576) : FC Tryz.prog 9 [.one (cqS xs)] [.one (cqS xs)] := by
 have hW : zij xs = xs.length + (xs.map Cq.wt).sum := rfl
 exact zl9 xs (fun x hx => zq5 x (by have := zb8 Cq.wt xs x hx; omega)) (by omega)
theorem znu (xs ys : List Cq) : FC Tryz.prog 12 [.one (cqS xs), .one (cqS ys)] [bD (same xs ys)] := zkx xs ys fun x _ y => zq0 x y
end Go.Proofs.YtnkagnjiljjpcaaGreat
namespace Go.Proofs.YtnkagnjiljjpcaaGreat
set_option linter.unusedSimpArgs false
set_option linter.unusedVariables false
set_option linter.unusedSectionVars false
set_option maxRecDepth 4000
open Go.RowKit
theorem zz1 (a b : Str) : FC Tryz.prog 155 [sD a, sD b] [iD (zkl a b)] := by
 have hv : zkl a b = if Op.bytesLess a b = true then -1 else if (a == b) = true then 0 else 1 := rfl
 rw [hv]
 cases h1 : Op.bytesLess a b <;> cases h2 : (a == b)
 all_goals
  refine zan Tryz.call155 Tryz.func155 rfl (by kernel_rfl) (za3 (by kernel_rfl)) ?_
  simp -implicitDefEqProofs only [go_sem, Tryz.results155, h1, h2]
  try simp
theorem zrt (a b : Tm) : zb9 a b = if (za7 a.name && !za7 b.name) = true then -1 else if (za7 b.name && !za7 a.name) = true then 1 else if (a.name == b.name) = false then zkl a.name b.name
  else if a.args.length < b.args.length then -1 else if b.args.length < a.args.length then 1 else zdc a.args b.args := by
 rw [zj3]
 unfold hdT zjq
 generalize za7 a.name = x
 generalize za7 b.name = y
 by_cases hn : a.name = b.name
 ·have h0 : zkl a.name b.name = 0 := zgs.2 hn
  rw [h0, hn]
  unfold qcu
  by_cases h1 : a.args.length < b.args.length
  ·cases x <;> cases y <;> simp [orE, h1]
  ·by_cases h2 : b.args.length < a.args.length
   ·cases x <;> cases y <;> simp [orE, h1, h2]
   ·cases x <;> cases y <;> simp [orE, h1, h2]
 ·have h0 : zkl a.name b.name ≠ 0 := fun h => hn (zgs.1 h)
  have hb : (a.name == b.name) = false := by simpa using hn
  cases x <;> cases y <;> simp [orE, h0, hb]
set_option maxHeartbeats 1000000 in
theorem zl4 (a b : Tm) (H : ∀ x ∈ a.args, ∀ y, FC Tryz.prog 102 [tmD x, tmD y] [iD (zb9 x y)]) : FC Tryz.prog 102 [tmD a, tmD b] [iD (zb9 a b)] := by
 refine zbw (fun hw => ?_) Tryz.call102
 simp only [tmD, zaa] at hw ⊢
 have hl : a.args.length <= 9223372036854775807 := by simp [zd3, wfT, zli] at hw; exact hw.1.2.1
 have hv := zrt a b
 have HV1 := zi5 a.name
 have HV2 := zi5 b.name
 have HT := zz1 a.name b.name
 by_cases hxy : za7 a.name = za7 b.name
 ·rw [hxy] at HV1 hv
  rw [Bool.and_not_self, if_neg (by simp), if_neg (by simp)] at hv
  generalize za7 b.name = x at HV1 HV2
  cases x
  all_goals
   cases hn : (a.name == b.name)
   ·rw [hn, if_pos rfl] at hv
    rw [hv]
    have hn' : (a.name != b.name) = true := by simp [bne, hn]
    generalize zkl a.name b.name = r at HT
    refine zan Tryz.call102 Tryz.func102 rfl (by kernel_rfl) (za3 (by kernel_rfl)) ?_
    simp -implicitDefEqProofs only [go_sem, Tryz.results102]
    refine drawn (by kernel_rfl) ?_
    simp -implicitDefEqProofs only [go_sem]
    refine za0 (HV1) (by simp -implicitDefEqProofs only [go_sem]) ?_
    simp -implicitDefEqProofs only [go_sem]
    refine za0 (HV2) (by simp -implicitDefEqProofs only [go_sem]) ?_
    simp -implicitDefEqProofs only [go_sem]
    refine ⟨by kernel_rfl, ?_⟩
    simp -implicitDefEqProofs only [go_sem, hn, hn']
    refine callF (HT) (by simp -implicitDefEqProofs only [go_sem]) ?_
    simp -implicitDefEqProofs only [go_sem]
   ·rw [hn, if_neg (by simp)] at hv
    have hn' : (a.name != b.name) = false := by simp [bne, hn]
    refine zan Tryz.call102 Tryz.func102 rfl (by kernel_rfl) (za3 (by kernel_rfl)) ?_
    simp -implicitDefEqProofs only [go_sem, Tryz.results102]
    refine drawn (by kernel_rfl) ?_
    simp -implicitDefEqProofs only [go_sem]
    refine za0 (HV1) (by simp -implicitDefEqProofs only [go_sem]) ?_
    simp -implicitDefEqProofs only [go_sem]
    refine za0 (HV2) (by simp -implicitDefEqProofs only [go_sem]) ?_
    simp -implicitDefEqProofs only [go_sem]
    refine ⟨by kernel_rfl, ?_⟩
    simp -implicitDefEqProofs only [go_sem, hn, hn']
    refine ⟨fun h1 => ?_, fun h1 => ⟨fun h2 => ?_, fun h2 => ?_⟩⟩
    ·rw [hv, if_pos (by simpa using h1)]
    ·rw [hv, if_neg (by simpa using h1), if_pos (by simpa using h2)]
    ·rw [if_neg (by simpa using h1), if_neg (by simpa using h2)] at hv
     have hlen : a.args.length = b.args.length := by simp at h1 h2; omega
     refine zag (fun k : Nat => hd [(2, .one (.bx 2 0)), (3, .one (.bx 3 0)), (7, vI k)] [(2, [.t (.str a.name), .t (tmS a.args)]), (3, [.t (.str b.name), .t (tmS b.args)])] []) (fun k => k <= a.args.length /\ zb9 a b = zdc (a.args.drop k) (b.args.drop k)) (fun k => a.args.length - k) 0 (zab ?_) ⟨Nat.zero_le _, by simpa using hv⟩ ?_
     ·simp -implicitDefEqProofs only [go_sem]
     ·intro k ⟨hk, hr⟩
      by_cases hlt : k < a.args.length
      ·have hk2 : k < b.args.length := by omega
       have HC := H a.args[k] (List.getElem_mem hlt) b.args[k]
       rw [List.drop_eq_getElem_cons hlt, List.drop_eq_getElem_cons hk2, zdc] at hr
       generalize zb9 a.args[k] b.args[k] = c at HC hr
       simp only [tmD, zaa a.args[k], zaa b.args[k]] at HC
       simp -implicitDefEqProofs only [go_sem, hlt]
       refine drawn (by kernel_rfl) ?_
       simp -implicitDefEqProofs only [go_sem, hlt, hk2, zaf, zaa a.args[k], zaa b.args[k]]
       refine za0 (HC) (by simp -implicitDefEqProofs only [go_sem]) ?_
       simp -implicitDefEqProofs only [go_sem]
       refine ⟨by kernel_rfl, fun h => ?_, fun h => ?_⟩
       ·have : c ≠ 0 := by simpa using h
        unfold orE at hr
        rw [if_neg this] at hr
        rw [hr]
       ·have : c = 0 := by simpa using h
        unfold orE at hr
        rw [if_pos this] at hr
        refine ⟨k + 1, ⟨hlt, hr⟩, by omega, zab ?_⟩
        simp -implicitDefEqProofs only [go_sem]
        rw [zam (by omega)]
      ·rw [List.drop_of_length_le (by omega), List.drop_of_length_le (by omega), zdc] at hr
       rw [hr]
       simp -implicitDefEqProofs only [go_sem, hlt]
 ·have e : za7 b.name = !za7 a.name := by revert hxy; cases za7 a.name <;> cases za7 b.name <;> simp
  rw [e] at HV2 hv
  generalize za7 a.name = x at HV1 HV2 hv
  cases x
  all_goals
   simp only [Bool.not_true, Bool.not_false, Bool.and_self, Bool.and_false, Bool.and_true, Bool.false_and, Bool.true_and, if_true, if_false, reduceCtorEq] at HV2 hv
   rw [hv]
   refine zan Tryz.call102 Tryz.func102 rfl (by kernel_rfl) (za3 (by kernel_rfl)) ?_
   simp -implicitDefEqProofs only [go_sem, Tryz.results102]
   refine drawn (by kernel_rfl) ?_
   simp -implicitDefEqProofs only [go_sem]
   refine za0 (HV1) (by simp -implicitDefEqProofs only [go_sem]) ?_
   simp -implicitDefEqProofs only [go_sem]
   refine za0 (HV2) (by simp -implicitDefEqProofs only [go_sem]) ?_
   simp -implicitDefEqProofs only [go_sem]
   kernel_rfl
theorem zg1 : ∀ a b : Tm, FC Tryz.prog 102 [tmD a, tmD b] [iD (zb9 a b)] := zbd fun n xs ih b => zl4 (.mk n xs) b ih
end Go.Proofs.YtnkagnjiljjpcaaGreat
namespace Go.Proofs.YtnkagnjiljjpcaaGreat
set_option linter.unusedSimpArgs false
set_option linter.unusedVariables false
set_option linter.unusedSectionVars false
set_option maxRecDepth 4000
open Go.RowKit
theorem zwf {l : List Tm} {t : Tm} {k : Nat} (hk : k <= l.length) (h1 : ∀ x ∈ l.take k, ltT x t = true) (h2 : ∀ h : k < l.length, ltT l[k] t = false) : zfg l t = if dec ((l.drop k).head? = some t) = true then l else l.take k ++ [t] ++ l.drop k := by
 obtain ⟨e1, e2⟩ := zjp (p := fun x => ltT x t) hk h1 h2
 unfold zfg
 rw [e1, e2]
set_option maxHeartbeats 2000000 in
theorem zy9 (l : List Tm) (t : Tm) (hl : l.length <= 2147483648) : RC Tryz.prog 54 [.one (tmS l), tmD t] [.one (tmS (zfg l t))] := by
 simp only [tmD, zaa t]
 refine ziq Tryz.call54 Tryz.func54 rfl (by kernel_rfl) (za3 (by kernel_rfl)) ?_
 simp -implicitDefEqProofs only [go_sem, Tryz.results54]
 refine zag (fun k : Nat => hd [(0, vT (tmS l)), (3, .one (.bx 3 0)), (5, vI k)] [(3, [.t (.str t.name), .t (tmS t.args)])] []) (fun k => k <= l.length /\ ∀ x ∈ l.take k, ltT x t = true) (fun k => l.length - k) 0 (zab ?_) ⟨Nat.zero_le _, by simp⟩ ?_
 ·simp -implicitDefEqProofs only [go_sem]
 ·intro k ⟨hk, hr⟩
  have hm1 : min k l.length <= 4294967296 := by omega
  have hm2 : min k l.length <= 4294967295 := by omega
  have hm3 : min k l.length + 1 + (l.length - k) <= 4294967296 := by omega
  by_cases hlt : k < l.length
  ·have HC := zg1 l[k] t
   have HS := zdd l[k] t
   have hnx : ltT l[k] t = true -> ∀ x ∈ l.take (k + 1), ltT x t = true := fun hb x hx => by
    rw [List.take_succ_eq_append_getElem hlt] at hx
    rcases List.mem_append.1 hx with hx | hx
    ·exact hr x hx
    ·rw [List.mem_singleton.1 hx, hb]
   simp only [tmD, zaa l[k], zaa t] at HC HS
   have hcd : decide (zb9 l[k] t < 0) = ltT l[k] t := rfl
   generalize zb9 l[k] t = c at HC hcd
   simp -implicitDefEqProofs only [go_sem, hlt]
   refine drawn (by kernel_rfl) ?_
   simp -implicitDefEqProofs only [go_sem, hlt, zaf, zaa l[k]]
   refine zba (HC) (by simp -implicitDefEqProofs only [go_sem]) ?_
   simp -implicitDefEqProofs only [go_sem]
   refine ⟨by kernel_rfl, fun h => ?_, fun h => ?_⟩
   ·refine ⟨k + 1, ⟨hlt, hnx (by rw [<- hcd]; exact h)⟩, by omega, zab ?_⟩
    simp -implicitDefEqProofs only [go_sem]
    rw [zam (by omega)]
   ·rw [h] at hcd
    have hp := zwf hk hr fun _ => hcd.symm
    have hh : (l.drop k).head? = some l[k] := by rw [List.head?_drop, List.getElem?_eq_getElem hlt]
    refine drawn (by kernel_rfl) ?_
    simp -implicitDefEqProofs only [go_sem, hlt, zaf, zaa l[k]]
    refine zba (HS) (by simp -implicitDefEqProofs only [go_sem]) ?_
    simp -implicitDefEqProofs only [go_sem]
    refine ⟨by kernel_rfl, fun h2 => ?_, fun h2 => ?_⟩
    ·rw [hp, if_pos (by rw [hh, zb0, za1.1 h2])]
    ·rw [if_neg (by rw [hh, zb0]; intro e; rw [Option.some.inj e, zau] at h2; cases h2)] at hp
     refine drawn (by kernel_rfl) ?_
     simp -implicitDefEqProofs only [go_sem, hk]
     refine zgm (by simp -implicitDefEqProofs only [go_sem, hk]) ?_
     simp -implicitDefEqProofs only [go_sem, hk]
     refine zkm false (by simp -implicitDefEqProofs only [go_sem, hk, ne_eq, Nat.zero_add, hm1, hm2, hm3, zbj, List.length_drop, List.length_take, List.length_append, List.length_map]) ?_
     simp -implicitDefEqProofs only [go_sem, hk, ne_eq, Nat.zero_add, hm1, hm2, hm3, zbj, List.length_drop, List.length_take, List.length_append, List.length_map]
     refine zgm (by simp -implicitDefEqProofs only [go_sem, hk]) ?_
     simp -implicitDefEqProofs only [go_sem, hk]
     refine zkm false (by simp -implicitDefEqProofs only [go_sem, hk, ne_eq, Nat.zero_add, hm1, hm2, hm3, zbj, List.length_drop, List.length_take, List.length_append, List.length_map]) ?_
     simp -implicitDefEqProofs only [go_sem, hk, ne_eq, Nat.zero_add, hm1, hm2, hm3, zbj, List.length_drop, List.length_take, List.length_append, List.length_map]
     refine zkm false (by simp -implicitDefEqProofs only [go_sem, hk, ne_eq, Nat.zero_add, hm1, hm2, hm3, zbj, List.length_drop, List.length_take, List.length_append, List.length_map]) ?_
     simp -implicitDefEqProofs only [go_sem, hk, ne_eq, Nat.zero_add, hm1, hm2, hm3, zbj, List.length_drop, List.length_take, List.length_append, List.length_map]
     refine ⟨by kernel_rfl, ?_⟩
     rw [hp, List.map_append, List.map_append, List.map_take, List.map_drop, List.map_singleton, zaa t]
  ·have hp := zwf hk hr fun h => absurd h hlt
   rw [if_neg (by rw [List.drop_of_length_le (by omega), zb0]; simp)] at hp
   simp -implicitDefEqProofs only [go_sem, hlt]
   refine drawn (by kernel_rfl) ?_
   simp -implicitDefEqProofs only [go_sem, hlt]
   refine ⟨by kernel_rfl, ?_⟩
   refine drawn (by kernel_rfl) ?_
   simp -implicitDefEqProofs only [go_sem, hlt]
   refine ⟨by kernel_rfl, ?_⟩
   refine drawn (by kernel_rfl) ?_
   simp -implicitDefEqProofs only [go_sem, hk]
   refine zgm (by simp -implicitDefEqProofs only [go_sem, hk]) ?_
   simp -implicitDefEqProofs only [go_sem, hk]
   refine zkm false (by simp -implicitDefEqProofs only [go_sem, hk, ne_eq, Nat.zero_add, hm1, hm2, hm3, zbj, List.length_drop, List.length_take, List.length_append, List.length_map]) ?_
   simp -implicitDefEqProofs only [go_sem, hk, ne_eq, Nat.zero_add, hm1, hm2, hm3, zbj, List.length_drop, List.length_take, List.length_append, List.length_map]
   refine zgm (by simp -implicitDefEqProofs only [go_sem, hk]) ?_
   simp -implicitDefEqProofs only [go_sem, hk]
   refine zkm false (by simp -implicitDefEqProofs only [go_sem, hk, ne_eq, Nat.zero_add, hm1, hm2, hm3, zbj, List.length_drop, List.length_take, List.length_append, List.length_map]) ?_
   simp -implicitDefEqProofs only [go_sem, hk, ne_eq, Nat.zero_add, hm1, hm2, hm3, zbj, List.length_drop, List.length_take, List.length_append, List.length_map]
   refine zkm false (by simp -implicitDefEqProofs only [go_sem, hk, ne_eq, Nat.zero_add, hm1, hm2, hm3, zbj, List.length_drop, List.length_take, List.length_append, List.length_map]) ?_
   simp -implicitDefEqProofs only [go_sem, hk, ne_eq, Nat.zero_add, hm1, hm2, hm3, zbj, List.length_drop, List.length_take, List.length_append, List.length_map]
   refine ⟨by kernel_rfl, ?_⟩
   rw [hp, List.map_append, List.map_append, List.map_take, List.map_drop, List.map_singleton, zaa t]
end Go.Proofs.YtnkagnjiljjpcaaGreat
namespace Go.Proofs.YtnkagnjiljjpcaaGreat
set_option linter.unusedSimpArgs false
set_option linter.unusedVariables false
set_option linter.unusedSectionVars false
set_option maxRecDepth 4000
open Go.RowKit
variable {P : Program}
def C.fs (e : Nat) (x : Ev) : C -> C
 | .ow e' g => if e' = e then (if g = x.gen then .t (.sl x.sz x.rows) else .any) else .ow e' g
 | .eo e' g sz i o => if e' = e then .any else .eo e' g sz i o
 | c => c
def fsS (f : Nat -> V) (e : Nat) (x : Ev) : Nat -> V := fun i => (f i).map (C.fs e x)
def fsB (f : Nat -> Option (List C)) (e : Nat) (x : Ev) : Nat -> Option (List C) := fun b => (f b).map fun cs => cs.map (C.fs e x)
def fsE (f : Nat -> Option Ev) (e : Nat) : Nat -> Option Ev := fun k => if k = e then none else f k
theorem zo8 (f : Nat -> Option (List C)) (e : Nat) (x : Ev) (b : Nat) : fsB f e x b = (f b).map fun cs => cs.map (C.fs e x) := rfl
def St.fs (σ : St) (e : Nat) (x : Ev) : St := ⟨fsS σ.sl e x, fsB σ.bx e x, fsE σ.ev e⟩
theorem fs_wk {σ : St} {e : Nat} {x : Ev} (hx : σ.ev e = some x) (hd : x.deep = false) (ho : x.on = true) : Wk σ (σ.fs e x) := by
 intro n0 N g a w h
 have hev : ∀ e', e' ≠ e -> (σ.fs e x).ev e' = σ.ev e' := fun e' he => by show (if e' = e then none else σ.ev e') = _; rw [if_neg he]
 have hee : (σ.fs e x).ev e = none := by show (if e = e then none else σ.ev e) = _; rw [if_pos rfl]
 have hsome : ∀ e' z, (σ.fs e x).ev e' = some z -> e' ≠ e /\ σ.ev e' = some z := fun e' z hz => by
  by_cases he : e' = e
  ·subst he; rw [hee] at hz; cases hz
  ·exact ⟨he, by rw [<- hev e' he]; exact hz⟩
 have hon : ∀ e', (σ.fs e x).On e' -> e' ≠ e /\ σ.On e' := fun e' ⟨z, hz, h1⟩ => ⟨(hsome e' z hz).1, z, (hsome e' z hz).2, h1⟩
 have hbx : ∀ b, (σ.fs e x).bx b ≠ none ↔ σ.bx b ≠ none := fun b => by unfold St.fs; simp [zo8]
 have hOn : σ.On e := ⟨x, hx, ho⟩
 have hf : ∀ b, Fix σ g w b -> Fix (σ.fs e x) g w b := fun b hf => ⟨fun k hk => hf.1 k ((hbx k).1 hk), fun e' z hz h1 => hf.2.1 e' z (hsome e' z hz).2 h1, hf.2.2⟩
 have hfr : ∀ b, zcg σ g w b -> zcg (σ.fs e x) g w b := fun b hb => ⟨hf b hb.1, fun e' h' => hb.2 e' (hon e' h').2⟩
 have hgone : ∀ b ∈ g.φ e, b < w.heap.size -> zcg (σ.fs e x) g w b := fun b hb hl => by
  have hne : ∀ e', (σ.fs e x).On e' -> b ∉ g.φ e' := fun e' he' hm => h.apart e e' hOn (hon e' he').2 (Ne.symm (hon e' he').1) b hb hm
  exact ⟨⟨fun j hj hjb => h.ebx e j hOn ((hbx j).1 hj) (by rw [hjb]; exact hb), fun e' z hz h1 hh => hne e' ⟨z, hz, h1⟩ (List.mem_of_mem_head? hh), hl, (h.ebase e hOn b hb).1⟩, hne⟩
 have hhas : ∀ e' n, e' ≠ e -> σ.has e' n -> (σ.fs e x).has e' n := fun e' n he ⟨z, hz, h1⟩ => ⟨z, by rw [hev e' he]; exact hz, h1⟩
 have cr : ∀ c v, CR σ g w c v -> CR (σ.fs e x) g w (c.fs e x) v := fun c v hc => by
  cases c with
  | t y => exact zak.keep (fun _ _ => rfl) hf y v hc
  | nl s => exact hc
  | ow e' n =>
   show CR _ _ _ (if e' = e then (if n = x.gen then .t (.sl x.sz x.rows) else .any) else .ow e' n) v
   by_cases he : e' = e
   ·subst he
    rw [if_pos rfl]
    by_cases hn : n = x.gen
    ·rw [if_pos hn]
     subst hn
     obtain ⟨ao, cap, e1, e2, e3, e4⟩ := h.evs _ x hx ho
     rw [<- hc.1] at e1
     show zak _ _ _ _
     unfold zak
     refine ⟨ao, cap, e1, e2, e3, ?_⟩
     rcases e4 with ⟨_, _, e4, _⟩ | ⟨b, cells, ty, fps, k1, k2, k3, k4, k5⟩
     ·exact Or.inl e4
     ·rw [if_neg (by rw [hd]; simp)] at k5
      exact Or.inr ⟨b, 0, k1, (hgone b (by rw [k2]; simp) (Array.getElem?_eq_some_iff.1 k3).1).1, zaj.keep (fun _ _ => rfl) hf b rfl 0 x.sz x.rows k5.2⟩
    ·rw [if_neg hn]; trivial
   ·rw [if_neg he]; exact ⟨hc.1, hhas e' n he hc.2⟩
  | bx b o => exact ⟨hc.1, (hbx b).2 hc.2⟩
  | el cs o => obtain ⟨b, q, h1, h2, h3⟩ := hc; exact ⟨b, q, h1, hf b h2, zaz.keep (fun _ _ => rfl) hf b rfl q cs h3⟩
  | eo e' s sz i o =>
   show CR _ _ _ (if e' = e then .any else .eo e' s sz i o) v
   by_cases he : e' = e
   ·rw [if_pos he]; trivial
   ·rw [if_neg he]; obtain ⟨b, n, c, h1, h2, h3, h4⟩ := hc; exact ⟨b, n, c, h1, h2, h3, hhas e' s he h4⟩
  | fn f caps => exact ⟨hc.1, fun b hb => (hbx b).2 (hc.2 b hb)⟩
  | cv u => exact hc
  | any => trivial
  | rn y => exact zak.keep (fun _ _ => rfl) hfr y v hc
  | er cs o => obtain ⟨b, q, h1, h2, h3⟩ := hc; exact ⟨b, q, h1, hfr b h2, zaz.keep (fun _ _ => rfl) hfr b rfl q cs h3⟩
 refine ⟨g, ⟨h.defers, h.size, h.anew, fun i => VR.map cr (h.slots i), fun b cs hb => ?_, fun b hb => h.base b ((hbx b).1 hb), fun b b' h1 h2 => h.inj b b' ((hbx b).1 h1) ((hbx b').1 h2), fun e' z hz h1 => ?_, fun e' z hz h1 => ?_, h.slc, fun e' h1 => h.ebase e' (hon e' h1).2, fun e' h1 => h.etop e' (hon e' h1).2, fun e' h1 => h.nodup e' (hon e' h1).2, fun e1 e2 h1 h2 => h.apart e1 e2 (hon e1 h1).2 (hon e2 h2).2, fun e' k h1 h2 => h.ebx e' k (hon e' h1).2 ((hbx k).1 h2)⟩, rfl, rfl⟩
 ·cases hc : σ.bx b with
  | none => unfold St.fs at hb; simp only [zo8, hc, Option.map_none] at hb; cases hb
  | some cs0 =>
   unfold St.fs at hb
   simp only [zo8, hc, Option.map_some, Option.some.injEq] at hb
   subst hb
   obtain ⟨vs, ty, k1, k2⟩ := h.boxes b cs0 hc
   exact ⟨vs, ty, k1, CRs.map cr k2⟩
 ·obtain ⟨ao, cap, e1, e2, e3, e4⟩ := h.evs e' z (hsome e' z hz).2 h1
  refine ⟨ao, cap, e1, e2, e3, ?_⟩
  rcases e4 with e4 | ⟨b, cells, ty, fps, k1, k2, k3, k4, k5⟩
  ·exact Or.inl e4
  ·refine Or.inr ⟨b, cells, ty, fps, k1, k2, k3, k4, ?_⟩
   split at k5
   ·rw [if_pos ‹_›]; exact k5
   ·rw [if_neg ‹_›]; exact ⟨k5.1, zaj.keep (fun _ _ => rfl) hf b rfl 0 z.sz z.rows k5.2⟩
 ·exact ⟨zak.keep (fun _ _ => rfl) hf _ _ (h.offs e' z (hsome e' z hz).2 h1).1, (h.offs e' z (hsome e' z hz).2 h1).2⟩
attribute [go_sem] C.fs St.fs zo8
end Go.Proofs.YtnkagnjiljjpcaaGreat
