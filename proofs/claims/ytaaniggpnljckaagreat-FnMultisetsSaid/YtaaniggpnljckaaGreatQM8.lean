/-
  The walk over plain data, and contracts of functions of the program and of its laws.
  Conditions: those that each theorem names.
-/
import Derived.Test.YtaaniggpnljckaaGreatQM6
import Derived.Test.YtaaniggpnljckaaGreatQM7
import Derived.WalkKit
import Derived.Test.YtaaniggpnljckaaGreatQM5
import Derived.Lib.Walk
import Derived.Lib.SliceRun
import Derived.Lib.AppendZeros
namespace Go.Proofs.YtaaniggpnljckaaGreat
set_option linter.unusedSimpArgs false
set_option linter.unusedVariables false
set_option linter.unusedSectionVars false
set_option maxRecDepth 4000
open Go.RowKit
theorem zpz (o : Og) : FC Tryz.prog 19 [ogD o] [bD o.ok] := by
 have hv : o.ok = (inB o.syms.length 1 12 && decide (o.wts.length = o.syms.length) && inB o.vr 1 100 && okG o.vr [] o.syms o.wts) := rfl
 rw [hv]
 simp only [ogD, zax]
 clear hv
 obtain ⟨S, W, v⟩ := o
 simp only
 have HW1 := zng S.length 1 12
 have HW2 := zng v 1 100
 have hlb := zkn W.length S.length
 cases h1 : inB S.length 1 12
 ·rw [h1] at HW1
  refine zan Tryz.call19 Tryz.func19 rfl (by kernel_rfl) (za2 (by kernel_rfl)) ?_
  simp -implicitDefEqProofs only [go_sem, Tryz.results19]
  refine callF (HW1) (by simp -implicitDefEqProofs only [go_sem]) ?_
  simp -implicitDefEqProofs only [go_sem]
 rw [h1] at HW1
 by_cases h2 : W.length = S.length
 ·rw [decide_eq_true h2]
  rw [decide_eq_true h2] at hlb
  cases h3 : inB v 1 100
  ·rw [h3] at HW2
   refine zan Tryz.call19 Tryz.func19 rfl (by kernel_rfl) (za2 (by kernel_rfl)) ?_
   simp -implicitDefEqProofs only [go_sem, Tryz.results19]
   refine callF (HW1) (by simp -implicitDefEqProofs only [go_sem, hlb]) ?_
   simp -implicitDefEqProofs only [go_sem, hlb]
   refine callF (HW2) (by simp -implicitDefEqProofs only [go_sem]) ?_
   simp -implicitDefEqProofs only [go_sem]
  rw [h3] at HW2
  have hS12 : S.length <= 12 := by
   unfold inB at h1
   simp at h1; omega
  have e0 : okG v [] S W = okG v (S.take 0) (S.drop 0) (W.drop 0) := rfl
  simp only [Bool.true_and]
  refine zan Tryz.call19 Tryz.func19 rfl (by kernel_rfl) (za2 (by kernel_rfl)) ?_
  simp -implicitDefEqProofs only [go_sem, Tryz.results19]
  refine callF (HW1) (by simp -implicitDefEqProofs only [go_sem, hlb]) ?_
  simp -implicitDefEqProofs only [go_sem, hlb]
  refine callF (HW2) (by simp -implicitDefEqProofs only [go_sem]) ?_
  simp -implicitDefEqProofs only [go_sem]
  refine zaj (fun k : Nat => hd [(1, .one (.bx 1 0)), (3, vI k)] [(1, [.t (zb6 S), .t (ze4 W), .t (.int .i64 v)])] []) (fun k => k <= S.length /\ okG v [] S W = okG v (S.take k) (S.drop k) (W.drop k)) (fun k => S.length - k) 0 (zab ?_) ⟨Nat.zero_le _, e0⟩ ?_
  ·simp -implicitDefEqProofs only [go_sem]
  ·intro k ⟨hk, hr⟩
   by_cases hlt : k < S.length
   ·have hltW : k < W.length := by omega
    rw [qem hlt hltW] at hr
    have H1 := zf9 S[k]
    have H2 := l2In_c (S.take k) S[k]
    have H3 := zng W[k] v 100
    rw [zb6, List.map_take] at H2
    have hkS : k <= S.length := hk
    cases g1 : zbz S[k]
    ·rw [g1] at H1 hr
     rw [hr]
     simp -implicitDefEqProofs only [go_sem, hlt, zbq S hlt]
     refine drawn (by kernel_rfl) ?_
     simp -implicitDefEqProofs only [go_sem, hlt, zbq S hlt]
     refine zau (H1) (by simp -implicitDefEqProofs only [go_sem]) ?_
     simp -implicitDefEqProofs only [go_sem]
     kernel_rfl
    rw [g1] at H1 hr
    cases g2 : (S.take k).contains S[k]
    ·rw [g2] at H2 hr
     cases g3 : inB W[k] v 100
     ·rw [g3] at H3 hr
      rw [hr]
      simp -implicitDefEqProofs only [go_sem, hlt, zbq S hlt]
      refine drawn (by kernel_rfl) ?_
      simp -implicitDefEqProofs only [go_sem, hlt, zbq S hlt]
      refine zau (H1) (by simp -implicitDefEqProofs only [go_sem, hkS, hlt, hltW, zb2 W hltW, zbq S hlt]) ?_
      simp -implicitDefEqProofs only [go_sem, hkS, hlt, hltW, zb2 W hltW, zbq S hlt]
      refine zb3 (H2) (by simp -implicitDefEqProofs only [go_sem, hltW, zb2 W hltW]) ?_
      simp -implicitDefEqProofs only [go_sem, hltW, zb2 W hltW]
      refine zb3 (H3) (by simp -implicitDefEqProofs only [go_sem]) ?_
      simp -implicitDefEqProofs only [go_sem]
      kernel_rfl
     ·rw [g3] at H3 hr
      simp -implicitDefEqProofs only [go_sem, hlt, zbq S hlt]
      refine drawn (by kernel_rfl) ?_
      simp -implicitDefEqProofs only [go_sem, hlt, zbq S hlt]
      refine zau (H1) (by simp -implicitDefEqProofs only [go_sem, hkS, hlt, hltW, zb2 W hltW, zbq S hlt]) ?_
      simp -implicitDefEqProofs only [go_sem, hkS, hlt, hltW, zb2 W hltW, zbq S hlt]
      refine zb3 (H2) (by simp -implicitDefEqProofs only [go_sem, hltW, zb2 W hltW]) ?_
      simp -implicitDefEqProofs only [go_sem, hltW, zb2 W hltW]
      refine zb3 (H3) (by simp -implicitDefEqProofs only [go_sem]) ?_
      simp -implicitDefEqProofs only [go_sem]
      refine ⟨by kernel_rfl, k + 1, ⟨hlt, hr⟩, by omega, zab ?_⟩
      simp -implicitDefEqProofs only [go_sem]
      rw [zaq (by omega)]
    ·rw [g2] at H2 hr
     rw [hr]
     simp -implicitDefEqProofs only [go_sem, hlt, zbq S hlt]
     refine drawn (by kernel_rfl) ?_
     simp -implicitDefEqProofs only [go_sem, hlt, zbq S hlt]
     refine zau (H1) (by simp -implicitDefEqProofs only [go_sem, hkS, hlt, zbq S hlt]) ?_
     simp -implicitDefEqProofs only [go_sem, hkS, hlt, zbq S hlt]
     refine zb3 (H2) (by simp -implicitDefEqProofs only [go_sem]) ?_
     simp -implicitDefEqProofs only [go_sem]
     kernel_rfl
   ·rw [zuk (by omega)] at hr
    rw [hr]
    simp -implicitDefEqProofs only [go_sem, hlt]
 ·rw [decide_eq_false h2]
  rw [decide_eq_false h2] at hlb
  refine zan Tryz.call19 Tryz.func19 rfl (by kernel_rfl) (za2 (by kernel_rfl)) ?_
  simp -implicitDefEqProofs only [go_sem, Tryz.results19]
  refine callF (HW1) (by simp -implicitDefEqProofs only [go_sem, hlb]) ?_
  simp -implicitDefEqProofs only [go_sem, hlb]
theorem zzz {xs : List Str} {s : Str} (h : xs.contains s = false) : zec xs s = -1 := by
 unfold zec; rw [h]; rfl
theorem zfh {xs : List Str} {s : Str} (h : xs.contains s = true) : zec xs s = (xs.idxOf s : Nat) /\ xs.idxOf s < xs.length := by
 unfold zec; rw [if_pos h]
 exact ⟨rfl, List.idxOf_lt_length_iff.2 (by simpa using h)⟩
theorem zhf (o : Og) (s : Str) (hl : o.syms.length <= 1048576) : FC Tryz.prog 90 [ogD o, sD s] [iD (zec o.syms s)] := by
 simp only [ogD, zax]
 generalize o.syms = xs at hl ⊢
 refine zan Tryz.call90 Tryz.func90 rfl (by kernel_rfl) (za2 (by kernel_rfl)) ?_
 simp -implicitDefEqProofs only [go_sem, Tryz.results90]
 refine zaj (fun k : Nat => hd [(1, vT (.str s)), (2, .one (.bx 2 0)), (5, vI k)] [(2, [.t (zb6 xs), .t (ze4 o.wts), .t (.int .i64 o.vr)])] []) (fun k => k <= xs.length /\ s ∉ xs.take k) (fun k => xs.length - k) 0 (zab ?_) ⟨Nat.zero_le _, by simp⟩ ?_
 ·simp -implicitDefEqProofs only [go_sem]
 ·intro k ⟨hk, hr⟩
  by_cases hlt : k < xs.length
  ·simp -implicitDefEqProofs only [go_sem, zaf, hlt]
   refine ⟨fun h => ?_, fun h => ?_⟩
   ·have e : xs[k] = s := beq_iff_eq.1 h
    have hm : s ∈ xs := e ▸ List.getElem_mem hlt
    rw [zec, if_pos (by simpa using hm), zl9 hlt hr e]
   ·have e : xs[k] ≠ s := fun e => by simp [e] at h
    exact ⟨k + 1, ⟨hlt, zdx hlt hr e⟩, by omega, zab (by simp -implicitDefEqProofs only [go_sem]; rw [zaq (by omega)])⟩
  ·simp -implicitDefEqProofs only [go_sem, hlt]
   rw [List.take_of_length_le (by omega)] at hr
   rw [zec, if_neg (by simpa using hr)]
theorem zj0 {o : Og} {a : Tm} (h : o.cov a = true) : ∀ x ∈ a.args, o.cov x = true := by
 rw [Og.cov_eq, Bool.and_eq_true, List.all_eq_true] at h
 exact h.2
theorem zjt {α : Type} {p : α -> Bool} {xs : List α} {k : Nat} (h : k < xs.length) : (xs.drop k).all p = (p xs[k] && (xs.drop (k + 1)).all p) := by
 rw [List.drop_eq_getElem_cons h, List.all_cons]
theorem zn8 (o : Og) (ho : o.syms.length <= 1048576) (a : Tm) (ha : a.args.length <= 1048576) (H : ∀ x ∈ a.args, FC Tryz.prog 64 [ogD o, tmD x] [bD (o.cov x)]) : FC Tryz.prog 64 [ogD o, tmD a] [bD (o.cov a)] := by
 have HV := zgk a.name
 have HR := zhf o a.name ho
 have hcv := o.cov_eq a
 rw [hcv]
 simp only [ogD, zax] at H HR ⊢
 simp only [tmD, zaa a]
 have hc : (za6 a.name = false /\ o.syms.contains a.name = false) \/ (za6 a.name || o.syms.contains a.name) = true := by
  cases za6 a.name <;> cases o.syms.contains a.name <;> simp
 rcases hc with ⟨h1, h2⟩ | h0
 ·rw [h1] at HV
  rw [zzz h2] at HR
  rw [h1, h2]
  refine zan Tryz.call64 Tryz.func64 rfl (by kernel_rfl) (za2 (by kernel_rfl)) ?_
  simp -implicitDefEqProofs only [go_sem, Tryz.results64]
  refine callF (HV) (by simp -implicitDefEqProofs only [go_sem]) ?_
  simp -implicitDefEqProofs only [go_sem]
  refine callF (HR) (by simp -implicitDefEqProofs only [go_sem]) ?_
  simp -implicitDefEqProofs only [go_sem]
  rfl
 rw [h0, Bool.true_and]
 have hc : za6 a.name = true \/ (za6 a.name = false /\ o.syms.contains a.name = true) := by
  revert h0
  cases za6 a.name <;> cases o.syms.contains a.name <;> simp
 rcases hc with h1 | ⟨h1, h2⟩
 case' inl =>
  rw [h1] at HV
  refine zan Tryz.call64 Tryz.func64 rfl (by kernel_rfl) (za2 (by kernel_rfl)) ?_
  simp -implicitDefEqProofs only [go_sem, Tryz.results64]
  refine callF (HV) (by simp -implicitDefEqProofs only [go_sem]) ?_
  simp -implicitDefEqProofs only [go_sem]
 case' inr =>
  rw [h1] at HV
  obtain ⟨hi, hi2⟩ := zfh h2
  rw [hi] at HR
  have hneg : (((o.syms.idxOf a.name : Nat) : Int) < 0) = False := eq_false (by omega)
  refine zan Tryz.call64 Tryz.func64 rfl (by kernel_rfl) (za2 (by kernel_rfl)) ?_
  simp -implicitDefEqProofs only [go_sem, Tryz.results64]
  refine callF (HV) (by simp -implicitDefEqProofs only [go_sem]) ?_
  simp -implicitDefEqProofs only [go_sem]
  refine callF (HR) (by simp -implicitDefEqProofs only [go_sem, hneg]) ?_
  simp -implicitDefEqProofs only [go_sem, hneg]
 all_goals
  refine zaj (fun k : Nat => hd [(2, .one (.bx 2 0)), (3, .one (.bx 3 0)), (5, vI k)] [(2, [.t (zb6 o.syms), .t (ze4 o.wts), .t (.int .i64 o.vr)]), (3, [.t (.str a.name), .t (tmS a.args)])] []) (fun k => k <= a.args.length /\ a.args.all o.cov = (a.args.drop k).all o.cov) (fun k => a.args.length - k) 0 (zab ?_) ⟨Nat.zero_le _, rfl⟩ ?_
  ·simp -implicitDefEqProofs only [go_sem]
  ·intro k ⟨hk, hr⟩
   by_cases hlt : k < a.args.length
   ·rw [zjt hlt] at hr
    have HX := H a.args[k] (List.getElem_mem hlt)
    simp only [tmD, zaa a.args[k]] at HX
    cases hx : o.cov a.args[k]
    ·rw [hx] at HX hr
     rw [hr]
     simp -implicitDefEqProofs only [go_sem, hlt]
     refine drawn (by kernel_rfl) ?_
     simp -implicitDefEqProofs only [go_sem, hlt, zaf, zaa a.args[k]]
     refine zau (HX) (by simp -implicitDefEqProofs only [go_sem]) ?_
     simp -implicitDefEqProofs only [go_sem]
     kernel_rfl
    ·rw [hx] at HX hr
     simp -implicitDefEqProofs only [go_sem, hlt]
     refine drawn (by kernel_rfl) ?_
     simp -implicitDefEqProofs only [go_sem, hlt, zaf, zaa a.args[k]]
     refine zau (HX) (by simp -implicitDefEqProofs only [go_sem]) ?_
     simp -implicitDefEqProofs only [go_sem]
     refine ⟨by kernel_rfl, k + 1, ⟨hlt, hr⟩, by omega, zab ?_⟩
     simp -implicitDefEqProofs only [go_sem]
     rw [zaq (by omega)]
   ·rw [List.drop_of_length_le (by omega)] at hr
    rw [hr]
    simp -implicitDefEqProofs only [go_sem, hlt]
theorem zjd (o : Og) (ho : o.syms.length <= 1048576) : ∀ a : Tm, a.wt <= 1048576 -> FC Tryz.prog 64 [ogD o, tmD a] [bD (o.cov a)] := zbm fun n xs ih hw => by
 have h := Tm.wt_eq (.mk n xs)
 exact zn8 o ho (.mk n xs) (by simp only [Tm.args] at *; omega) fun x hx => ih x hx (Nat.le_trans (zc6 (a := .mk n xs) hx) hw)
theorem qcv (o : Og) (ho : o.syms.length <= 1048576) (a : Tm) (hw : a.wt <= 1048576) : FC Tryz.prog 49 [ogD o, tmD a] [bD (a.good && o.cov a)] := by
 have HG := zq7 a (by omega)
 have HC := zjd o ho a hw
 simp only [ogD, zax] at HC ⊢
 simp only [tmD, zaa a] at HG HC ⊢
 cases h1 : a.good
 ·rw [h1] at HG
  refine zan Tryz.call49 Tryz.func49 rfl (by kernel_rfl) (za2 (by kernel_rfl)) ?_
  simp -implicitDefEqProofs only [go_sem, Tryz.results49]
  refine callF (HG) (by simp -implicitDefEqProofs only [go_sem]) ?_
  simp -implicitDefEqProofs only [go_sem]
 ·rw [h1] at HG
  refine zan Tryz.call49 Tryz.func49 rfl (by kernel_rfl) (za2 (by kernel_rfl)) ?_
  simp -implicitDefEqProofs only [go_sem, Tryz.results49]
  refine callF (HG) (by simp -implicitDefEqProofs only [go_sem]) ?_
  simp -implicitDefEqProofs only [go_sem]
  refine callF (HC) (by simp -implicitDefEqProofs only [go_sem]) ?_
  simp -implicitDefEqProofs only [go_sem]
theorem zt1 {v : Int} : ∀ {S : List Str} {W : List Int} {pre : List Str}, okG v pre S W = true -> W.length = S.length -> ∀ w ∈ W, v <= w /\ w <= 100
 | [], W, _, _, h, w, hw => by rw [List.length_eq_zero_iff.1 h] at hw; simp at hw
 | s :: S, [], _, _, h, _, _ => by simp at h
 | s :: S, x :: W, pre, hk, h, w, hw => by
  rw [okG, Bool.and_eq_true, Bool.and_eq_true] at hk
  rcases List.mem_cons.1 hw with rfl | hw
  ·have := hk.1.2
   unfold inB at this
   simpa using this
  ·exact zt1 hk.2 (by simpa using h) w hw
theorem Og.ok_parts {o : Og} (h : o.ok = true) : 1 <= o.syms.length /\ o.syms.length <= 12 /\ o.wts.length = o.syms.length /\ 1 <= o.vr /\ o.vr <= 100 /\ ∀ w ∈ o.wts, o.vr <= w /\ w <= 100 := by
 unfold Og.ok at h
 simp only [Bool.and_eq_true, decide_eq_true_eq] at h
 obtain ⟨⟨⟨h1, h2⟩, h3⟩, h4⟩ := h
 unfold inB at h1 h3
 simp only [Bool.and_eq_true, decide_eq_true_eq] at h1 h3
 exact ⟨by omega, by omega, h2, by omega, by omega, zt1 h4 h2⟩
theorem zy5 {o : Og} (h : o.ok = true) (n : Str) : 0 <= o.leaf n /\ o.leaf n <= 100 := by
 obtain ⟨h1, h2, h3, h4, h5, h6⟩ := Og.ok_parts h
 unfold Og.leaf
 split
 ·omega
 ·rw [List.getD_eq_getElem?_getD]
  by_cases hi : o.syms.idxOf n < o.wts.length
  ·rw [List.getElem?_eq_getElem hi]
   have := h6 _ (List.getElem_mem hi)
   simp only [Option.getD_some]; omega
  ·rw [List.getElem?_eq_none (by omega)]
   simp
theorem wgt_in {o : Og} (h : o.ok = true) : ∀ a : Tm, 0 <= o.wgt a /\ o.wgt a <= 100 * a.nodes := zbm fun n xs ih => by
 rw [Og.wgt_eq, Tm.nodes_eq]
 have h1 := zy5 h n
 have h2 : 0 <= (xs.map o.wgt).sum /\ (xs.map o.wgt).sum <= 100 * ((xs.map Tm.nodes).sum : Nat) := by
  clear h1
  induction xs with
  | nil => simp
  | cons x xs ih2 =>
   have a1 := ih x (by simp)
   have a2 := ih2 fun y hy => ih y (by simp [hy])
   simp only [List.map_cons, List.sum_cons]
   omega
 simp only [Tm.name, Tm.args]
 omega
def pws (o : Og) (a : Tm) (k : Nat) : Int := o.leaf a.name + ((a.args.take k).map o.wgt).sum
theorem zqc (o : Og) (a : Tm) : pws o a 0 = o.leaf a.name := by simp [pws]
theorem zsb (o : Og) (a : Tm) {k : Nat} (h : k < a.args.length) : pws o a (k + 1) = pws o a k + o.wgt a.args[k] := by
 unfold pws
 rw [List.take_succ_eq_append_getElem h, List.map_append, List.sum_append]
 simp; omega
theorem zux (o : Og) (a : Tm) {k : Nat} (h : a.args.length <= k) : pws o a k = o.wgt a := by
 rw [Og.wgt_eq, pws, List.take_of_length_le h]
theorem qew {o : Og} (ho : o.ok = true) (a : Tm) (k : Nat) : 0 <= pws o a k /\ pws o a k <= 100 * a.nodes := by
 have h1 := zy5 ho a.name
 have h2 : ∀ xs : List Tm, 0 <= (xs.map o.wgt).sum /\ (xs.map o.wgt).sum <= 100 * ((xs.map Tm.nodes).sum : Nat) := fun xs => by
  induction xs with
  | nil => simp
  | cons x xs ih2 =>
   have a1 := wgt_in ho x
   simp only [List.map_cons, List.sum_cons]
   omega
 have h3 := h2 (a.args.take k)
 have h4 := zwp Tm.nodes a.args k
 unfold zw9 at h4
 unfold pws
 rw [Tm.nodes_eq]
 omega
theorem zo8 (o : Og) (ho : o.ok = true) (a : Tm) (ha : a.nodes <= 1048576) (hal : a.args.length <= 1048576) (hc : o.cov a = true) (H : ∀ x ∈ a.args, FC Tryz.prog 99 [ogD o, tmD x] [iD (o.wgt x)]) : FC Tryz.prog 99 [ogD o, tmD a] [iD (o.wgt a)] := by
 obtain ⟨p1, p2, p3, p4, p5, p6⟩ := Og.ok_parts ho
 have HV := zgk a.name
 have HR := zhf o a.name (by omega)
 have hin := qew ho a
 have hz := zqc o a
 have hcv := o.cov_eq a
 rw [hc] at hcv
 have hcv := Bool.and_eq_true_iff.1 hcv.symm
 simp only [ogD, zax] at H HR ⊢
 simp only [tmD, zaa a]
 have hc : (za6 a.name = true /\ o.leaf a.name = o.vr) \/ (za6 a.name = false /\ ∃ (h : o.syms.idxOf a.name < o.wts.length), o.leaf a.name = o.wts[o.syms.idxOf a.name] /\ zec o.syms a.name = (o.syms.idxOf a.name : Nat)) := by
  cases h : za6 a.name
  ·right
   refine ⟨rfl, ?_⟩
   rw [h, Bool.false_or] at hcv
   obtain ⟨q1, q2⟩ := zfh hcv.1
   refine ⟨by omega, ?_, q1⟩
   unfold Og.leaf
   rw [h, List.getD_eq_getElem?_getD, List.getElem?_eq_getElem (by omega)]; rfl
  ·left
   refine ⟨rfl, ?_⟩
   unfold Og.leaf
   rw [h]; rfl
 rcases hc with ⟨h1, h2⟩ | ⟨h1, h2, h3, h4⟩
 case' inl =>
  rw [h1] at HV
  refine zan Tryz.call99 Tryz.func99 rfl (by kernel_rfl) (za2 (by kernel_rfl)) ?_
  simp -implicitDefEqProofs only [go_sem, Tryz.results99]
  refine callF (HV) (by simp -implicitDefEqProofs only [go_sem]) ?_
  simp -implicitDefEqProofs only [go_sem]
 case' inr =>
  rw [h1] at HV
  rw [h4] at HR
  generalize o.syms.idxOf a.name = i at h2 h3 HR
  refine zan Tryz.call99 Tryz.func99 rfl (by kernel_rfl) (za2 (by kernel_rfl)) ?_
  simp -implicitDefEqProofs only [go_sem, Tryz.results99]
  refine callF (HV) (by simp -implicitDefEqProofs only [go_sem]) ?_
  simp -implicitDefEqProofs only [go_sem]
  refine drawn (by kernel_rfl) ?_
  simp -implicitDefEqProofs only [go_sem]
  refine zau (HR) (by simp -implicitDefEqProofs only [go_sem, h2, zb2 o.wts h2]) ?_
  simp -implicitDefEqProofs only [go_sem, h2, zb2 o.wts h2]
  refine ⟨by kernel_rfl, ?_⟩
 all_goals
  refine zaj (fun k : Nat => hd [(2, .one (.bx 2 0)), (3, .one (.bx 3 0)), (5, vI (pws o a k)), (6, vI k)] [(2, [.t (zb6 o.syms), .t (ze4 o.wts), .t (.int .i64 o.vr)]), (3, [.t (.str a.name), .t (tmS a.args)])] []) (fun k => k <= a.args.length) (fun k => a.args.length - k) 0 (zab ?_) (Nat.zero_le _) ?_
  ·simp -implicitDefEqProofs only [go_sem]
   rw [hz]
   first | rw [h2] | rw [h3]
  ·intro k hk
   by_cases hlt : k < a.args.length
   ·have HX := H a.args[k] (List.getElem_mem hlt)
    simp only [tmD, zaa a.args[k]] at HX
    have i1 := hin k
    have i2 := hin (k + 1)
    have e := zsb o a hlt
    generalize o.wgt a.args[k] = q at HX e
    simp -implicitDefEqProofs only [go_sem, hlt]
    refine drawn (by kernel_rfl) ?_
    simp -implicitDefEqProofs only [go_sem, hlt, zaf, zaa a.args[k]]
    refine zau (HX) (by simp -implicitDefEqProofs only [go_sem]) ?_
    simp -implicitDefEqProofs only [go_sem]
    refine ⟨by kernel_rfl, k + 1, hlt, by omega, zab ?_⟩
    simp -implicitDefEqProofs only [go_sem]
    rw [zaq (by omega), e, zbd (by omega) (by omega)]
    exact ⟨rfl, rfl⟩
   ·have e := zux o a (show a.args.length <= k by omega)
    simp -implicitDefEqProofs only [go_sem, hlt]
    rw [e]
theorem zi5 (o : Og) (ho : o.ok = true) : ∀ a : Tm, a.wt <= 1048575 -> o.cov a = true -> FC Tryz.prog 99 [ogD o, tmD a] [iD (o.wgt a)] := zbm fun n xs ih hw hc => by
 have h := Tm.wt_eq (.mk n xs)
 have h2 := zdc (.mk n xs)
 exact zo8 o ho (.mk n xs) (by omega) (by simp only [Tm.args] at *; omega) hc fun x hx => ih x hx (Nat.le_trans (zc6 (a := .mk n xs) hx) hw) (zj0 hc x hx)
def Og.root (o : Og) (s t : Tm) : Int := if o.rgt t s = true then -1 else if o.rgt s t = true then 1 else 0
theorem qdn (o : Og) (ho : o.syms.length <= 1048576) (s t : Tm) : FC Tryz.prog 100 [ogD o, tmD s, tmD t] [iD (o.root s t)] := by
 have HS := zhf o s.name ho
 have HT := zhf o t.name ho
 have hr : o.root s t = if zec o.syms s.name < zec o.syms t.name then -1 else if zec o.syms t.name < zec o.syms s.name then 1 else if s.args.length < t.args.length then -1 else if t.args.length < s.args.length then 1 else 0 := by
  unfold Og.root Og.rgt
  simp only [Bool.or_eq_true, Bool.and_eq_true, decide_eq_true_eq]
  split <;> split <;> (try split) <;> (try split) <;> (try split) <;> first | rfl | omega
 rw [hr]
 clear hr
 simp only [ogD, zax] at HS HT ⊢
 simp only [tmD, zaa s, zaa t]
 generalize zec o.syms s.name = x at HS ⊢
 generalize zec o.syms t.name = y at HT ⊢
 have key : ∀ b, (x == y) = b -> FC Tryz.prog 100 [.agg [zb6 o.syms, ze4 o.wts, .int .i64 o.vr], .agg [.str s.name, tmS s.args], .agg [.str t.name, tmS t.args]] [iD (if x < y then -1 else if y < x then 1 else if s.args.length < t.args.length then -1 else if t.args.length < s.args.length then 1 else 0)] := fun b hb => by
  cases b
  ·have hne : x ≠ y := by simpa using hb
   by_cases h1 : x < y
   ·rw [if_pos h1]
    have h1' := eq_true h1
    refine zan Tryz.call100 Tryz.func100 rfl (by kernel_rfl) (za2 (by kernel_rfl)) ?_
    simp -implicitDefEqProofs only [go_sem, Tryz.results100]
    refine drawn (by kernel_rfl) ?_
    simp -implicitDefEqProofs only [go_sem]
    refine zau (HS) (by simp -implicitDefEqProofs only [go_sem]) ?_
    simp -implicitDefEqProofs only [go_sem]
    refine zau (HT) (by simp -implicitDefEqProofs only [go_sem]) ?_
    simp -implicitDefEqProofs only [go_sem]
    refine ⟨by kernel_rfl, ?_⟩
    simp -implicitDefEqProofs only [go_sem, hb]
    simp [h1]
   ·have h2 : y < x := by omega
    rw [if_neg h1, if_pos h2]
    have h1' := eq_false h1
    have h2' := eq_true h2
    refine zan Tryz.call100 Tryz.func100 rfl (by kernel_rfl) (za2 (by kernel_rfl)) ?_
    simp -implicitDefEqProofs only [go_sem, Tryz.results100]
    refine drawn (by kernel_rfl) ?_
    simp -implicitDefEqProofs only [go_sem]
    refine zau (HS) (by simp -implicitDefEqProofs only [go_sem]) ?_
    simp -implicitDefEqProofs only [go_sem]
    refine zau (HT) (by simp -implicitDefEqProofs only [go_sem]) ?_
    simp -implicitDefEqProofs only [go_sem]
    refine ⟨by kernel_rfl, ?_⟩
    simp -implicitDefEqProofs only [go_sem, hb, h1', h2']
  ·have he : x = y := by simpa using hb
   subst he
   rw [if_neg (Int.lt_irrefl _), if_neg (Int.lt_irrefl _)]
   by_cases h1 : s.args.length < t.args.length
   ·rw [if_pos h1]
    have h1' : ((s.args.length : Int) < (t.args.length : Int)) = True := eq_true (by omega)
    refine zan Tryz.call100 Tryz.func100 rfl (by kernel_rfl) (za2 (by kernel_rfl)) ?_
    simp -implicitDefEqProofs only [go_sem, Tryz.results100]
    refine drawn (by kernel_rfl) ?_
    simp -implicitDefEqProofs only [go_sem]
    refine zau (HS) (by simp -implicitDefEqProofs only [go_sem]) ?_
    simp -implicitDefEqProofs only [go_sem]
    refine zau (HT) (by simp -implicitDefEqProofs only [go_sem]) ?_
    simp -implicitDefEqProofs only [go_sem]
    refine ⟨by kernel_rfl, ?_⟩
    simp -implicitDefEqProofs only [go_sem, hb]
    simp [h1]
   ·have h1' : ((s.args.length : Int) < (t.args.length : Int)) = False := eq_false (by omega)
    rw [if_neg h1]
    by_cases h2 : t.args.length < s.args.length
    ·rw [if_pos h2]
     have h2' : ((t.args.length : Int) < (s.args.length : Int)) = True := eq_true (by omega)
     refine zan Tryz.call100 Tryz.func100 rfl (by kernel_rfl) (za2 (by kernel_rfl)) ?_
     simp -implicitDefEqProofs only [go_sem, Tryz.results100]
     refine drawn (by kernel_rfl) ?_
     simp -implicitDefEqProofs only [go_sem]
     refine zau (HS) (by simp -implicitDefEqProofs only [go_sem]) ?_
     simp -implicitDefEqProofs only [go_sem]
     refine zau (HT) (by simp -implicitDefEqProofs only [go_sem]) ?_
     simp -implicitDefEqProofs only [go_sem]
     refine ⟨by kernel_rfl, ?_⟩
     simp -implicitDefEqProofs only [go_sem, hb]
     simp [h1, h2]
    ·rw [if_neg h2]
     have h2' : ((t.args.length : Int) < (s.args.length : Int)) = False := eq_false (by omega)
     refine zan Tryz.call100 Tryz.func100 rfl (by kernel_rfl) (za2 (by kernel_rfl)) ?_
     simp -implicitDefEqProofs only [go_sem, Tryz.results100]
     refine drawn (by kernel_rfl) ?_
     simp -implicitDefEqProofs only [go_sem]
     refine zau (HS) (by simp -implicitDefEqProofs only [go_sem]) ?_
     simp -implicitDefEqProofs only [go_sem]
     refine zau (HT) (by simp -implicitDefEqProofs only [go_sem]) ?_
     simp -implicitDefEqProofs only [go_sem]
     refine ⟨by kernel_rfl, ?_⟩
     simp -implicitDefEqProofs only [go_sem, hb]
     simp [h1, h2]
 exact key _ rfl
noncomputable def zzj : List Tm -> List Tm -> Nat -> Int
 | x :: xs, y :: ys, k => if same x y = true then zzj xs ys (k + 1) else k
 | _, _, _ => -1
theorem zr5 (ys : List Tm) (k : Nat) : zzj [] ys k = -1 := by unfold zzj; rfl
theorem zx8 (o : Og) : ∀ (xs ys : List Tm) (k : Nat), xs.length = ys.length -> (zzj xs ys k = -1 /\ o.kboS xs ys = false) \/ ∃ (j : Nat) (h1 : j < xs.length) (h2 : j < ys.length), zzj xs ys k = ((k + j : Nat) : Int) /\ o.kboS xs ys = o.kbo xs[j] ys[j]
 | [], ys, k, _ => Or.inl ⟨zr5 ys k, by rw [Og.kboS]⟩
 | x :: xs, [], k, h => by simp at h
 | x :: xs, y :: ys, k, h => by
  rw [zzj, Og.kboS]
  by_cases e : same x y = true
  ·rw [if_pos e, if_pos e]
   rcases zx8 o xs ys (k + 1) (by simpa using h) with q | ⟨j, h1, h2, q1, q2⟩
   ·exact Or.inl q
   ·refine Or.inr ⟨j + 1, by simpa using h1, by simpa using h2, ?_, q2⟩
    rw [q1]; congr 1; omega
  ·rw [if_neg e, if_neg e]
   exact Or.inr ⟨0, by simp, by simp, by simp, rfl⟩
theorem zty (s t : Tm) (hl : s.args.length = t.args.length) (hs : s.args.length <= 1048576) : FC Tryz.prog 101 [tmD s, tmD t] [iD (zzj s.args t.args 0)] := by
 simp only [tmD, zaa s, zaa t]
 generalize s.args = xs at hl hs ⊢
 generalize t.args = ys at hl ⊢
 refine zan Tryz.call101 Tryz.func101 rfl (by kernel_rfl) (za2 (by kernel_rfl)) ?_
 simp -implicitDefEqProofs only [go_sem, Tryz.results101]
 refine zaj (fun k : Nat => hd [(2, .one (.bx 2 0)), (3, .one (.bx 3 0)), (5, vI k)] [(2, [.t (.str s.name), .t (tmS xs)]), (3, [.t (.str t.name), .t (tmS ys)])] []) (fun k => k <= xs.length /\ zzj xs ys 0 = zzj (xs.drop k) (ys.drop k) k) (fun k => xs.length - k) 0 (zab ?_) ⟨Nat.zero_le _, rfl⟩ ?_
 ·simp -implicitDefEqProofs only [go_sem]
 ·intro k ⟨hk, hr⟩
  by_cases hlt : k < xs.length
  ·have hlt2 : k < ys.length := by omega
   rw [List.drop_eq_getElem_cons hlt, List.drop_eq_getElem_cons hlt2, zzj] at hr
   have HE := zsc xs[k] ys[k]
   simp only [tmD, zaa xs[k], zaa ys[k]] at HE
   cases he : same xs[k] ys[k]
   ·rw [he] at HE hr
    rw [hr]
    simp -implicitDefEqProofs only [go_sem, hlt]
    refine drawn (by kernel_rfl) ?_
    simp -implicitDefEqProofs only [go_sem, hlt, hlt2, zaf, zaa xs[k], zaa ys[k]]
    refine zau (HE) (by simp -implicitDefEqProofs only [go_sem]) ?_
    simp -implicitDefEqProofs only [go_sem]
    kernel_rfl
   ·rw [he] at HE hr
    simp -implicitDefEqProofs only [go_sem, hlt]
    refine drawn (by kernel_rfl) ?_
    simp -implicitDefEqProofs only [go_sem, hlt, hlt2, zaf, zaa xs[k], zaa ys[k]]
    refine zau (HE) (by simp -implicitDefEqProofs only [go_sem]) ?_
    simp -implicitDefEqProofs only [go_sem]
    refine ⟨by kernel_rfl, k + 1, ⟨hlt, hr⟩, by omega, zab ?_⟩
    simp -implicitDefEqProofs only [go_sem]
    rw [zaq (by omega)]
  ·rw [List.drop_of_length_le (show xs.length <= k by omega), zr5] at hr
   rw [hr]
   simp -implicitDefEqProofs only [go_sem, hlt]
end Go.Proofs.YtaaniggpnljckaaGreat
namespace Go.Proofs.YtaaniggpnljckaaGreat
set_option linter.unusedSimpArgs false
set_option linter.unusedVariables false
set_option linter.unusedSectionVars false
set_option maxRecDepth 4000
open Go.RowKit
abbrev ogP (o : Og) : T := .ptr (ogC o)
theorem zwk {a : Tm} (h : a.names = true) : 0 < a.name.length /\ ziz (a.name.getD 0 0) = za6 a.name := by
 rw [Tm.names_eq] at h
 split at h
 ·next h1 =>
  obtain ⟨h2, h3⟩ := zq0 h1
  exact ⟨h3, by rw [h2, h1]⟩
 ·next h1 =>
  simp only [Bool.and_eq_true] at h
  obtain ⟨h2, h3⟩ := zml h.1.1
  exact ⟨h3, by rw [h2]; simp at h1; exact h1.symm⟩
theorem zhj (a : Tm) (h : a.names = true) : FC Tryz.prog 68 [tmD a] [bD (za6 a.name)] := by
 have := zwl a (zwk h).1
 rwa [(zwk h).2] at this
theorem zlf {a : Tm} (h : a.good = true) : a.names = true := by
 unfold Tm.good at h
 rw [Bool.and_eq_true] at h
 exact h.2
theorem zvw (o : Og) (a : Tm) (ha : a.names = true) (H : ∀ x ∈ a.args, FC Tryz.prog 34 [ogD o, tmD x] [bD (o.cov x)]) : FC Tryz.prog 34 [ogD o, tmD a] [bD (o.cov a)] := by
 have H1 : ∀ x ∈ a.args, FC Tryz.prog 69 [tmD x, .one (ogP o)] [bD (!o.cov x)] := fun x hx => by
  have HX := H x hx
  simp only [ogD, zax] at HX
  simp only [tmD, zaa x] at HX ⊢
  simp only [ogP, zax]
  refine zan Tryz.call69 Tryz.func69 rfl (by kernel_rfl) (za2 (by kernel_rfl)) ?_
  simp -implicitDefEqProofs only [go_sem, Tryz.results69]
  refine callF (HX) (by simp -implicitDefEqProofs only [go_sem]) ?_
  simp -implicitDefEqProofs only [go_sem]
 have HF := zbv a.args (fun x => !o.cov x) _ [ogP o] H1
 have HV := zhj a ha
 have HC := zcz o.syms a.name
 have hcv := o.cov_eq a
 rw [<- zhw] at hcv
 rw [hcv]
 generalize (a.args.any fun x => !o.cov x) = z at HF ⊢
 simp only [ogP, zax] at HF
 simp only [ogD, zax]
 simp only [tmD, zaa a] at HV ⊢
 cases h1 : za6 a.name
 ·rw [h1] at HV
  cases h2 : o.syms.contains a.name
  ·rw [h2] at HC
   refine zan Tryz.call34 Tryz.func34 rfl (by kernel_rfl) (za2 (by kernel_rfl)) ?_
   simp -implicitDefEqProofs only [go_sem, Tryz.results34]
   refine callF (HV) (by simp -implicitDefEqProofs only [go_sem]) ?_
   simp -implicitDefEqProofs only [go_sem]
   refine callF (HC) (by simp -implicitDefEqProofs only [go_sem]) ?_
   simp -implicitDefEqProofs only [go_sem]
   rfl
  ·rw [h2] at HC
   refine zan Tryz.call34 Tryz.func34 rfl (by kernel_rfl) (za2 (by kernel_rfl)) ?_
   simp -implicitDefEqProofs only [go_sem, Tryz.results34]
   refine callF (HV) (by simp -implicitDefEqProofs only [go_sem]) ?_
   simp -implicitDefEqProofs only [go_sem]
   refine callF (HC) (by simp -implicitDefEqProofs only [go_sem]) ?_
   simp -implicitDefEqProofs only [go_sem]
   refine callF (HF) (by simp -implicitDefEqProofs only [go_sem]) ?_
   simp -implicitDefEqProofs only [go_sem]
   rfl
 ·rw [h1] at HV
  refine zan Tryz.call34 Tryz.func34 rfl (by kernel_rfl) (za2 (by kernel_rfl)) ?_
  simp -implicitDefEqProofs only [go_sem, Tryz.results34]
  refine callF (HV) (by simp -implicitDefEqProofs only [go_sem]) ?_
  simp -implicitDefEqProofs only [go_sem]
  refine callF (HF) (by simp -implicitDefEqProofs only [go_sem]) ?_
  simp -implicitDefEqProofs only [go_sem]
  rfl
theorem zrm (o : Og) : ∀ a : Tm, a.names = true -> FC Tryz.prog 34 [ogD o, tmD a] [bD (o.cov a)] := zbm fun n xs ih ha => zvw o (.mk n xs) ha fun x hx => ih x hx (zgo ha x hx)
noncomputable def zdi (o : Og) (t : Tm) : Bool := t.good && o.cov t
theorem zit (o : Og) (xs : List Tm) (hw : ∀ x ∈ xs, x.wt <= 1048576) : FC Tryz.prog 17 [ogD o, .one (tmS xs)] [bD (o.ok && xs.all (zdi o))] := by
 have H1 : ∀ x ∈ xs, FC Tryz.prog 32 [tmD x, .one (ogP o)] [bD (!zdi o x)] := fun x hx => by
  have HG := zf0 x (Nat.le_trans (hw x hx) (by omega))
  unfold zdi
  cases hg : x.good
  ·rw [hg] at HG
   simp only [ogP, zax]
   simp only [tmD, zaa x] at HG ⊢
   refine zan Tryz.call32 Tryz.func32 rfl (by kernel_rfl) (za2 (by kernel_rfl)) ?_
   simp -implicitDefEqProofs only [go_sem, Tryz.results32]
   refine callF (HG) (by simp -implicitDefEqProofs only [go_sem]) ?_
   simp -implicitDefEqProofs only [go_sem]
  ·rw [hg] at HG
   have HX := zrm o x (zlf hg)
   simp only [ogD, zax] at HX
   simp only [ogP, zax]
   simp only [tmD, zaa x] at HG HX ⊢
   refine zan Tryz.call32 Tryz.func32 rfl (by kernel_rfl) (za2 (by kernel_rfl)) ?_
   simp -implicitDefEqProofs only [go_sem, Tryz.results32]
   refine callF (HG) (by simp -implicitDefEqProofs only [go_sem]) ?_
   simp -implicitDefEqProofs only [go_sem]
   refine callF (HX) (by simp -implicitDefEqProofs only [go_sem]) ?_
   simp -implicitDefEqProofs only [go_sem]
 have HF := zbv xs (fun x => !zdi o x) _ [ogP o] H1
 have HV := zdq o
 rw [<- zhw]
 generalize (xs.any fun x => !zdi o x) = z at HF ⊢
 simp only [ogP, zax] at HF
 simp only [ogD, zax] at HV ⊢
 cases h : o.ok
 ·rw [h] at HV
  refine zan Tryz.call17 Tryz.func17 rfl (by kernel_rfl) (za2 (by kernel_rfl)) ?_
  simp -implicitDefEqProofs only [go_sem, Tryz.results17]
  refine callF (HV) (by simp -implicitDefEqProofs only [go_sem]) ?_
  simp -implicitDefEqProofs only [go_sem]
 ·rw [h] at HV
  refine zan Tryz.call17 Tryz.func17 rfl (by kernel_rfl) (za2 (by kernel_rfl)) ?_
  simp -implicitDefEqProofs only [go_sem, Tryz.results17]
  refine callF (HV) (by simp -implicitDefEqProofs only [go_sem]) ?_
  simp -implicitDefEqProofs only [go_sem]
  refine callF (HF) (by simp -implicitDefEqProofs only [go_sem]) ?_
  simp -implicitDefEqProofs only [go_sem]
theorem zva {a : Tm} (h : a.names = true) (hv : za6 a.name = true) : a.args = [] := by
 rw [Tm.names_eq, if_pos hv] at h
 exact List.length_eq_zero_iff.1 (by simpa using h)
theorem zwm (o : Og) (ho : o.ok = true) (a : Tm) (hn : a.names = true) (ha : a.nodes <= 1048576) (hal : a.args.length <= 1048576) (hc : o.cov a = true) (H : ∀ x ∈ a.args, FC Tryz.prog 109 [ogD o, tmD x] [iD (o.wgt x)]) : FC Tryz.prog 109 [ogD o, tmD a] [iD (o.wgt a)] := by
 obtain ⟨p1, p2, p3, p4, p5, p6⟩ := Og.ok_parts ho
 have HV := zhj a hn
 have HR := zeq o.syms a.name
 have hin := qew ho a
 have hz := zqc o a
 have hcv := o.cov_eq a
 rw [hc] at hcv
 have hcv := Bool.and_eq_true_iff.1 hcv.symm
 simp only [ogD, zax] at H ⊢
 simp only [tmD, zaa a] at HV ⊢
 cases h1 : za6 a.name
 ·rw [h1, Bool.false_or] at hcv
  obtain ⟨q1, q2⟩ := zfh hcv.1
  obtain ⟨i, h2, h3, h4⟩ : ∃ (i : Nat) (h : i < o.wts.length), o.leaf a.name = o.wts[i] /\ zec o.syms a.name = (i : Nat) := ⟨o.syms.idxOf a.name, by omega, by
   unfold Og.leaf
   rw [h1, List.getD_eq_getElem?_getD, List.getElem?_eq_getElem (by omega)]; rfl, q1⟩
  rw [h4] at HR
  rw [h1] at HV
  refine zan Tryz.call109 Tryz.func109 rfl (by kernel_rfl) (za2 (by kernel_rfl)) ?_
  simp -implicitDefEqProofs only [go_sem, Tryz.results109]
  refine callF (HV) (by simp -implicitDefEqProofs only [go_sem]) ?_
  simp -implicitDefEqProofs only [go_sem]
  refine drawn (by kernel_rfl) ?_
  simp -implicitDefEqProofs only [go_sem]
  refine zau (HR) (by simp -implicitDefEqProofs only [go_sem, h2, zb2 o.wts h2]) ?_
  simp -implicitDefEqProofs only [go_sem, h2, zb2 o.wts h2]
  refine ⟨by kernel_rfl, ?_⟩
  refine zaj (fun k : Nat => hd [(2, .one (.bx 2 0)), (3, .one (.bx 3 0)), (5, vI (pws o a k)), (22, vT (tmS a.args)), (23, vI a.args.length), (24, vI k)] [(2, [.t (zb6 o.syms), .t (ze4 o.wts), .t (.int .i64 o.vr)]), (3, [.t (.str a.name), .t (tmS a.args)])] []) (fun k => k <= a.args.length) (fun k => a.args.length - k) 0 (zab ?_) (Nat.zero_le _) ?_
  ·simp -implicitDefEqProofs only [go_sem]
   rw [hz, h3]
  ·intro k hk
   by_cases hlt : k < a.args.length
   ·have HX := H a.args[k] (List.getElem_mem hlt)
    simp only [tmD, zaa a.args[k]] at HX
    have i1 := hin k
    have i2 := hin (k + 1)
    have e := zsb o a hlt
    generalize o.wgt a.args[k] = q at HX e
    simp -implicitDefEqProofs only [go_sem, hlt, zaf, zaa a.args[k]]
    refine callF (HX) (by simp -implicitDefEqProofs only [go_sem]) ?_
    simp -implicitDefEqProofs only [go_sem]
    refine ⟨k + 1, hlt, by omega, zab ?_⟩
    simp -implicitDefEqProofs only [go_sem]
    rw [zaq (by omega), e, zbd (by omega) (by omega)]
    exact ⟨rfl, rfl⟩
   ·have e := zux o a (show a.args.length <= k by omega)
    simp -implicitDefEqProofs only [go_sem, hlt]
    rw [e]
 ·rw [h1] at HV
  have e : o.wgt a = o.vr := by
   rw [Og.wgt_eq, zva hn h1, Og.leaf, h1]; simp
  rw [e]
  refine zan Tryz.call109 Tryz.func109 rfl (by kernel_rfl) (za2 (by kernel_rfl)) ?_
  simp -implicitDefEqProofs only [go_sem, Tryz.results109]
  refine callF (HV) (by simp -implicitDefEqProofs only [go_sem]) ?_
  simp -implicitDefEqProofs only [go_sem]
theorem zqw (o : Og) (ho : o.ok = true) : ∀ a : Tm, a.names = true -> a.wt <= 1048575 -> o.cov a = true -> FC Tryz.prog 109 [ogD o, tmD a] [iD (o.wgt a)] := zbm fun n xs ih hn hw hc => by
 have h := Tm.wt_eq (.mk n xs)
 have h2 := zdc (.mk n xs)
 exact zwm o ho (.mk n xs) hn (by omega) (by simp only [Tm.args] at *; omega) hc fun x hx => ih x hx (zgo hn x hx) (Nat.le_trans (zc6 (a := .mk n xs) hx) hw) (zj0 hc x hx)
theorem ztd (o : Og) (s t : Tm) : FC Tryz.prog 110 [ogD o, tmD s, tmD t] [bD (o.rgt t s)] := by
 have HS := zeq o.syms s.name
 have HT := zeq o.syms t.name
 have hr : o.rgt t s = (decide (zec o.syms s.name < zec o.syms t.name) || (decide (zec o.syms s.name = zec o.syms t.name) && decide (s.args.length < t.args.length))) := rfl
 rw [hr]
 simp only [ogD, zax]
 simp only [tmD, zaa s, zaa t]
 generalize zec o.syms s.name = x at HS ⊢
 generalize zec o.syms t.name = y at HT ⊢
 by_cases h1 : x < y
 ·have h1' := eq_true h1
  rw [decide_eq_true h1, Bool.true_or]
  refine zan Tryz.call110 Tryz.func110 rfl (by kernel_rfl) (za2 (by kernel_rfl)) ?_
  simp -implicitDefEqProofs only [go_sem, Tryz.results110]
  refine drawn (by kernel_rfl) ?_
  simp -implicitDefEqProofs only [go_sem]
  refine zau (HS) (by simp -implicitDefEqProofs only [go_sem]) ?_
  simp -implicitDefEqProofs only [go_sem]
  refine zau (HT) (by simp -implicitDefEqProofs only [go_sem]) ?_
  simp -implicitDefEqProofs only [go_sem]
  refine ⟨by kernel_rfl, ?_⟩
  simp -implicitDefEqProofs only [go_sem, h1']
 ·have h1' := eq_false h1
  rw [decide_eq_false h1, Bool.false_or]
  by_cases h2 : x = y
  ·subst h2
   rw [decide_eq_true rfl, Bool.true_and]
   have hb : (x == x) = true := beq_self_eq_true x
   have hd : decide ((s.args.length : Int) < (t.args.length : Int)) = decide (s.args.length < t.args.length) := by rw [decide_eq_decide]; omega
   refine zan Tryz.call110 Tryz.func110 rfl (by kernel_rfl) (za2 (by kernel_rfl)) ?_
   simp -implicitDefEqProofs only [go_sem, Tryz.results110]
   refine drawn (by kernel_rfl) ?_
   simp -implicitDefEqProofs only [go_sem]
   refine zau (HS) (by simp -implicitDefEqProofs only [go_sem]) ?_
   simp -implicitDefEqProofs only [go_sem]
   refine zau (HT) (by simp -implicitDefEqProofs only [go_sem]) ?_
   simp -implicitDefEqProofs only [go_sem]
   refine ⟨by kernel_rfl, ?_⟩
   simp -implicitDefEqProofs only [go_sem, h1', hb]
  ·rw [decide_eq_false h2, Bool.false_and]
   have hb : (x == y) = false := by simpa using h2
   refine zan Tryz.call110 Tryz.func110 rfl (by kernel_rfl) (za2 (by kernel_rfl)) ?_
   simp -implicitDefEqProofs only [go_sem, Tryz.results110]
   refine drawn (by kernel_rfl) ?_
   simp -implicitDefEqProofs only [go_sem]
   refine zau (HS) (by simp -implicitDefEqProofs only [go_sem]) ?_
   simp -implicitDefEqProofs only [go_sem]
   refine zau (HT) (by simp -implicitDefEqProofs only [go_sem]) ?_
   simp -implicitDefEqProofs only [go_sem]
   refine ⟨by kernel_rfl, ?_⟩
   simp -implicitDefEqProofs only [go_sem, h1', hb]
end Go.Proofs.YtaaniggpnljckaaGreat
namespace Go.Proofs.YtaaniggpnljckaaGreat
set_option linter.unusedSimpArgs false
set_option linter.unusedVariables false
set_option linter.unusedSectionVars false
set_option maxRecDepth 4000
open Go.RowKit
noncomputable def fdT : List Tm -> List Tm -> Option (Tm × Tm)
 | x :: xs, y :: ys => if same x y = true then fdT xs ys else some (x, y)
 | _, _ => none
theorem zoa (ys : List Tm) : fdT [] ys = none := by unfold fdT; rfl
theorem zua (o : Og) : ∀ (xs ys : List Tm), o.kboS xs ys = match fdT xs ys with | none => false | some (x, y) => o.kbo x y
 | [], ys => by rw [zoa, Og.kboS]
 | _ :: _, [] => by rw [Og.kboS]; rfl
 | x :: xs, y :: ys => by
  rw [fdT, Og.kboS]
  by_cases e : same x y = true
  ·rw [if_pos e, if_pos e, zua o xs ys]
  ·rw [if_neg e, if_neg e]
theorem zuo : ∀ {xs ys : List Tm} {x y : Tm}, fdT xs ys = some (x, y) -> x ∈ xs /\ y ∈ ys
 | [], ys, _, _, h => by rw [zoa] at h; cases h
 | _ :: _, [], _, _, h => by cases h
 | a :: xs, b :: ys, x, y, h => by
  rw [fdT] at h
  by_cases e : same a b = true
  ·rw [if_pos e] at h
   have := zuo h
   exact ⟨by simp [this.1], by simp [this.2]⟩
  ·rw [if_neg e] at h
   cases h
   exact ⟨by simp, by simp⟩
theorem qeb {xs ys : List Tm} {k : Nat} (h1 : k < xs.length) (h2 : k < ys.length) : fdT (xs.drop k) (ys.drop k) = if same xs[k] ys[k] = true then fdT (xs.drop (k + 1)) (ys.drop (k + 1)) else some (xs[k], ys[k]) := by
 rw [List.drop_eq_getElem_cons h1, List.drop_eq_getElem_cons h2, fdT]
theorem zop (s t : Tm) (hn : s.name = t.name) (hl : s.args.length = t.args.length) (hs : s.args.length <= 1048576) :
  (fdT s.args t.args = none -> XC Tryz.prog 111 [(false, tmD s), (false, tmD t)] [(false, tmD (.mk [] [])), (false, tmD (.mk [] [])), (true, bD false)]) ∧
  ∀ x y, fdT s.args t.args = some (x, y) -> XC Tryz.prog 111 [(false, tmD s), (false, tmD t)] [(false, tmD x), (false, tmD y), (true, bD true)] := by
 have e1 : tmD (.mk [] []) = .agg [.str [], .sl 2 []] := rfl
 rw [e1]
 simp only [tmD, zaa s, zaa t]
 rw [hn]
 generalize t.name = n
 generalize s.args = xs at hl hs ⊢
 generalize t.args = ys at hl ⊢
 have hbn : (n == n) = true := by simp
 have hbl : ((xs.length : Int) != (ys.length : Int)) = false := by rw [zkn, decide_eq_true hl]; rfl
 refine ⟨fun h => ?_, fun x y h => ?_⟩
 ·refine zzq Tryz.call111 Tryz.func111 rfl (by kernel_rfl) (by simp only [List.length_cons, List.length_nil, Tryz.ntmps111]; omega) (by simp [zar, T.isPin]) ?_
  simp -implicitDefEqProofs only [go_sem, Tryz.results111, hbn, hbl]
  refine zaj (fun k : Nat => hd [(2, .one (.bx 2 0)), (3, .one (.bx 3 0)), (4, .one (.bx 4 0)), (5, .one (.bx 5 0)), (26, .one (.rn (tmS xs))), (27, vI xs.length), (28, vI k)] [(2, [.t (.str n), .rn (tmS xs)]), (3, [.t (.str n), .rn (tmS ys)]), (4, [.t (.str []), .nl 2]), (5, [.t (.str []), .nl 2])] []) (fun k => k <= xs.length /\ fdT (xs.drop k) (ys.drop k) = none) (fun k => xs.length - k) 0 (zab ?_) ⟨Nat.zero_le _, h⟩ ?_
  ·simp -implicitDefEqProofs only [go_sem]
  ·intro k ⟨hk, hr⟩
   by_cases hlt : k < xs.length
   ·have hlt2 : k < ys.length := by omega
    rw [qeb hlt hlt2] at hr
    have HE := zeh xs[k] ys[k]
    simp only [tmD, zaa xs[k], zaa ys[k]] at HE
    cases he : same xs[k] ys[k]
    ·rw [he] at hr
     cases hr
    ·rw [he, if_pos rfl] at hr
     rw [he] at HE
     simp -implicitDefEqProofs only [go_sem, hlt, zaf, zaa xs[k]]
     refine drawn (by kernel_rfl) ?_
     simp -implicitDefEqProofs only [go_sem, hlt2, zaf, zaa ys[k]]
     refine zau (HE) (by simp -implicitDefEqProofs only [go_sem]) ?_
     simp -implicitDefEqProofs only [go_sem]
     refine ⟨by kernel_rfl, k + 1, ⟨hlt, hr⟩, by omega, zab ?_⟩
     simp -implicitDefEqProofs only [go_sem]
     rw [zaq (by omega)]
   ·simp -implicitDefEqProofs only [go_sem, hlt]
 ·refine zzq Tryz.call111 Tryz.func111 rfl (by kernel_rfl) (by simp only [List.length_cons, List.length_nil, Tryz.ntmps111]; omega) (by simp [zar, T.isPin]) ?_
  simp -implicitDefEqProofs only [go_sem, Tryz.results111, hbn, hbl]
  refine zaj (fun k : Nat => hd [(2, .one (.bx 2 0)), (3, .one (.bx 3 0)), (4, .one (.bx 4 0)), (5, .one (.bx 5 0)), (26, .one (.rn (tmS xs))), (27, vI xs.length), (28, vI k)] [(2, [.t (.str n), .rn (tmS xs)]), (3, [.t (.str n), .rn (tmS ys)]), (4, [.t (.str []), .nl 2]), (5, [.t (.str []), .nl 2])] []) (fun k => k <= xs.length /\ fdT (xs.drop k) (ys.drop k) = some (x, y)) (fun k => xs.length - k) 0 (zab ?_) ⟨Nat.zero_le _, h⟩ ?_
  ·simp -implicitDefEqProofs only [go_sem]
  ·intro k ⟨hk, hr⟩
   by_cases hlt : k < xs.length
   ·have hlt2 : k < ys.length := by omega
    rw [qeb hlt hlt2] at hr
    have HE := zeh xs[k] ys[k]
    simp only [tmD, zaa xs[k], zaa ys[k]] at HE
    cases he : same xs[k] ys[k]
    ·rw [he] at hr
     rw [he] at HE
     simp only [Bool.false_eq_true, if_false, Option.some.injEq, Prod.mk.injEq] at hr
     obtain ⟨rfl, rfl⟩ := hr
     simp only [zaa xs[k], zaa ys[k]]
     simp -implicitDefEqProofs only [go_sem, hlt, zaf, zaa xs[k]]
     refine drawn (by kernel_rfl) ?_
     simp -implicitDefEqProofs only [go_sem, hlt2, zaf, zaa ys[k]]
     refine zau (HE) (by simp -implicitDefEqProofs only [go_sem]) ?_
     simp -implicitDefEqProofs only [go_sem]
     refine ⟨by kernel_rfl, ?_⟩
     refine drawn (by kernel_rfl) ?_
     simp -implicitDefEqProofs only [go_sem, hlt2, zaf, zaa ys[k]]
     kernel_rfl
    ·rw [he, if_pos rfl] at hr
     rw [he] at HE
     simp -implicitDefEqProofs only [go_sem, hlt, zaf, zaa xs[k]]
     refine drawn (by kernel_rfl) ?_
     simp -implicitDefEqProofs only [go_sem, hlt2, zaf, zaa ys[k]]
     refine zau (HE) (by simp -implicitDefEqProofs only [go_sem]) ?_
     simp -implicitDefEqProofs only [go_sem]
     refine ⟨by kernel_rfl, k + 1, ⟨hlt, hr⟩, by omega, zab ?_⟩
     simp -implicitDefEqProofs only [go_sem]
     rw [zaq (by omega)]
   ·rw [List.drop_of_length_le (show xs.length <= k by omega), zoa] at hr
    cases hr
end Go.Proofs.YtaaniggpnljckaaGreat
namespace Go.Proofs.YtaaniggpnljckaaGreat
set_option linter.unusedSimpArgs false
set_option linter.unusedVariables false
set_option linter.unusedSectionVars false
set_option maxRecDepth 4000
open Go.RowKit
theorem zls (s t : Tm) (h : s.name ≠ t.name \/ s.args.length ≠ t.args.length) : XC Tryz.prog 111 [(false, tmD s), (false, tmD t)] [(false, tmD (.mk [] [])), (false, tmD (.mk [] [])), (true, bD false)] := by
 have e1 : tmD (.mk [] []) = .agg [.str [], .sl 2 []] := rfl
 rw [e1]
 simp only [tmD, zaa s, zaa t]
 by_cases hn : s.name = t.name
 ·have hl : s.args.length ≠ t.args.length := h.resolve_left fun q => q hn
  have hbl : ((s.args.length : Int) != (t.args.length : Int)) = true := by rw [zkn, decide_eq_false hl]; rfl
  have hbn : (s.name == t.name) = true := by simpa using hn
  refine zzq Tryz.call111 Tryz.func111 rfl (by kernel_rfl) (by simp only [List.length_cons, List.length_nil, Tryz.ntmps111]; omega) (by simp [zar, T.isPin]) ?_
  simp -implicitDefEqProofs only [go_sem, Tryz.results111, hbn, hbl]
 ·have hbn : (s.name == t.name) = false := by simpa using hn
  refine zzq Tryz.call111 Tryz.func111 rfl (by kernel_rfl) (by simp only [List.length_cons, List.length_nil, Tryz.ntmps111]; omega) (by simp [zar, T.isPin]) ?_
  simp -implicitDefEqProofs only [go_sem, Tryz.results111, hbn]
theorem qab {xs : List Str} {a b : Str} (h : xs.contains a = true) (hb : xs.contains b = true) (e : zec xs a = zec xs b) : a = b := by
 obtain ⟨h1, h2⟩ := zfh h
 obtain ⟨h3, h4⟩ := zfh hb
 have e' : xs.idxOf a = xs.idxOf b := by omega
 have := List.getElem_idxOf h2
 have h5 := List.getElem_idxOf h4
 rw [<- this, <- h5]
 congr 1
structure KT (o : Og) (t : Tm) : Prop where
 nm : t.names = true
 cv : o.cov t = true
 wt : t.wt <= 1048575
theorem KT.args {o : Og} {t x : Tm} (h : KT o t) (hx : x ∈ t.args) : KT o x := ⟨zgo h.nm x hx, zj0 h.cv x hx, Nat.le_trans (zc6 hx) h.wt⟩
theorem vars_c {o : Og} {t : Tm} (h : KT o t) : FC Tryz.prog 107 [tmD t] [.one (zb6 (zcq [] (voS t)))] := by
 obtain ⟨h1, h2⟩ := zz0 t h.nm
 have h3 := zpl t
 have := h.wt
 have := zo2 t h2 (by omega) (by rw [h1]; omega)
 rwa [h1] at this
theorem zp9 {o : Og} {t : Tm} (h : KT o t) : (zcq [] (voS t)).length <= 1048577 := by
 have h1 := zhn (voS t) []
 have h2 := zpl t
 have h3 := h.wt
 simp only [List.length_nil] at h1
 omega
set_option maxHeartbeats 1000000 in
theorem kbo_of (o : Og) (ho : o.ok = true) (s t : Tm) (hs : KT o s) (ht : KT o t) (H : ∀ x ∈ s.args, ∀ y ∈ t.args, FC Tryz.prog 97 [ogD o, tmD x, tmD y] [bD (o.kbo x y)]) : FC Tryz.prog 97 [ogD o, tmD s, tmD t] [bD (o.kbo s t)] := by
 have hk := o.kbo_eq s t
 have HA := vars_c ht
 have hL := zp9 ht
 have hbal : bal s t = (zcq [] (voS t)).all fun n => decide (zcn n t <= zcn n s) := rfl
 have HN1 := fun n => zh9 n s (Nat.le_trans hs.wt (by omega))
 have HN2 := fun n => zh9 n t (Nat.le_trans ht.wt (by omega))
 have HW1 := zqw o ho s hs.nm hs.wt hs.cv
 have HW2 := zqw o ho t ht.nm ht.wt ht.cv
 have HV1 := zhj s hs.nm
 have HV2 := zhj t ht.nm
 have HP := ztd o t s
 have hn1 : za6 s.name = false -> o.syms.contains s.name = true := fun h => by
  have := hs.cv
  rw [Og.cov_eq, h, Bool.false_or, Bool.and_eq_true] at this
  exact this.1
 have hn2 : za6 t.name = false -> o.syms.contains t.name = true := fun h => by
  have := ht.cv
  rw [Og.cov_eq, h, Bool.false_or, Bool.and_eq_true] at this
  exact this.1
 have HF := zop s t
 have HX := zls s t
 have hfk := zua o s.args t.args
 have hreq : o.req s t = (decide (zec o.syms s.name = zec o.syms t.name) && decide (s.args.length = t.args.length)) := rfl
 have hsl : s.args.length <= 1048576 := by
  have := Tm.wt_eq s
  have := hs.wt
  omega
 rw [hk]
 clear hk
 have e1 : tmD (.mk [] []) = .agg [.str [], .sl 2 []] := rfl
 rw [e1] at HF HX
 simp only [ogD, zax] at HW1 HW2 HP H ⊢
 simp only [tmD, zaa s, zaa t] at HA HN1 HN2 HW1 HW2 HV1 HV2 HP HF HX ⊢
 generalize zcq [] (voS t) = L at HA hL hbal
 refine zfn Tryz.call97 Tryz.func97 rfl (by kernel_rfl) (za2 (by kernel_rfl)) ?_
 simp -implicitDefEqProofs only [go_sem, Tryz.results97]
 refine callF (HA) (by simp -implicitDefEqProofs only [go_sem]) ?_
 simp -implicitDefEqProofs only [go_sem]
 refine zaj (fun k : Nat => hd [(3, .one (.bx 3 0)), (4, .one (.bx 4 0)), (5, .one (.bx 5 0)), (15, .one (.ow 480 0)), (16, vI L.length), (17, vI k)] [(3, [.rn (zb6 o.syms), .rn (ze4 o.wts), .t (.int .i64 o.vr)]), (4, [.t (.str s.name), .rn (tmS s.args)]), (5, [.t (.str t.name), .rn (tmS t.args)])] [(480, ⟨true, 1, L.map fun s => [.str s], 0, true⟩)]) (fun k => k <= L.length /\ bal s t = (L.drop k).all fun n => decide (zcn n t <= zcn n s)) (fun k => L.length - k) 0 (zab ?_) ⟨Nat.zero_le _, hbal⟩ ?_
 ·simp -implicitDefEqProofs only [go_sem, List.length_map]
 ·intro k ⟨hk, hr⟩
  by_cases hlt : k < L.length
  ·rw [zjt hlt] at hr
   have HN1 := HN1 L[k]
   have HN2 := HN2 L[k]
   by_cases hc : zcn L[k] s < zcn L[k] t
   ·have hc' : ((zcn L[k] s : Int) < (zcn L[k] t : Int)) = True := eq_true (by omega)
    rw [decide_eq_false (by omega), Bool.false_and] at hr
    rw [hr, Bool.false_and]
    simp -implicitDefEqProofs only [go_sem, hlt, zbq L hlt, List.length_map]
    refine drawn (by kernel_rfl) ?_
    simp -implicitDefEqProofs only [go_sem]
    refine zau (HN1) (by simp -implicitDefEqProofs only [go_sem]) ?_
    simp -implicitDefEqProofs only [go_sem]
    refine zau (HN2) (by simp -implicitDefEqProofs only [go_sem, hc']) ?_
    simp -implicitDefEqProofs only [go_sem, hc']
    kernel_rfl
   ·have hc' : ((zcn L[k] s : Int) < (zcn L[k] t : Int)) = False := eq_false (by omega)
    rw [decide_eq_true (by omega), Bool.true_and] at hr
    simp -implicitDefEqProofs only [go_sem, hlt, zbq L hlt, List.length_map]
    refine drawn (by kernel_rfl) ?_
    simp -implicitDefEqProofs only [go_sem]
    refine zau (HN1) (by simp -implicitDefEqProofs only [go_sem]) ?_
    simp -implicitDefEqProofs only [go_sem]
    refine zau (HN2) (by simp -implicitDefEqProofs only [go_sem, hc']) ?_
    simp -implicitDefEqProofs only [go_sem, hc']
    refine ⟨by kernel_rfl, k + 1, ⟨hlt, hr⟩, by omega, zab ?_⟩
    simp -implicitDefEqProofs only [go_sem]
    rw [zaq (by omega)]
  ·rw [List.drop_of_length_le (show L.length <= k by omega)] at hr
   have hr : bal s t = true := hr
   rw [hr, Bool.true_and]
   simp -implicitDefEqProofs only [go_sem, hlt]
   refine drawn (by kernel_rfl) ?_
   simp -implicitDefEqProofs only [go_sem]
   refine zau (HW1) (by simp -implicitDefEqProofs only [go_sem]) ?_
   simp -implicitDefEqProofs only [go_sem]
   refine zau (HW2) (by simp -implicitDefEqProofs only [go_sem]) ?_
   simp -implicitDefEqProofs only [go_sem]
   refine ⟨by kernel_rfl, ?_⟩
   by_cases hw : o.wgt s = o.wgt t
   ·rw [if_pos hw, hw]
    have hne : (o.wgt t != o.wgt t) = false := by simp
    have hgt : decide (o.wgt t < o.wgt t) = false := by simp
    cases h1 : za6 s.name
    ·cases h2 : za6 t.name
     ·rw [h1] at HV1
      rw [h2] at HV2
      simp -implicitDefEqProofs only [go_sem, hne]
      refine callF (HV1) (by simp -implicitDefEqProofs only [go_sem]) ?_
      simp -implicitDefEqProofs only [go_sem]
      refine callF (HV2) (by simp -implicitDefEqProofs only [go_sem]) ?_
      simp -implicitDefEqProofs only [go_sem]
      refine callF (HP) (by simp -implicitDefEqProofs only [go_sem]) ?_
      simp -implicitDefEqProofs only [go_sem]
      cases hp : o.rgt s t
      ·simp only [Bool.not_false, Bool.true_and, Bool.false_or]
       simp -implicitDefEqProofs only [go_sem]
       by_cases hq : s.name = t.name /\ s.args.length = t.args.length
       ·rw [hreq, decide_eq_true hq.2, decide_eq_true (by rw [hq.1]), Bool.and_self, Bool.true_and, hfk]
        obtain ⟨F1, F2⟩ := HF hq.1 hq.2 hsl
        cases hf : fdT s.args t.args with
        | none =>
         have F1 := F1 hf
         refine ztx [3] [54, 55] [] (F1) (by simp -implicitDefEqProofs only [go_sem]) (by simp -implicitDefEqProofs only [go_sem]) (by simp -implicitDefEqProofs only [go_sem]) (by simp -implicitDefEqProofs only [go_sem]) ?_
         simp -implicitDefEqProofs only [go_sem]
        | some p =>
         obtain ⟨x, y⟩ := p
         have F2 := F2 x y hf
         obtain ⟨m1, m2⟩ := zuo hf
         have HH := H x m1 y m2
         simp only [tmD, zaa x, zaa y] at F2 HH
         refine ztx [3] [54, 55] [] (F2) (by simp -implicitDefEqProofs only [go_sem]) (by simp -implicitDefEqProofs only [go_sem]) (by simp -implicitDefEqProofs only [go_sem]) (by simp -implicitDefEqProofs only [go_sem]) ?_
         simp -implicitDefEqProofs only [go_sem]
         refine callF (HH) (by simp -implicitDefEqProofs only [go_sem]) ?_
         simp -implicitDefEqProofs only [go_sem]
       ·have hreq0 : o.req s t = false := by
         rw [hreq, Bool.and_eq_false_iff, decide_eq_false_iff_not, decide_eq_false_iff_not]
         by_cases hl : s.args.length = t.args.length
         ·exact Or.inl fun e => hq ⟨qab (hn1 h1) (hn2 h2) e, hl⟩
         ·exact Or.inr hl
        rw [hreq0, Bool.false_and]
        have HX := HX (by
         by_cases hn : s.name = t.name
         ·exact Or.inr fun hl => hq ⟨hn, hl⟩
         ·exact Or.inl hn)
        refine ztx [3] [54, 55] [] (HX) (by simp -implicitDefEqProofs only [go_sem]) (by simp -implicitDefEqProofs only [go_sem]) (by simp -implicitDefEqProofs only [go_sem]) (by simp -implicitDefEqProofs only [go_sem]) ?_
        simp -implicitDefEqProofs only [go_sem]
      ·simp -implicitDefEqProofs only [go_sem]
       exact Or.inl rfl
     ·rw [h1] at HV1
      rw [h2] at HV2
      simp -implicitDefEqProofs only [go_sem, hne]
      refine callF (HV1) (by simp -implicitDefEqProofs only [go_sem]) ?_
      simp -implicitDefEqProofs only [go_sem]
      refine callF (HV2) (by simp -implicitDefEqProofs only [go_sem]) ?_
      simp -implicitDefEqProofs only [go_sem]
      rw [hgt]; exact Or.inl rfl
    ·rw [h1] at HV1
     simp -implicitDefEqProofs only [go_sem, hne]
     refine callF (HV1) (by simp -implicitDefEqProofs only [go_sem]) ?_
     simp -implicitDefEqProofs only [go_sem]
     rw [hgt]; exact Or.inl rfl
   ·rw [if_neg hw]
    have hne : (o.wgt s != o.wgt t) = true := by simpa using hw
    simp -implicitDefEqProofs only [go_sem, hne]
theorem kbo_c (o : Og) (ho : o.ok = true) : ∀ s t : Tm, KT o s -> KT o t -> FC Tryz.prog 97 [ogD o, tmD s, tmD t] [bD (o.kbo s t)] := zbm fun n xs ih t hs ht => kbo_of o ho (.mk n xs) t hs ht fun x hx y hy => ih x hx y (hs.args hx) (ht.args hy)
end Go.Proofs.YtaaniggpnljckaaGreat
namespace Go.Proofs.YtaaniggpnljckaaGreat
set_option linter.unusedSimpArgs false
set_option linter.unusedVariables false
set_option linter.unusedSectionVars false
set_option maxRecDepth 4000
open Go.RowKit
def ET (o : Og) (t : Tm) : Prop := t = .mk [] [] \/ KT o t
theorem KT.ne {o : Og} {t : Tm} (h : KT o t) : (t.name == []) = false := by
 have := (zwk h.nm).1
 cases hn : t.name with
 | nil => rw [hn] at this; simp at this
 | cons a l => rfl
theorem ET.el {o : Og} {t : Tm} (h : ET o t) : elM t := by
 rcases h with h | h
 ·exact Or.inl h
 ·exact Or.inr ⟨h.nm, h.ne⟩
theorem ET.kt {o : Og} {t : Tm} (h : ET o t) (hn : (t.name == []) = false) : KT o t := by
 rcases h with rfl | h
 ·cases hn
 ·exact h
theorem zmp (t : Tm) : FC Tryz.prog 96 [tmD t] [bD (t.name == [])] := by
 simp only [tmD, zaa t]
 refine zan Tryz.call96 Tryz.func96 rfl (by kernel_rfl) (za2 (by kernel_rfl)) ?_
 simp -implicitDefEqProofs only [go_sem, Tryz.results96]
theorem zg9 (o : Og) (ho : o.ok = true) (s t : Tm) (hs : ET o s) (ht : ET o t) : FC Tryz.prog 73 [ogD o, tmD s, tmD t] [bD (o.abv s t)] := by
 have H1 := zmp s
 have H2 := zmp t
 have hv : o.abv s t = if (s.name == [] || t.name == []) = true then !(s.name == []) else o.kbo s t := rfl
 rw [hv]
 have HK := fun h1 h2 => kbo_c o ho s t (hs.kt h1) (ht.kt h2)
 simp only [ogD, zax] at HK ⊢
 simp only [tmD, zaa s, zaa t] at H1 H2 HK ⊢
 generalize (s.name == []) = x at H1 HK ⊢
 generalize (t.name == []) = y at H2 HK ⊢
 cases x
 ·cases y
  ·have HK := HK rfl rfl
   refine zan Tryz.call73 Tryz.func73 rfl (by kernel_rfl) (za2 (by kernel_rfl)) ?_
   simp -implicitDefEqProofs only [go_sem, Tryz.results73]
   refine callF (H1) (by simp -implicitDefEqProofs only [go_sem]) ?_
   simp -implicitDefEqProofs only [go_sem]
   refine callF (H2) (by simp -implicitDefEqProofs only [go_sem]) ?_
   simp -implicitDefEqProofs only [go_sem]
   refine callF (HK) (by simp -implicitDefEqProofs only [go_sem]) ?_
   simp -implicitDefEqProofs only [go_sem]
   rfl
  ·refine zan Tryz.call73 Tryz.func73 rfl (by kernel_rfl) (za2 (by kernel_rfl)) ?_
   simp -implicitDefEqProofs only [go_sem, Tryz.results73]
   refine callF (H1) (by simp -implicitDefEqProofs only [go_sem]) ?_
   simp -implicitDefEqProofs only [go_sem]
   refine callF (H2) (by simp -implicitDefEqProofs only [go_sem]) ?_
   simp -implicitDefEqProofs only [go_sem]
   refine callF (H1) (by simp -implicitDefEqProofs only [go_sem]) ?_
   simp -implicitDefEqProofs only [go_sem]
   rfl
 ·refine zan Tryz.call73 Tryz.func73 rfl (by kernel_rfl) (za2 (by kernel_rfl)) ?_
  simp -implicitDefEqProofs only [go_sem, Tryz.results73]
  refine callF (H1) (by simp -implicitDefEqProofs only [go_sem]) ?_
  simp -implicitDefEqProofs only [go_sem]
  refine callF (H1) (by simp -implicitDefEqProofs only [go_sem]) ?_
  simp -implicitDefEqProofs only [go_sem]
  rfl
noncomputable def gtL (o : Og) (a b : List Tm) : Bool := b.all fun t => a.any fun s => o.abv s t
abbrev mgB (o : Og) (a : List Tm) : Bxs := [[(false, tmS a)], [(false, zb6 o.syms), (false, ze4 o.wts), (false, .int .i64 o.vr)]]
theorem mg2_c (o : Og) (ho : o.ok = true) (s t : Tm) (hs : ET o s) (ht : ET o t) : FC Tryz.prog 72 [tmD s, .one (ogP o), .one (.ptr (tmC t))] [bD (o.abv s t)] := by
 have HE := zg9 o ho s t hs ht
 simp only [ogD, zax] at HE
 simp only [tmD, zaa s, zaa t] at HE ⊢
 simp only [ogP, zax]
 refine zan Tryz.call72 Tryz.func72 rfl (by kernel_rfl) (za2 (by kernel_rfl)) ?_
 simp -implicitDefEqProofs only [go_sem, Tryz.results72]
 refine callF (HE) (by simp -implicitDefEqProofs only [go_sem]) ?_
 simp -implicitDefEqProofs only [go_sem]
theorem mg1_c (o : Og) (ho : o.ok = true) (a : List Tm) (ha : ∀ t ∈ a, ET o t) (t : Tm) (ht : ET o t) : PC Tryz.prog 71 (mgB o a) [.d false (tmD t), .p 0, .p 1] (mgB o a) [(true, bD (!(a.any fun s => o.abv s t)))] := by
 have HF := zbv a (fun s => o.abv s t) _ [ogP o, .ptr (tmC t)] fun s hs => mg2_c o ho s t (ha s hs) ht
 generalize (a.any fun s => o.abv s t) = z at HF ⊢
 simp only [ogP, zax, zaa t] at HF
 simp only [tmD, zaa t]
 refine zbl Tryz.call71 Tryz.func71 rfl (by kernel_rfl) (by simp only [List.length_cons, List.length_nil, Tryz.ntmps71]; omega) (by simp only [Tryz.ntmps71]; omega) rfl rfl (by simp [zar, T.isPin, AF.ds, bxA]) (by simp [gFS, T.fs, T.flat, AF.ds, bxA]) rfl ?_
 simp -implicitDefEqProofs only [go_sem, Tryz.results71]
 refine callF (HF) (by simp -implicitDefEqProofs only [go_sem]) ?_
 simp -implicitDefEqProofs only [go_sem]
theorem mgI_c (o : Og) (ho : o.ok = true) (a b : List Tm) (ha : ∀ t ∈ a, ET o t) (hb : ∀ t ∈ b, ET o t) (hl : b.length <= 1048577) : PC Tryz.prog 38 (mgB o a) [.d false (.one (tmS b)), .fn 71 [0, 1]] (mgB o a) [(true, iD (zmr b fun t => !(a.any fun s => o.abv s t)))] := by
 have H := fun t ht => mg1_c o ho a ha t (hb t ht)
 refine zbl Tryz.call38 Tryz.func38 rfl (by kernel_rfl) (by simp only [List.length_cons, List.length_nil, Tryz.ntmps38]; omega) (by simp only [Tryz.ntmps38]; omega) rfl rfl (by simp [zar, T.isPin, AF.ds, bxA]) (by simp [gFS, T.fs, T.flat, AF.ds, bxA]) rfl ?_
 simp -implicitDefEqProofs only [go_sem, Tryz.results38]
 refine zaj (fun k : Nat => hd [(0, .one (.rn (tmS b))), (1, .one (.fn 71 [1000000, 1000001])), (7, vI b.length), (8, vI k), (1000000, .one (.bx 1000000 0)), (1000001, .one (.bx 1000001 0))] [(1000000, [.rn (tmS a)]), (1000001, [.rn (zb6 o.syms), .rn (ze4 o.wts), .t (.int .i64 o.vr)])] []) (fun k => k <= b.length /\ ∀ x ∈ b.take k, (!(a.any fun s => o.abv s x)) = false) (fun k => b.length - k) 0 (zab ?_) ⟨Nat.zero_le _, by simp⟩ ?_
 ·simp -implicitDefEqProofs only [go_sem]
 ·intro k ⟨hk, hr⟩
  by_cases hlt : k < b.length
  ·have HC := H b[k] (List.getElem_mem hlt)
   simp only [tmD, zaa b[k]] at HC
   cases hz : !(a.any fun s => o.abv s b[k])
   ·rw [hz] at HC
    simp -implicitDefEqProofs only [go_sem, zaf, hlt, zaa b[k]]
    refine zaw [0, 1, 5, 7, 8, 11, 1000000, 1000001] [15] [1000000, 1000001] [] (HC) (by decide) rfl (by simp -implicitDefEqProofs only [go_sem]) (by simp -implicitDefEqProofs only [go_sem]) (by simp -implicitDefEqProofs only [go_sem]) (by simp -implicitDefEqProofs only [go_sem]) ?_
    simp -implicitDefEqProofs only [go_sem]
    refine ⟨k + 1, ⟨hlt, zb8 hlt hr hz⟩, by omega, zab ?_⟩
    simp -implicitDefEqProofs only [go_sem]
    rw [zaq (by omega)]
   ·rw [hz] at HC
    simp -implicitDefEqProofs only [go_sem, zaf, hlt, zaa b[k]]
    refine zaw [0, 1, 5, 7, 8, 11, 1000000, 1000001] [15] [1000000, 1000001] [] (HC) (by decide) rfl (by simp -implicitDefEqProofs only [go_sem]) (by simp -implicitDefEqProofs only [go_sem]) (by simp -implicitDefEqProofs only [go_sem]) (by simp -implicitDefEqProofs only [go_sem]) ?_
    simp -implicitDefEqProofs only [go_sem]
    rw [zep hlt hr hz]
    exact Or.inl rfl
  ·simp -implicitDefEqProofs only [go_sem, hlt]
   rw [List.take_of_length_le (by omega)] at hr
   rw [zf4 hr]
   exact Or.inl rfl
theorem mgC_c (o : Og) (ho : o.ok = true) (a b : List Tm) (ha : ∀ t ∈ a, ET o t) (hb : ∀ t ∈ b, ET o t) (hl : b.length <= 1048577) : PC Tryz.prog 31 (mgB o a) [.d false (.one (tmS b)), .fn 71 [0, 1]] (mgB o a) [(true, bD (b.any fun t => !(a.any fun s => o.abv s t)))] := by
 have H := mgI_c o ho a b ha hb hl
 have hq := zkm b fun t => !(a.any fun s => o.abv s t)
 rw [<- hq]
 clear hq
 generalize (zmr b fun t => !(a.any fun s => o.abv s t)) = i at H ⊢
 refine zbl Tryz.call31 Tryz.func31 rfl (by kernel_rfl) (by simp only [List.length_cons, List.length_nil, Tryz.ntmps31]; omega) (by simp only [Tryz.ntmps31]; omega) rfl rfl (by simp [zar, T.isPin, AF.ds, bxA]) (by simp [gFS, T.fs, T.flat, AF.ds, bxA]) rfl ?_
 simp -implicitDefEqProofs only [go_sem, Tryz.results31]
 refine zaw [1000000, 1000001] [5, 6] [1000000, 1000001] [] (H) (by decide) rfl (by simp -implicitDefEqProofs only [go_sem]) (by simp -implicitDefEqProofs only [go_sem]) (by simp -implicitDefEqProofs only [go_sem]) (by simp -implicitDefEqProofs only [go_sem]) ?_
 simp -implicitDefEqProofs only [go_sem]
theorem zdj (o : Og) (ho : o.ok = true) (a b : List Tm) (ha : ∀ t ∈ a, ET o t) (hb : ∀ t ∈ b, ET o t) (hl : b.length <= 1048577) : FC Tryz.prog 44 [ogD o, .one (tmS a), .one (tmS b)] [bD (gtL o a b)] := by
 have H := mgC_c o ho a b ha hb hl
 rw [gtL, <- zhw]
 generalize (b.any fun t => !(a.any fun s => o.abv s t)) = z at H ⊢
 simp only [ogD, zax]
 refine zfn Tryz.call44 Tryz.func44 rfl (by kernel_rfl) (za2 (by kernel_rfl)) ?_
 simp -implicitDefEqProofs only [go_sem, Tryz.results44]
 refine zaw [3, 4] [7, 8] [4, 3] [] (H) (by decide) rfl (by simp -implicitDefEqProofs only [go_sem]) (by simp -implicitDefEqProofs only [go_sem]) (by simp -implicitDefEqProofs only [go_sem]) (by simp -implicitDefEqProofs only [go_sem]) ?_
 simp -implicitDefEqProofs only [go_sem]
def zh4 (e p q : Bool) : Int := if e = true then 1 else if p = true then 2 else if q = true then 3 else 0
theorem zvi (e p q : Bool) (g l : FuncId) (cg cl : List T) (HG : FC Tryz.prog g (cg.map .one) [bD p]) (HL : FC Tryz.prog l (cl.map .one) [bD q]) : FC Tryz.prog 42 [bD e, .one (.fn g cg), .one (.fn l cl)] [iD (zh4 e p q)] := by
 unfold zh4
 cases e
 ·cases p
  ·cases q
   ·refine zan Tryz.call42 Tryz.func42 rfl (by kernel_rfl) (za2 (by kernel_rfl)) ?_
    simp -implicitDefEqProofs only [go_sem, Tryz.results42]
    refine callF (HG) (by simp -implicitDefEqProofs only [go_sem]) ?_
    simp -implicitDefEqProofs only [go_sem]
    refine callF (HL) (by simp -implicitDefEqProofs only [go_sem]) ?_
    simp -implicitDefEqProofs only [go_sem]
   ·refine zan Tryz.call42 Tryz.func42 rfl (by kernel_rfl) (za2 (by kernel_rfl)) ?_
    simp -implicitDefEqProofs only [go_sem, Tryz.results42]
    refine callF (HG) (by simp -implicitDefEqProofs only [go_sem]) ?_
    simp -implicitDefEqProofs only [go_sem]
    refine callF (HL) (by simp -implicitDefEqProofs only [go_sem]) ?_
    simp -implicitDefEqProofs only [go_sem]
  ·refine zan Tryz.call42 Tryz.func42 rfl (by kernel_rfl) (za2 (by kernel_rfl)) ?_
   simp -implicitDefEqProofs only [go_sem, Tryz.results42]
   refine callF (HG) (by simp -implicitDefEqProofs only [go_sem]) ?_
   simp -implicitDefEqProofs only [go_sem]
 ·refine zan Tryz.call42 Tryz.func42 rfl (by kernel_rfl) (za2 (by kernel_rfl)) ?_
  simp -implicitDefEqProofs only [go_sem, Tryz.results42]
end Go.Proofs.YtaaniggpnljckaaGreat
namespace Go.Proofs.YtaaniggpnljckaaGreat
set_option linter.unusedSimpArgs false
set_option linter.unusedVariables false
set_option linter.unusedSectionVars false
set_option maxRecDepth 4000
open Go.RowKit
def zd6 : List Tm -> List Bool -> List Tm
 | b :: bs, u :: us => if u = true then zd6 bs us else b :: zd6 bs us
 | _, _ => []
noncomputable def fz (t : Tm) (b : List Tm) (u : List Bool) : Int := zmr (b.zip u) fun z => !z.2 && same t z.1
noncomputable def zmm (b : List Tm) : List Tm -> List Bool -> List Tm
 | [], _ => []
 | t :: ts, u => if fz t b u < 0 then t :: zmm b ts u else zmm b ts (u.set (fz t b u).toNat true)
theorem zp8 {t : Tm} : ∀ {b : List Tm} {u : List Bool} {j : Nat} (h1 : j < b.length) (h2 : j < u.length), u[j] = false -> cn t (zd6 b (u.set j true)) + (if same b[j] t = true then 1 else 0) = cn t (zd6 b u)
 | [], _, _, h, _, _ => by simp at h
 | _ :: _, [], _, _, h, _ => by simp at h
 | b :: bs, u :: us, 0, h1, h2, h => by
  simp only [List.getElem_cons_zero] at h
  subst h
  simp only [List.set_cons_zero, List.getElem_cons_zero]
  have e1 : zd6 (b :: bs) (true :: us) = zd6 bs us := by rw [zd6, if_pos rfl]
  have e2 : zd6 (b :: bs) (false :: us) = b :: zd6 bs us := by rw [zd6, if_neg (by simp)]
  rw [e1, e2, zb5]
 | b :: bs, u :: us, j + 1, h1, h2, h => by
  have ih := zp8 (t := t) (b := bs) (u := us) (j := j) (by simpa using h1) (by simpa using h2) (by simpa using h)
  simp only [List.set_cons_succ, List.getElem_cons_succ]
  rw [zd6, zd6]
  split
  ·exact ih
  ·rw [zb5, zb5]; omega
theorem zn0 : ∀ (b : List Tm), zd6 b (List.replicate b.length false) = b
 | [] => by rw [zd6.eq_def]
 | b :: bs => by
  rw [List.length_cons, List.replicate_succ, zd6, if_neg (by simp), zn0 bs]
theorem zq8 {t : Tm} : ∀ {b : List Tm} {u : List Bool}, b.length = u.length -> (∀ z ∈ b.zip u, (!z.2 && same t z.1) = false) -> cn t (zd6 b u) = 0
 | [], [], _, _ => rfl
 | [], _ :: _, h, _ => by simp at h
 | _ :: _, [], h, _ => by simp at h
 | b :: bs, u :: us, h, hz => by
  have ih := zq8 (t := t) (b := bs) (u := us) (by simpa using h) fun z hz' => hz z (by rw [List.zip_cons_cons]; exact List.mem_cons_of_mem _ hz')
  have h0 := hz (b, u) (by rw [List.zip_cons_cons]; exact List.mem_cons_self ..)
  simp only at h0
  rw [zd6]
  split
  ·exact ih
  ·next hu =>
   have hu : u = false := by simpa using hu
   subst hu
   rw [zb5, ih, if_neg (fun e => by rw [zbe.1 e, zbe.2 rfl] at h0; cases h0)]
theorem zzw (t : Tm) {b : List Tm} {u : List Bool} (hl : b.length = u.length) : (fz t b u = -1 /\ ∀ z ∈ b.zip u, (!z.2 && same t z.1) = false) \/ ∃ (j : Nat) (h1 : j < b.length) (h2 : j < u.length), fz t b u = (j : Nat) /\ u[j] = false /\ b[j] = t := by
 unfold fz
 by_cases ha : (b.zip u).any (fun z => !z.2 && same t z.1) = true
 ·right
  have hlt : (b.zip u).findIdx (fun z => !z.2 && same t z.1) < (b.zip u).length := List.findIdx_lt_length.2 (List.any_eq_true.1 ha)
  have hp := List.findIdx_getElem (p := fun z : Tm × Bool => !z.2 && same t z.1) (xs := b.zip u) (w := hlt)
  have hl2 := hlt
  rw [List.length_zip] at hl2
  refine ⟨(b.zip u).findIdx fun z => !z.2 && same t z.1, by omega, by omega, by unfold zmr; rw [if_pos ha], ?_, ?_⟩
  ·rw [List.getElem_zip] at hp
   simp only [Bool.and_eq_true, Bool.not_eq_true'] at hp
   exact hp.1
  ·rw [List.getElem_zip] at hp
   simp only [Bool.and_eq_true] at hp
   exact (zbe.1 hp.2).symm
 ·left
  rw [Bool.not_eq_true, List.any_eq_false] at ha
  refine ⟨?_, fun z hz => by simpa using ha z hz⟩
  unfold zmr
  rw [if_neg (by rw [List.any_eq_true]; rintro ⟨z, hz, h⟩; exact ha z hz h)]
theorem zoy (t : Tm) {b : List Tm} : ∀ (a : List Tm) (u : List Bool), b.length = u.length -> cn t (zmm b a u) = cn t a - cn t (zd6 b u)
 | [], u, _ => by simp [zmm, zzf]
 | x :: xs, u, hl => by
  rw [zmm]
  rcases zzw x hl with ⟨h1, h2⟩ | ⟨j, h1, h2, h3, h4, h5⟩
  ·rw [h1, if_pos (by decide), zb5, zb5, zoy t xs u hl]
   by_cases e : same x t = true
   ·obtain rfl := zbe.1 e
    rw [zq8 hl h2]; omega
   ·rw [if_neg e]; omega
  ·rw [h3, if_neg (by omega), Int.toNat_natCast, zoy t xs _ (by rw [List.length_set]; exact hl), zb5]
   have := zp8 (t := t) h1 h2 h4
   rw [h5] at this
   split at this
   ·next e => rw [if_pos e]; omega
   ·next e => rw [if_neg e]; omega
noncomputable def zll (a b : List Tm) : List Tm := zmm b a (List.replicate b.length false)
theorem zv7 (t : Tm) (a b : List Tm) : cn t (zll a b) = cn t a - cn t b := by
 rw [zll, zoy t a _ (by simp), zn0]
theorem zkj (b : List Tm) : ∀ (a : List Tm) (u : List Bool), (zmm b a u).Sublist a
 | [], _ => by rw [zmm]; exact List.Sublist.refl _
 | x :: xs, u => by
  rw [zmm]
  split
  ·exact (zkj b xs u).cons_cons x
  ·exact (zkj b xs _).cons x
theorem zsd (a b : List Tm) : (zll a b).Sublist a := zkj b a _
theorem zlo (o : Og) {a b x y : List Tm} (hx : ∀ t, cn t x = cn t a - cn t b) (hy : ∀ t, cn t y = cn t b - cn t a) : zh4 (decide (x.length = 0) && decide (y.length = 0)) (gtL o x y) (gtL o y x) = zd4 o a b := by
 have hm : ∀ (z p q : List Tm), (∀ t, cn t z = cn t p - cn t q) -> ∀ t, t ∈ z ↔ cn t q < cn t p := fun z p q h t => by
  rw [<- zt4, h t]; omega
 have hmx := hm x a b hx
 have hmy := hm y b a hy
 have h1 : (decide (x.length = 0) && decide (y.length = 0)) = dcP (eqM a b) := by
  rw [Bool.eq_iff_iff, Bool.and_eq_true, decide_eq_true_eq, decide_eq_true_eq, zdv]
  constructor
  ·rintro ⟨h1, h2⟩ t
   have q1 : ¬ cn t b < cn t a := fun h => by
    have := (hmx t).2 h
    rw [List.length_eq_zero_iff.1 h1] at this; simp at this
   have q2 : ¬ cn t a < cn t b := fun h => by
    have := (hmy t).2 h
    rw [List.length_eq_zero_iff.1 h2] at this; simp at this
   omega
  ·intro h
   refine ⟨List.length_eq_zero_iff.2 (List.eq_nil_iff_forall_not_mem.2 fun t ht => ?_), List.length_eq_zero_iff.2 (List.eq_nil_iff_forall_not_mem.2 fun t ht => ?_)⟩
   ·have := (hmx t).1 ht; have := h t; omega
   ·have := (hmy t).1 ht; have := h t; omega
 have h2 : ∀ (p q c d : List Tm), (∀ t, t ∈ p ↔ cn t d < cn t c) -> (∀ t, t ∈ q ↔ cn t c < cn t d) -> gtL o p q = dcP (gtM o c d) := fun p q c d hp hq => by
  unfold gtL
  rw [Bool.eq_iff_iff, zdv]
  simp only [List.all_eq_true, List.any_eq_true]
  constructor
  ·intro h t ht
   obtain ⟨s, k1, k2⟩ := h t ((hq t).2 ht)
   exact ⟨s, (hp s).1 k1, k2⟩
  ·intro h t ht
   obtain ⟨s, k1, k2⟩ := h t ((hq t).1 ht)
   exact ⟨s, (hp s).2 k1, k2⟩
 unfold zh4 zd4
 rw [h1, h2 x y a b hmx hmy, h2 y x b a hmy hmx]
noncomputable def zfq : List Tm -> List Tm -> List Tm × List Tm
 | [], b => ([], b)
 | t :: ts, b => if (b.any fun x => same t x) = true then zfq ts (b.eraseIdx (b.findIdx fun x => same t x)) else (t :: (zfq ts b).1, (zfq ts b).2)
theorem zp0 {t : Tm} : ∀ {b : List Tm} {j : Nat} (h : j < b.length), cn t (b.eraseIdx j) + (if same b[j] t = true then 1 else 0) = cn t b
 | [], _, h => by simp at h
 | x :: b, 0, h => by simp only [List.eraseIdx_cons_zero, List.getElem_cons_zero]; rw [zb5]
 | x :: b, j + 1, h => by
  have := zp0 (t := t) (b := b) (j := j) (by simpa using h)
  simp only [List.eraseIdx_cons_succ, List.getElem_cons_succ]
  rw [zb5, zb5]; omega
theorem zk1 (t : Tm) : ∀ (a b : List Tm), cn t (zfq a b).1 = cn t a - cn t b /\ cn t (zfq a b).2 = cn t b - cn t a
 | [], b => by rw [zfq]; simp [zzf]
 | x :: xs, b => by
  rw [zfq]
  by_cases ha : (b.any fun y => same x y) = true
  ·rw [if_pos ha]
   have hlt : b.findIdx (fun y => same x y) < b.length := List.findIdx_lt_length.2 (List.any_eq_true.1 ha)
   have hp := List.findIdx_getElem (p := fun y : Tm => same x y) (xs := b) (w := hlt)
   have he := zp0 (t := t) hlt
   rw [<- zbe.1 hp] at he
   obtain ⟨k1, k2⟩ := zk1 t xs (b.eraseIdx (b.findIdx fun y => same x y))
   rw [k1, k2, zb5]
   split at he
   ·next e => rw [if_pos e]; omega
   ·next e => rw [if_neg e]; omega
  ·rw [if_neg ha]
   obtain ⟨k1, k2⟩ := zk1 t xs b
   rw [Bool.not_eq_true, List.any_eq_false] at ha
   have h0 : same x t = true -> cn t b = 0 := fun e => by
    obtain rfl := zbe.1 e
    refine Nat.eq_zero_of_not_pos fun h => ?_
    exact ha x (zt4.1 h) (zbe.2 rfl)
   simp only
   rw [zb5, zb5, k1, k2]
   split
   ·next e => have := h0 e; omega
   ·omega
theorem zk2 : ∀ (a b : List Tm), (zfq a b).1.Sublist a /\ (zfq a b).2.Sublist b
 | [], b => by rw [zfq]; exact ⟨List.Sublist.refl _, List.Sublist.refl _⟩
 | x :: xs, b => by
  rw [zfq]
  split
  ·obtain ⟨k1, k2⟩ := zk2 xs (b.eraseIdx (b.findIdx fun y => same x y))
   exact ⟨k1.cons x, k2.trans (List.eraseIdx_sublist ..)⟩
  ·obtain ⟨k1, k2⟩ := zk2 xs b
   exact ⟨k1.cons_cons x, k2⟩
theorem zs4 (o : Og) (a b : List Tm) : zh4 (decide ((zfq a b).1.length = 0) && decide ((zfq a b).2.length = 0)) (gtL o (zfq a b).1 (zfq a b).2) (gtL o (zfq a b).2 (zfq a b).1) = zd4 o a b := zlo o (fun t => (zk1 t a b).1) fun t => (zk1 t a b).2
theorem zsn (o : Og) (a b : List Tm) : zh4 (decide ((zll a b).length = 0) && decide ((zll b a).length = 0)) (gtL o (zll a b) (zll b a)) (gtL o (zll b a) (zll a b)) = zd4 o a b := zlo o (fun t => zv7 t a b) fun t => zv7 t b a
end Go.Proofs.YtaaniggpnljckaaGreat
namespace Go.Proofs.YtaaniggpnljckaaGreat
set_option linter.unusedSimpArgs false
set_option linter.unusedVariables false
set_option linter.unusedSectionVars false
set_option maxRecDepth 4000
open Go.RowKit Go.Lib
theorem zcl {p : Prop} (h : p) : Go.RowKit.Hid p := h
theorem zbu.erase {w : World} {R : Nat -> Prop} : ∀ {fl : List (List T)} {ys : List Tm} (i : Nat), zbu w R fl ys -> zbu w R (fl.eraseIdx i) (ys.eraseIdx i)
 | [], _, i, h => by rw [show _ = [] from h]; rfl
 | _ :: _, _, 0, h => by obtain ⟨t, ts, rfl, _, h2⟩ := h; exact h2
 | _ :: _, _, i + 1, h => by obtain ⟨t, ts, rfl, h1, h2⟩ := h; exact ⟨t, _, rfl, h1, zbu.erase i h2⟩
theorem zsj (w : World) (p : Nat) (v u : Value) (tp : TypeId) (h : w.heap[p]? = some (.cells #[v] tp (0, 0))) : (w.setCell ⟨p, 0, none⟩ u).heap[p]? = some (.cells #[u] tp (0, 0)) := one_setCell h
theorem zvm (rs : List Frw) (i : Nat) : (tvr rs).take (i * 2) ++ (tvr rs).drop ((i + 1) * 2) = tvr (rs.eraseIdx i) := by
 rw [qdh, qdm, <- zgf, List.eraseIdx_eq_take_drop_succ]
theorem qfc (x y : Tm) : FC Tryz.prog 39 [tmD y, .one (.ptr (tmC x))] [bD (same x y)] := by
 have H := zeh x y
 simp only [tmD, zaa x, zaa y] at H ⊢
 refine zan Tryz.call39 Tryz.func39 rfl (by kernel_rfl) (za2 (by kernel_rfl)) ?_
 simp -implicitDefEqProofs only [go_sem, Tryz.results39]
 refine callF (H) (by simp -implicitDefEqProofs only [go_sem]) ?_
 simp -implicitDefEqProofs only [go_sem]
set_option maxHeartbeats 4000000 in
set_option maxRecDepth 100000 in
theorem cmp1_k {R : Nat -> Prop} (w : World) (p : Nat) (tp : TypeId) (v : Value) (x : Tm) (ao : Option Addr) (l c : Nat) (rs : List Frw) (ys : List Tm) (fq : List Nat) (hl : ys.length <= 1048576) (hp : w.heap[p]? = some (.cells #[v] tp (0, 0))) (ho : zao w (.sl 2 (rs.map frT)) v fq)
  (hf : zbu w R (rs.map frT) ys) (hx : zai w R (tmS x.args) (.slice ao l c)) (hxl : x.name.length <= zds) (hR : ∀ y, R y -> y < w.heap.size /\ y ≠ p /\ y ∉ fq) (hpf : p ∉ fq) :
  Calls Tryz.prog 37 #[.agg #[.string ⟨x.name.toArray⟩, .slice ao l c], .pointer (some ⟨p, 0, none⟩)] w fun e w' => e = .returned (.bool (ys.any fun y => same x y)) /\ ∃ (v' : Value) (rs' : List Frw), w'.heap[p]? = some (.cells #[v'] tp (0, 0)) /\ zao w' (.sl 2 (rs'.map frT)) v' fq ∧
   zbu w' R (rs'.map frT) (if (ys.any fun y => same x y) = true then ys.eraseIdx (ys.findIdx fun y => same x y) else ys) /\ Bk (fun k => k < w.heap.size /\ k ≠ p /\ k ∉ fq) w w' := by
 have hpw : p < w.heap.size := (Array.getElem?_eq_some_iff.1 hp).1
 have HI := zei ys (fun y => same x y) 39 [.ptr (tmC x)] fun y _ => qfc x y
 obtain ⟨W1, hW1⟩ : ∃ W1, w.alloc (.cells #[.string ⟨x.name.toArray⟩, .slice ao l c] qed) = W1 := ⟨_, rfl⟩
 have hold1 : ∀ k, k < w.heap.size -> W1.heap[k]? = w.heap[k]? := fun k hk => by rw [<- hW1]; exact Below.heap_alloc w _ k hk
 have hnew1 : W1.heap[w.heap.size]? = some (.cells #[.string ⟨x.name.toArray⟩, .slice ao l c] qed (0, 0)) := by rw [<- hW1]; exact heap_alloc_new w _
 have hsz1 : w.heap.size < W1.heap.size := (Array.getElem?_eq_some_iff.1 hnew1).1
 have hfqlt := zao.lt _ _ _ ho
 have hB1 : Bk (fun k => k < w.heap.size) w W1 := by rw [<- hW1]; exact ⟨rfl, rfl, rfl, by simp, fun k hk => Below.heap_alloc w _ k hk⟩
 have ho1 : zao W1 (.sl 2 (rs.map frT)) v fq := zao.keep _ _ _ ho fun b hb => hold1 b (hfqlt b hb)
 have hf1 : zbu W1 R (rs.map frT) ys := hf.keep (fun b hb => hold1 b (hR b hb).1) fun _ q => q
 have hargs : zba W1 (· < W1.heap.size) [.one (tmS ys), .one (.fn 39 [.ptr (tmC x)])] [v, .func (.func 39) #[] #[.pointer (some ⟨w.heap.size, 0, none⟩)]] := by
  refine ⟨_, _, rfl, zai.deepL (A := (· ∈ fq)) (A' := R) (fun b hb => by have := hfqlt b hb; omega) (fun b hb => by have := (hR b hb).1; omega) (zao.rep _ _ _ ho1 fun b hb => hb) hf1, _, _, rfl, ?_, rfl⟩
  show zai _ _ (.fn _ _) _
  unfold zai
  refine ⟨_, rfl, ?_⟩
  unfold zad
  refine ⟨_, [], rfl, ?_, by unfold zad; rfl⟩
  unfold zai
  refine ⟨_, _, rfl, hsz1, ?_⟩
  rw [zaa x]
  simp only [zaz]
  refine ⟨⟨_, by simp only [World.cell?, hnew1]; rfl, by unfold zai; exact ⟨rfl, hxl⟩⟩, ⟨_, by simp only [World.cell?, hnew1]; rfl, zai.keep (fun b hb => hold1 b (hR b hb).1) (fun b hb => by have := (hR b hb).1; omega) _ _ hx⟩, trivial⟩
 have hcall := HI.use hargs
 have hq1 : W1.cell? ⟨p, 0, none⟩ = some v := by simp only [World.cell?, hold1 p hpw, hp]; rfl
 have hz1 : W1.frozen? ⟨p, 0, none⟩ = false := by simp only [World.frozen?, hold1 p hpw, hp]; rfl
 have hlen : (rs.map frT).length = ys.length := hf.len
 by_cases hany : (ys.any fun y => same x y) = true
 ·have hlt : ys.findIdx (fun y => same x y) < ys.length := List.findIdx_lt_length.2 (List.any_eq_true.1 hany)
  have hidx : zmr ys (fun y => same x y) = (ys.findIdx (fun y => same x y) : Nat) := by unfold zmr; rw [if_pos hany]
  rw [hidx] at hcall
  rw [hany]
  simp only [if_true]
  generalize ys.findIdx (fun y => same x y) = i at hlt hcall ⊢
  rw [List.length_map] at hlen
  obtain ⟨bo, cap, hv, q1, q2, q3⟩ := qfw.1 ho
  obtain ⟨b, cells, ty, rfl, rfl, hb, hs, hwf, hxs⟩ := q3.resolve_left fun h => by
   have := h.2.2.1
   rw [this] at hlen; simp at hlen; omega
  have hbw : b < w.heap.size := (Array.getElem?_eq_some_iff.1 hb).1
  have hwr : IntKind.i64.wrap ((i : Int) + 1) = (i : Int) + 1 := by rw [IntKind.wrap_i64]; omega
  have hpos : (0 : Int) <= (i : Int) := by omega
  subst hv
  have HC := zcl hcall
  have HW := zcl hW1
  have H1 := zcl hold1
  have HB := zcl hB1
  have HF := zcl hf1
  have HO := zcl (And.intro hb (And.intro hs (And.intro hwf hxs)))
  have HR := zcl hR
  have HP := zcl hp
  have HL := zcl (And.intro hlen (And.intro q1 (And.intro q2 (And.intro hl hlt))))
  have HS := zcl (And.intro hpw (And.intro hbw hsz1))
  clear hcall hold1 hB1 hf1 hb hs hwf hxs hR hp hlen q1 q2 hl hlt hpw hbw hsz1 hnew1 ho1 hargs ho hf hx hxl hfqlt q3 hany HI hidx
  go_enter Tryz.func37, Tryz.ntmps37
  go_wp2_with fail
  refine HC.out.mono ?_
  rintro e w2 ⟨us, fp, rfl, o1, -, -, hb2⟩
  obtain ⟨v0, _, f1, f2, rfl, rfl, hv0, rfl, rfl⟩ := o1
  have hv0 : zao w2 (.int .i64 i) v0 f1 := hv0
  unfold zao at hv0
  obtain ⟨rfl, -, -, rfl⟩ := hv0
  rw [show zbk [Value.int IntKind.i64 (i : Int)] = Value.int IntKind.i64 i from rfl]
  have hold2 : ∀ k, k < w.heap.size -> w2.heap[k]? = w.heap[k]? := fun k hk => by
   rw [hb2.block k (by have := HS.out.2.2; omega)]; exact H1.out k hk
  have hp2 := (hold2 p HS.out.1).trans HP.out
  have hb3 := (hold2 b HS.out.2.1).trans HO.out.1
  have hq2 : w2.cell? ⟨p, 0, none⟩ = some (.slice (some ⟨b, 0, none⟩) rs.length cap) := by simp only [World.cell?, hp2]; rfl
  have hz2 : w2.frozen? ⟨p, 0, none⟩ = false := by simp only [World.frozen?, hp2]; rfl
  have hdel := delTm w2 b rs.length cap i cells ty (tvr rs) hb3 HO.out.2.1 HO.out.2.2.2 (by have := HL.out; omega) HL.out.2.1 HL.out.2.2.1 (by have := HL.out; omega) (qfj rs)
  have hpb : p ≠ b := fun e => hpf (by rw [e]; exact List.mem_singleton.2 rfl)
  have hs2 := hb2.size
  have HD := zcl hdel
  have HH := zcl hold2
  have HB2 := zcl hb2
  have HPB := zcl hpb
  have HP2 := zcl (And.intro hp2 hs2)
  clear hdel hold2 hb2 hpb hp2 hb3 hs2 hpf
  go_wp2_with fail
  refine HD.out.mono ?_
  rintro e w3 ⟨rfl, A, a1, a2, a3, a4⟩
  have hp3 : w3.heap[p]? = some (.cells #[.slice (some ⟨b, 0, none⟩) rs.length cap] tp (0, 0)) := (a4.block p ⟨by have := HP2.out.2; have := HS.out; omega, HPB.out⟩).trans HP2.out.1
  have hq3 : w3.cell? ⟨p, 0, none⟩ = some (.slice (some ⟨b, 0, none⟩) rs.length cap) := by simp only [World.cell?, hp3]; rfl
  have hz3 : w3.frozen? ⟨p, 0, none⟩ = false := by simp only [World.frozen?, hp3]; rfl
  have HA := zcl (And.intro a1 (And.intro a2 (And.intro a3 a4)))
  have HP3 := zcl hp3
  clear a1 a2 a3 a4 hp3
  go_wp2_with fail
  go_ret
  refine ⟨rfl, .slice (some ⟨b, 0, none⟩) (rs.length - 1) cap, rs.eraseIdx i, zsj w3 p _ _ tp HP3.out, ?_, ?_, ?_⟩
  ·have hbk : (w3.setCell ⟨p, 0, none⟩ (.slice (some ⟨b, 0, none⟩) (rs.length - 1) cap)).heap[b]? = some (.cells A ty (0, 0)) := by
    rw [Below.heap_setCell _ _ _ _ (fun e => HPB.out e.symm)]; exact HA.out.1
   have hle : (rs.eraseIdx i).length = rs.length - 1 := by rw [List.length_eraseIdx, if_pos (by have := HL.out; omega)]
   refine qfw.2 ⟨_, cap, by rw [hle], by rw [hle]; have := HL.out; omega, HL.out.2.2.1, Or.inr ⟨b, A, ty, rfl, rfl, hbk, HA.out.2.1, fun r hr => HO.out.2.2.1 r (List.mem_of_mem_eraseIdx hr), ?_⟩⟩
   rw [hle, HA.out.2.2.1, zvm]
  ·rw [show (rs.eraseIdx i).map frT = (rs.map frT).eraseIdx i by rw [List.eraseIdx_eq_take_drop_succ, List.eraseIdx_eq_take_drop_succ, List.map_append, List.map_take, List.map_drop]]
   refine zbu.keep (fun y hy => ?_) (fun _ q => q) (zbu.erase i HF.out)
   obtain ⟨r1, r2, r3⟩ := HR.out y hy
   have r3 : y ≠ b := fun e => r3 (List.mem_singleton.2 e)
   rw [Below.heap_setCell _ _ _ _ r2, HA.out.2.2.2.block y ⟨by have := HP2.out.2; have := HS.out; omega, r3⟩, HB2.out.block y (by have := HS.out; omega)]
  ·have h1 := HB.out
   have h2 := HB2.out
   have h4 := HA.out.2.2.2
   refine ⟨h4.os.trans (h2.os.trans h1.os), h4.tape.trans (h2.tape.trans h1.tape), h4.output.trans (h2.output.trans h1.output), Nat.le_trans h1.size (Nat.le_trans h2.size (Nat.le_trans h4.size (by simp [World.setCell]))), fun k hk => ?_⟩
   obtain ⟨k1, k2, k3⟩ := hk
   have k3 : k ≠ b := fun e => k3 (List.mem_singleton.2 e)
   rw [Below.heap_setCell _ _ _ _ k2, h4.block k ⟨by have := HP2.out.2; have := HS.out; omega, k3⟩]
   exact HH.out k k1
 ·have hno : zmr ys (fun y => same x y) = -1 := by
   unfold zmr; rw [if_neg hany]
  rw [hno] at hcall
  rw [Bool.not_eq_true] at hany
  rw [hany]
  simp only [Bool.false_eq_true, if_false]
  have HC := zcl hcall
  have HB := zcl hB1
  have HO := zcl ho1
  have HF := zcl hf1
  have HR := zcl hR
  have HP := zcl hp
  have H1 := zcl hold1
  have HS := zcl (And.intro hpw (And.intro hsz1 hfqlt))
  clear hcall hold1 hB1 hf1 hR hp hlen hl hpw hsz1 hnew1 ho1 hargs ho hf hx hxl hfqlt hany HI hno hpf
  go_enter Tryz.func37, Tryz.ntmps37
  go_wp2_with fail
  refine HC.out.mono ?_
  rintro e w2 ⟨us, fp, rfl, o1, -, -, hb2⟩
  obtain ⟨v0, _, f1, f2, rfl, rfl, hv0, rfl, rfl⟩ := o1
  have hv0 : zao w2 (.int .i64 (-1)) v0 f1 := hv0
  unfold zao at hv0
  obtain ⟨rfl, -, -, rfl⟩ := hv0
  rw [show zbk [Value.int IntKind.i64 (-1)] = Value.int IntKind.i64 (-1) from rfl]
  have HB2 := zcl hb2
  clear hb2
  go_wp2_with fail
  go_ret
  have hold2 : ∀ k, k < w.heap.size -> w2.heap[k]? = w.heap[k]? := fun k hk => by
   rw [HB2.out.block k (by have := HS.out.2.1; omega)]; exact H1.out k hk
  refine ⟨rfl, v, rs, (hold2 p HS.out.1).trans HP.out, zao.keep _ _ _ HO.out fun b hb => HB2.out.block b (by have := HS.out.2.2 b hb; have := HS.out.2.1; omega), zbu.keep (fun y hy => HB2.out.block y (by have := (HR.out y hy).1; have := HS.out.2.1; omega)) (fun _ q => q) HF.out, ?_⟩
  have h1 := HB.out
  have h2 := HB2.out
  exact ⟨h2.os.trans h1.os, h2.tape.trans h1.tape, h2.output.trans h1.output, Nat.le_trans h1.size h2.size, fun k hk => hold2 k hk.1⟩
end Go.Proofs.YtaaniggpnljckaaGreat
namespace Go.Proofs.YtaaniggpnljckaaGreat
set_option linter.unusedSimpArgs false
set_option linter.unusedVariables false
set_option linter.unusedSectionVars false
set_option maxRecDepth 4000
open Go.RowKit
section
variable {P : Program} {N : Nat} {ops : Array Oper} {i : Nat} {σ : St} {J : Hj} {K : St -> Hj -> Prop}
theorem zd2.callG {β : Type} (tv : β -> T) {d : Nat} {x : Operand} {asx : Array Operand} {ts : Array TypeId} {ty : TypeId} {ps : String} {af : Array Edge} (Kr : β -> Hj -> Prop) (hl : ops[i]? = some ⟨some d, .call ⟨.value x, asx, ts⟩, ty, ps, af, none⟩) (hd : d < N)
  (h : ∀ n1 g a w, Rel n1 N σ g a w -> LtK n1 w -> OkJ J n1 g.A0 w -> ∃ f vs, (execOp a.eval ⟨some d, .call ⟨.value x, asx, ts⟩, ty, ps, af, none⟩).run P w = .ok (.enter f vs) w /\ Calls P f vs w fun e w' => ∃ b v J', e = .returned v /\ zai w' (fun _ => False) (tv b) v /\ Kr b J' /\ EndJ J w J' w')
  (k : ∀ b J', Kr b J' -> zd2 P N ops (i + 1) (σ.put (some d) (.one (.t (tv b)))) J' K) : zd2 P N ops i σ J K := fun Q n0 w0 A0 g a w hK h1 h2 h3 => by
 have hlt : i < ops.size := (Array.getElem?_eq_some_iff.1 hl).1
 obtain ⟨n1, k1, k2, k4, k5⟩ := h1.rel
 obtain ⟨f, vs, hex, hc⟩ := h n1 g a w k4 k5 k2
 rw [show List.range' i (ops.size - i) = i :: List.range' (i + 1) (ops.size - (i + 1)) by rw [show ops.size - i = (ops.size - (i + 1)) + 1 by omega]; rfl, wpOps_cons]
 unfold wpOp
 simp only [hl]
 rw [if_pos (by simp [Region.wanted])]
 refine Or.inl ?_
 unfold Oper.wp
 rw [hex, Oper.upon_enter]
 refine hc.mono ?_
 rintro e w' ⟨b, v, J', rfl, hv, hKr, hE⟩
 have hsame : ∀ y, y < w.heap.size -> ¬ J.F y -> w'.heap[y]? = w.heap[y]? := fun y a b => hE.bk.block y ⟨a, b⟩
 have hnF : ∀ y, y < w.heap.size -> ¬ J.F y -> ¬ J'.F y := fun y a b c => ((hE.F y c).1).elim b fun z => by omega
 have hR : Rel (fun y => n1 y \/ J'.F y) N σ { g with A0 := fun y => g.A0 y /\ ¬ J'.F y } a w' := by
  refine k4.turn (fun b hf => ?_) hE.bk.size (fun b hb => ?_) (fun k hk => ?_) (fun e ho b hm => ?_)
  ·have h5 : ¬ J.F b := fun hF => (k2.F b hF).2 hf.2.2.2
   exact ⟨⟨hf.2.2.2, hnF b hf.2.2.1 h5⟩, hsame b hf.2.2.1 h5⟩
  ·have h5 := k4.anew b fun q => hb (Or.inl q)
   exact ⟨⟨h5.1, fun q => hb (Or.inr q)⟩, h5.2⟩
  ·have h5 : ¬ J.F (g.β k) := fun hF => k4.base k hk (k2.F _ hF).1
   exact ⟨fun q => q.elim (k4.base k hk) (hnF _ (k4.lt hk) h5), hsame _ (k4.lt hk) h5⟩
  ·have h5 : ¬ J.F b := fun hF => k4.etop e ho b hm (k2.F _ hF).1
   have h6 := k4.elt ho hm
   exact ⟨fun q => q.elim (k4.etop e ho b hm) (hnF b h6 h5), ⟨(k4.ebase e ho b hm).1, hnF b h6 h5⟩, hsame b h6 h5⟩
 have hR' := hR.put (some d) (x := .one (.t (tv b))) (v := v) (zai.keep (fun _ h => h.elim) (fun _ h => h.elim) _ _ hv) (fun j hj => by cases hj; exact hd)
 have hn0 : Bk n0 w w' := ⟨hE.bk.os, hE.bk.tape, hE.bk.output, hE.bk.size, fun y hy => hsame y (h2 y hy) fun hF => h1.nb y hF hy⟩
 refine k b J' hKr Q n0 w0 A0 { g with A0 := fun y => g.A0 y /\ ¬ J'.F y } _ w' hK ⟨⟨fun y => n1 y \/ J'.F y, fun y hy => Or.inl (k1 y hy), ⟨hE.good, fun y hy => ⟨Or.inr hy, fun q => q.2 hy⟩, fun y hy => Or.inl (k2.R y (hE.R y hy)), hE.I⟩, hR', fun y hy => hy.elim (fun q => Nat.lt_of_lt_of_le (k5 y q) hE.bk.size) fun q => (hE.F y q).2⟩, fun y hy hn => ?_, fun y hy => h1.sub y hy.1, h1.r0, h1.new⟩ (h2.mono hE.bk.size) (h3.trans hn0)
 rcases (hE.F y hy).1 with q | q
 ·exact h1.nb y q hn
 ·have := h2 y hn; omega
end
section
variable {P : Program}
def JCG {β : Type} (tv : β -> T) (P : Program) (f : FuncId) (args : List D) (J : Hj) (K : β -> Hj -> Prop) : Prop := za8 P f /\ ∀ (w : World) (vs : List Value) (A : Nat -> Prop), GoodJ J -> J.I w -> (∀ x, J.F x -> x < w.heap.size /\ ¬ A x) -> (∀ x, J.R x -> x < w.heap.size) -> zba w (fun b => b < w.heap.size /\ A b) args vs →
 Calls P f ⟨vs⟩ w fun e w' => ∃ b v J', e = .returned v /\ zai w' (fun _ => False) (tv b) v /\ K b J' /\ EndJ J w J' w'
def PJG {β : Type} (tv : β -> T) (P : Program) (rs : List ResultVar) (K : β -> Hj -> Prop) (e : Exit) (σ : St) (J : Hj) : Prop := match e with
 | .normal => ∃ b, zam (zbh P σ rs) (fun vs => RV σ vs [.one (tv b)]) /\ K b J
 | .ret => ∃ b, zam (zbh P σ rs) (fun vs => RV σ vs [.one (tv b)]) /\ K b J
 | _ => False
theorem JCG_of {β : Type} (tv : β -> T) (htv : ∀ b w A v, zai w A (tv b) v -> zai w (fun _ => False) (tv b) v) {f : FuncId} {fn : Func} {c : Code} {args : List D} {J : Hj} {K : β -> Hj -> Prop} (hc : za8 P f) (hf : P.funcs[f]? = some fn) (hb : fn.body = some c) (hN : (rd args).length <= fn.ntmps) (hKR : ∀ b J', K b J' -> ∀ x, J'.R x -> J.R x)
  (h : zbw P fn.ntmps c (zci (rd args)) J (PJG tv P fn.results.toList K)) : JCG tv P f args J K := by
 refine ⟨hc, fun w vs A hJ hI hF hRd hv => ?_⟩
 refine calls_of_wp hf hb ?_
 have hg : ∀ (ds : List D) (vs : List Value), zba w (fun b => b < w.heap.size /\ A b) ds vs -> zas w (fun b => b < w.heap.size /\ A b /\ b ∉ ([] : List Nat)) (rd ds) vs [] [] := by
  intro ds
  induction ds with
  | nil => intro vs h; exact ⟨h, rfl, rfl⟩
  | cons d ds ih =>
   rintro vs ⟨v, vs', rfl, h1, h2⟩
   refine ⟨v, vs', rfl, ?_, ih _ h2⟩
   cases d with
   | one t => exact zai.keep (fun _ _ => rfl) (fun b hb => ⟨hb.1, hb.2, by simp⟩) t _ h1
   | agg ts => obtain ⟨a, h0, h1⟩ := h1; exact ⟨a, h0, zad.keep (fun _ _ => rfl) (fun b hb => ⟨hb.1, hb.2, by simp⟩) ts a h1⟩
 obtain ⟨g, hgg, hR⟩ := Rel.start (A := A) (A0 := fun b => A b \/ w.heap.size <= b) (R0 := RP.of fun _ => True) (N := fn.ntmps) (hg _ _ hv) List.nodup_nil (zc4 args) hN (fun _ hb => Or.inl hb) (fun b hb => by simp at hb) (fun b hb => ⟨Or.inr (by
  refine Nat.le_of_not_lt fun hlt => hb ⟨hlt, by simp⟩), trivial⟩)
 have e1 : g.A0 = fun b => A b \/ w.heap.size <= b := (Prod.mk.inj hgg).1
 have e2 : g.R0 = RP.of fun _ => True := (Prod.mk.inj hgg).2
 refine wp_mono (h (fun x => x < w.heap.size /\ ¬ J.F x) w (fun b => True, RP.of fun _ => True) g _ w ⟨⟨_, fun x hx => ⟨hx.1, by simp⟩, ⟨hJ, fun x hx => ⟨⟨(hF x hx).1, by simp⟩, fun q => ?_⟩, fun x hx => ⟨hRd x hx, by simp⟩, hI⟩, hR, fun k hk => hk.1⟩, fun x hx q => q.2 hx, fun _ _ => trivial, e2, fun _ _ => ⟨trivial, trivial⟩⟩ (fun k hk => hk.1) (Bk.refl _ _)) fun e a' w' hq => ?_
 ·rw [e1] at q
  rcases q with q | q
  ·exact (hF x hx).2 q
  ·have := (hF x hx).1; omega
 obtain ⟨σ', J', g', h1, h2, h3, h4⟩ := hq
 obtain ⟨n1, m1, m2, m3, m4⟩ := h2.rel
 have key : (∃ b, zam (zbh P σ' fn.results.toList) (fun vs => RV σ' vs [.one (tv b)]) /\ K b J') -> ∃ v, (results fn a'.tmps).run P w' = .ok v w' /\ ∃ b u J', Ending.returned v = .returned u /\ zai w' (fun _ => False) (tv b) u /\ K b J' /\ EndJ J w J' w' := by
  rintro ⟨b, hk, hKb⟩
  obtain ⟨vs, hvs, hk⟩ := zal hk
  obtain ⟨us, r1, r2⟩ := zbs m3 fn hvs
  obtain ⟨u, us', rfl, hu, hus⟩ := RV.rep hk r2
  obtain rfl := hus
  have hu : zai w' (Fix σ' g' w') (tv b) u := hu
  refine ⟨_, r1, b, u, J', rfl, htv b _ _ _ hu, hKb, m2.good, m2.I, fun x hx => ⟨?_, m4 x (m2.F x hx).1⟩, fun x hx => ?_, h4⟩
  ·by_cases hlt : x < w.heap.size
   ·refine Or.inl (Classical.byContradiction fun hn => h2.nb x hx ⟨hlt, hn⟩)
   ·exact Or.inr (by omega)
  ·exact hKR b J' hKb x hx
 cases e with
 | normal => exact ⟨m3.defers, key h1⟩
 | ret => exact ⟨m3.defers, key h1⟩
 | exit _ => exact h1.elim
 | goto _ => exact h1.elim
 | panic _ => exact h1.elim
 | outgrown => exact h1.elim
theorem tv_int (n : Int) (w : World) (A : Nat -> Prop) (v : Value) (h : zai w A (.int .i64 n) v) : zai w (fun _ => False) (.int .i64 n) v := by unfold zai at h ⊢; exact h
end
end Go.Proofs.YtaaniggpnljckaaGreat
namespace Go.Proofs.YtaaniggpnljckaaGreat
set_option linter.unusedSimpArgs false
set_option linter.unusedVariables false
set_option linter.unusedSectionVars false
set_option maxRecDepth 4000
open Go.RowKit
theorem GCF_of {P : Program} {f : FuncId} {fn : Func} {c : Code} {args : List (Bool × D)} {res : List D} {J : Hj} {KJ : Hj -> Prop} (hJg : GoodJ J) (hKR : ∀ J', KJ J' -> (∀ x, J'.R x -> J.R x) /\ ∀ x, J.F x -> J'.F x) (hf : P.funcs[f]? = some fn) (hb : fn.body = some c) (hN : args.length <= fn.ntmps) (hs : zar args)
  (h : zbw P fn.ntmps c (zci args) J fun e σ' J' => PSJ P fn.results.toList res e σ' J' /\ KJ J') (w : World) (vs : List Value) (fp tp : List Nat) (hv : zas w (fun b => b < w.heap.size /\ ¬ J.F b /\ b ∉ fp) args vs fp tp) (hn : fp.Nodup) (hI : J.I w) (hF : ∀ x, J.F x -> x < w.heap.size /\ x ∉ fp) (hR0 : ∀ x, J.R x -> x < w.heap.size /\ x ∉ fp) :
  Calls P f ⟨vs⟩ w fun e w' => ∃ us fp' tp' J', e = .returned (zbk us) /\ GDs w' res us fp' tp' /\ fp'.Nodup /\ (∀ b ∈ fp', b ∈ fp \/ w.heap.size <= b) /\ KJ J' /\ J'.I w' /\ (∀ b ∈ fp', ¬ J'.F b) /\ Bk (fun k => k < w.heap.size /\ k ∉ fp /\ ¬ J.F k) w w' := by
 refine calls_of_wp hf hb ?_
 obtain ⟨g, hg, hR⟩ := Rel.start (A := fun b => ¬ J.F b) (A0 := fun b => ¬ J.F b) (R0 := RP.of fun b => b ∈ fp \/ w.heap.size <= b \/ J.F b) (N := fn.ntmps) hv hn hs hN (fun _ hb => hb) (fun b hb => ⟨fun q => (hF b q).2 hb, Or.inl hb⟩) (fun b hb => ⟨fun q => hb ⟨(hF b q).1, (hF b q).2⟩, by
  by_cases hlt : b < w.heap.size
  ·exact Or.inl (Classical.byContradiction fun h => hb ⟨hlt, h⟩)
  ·exact Or.inr (Or.inl (by omega))⟩)
 have e1 : g.A0 = fun b => ¬ J.F b := (Prod.mk.inj hg).1
 have e2 : g.R0 = RP.of fun b => b ∈ fp \/ w.heap.size <= b \/ J.F b := (Prod.mk.inj hg).2
 refine wp_mono (h (fun b => b < w.heap.size /\ b ∉ fp /\ ¬ J.F b) w (fun _ => True, RP.of fun b => b ∈ fp \/ w.heap.size <= b \/ J.F b) g _ w ⟨⟨_, fun _ q => ⟨q.1, q.2.1⟩, ⟨hJg, fun x q => ⟨hF x q, by rw [e1]; exact fun z => z q⟩, hR0, hI⟩, hR, fun k q => q.1⟩, fun _ q z => z.2.2 q, fun _ _ => trivial, e2, fun b hb => ⟨trivial, by
  by_cases hlt : b < w.heap.size
  ·by_cases hfp : b ∈ fp
   ·exact Or.inl hfp
   ·exact Or.inr (Or.inr (Classical.byContradiction fun h => hb ⟨hlt, hfp, h⟩))
  ·exact Or.inr (Or.inl (by omega))⟩⟩ (fun k q => q.1) (Bk.refl _ _)) fun e a' w' hq => ?_
 obtain ⟨σ', J', g', h1, h2, h3, h4⟩ := hq
 obtain ⟨n1, m1, m2, m3, m4⟩ := h2.rel
 have key : (zam (zbh P σ' fn.results.toList) fun vs => zvq σ' [] vs res) -> KJ J' -> ∃ v, (results fn a'.tmps).run P w' = .ok v w' /\ ∃ us fp' tp' J', Ending.returned v = .returned (zbk us) /\ GDs w' res us fp' tp' /\ fp'.Nodup /\ (∀ b ∈ fp', b ∈ fp \/ w.heap.size <= b) /\ KJ J' /\ J'.I w' /\ (∀ b ∈ fp', ¬ J'.F b) /\ Bk (fun k => k < w.heap.size /\ k ∉ fp /\ ¬ J.F k) w w' := fun hk hKJ => by
  obtain ⟨vs, hvs, hk⟩ := zal hk
  obtain ⟨us, r1, r2⟩ := zbs m3 fn hvs
  obtain ⟨used, fp', tp', o1, o2⟩ := zdm m3 hk r2
  have hnF : ∀ b ∈ fp', ¬ J'.F b := fun b hb q => by
   obtain ⟨e, ho, _, l, m⟩ := o2.2.1 b hb
   exact m3.etop e l b m (m2.F b q).1
  refine ⟨_, r1, us, fp', tp', J', rfl, o1, o2.1, fun b hb => ?_, hKJ, m2.I, hnF, h4⟩
  obtain ⟨e, _, _, l, m⟩ := o2.2.1 b hb
  have := (m3.ebase e l b m).2
  rw [h2.r0] at this
  rcases this with q | q | q
  ·exact Or.inl q
  ·exact Or.inr q
  ·exact absurd ((hKR J' hKJ).2 b q) (hnF b hb)
 cases e with
 | normal => exact ⟨m3.defers, key h1.1 h1.2⟩
 | ret => exact ⟨m3.defers, key h1.1 h1.2⟩
 | exit _ => exact h1.1.elim
 | goto _ => exact h1.1.elim
 | panic _ => exact h1.1.elim
 | outgrown => exact h1.1.elim
noncomputable def erS (ys : List Tm) (t : Tm) : List Tm := if (ys.any fun y => same t y) = true then ys.eraseIdx (ys.findIdx fun y => same t y) else ys
theorem zyy (ys : List Tm) (t : Tm) : (erS ys t).length <= ys.length := by
 unfold erS
 split
 ·exact List.length_eraseIdx_le ..
 ·exact Nat.le_refl _
def JB (R : Nat -> Prop) (p : Nat) (tp : TypeId) (fq : List Nat) (ra : List Frw) (ta ys : List Tm) : Hj :=
 ⟨fun x => x = p \/ x ∈ fq, R, fun w => (∃ (v : Value) (rs : List Frw), w.heap[p]? = some (.cells #[v] tp (0, 0)) /\ zao w (.sl 2 (rs.map frT)) v fq /\ zbu w R (rs.map frT) ys) /\ zbu w R (ra.map frT) ta⟩
section
variable {R : Nat -> Prop} {p : Nat} {tp : TypeId} {fq : List Nat} {ra : List Frw} {ta ys : List Tm}
theorem zvn (hR : ∀ y, R y -> y ≠ p /\ y ∉ fq) : GoodJ (JB R p tp fq ra ta ys) := by
 refine ⟨fun x hx => ?_, fun w w' hs hI => ?_⟩
 ·rintro (q | q)
  ·exact (hR x hx).1 q
  ·exact (hR x hx).2 q
 ·obtain ⟨⟨v, rs, h1, h2, h3⟩, h4⟩ := hI
  exact ⟨⟨v, rs, (hs p (Or.inl (Or.inl rfl))).trans h1, zao.keep _ _ _ h2 fun b hb => hs b (Or.inl (Or.inr hb)), h3.keep (fun b hb => hs b (Or.inr hb)) fun _ q => q⟩, h4.keep (fun b hb => hs b (Or.inr hb)) fun _ q => q⟩
theorem zd2.cmp1 {N : Nat} {ops : Array Oper} {i : Nat} {σ : St} {K : St -> Hj -> Prop} (hR : ∀ y, R y -> y ≠ p /\ y ∉ fq) (hpf : p ∉ fq) (hyl : ys.length <= 1048576) {d : Nat} {q : Operand} {asx : Array Operand} {ts : Array TypeId} {ty : TypeId} {ps : String} {af : Array Edge} (k : Nat) (hk : k < ra.length) (hk2 : k < ta.length)
  (hl : ops[i]? = some ⟨some d, .call ⟨.value q, asx, ts⟩, ty, ps, af, none⟩) (hd : d < N) (hq : σ.get Tryz.prog 0 q = .one (.t (.cl 37 [.pointer (some ⟨p, 0, none⟩)])))
  (ha : σ.gets Tryz.prog asx ts = [.agg [.t (.str ra[k].1), .t (.vs ra[k].2.1 ra[k].2.2.1 ra[k].2.2.2)]])
  (kk : zd2 Tryz.prog N ops (i + 1) (σ.put (some d) (.one (.t (.bool (ys.any fun y => same ta[k] y))))) (JB R p tp fq ra ta (erS ys ta[k])) K) : zd2 Tryz.prog N ops i σ (JB R p tp fq ra ta ys) K := by
 refine zd2.callG (fun b : Bool => T.bool b) (fun b J' => b = (ys.any fun y => same ta[k] y) /\ J' = JB R p tp fq ra ta (erS ys ta[k])) hl hd (fun n1 g a w hRel hn hJ => ?_) fun b J' h => by obtain ⟨rfl, rfl⟩ := h; exact kk
 obtain ⟨us, h1, h2⟩ := zyj (P := Tryz.prog) hRel (o := ⟨some d, .call ⟨.value q, asx, ts⟩, ty, ps, af, none⟩) rfl hq Tryz.call37
 rw [ha] at h2
 obtain ⟨u, _, rfl, hu, rfl⟩ := h2
 obtain ⟨vs, rfl, v1, _, rfl, c1, v2, _, rfl, c2, rfl⟩ := hu
 have c1 : zai w (Fix σ g w) (.str ra[k].1) v1 := c1
 have c2 : zai w (Fix σ g w) (.vs ra[k].2.1 ra[k].2.2.1 ra[k].2.2.2) v2 := c2
 unfold zai at c1 c2
 obtain ⟨rfl, hlen⟩ := c1
 subst c2
 obtain ⟨⟨v, rs, e1, e2, e3⟩, e4⟩ := hJ.I
 have hft := e4.at k (by simpa using hk) hk2
 obtain ⟨ao, l, c, f1, f2⟩ := hft
 rw [List.getElem_map, znt] at f1
 simp only [List.cons.injEq, T.str.injEq, T.vs.injEq, and_true] at f1
 obtain ⟨g1, g2, g3, g4⟩ := f1
 rw [g1] at hlen
 have hRw : ∀ y, R y -> y < w.heap.size /\ y ≠ p /\ y ∉ fq := fun y hy => ⟨hn y (hJ.R y hy), (hR y hy).1, (hR y hy).2⟩
 have hfqlt := zao.lt _ _ _ e2
 have hplt : p < w.heap.size := (Array.getElem?_eq_some_iff.1 e1).1
 have hcall := cmp1_k w p tp v ta[k] ao l c rs ys fq hyl e1 e2 e3 f2 hlen hRw hpf
 rw [<- g1, <- g2, <- g3, <- g4] at hcall
 refine ⟨_, _, h1, hcall.mono ?_⟩
 rintro e w' ⟨rfl, v', rs', q1, q2, q3, q4⟩
 refine ⟨_, _, _, rfl, by unfold zai; rfl, ⟨rfl, rfl⟩, zvn hR, ⟨⟨v', rs', q1, q2, q3⟩, e4.keep (fun b hb => q4.block b (hRw b hb)) fun _ q => q⟩, fun x hx => ⟨Or.inl hx, ?_⟩, fun _ q => q, q4.os, q4.tape, q4.output, q4.size, fun x hx => q4.block x ⟨hx.1, fun e => hx.2 (Or.inl e), fun e => hx.2 (Or.inr e)⟩⟩
 rcases hx with rfl | hx
 ·exact Nat.lt_of_lt_of_le hplt q4.size
 ·exact Nat.lt_of_lt_of_le (hfqlt x hx) q4.size
abbrev clC (p : Nat) : T := .cl 37 [.pointer (some ⟨p, 0, none⟩)]
theorem fr_at (ra : List Frw) {k : Nat} (h : k < ra.length) : (ra.map frT).getD k [] = [.str ra[k].1, .vs ra[k].2.1 ra[k].2.2.1 ra[k].2.2.2] := zaf frT ra k h
set_option maxHeartbeats 2000000 in
theorem indexJ (hR : ∀ y, R y -> y ≠ p /\ y ∉ fq) (hpf : p ∉ fq) (hyl : ys.length <= 1048576) (hal : ra.length = ta.length) (ht : ta.length <= 1048576) :
  JCG (fun n : Int => T.int .i64 n) Tryz.prog 38 [.one (.sl 2 (ra.map frT)), .one (clC p)] (JB R p tp fq ra ta ys)
   (fun n J' => (n = -1 /\ (∀ t ∈ ta, (ys.any fun y => same t y) = false) /\ J' = JB R p tp fq ra ta ys) \/ ∃ (k : Nat) (h : k < ta.length), n = k /\ (∀ t ∈ ta.take k, (ys.any fun y => same t y) = false) /\ (ys.any fun y => same ta[k] y) = true /\ J' = JB R p tp fq ra ta (erS ys ta[k])) := by
 refine JCG_of _ (fun n w A v h => tv_int n w A v h) Tryz.call38 Tryz.func38 rfl (za2 (by kernel_rfl)) ?_ ?_
 ·rintro n J' (⟨_, _, rfl⟩ | ⟨_, _, _, _, _, rfl⟩) x hx <;> exact hx
 refine zbw.cut 0 rfl (by kernel_rfl) ?_
 simp -implicitDefEqProofs only [go_sem, Tryz.results38]
 refine zbw.seq ?_
 refine zbw.cut 0 rfl (by kernel_rfl) ?_
 simp -implicitDefEqProofs only [go_sem]
 refine zbw.block ?_
 refine zbw.loop (fun k : Nat => hd [(0, vT (.sl 2 (ra.map frT))), (1, vT (clC p)), (7, vI ra.length), (8, vI k)] [] []) (fun _ => JB R p tp fq ra ta ys)
  (fun k => k <= ta.length /\ ∀ t ∈ ta.take k, (ys.any fun y => same t y) = false) (fun k => ta.length - k) 0 (zab ?_) rfl ⟨Nat.zero_le _, by simp⟩ ?_
 ·simp -implicitDefEqProofs only [go_sem]
 rintro k ⟨hk, hr⟩
 by_cases hlt : k < ta.length
 ·have hlr : k < ra.length := by omega
  refine zbw.cut 1 rfl (by kernel_rfl) ?_
  simp -implicitDefEqProofs only [go_sem, hlr]
  refine zbw.seq ?_
  refine zbw.block ?_
  refine zbw.cut 0 rfl (by kernel_rfl) ?_
  simp -implicitDefEqProofs only [go_sem, hlr]
  refine zbw.seq (zbw.region (zd2.plain 5 (by decide) rfl (by kernel_rfl) ?_))
  simp -implicitDefEqProofs only [go_sem, hlr, fr_at ra hlr]
  refine zd2.cmp1 hR hpf hyl k hlr hlt rfl (by simp only [Tryz.ntmps38]; omega) (by simp -implicitDefEqProofs only [go_sem]) (by simp -implicitDefEqProofs only [go_sem]) ?_
  refine zd2.done rfl ?_
  simp -implicitDefEqProofs only [go_sem]
  cases hb : (ys.any fun y => same ta[k] y)
  ·have her : erS ys ta[k] = ys := by unfold erS; rw [hb]; rfl
   rw [her]
   refine zbw.ofEx (by kernel_rfl) ?_
   simp -implicitDefEqProofs only [go_sem]
   refine zbw.ofEx (by kernel_rfl) ?_
   simp -implicitDefEqProofs only [go_sem]
   refine ⟨k + 1, ⟨hlt, zb8 hlt hr hb⟩, by omega, zab ?_⟩
   simp -implicitDefEqProofs only [go_sem]
   rw [zaq (by omega)]
  ·refine zbw.ofEx (by kernel_rfl) ?_
   simp -implicitDefEqProofs only [go_sem]
   exact ⟨(k : Int), by simp -implicitDefEqProofs only [go_sem], Or.inr ⟨k, hlt, rfl, hr, hb, rfl⟩⟩
 ·have hlr : ¬ k < ra.length := by omega
  refine zbw.cut 1 rfl (by kernel_rfl) ?_
  simp -implicitDefEqProofs only [go_sem, hlr]
  refine zbw.ofEx (by kernel_rfl) ?_
  simp -implicitDefEqProofs only [go_sem]
  rw [List.take_of_length_le (by omega)] at hr
  exact ⟨-1, by simp -implicitDefEqProofs only [go_sem], Or.inl ⟨rfl, hr, rfl⟩⟩
end
end Go.Proofs.YtaaniggpnljckaaGreat
namespace Go.Proofs.YtaaniggpnljckaaGreat
set_option linter.unusedSimpArgs false
set_option linter.unusedVariables false
set_option linter.unusedSectionVars false
set_option maxRecDepth 4000
open Go.RowKit
section
variable {P : Program} {N : Nat} {ops : Array Oper} {i : Nat} {σ : St} {J : Hj} {K : St -> Hj -> Prop}
theorem zd2.jc {β : Type} {tv : β -> T} {Kr : β -> Hj -> Prop} {f : FuncId} {ds : List D} (H : JCG tv P f ds J Kr) {d : Nat} {q : Operand} {asx : Array Operand} {ts : Array TypeId} {ty : TypeId} {ps : String} {af : Array Edge} (hl : ops[i]? = some ⟨some d, .call ⟨.value q, asx, ts⟩, ty, ps, af, none⟩) (hd : d < N) (hc : zat (σ.get P 0 q) = some (f, []))
  {xs : List V} (hx : σ.gets P asx ts = xs) (ha : ∀ n1 g a w us, Rel n1 N σ g a w -> LtK n1 w -> OkJ J n1 g.A0 w -> VRl σ g w xs us -> zba w (fun b => b < w.heap.size /\ ¬ J.F b) ds us)
  (k : ∀ b J', Kr b J' -> zd2 P N ops (i + 1) (σ.put (some d) (.one (.t (tv b)))) J' K) : zd2 P N ops i σ J K := by
 refine zd2.callG tv Kr hl hd (fun n1 g a w hR hn hJ => ?_) k
 obtain ⟨us, h1, h2⟩ := zcj hR (o := ⟨some d, .call ⟨.value q, asx, ts⟩, ty, ps, af, none⟩) rfl hc H.1
 rw [List.append_nil, hx] at h2
 exact ⟨f, _, h1, H.2 w us (fun b => ¬ J.F b) hJ.good hJ.I (fun x q => ⟨hn x (hJ.F x q).1, fun z => z q⟩) (fun x q => hn x (hJ.R x q)) (ha n1 g a w us hR hn hJ h2)⟩
end
noncomputable def kpR : List Frw -> List Tm -> List Tm -> List Frw × List Tm
 | r :: rs, t :: ts, ys => if (ys.any fun y => same t y) = true then kpR rs ts (erS ys t) else (r :: (kpR rs ts ys).1, (kpR rs ts ys).2)
 | _, _, ys => ([], ys)
theorem zk9 (ts ys : List Tm) : kpR [] ts ys = ([], ys) := by unfold kpR; rfl
theorem qes {ra : List Frw} {ta ys : List Tm} {k : Nat} (h1 : k < ra.length) (h2 : k < ta.length) : kpR (ra.drop k) (ta.drop k) ys = if (ys.any fun y => same ta[k] y) = true then kpR (ra.drop (k + 1)) (ta.drop (k + 1)) (erS ys ta[k]) else (ra[k] :: (kpR (ra.drop (k + 1)) (ta.drop (k + 1)) ys).1, (kpR (ra.drop (k + 1)) (ta.drop (k + 1)) ys).2) := by
 rw [List.drop_eq_getElem_cons h1, List.drop_eq_getElem_cons h2, kpR]
theorem zj7 : ∀ {ra : List Frw} {ta ys : List Tm} {k : Nat}, k <= ra.length -> ra.length = ta.length -> (∀ t ∈ ta.take k, (ys.any fun y => same t y) = false) -> kpR ra ta ys = (ra.take k ++ (kpR (ra.drop k) (ta.drop k) ys).1, (kpR (ra.drop k) (ta.drop k) ys).2)
 | _, _, _, 0, _, _, _ => by simp
 | [], _, _, k + 1, h, _, _ => by simp at h
 | _ :: _, [], _, k + 1, _, h, _ => by simp at h
 | r :: ra, t :: ta, ys, k + 1, h1, h2, h3 => by
  have ih := zj7 (ra := ra) (ta := ta) (ys := ys) (k := k) (by simpa using h1) (by simpa using h2) fun x hx => h3 x (by simp [hx])
  have h0 := h3 t (by simp)
  rw [kpR, h0]
  simp only [Bool.false_eq_true, if_false, List.take_succ_cons, List.drop_succ_cons, List.cons_append]
  rw [ih]
theorem zlj {w : World} {R : Nat -> Prop} : ∀ {ra : List Frw} {ta : List Tm} (ys : List Tm), zbu w R (ra.map frT) ta -> zbu w R ((kpR ra ta ys).1.map frT) (zfq ta ys).1 /\ (kpR ra ta ys).2 = (zfq ta ys).2
 | [], ta, ys, h => by
  have : ta = [] := h
  subst this
  rw [zk9, zfq]
  exact ⟨rfl, rfl⟩
 | r :: ra, _, ys, h => by
  rw [List.map_cons] at h
  obtain ⟨t, ts, rfl, h1, h2⟩ := h
  rw [kpR, zfq]
  split
  ·next hb =>
   have he : erS ys t = ys.eraseIdx (ys.findIdx fun y => same t y) := by unfold erS; rw [if_pos hb]
   rw [<- he]
   exact zlj _ h2
  ·obtain ⟨k1, k2⟩ := zlj ys h2
   exact ⟨⟨t, _, rfl, h1, k1⟩, k2⟩
theorem zka (rs : List Frw) : ∀ c ∈ (rs.map frT).flatten, c.flat = true := fun c hc => by
 obtain ⟨r, hr, hc⟩ := List.mem_flatten.1 hc
 obtain ⟨t, _, rfl⟩ := List.mem_map.1 hr
 rw [znt] at hc
 simp only [List.mem_cons, List.not_mem_nil, or_false] at hc
 rcases hc with rfl | rfl <;> rfl
section
variable {R : Nat -> Prop} {p : Nat} {tp : TypeId} {fq : List Nat} {ra : List Frw} {ta ys : List Tm}
set_option maxHeartbeats 4000000 in
theorem qhq (hR : ∀ y, R y -> y ≠ p /\ y ∉ fq) (hpf : p ∉ fq) (hyl : ys.length <= 1048576) (hal : ra.length = ta.length) (ht : ta.length <= 1048576) :
  zbw Tryz.prog Tryz.f36.ntmps (Tryz.f36.body.getD .skip) (zci [(true, .one (.sl 2 (ra.map frT))), (false, .one (clC p))]) (JB R p tp fq ra ta ys)
   (fun e σ' J' => PSJ Tryz.prog Tryz.f36.results.toList [.one (.sl 2 ((kpR ra ta ys).1.map frT))] e σ' J' /\ J' = JB R p tp fq ra ta (kpR ra ta ys).2) := by
 have HI := indexJ (tp := tp) hR hpf hyl hal ht
 show zbw _ _ (Option.getD (some _) _) _ _ _
 refine zbw.cut 0 rfl (by kernel_rfl) ?_
 simp -implicitDefEqProofs only [go_sem, Tryz.results36]
 refine zbw.seq ?_
 refine zbw.region (zd2.plain 2 (by decide) rfl (by kernel_rfl) ?_)
 simp -implicitDefEqProofs only [go_sem]
 refine zd2.jc HI (xs := [.one (.ow 0 0), .one (.t (clC p))]) rfl (by simp only [Tryz.ntmps36]; omega) (by simp -implicitDefEqProofs only [go_sem]) (by simp -implicitDefEqProofs only [go_sem]) (fun n1 g a w us hRel hn hJ hus => ?_) fun n J' hK => ?_
 ·obtain ⟨u1, _, rfl, h1, u2, _, rfl, h2, rfl⟩ := hus
  simp only [VR, CR] at h1
  obtain ⟨rfl, -⟩ := h1
  have hA := qhu (N := Tryz.f36.ntmps) hRel hn hJ (e := 0) (by simp -implicitDefEqProofs only [go_sem]; rfl) rfl rfl
  refine ⟨_, _, rfl, hA, _, _, rfl, ?_, rfl⟩
  simp only [VR, CR, zai] at h2
  subst h2
  show zai w (fun b => b < w.heap.size /\ ¬ (JB R p tp fq ra ta ys).F b) (clC p) _
  unfold zai
  rfl
 refine zd2.plain 1 (by decide) rfl (by kernel_rfl) ?_
 simp -implicitDefEqProofs only [go_sem]
 refine zd2.done rfl ?_
 simp -implicitDefEqProofs only [go_sem]
 rcases hK with ⟨rfl, hno, rfl⟩ | ⟨c, hc, rfl, hno, hye, rfl⟩
 ·have hall := zj7 (ra := ra) (ta := ta) (ys := ys) (k := ra.length) (Nat.le_refl _) hal (by rw [hal, List.take_length]; exact hno)
  rw [List.drop_of_length_le (Nat.le_refl _), zk9, List.take_length, List.append_nil] at hall
  rw [hall]
  refine zbw.ofEx (by kernel_rfl) ?_
  simp -implicitDefEqProofs only [go_sem, PSJ]
 ·have hcr : c < ra.length := by omega
  have hn1 : ((c : Int) == -1) = false := by rw [beq_eq_false_iff_ne]; omega
  have hw1 : IntKind.i64.wrap ((c : Int) + 1) = ((c + 1 : Nat) : Int) := zaq (by omega)
  have hsk := zj7 (ra := ra) (ta := ta) (ys := ys) (k := c) (by omega) hal hno
  rw [qes hcr hc, hye] at hsk
  simp only [if_true] at hsk
  generalize kpR ra ta ys = Fin at hsk ⊢
  obtain ⟨F1, F2⟩ := Fin
  simp only [Prod.mk.injEq] at hsk
  obtain ⟨hF1, hF2⟩ := hsk
  have hel := zyy ys ta[c]
  refine zbw.seq ?_
  refine zbw.ofEx (by kernel_rfl) ?_
  simp -implicitDefEqProofs only [go_sem, hn1]
  refine zbw.seq ?_
  refine zbw.cut 0 rfl (by kernel_rfl) ?_
  simp -implicitDefEqProofs only [go_sem, hw1]
  refine zbw.block ?_
  refine zbw.loop (fun z : Nat × List Frw × List Frw × List Tm => hd [(0, .one (.ow 0 0)), (1, vT (clC p)), (5, vI z.2.1.length), (6, vI z.1)] [] [(0, ⟨true, 2, z.2.2.1.map frT, 0, true⟩)]) (fun z => JB R p tp fq ra ta z.2.2.2)
   (fun z => z.1 <= ra.length /\ z.2.2.1.length = ra.length /\ z.2.2.1.take z.2.1.length = z.2.1 /\ z.2.2.1.drop z.1 = ra.drop z.1 /\ z.2.1.length < z.1 /\ z.2.2.2.length <= 1048576 /\ F1 = z.2.1 ++ (kpR (ra.drop z.1) (ta.drop z.1) z.2.2.2).1 /\ F2 = (kpR (ra.drop z.1) (ta.drop z.1) z.2.2.2).2) (fun z => ra.length - z.1) (c + 1, ra.take c, ra, erS ys ta[c]) (zab ?_) rfl ?_ ?_
  ·simp -implicitDefEqProofs only [go_sem]
   rw [List.length_take, Nat.min_eq_left (by omega)]
  ·refine ⟨hcr, rfl, ?_, rfl, ?_, by simp only; omega, hF1, hF2⟩
   ·rw [List.length_take, Nat.min_eq_left (by omega)]
   ·rw [List.length_take]; simp only; omega
  rintro ⟨j, Kr, Rr, zs⟩ ⟨hj, hRl, hRt, hRd, hcj, hzl, hG1, hG2⟩
  simp only at hj hRl hRt hRd hcj hzl hG1 hG2 ⊢
  by_cases hlt : j < ra.length
  ·have hjR : j < Rr.length := by omega
   have hjt : j < ta.length := by omega
   have hRj : Rr[j] = ra[j] := by
    have := congrArg (fun l => l[0]?) hRd
    simp only [List.getElem?_drop, Nat.add_zero, List.getElem?_eq_getElem hjR, List.getElem?_eq_getElem hlt] at this
    exact Option.some.inj this
   have hks := qes (ys := zs) hlt hjt
   have hcR : Kr.length < Rr.length := by omega
   have hlRi : ((j : Int) < (Rr.length : Int)) = True := eq_true (by omega)
   have hRd2 : Rr.drop (j + 1) = ra.drop (j + 1) := by
    have := congrArg (List.drop 1) hRd
    simpa [List.drop_drop] using this
   have hwj : IntKind.i64.wrap ((j : Int) + 1) = ((j + 1 : Nat) : Int) := zaq (by omega)
   have hwc : IntKind.i64.wrap ((Kr.length : Int) + 1) = ((Kr.length + 1 : Nat) : Int) := zaq (by omega)
   have hgj : (Rr.map frT).getD j [] = [.str ra[j].1, .vs ra[j].2.1 ra[j].2.2.1 ra[j].2.2.2] := by rw [fr_at Rr hjR, hRj]
   refine zbw.cut 0 rfl (by kernel_rfl) ?_
   simp -implicitDefEqProofs only [go_sem, hlRi]
   refine zbw.seq ?_
   refine zbw.block ?_
   refine zbw.cut 0 rfl (by kernel_rfl) ?_
   simp -implicitDefEqProofs only [go_sem, hjR, hgj, List.length_map]
   refine zbw.seq (zbw.region (zd2.plain 2 (by decide) rfl (by kernel_rfl) ?_))
   simp -implicitDefEqProofs only [go_sem]
   refine zd2.cmp1 hR hpf hzl j hlt hjt rfl (by simp only [Tryz.ntmps36]; omega) (by simp -implicitDefEqProofs only [go_sem]) (by simp -implicitDefEqProofs only [go_sem]) ?_
   refine zd2.plain 1 (by decide) rfl (by kernel_rfl) ?_
   simp -implicitDefEqProofs only [go_sem]
   refine zd2.done rfl ?_
   simp -implicitDefEqProofs only [go_sem]
   cases hb : (zs.any fun y => same ta[j] y)
   ·have her : erS zs ta[j] = zs := by unfold erS; rw [hb]; rfl
    rw [hb] at hks
    simp only [Bool.false_eq_true, if_false] at hks
    rw [hks] at hG1 hG2
    rw [her]
    have hst : zcy (Rr.map frT) Kr.length 0 [.str ra[j].1, .vs ra[j].2.1 ra[j].2.2.1 ra[j].2.2.2] = (Rr.set Kr.length ra[j]).map frT := by
     unfold zcy setR
     rw [List.getD_eq_getElem?_getD, List.getElem?_map, List.getElem?_eq_getElem hcR]
     simp [List.map_set, znt]
    refine zbw.ofEx (by kernel_rfl) ?_
    simp -implicitDefEqProofs only [go_sem, Bool.not_false, hcR, List.length_map]
    refine zv0 (by simp -implicitDefEqProofs only [go_sem]; simp) ?_
    simp -implicitDefEqProofs only [go_sem, hst, hwc]
    refine zbw.ofEx (by kernel_rfl) ?_
    simp -implicitDefEqProofs only [go_sem]
    refine ⟨(j + 1, Kr ++ [ra[j]], Rr.set Kr.length ra[j], zs), ⟨hlt, by simp only [List.length_set]; exact hRl, ?_, ?_, ?_, hzl, ?_, hG2⟩, by simp only; omega, rfl, zab ?_⟩
    ·simp only
     rw [List.length_append, List.length_singleton, List.take_succ_eq_append_getElem (by rw [List.length_set]; exact hcR), List.getElem_set_self, List.take_set_of_le (Nat.le_refl _), hRt]
    ·simp only
     rw [List.drop_set_of_lt (by omega)]
     exact hRd2
    ·simp only
     rw [List.length_append, List.length_singleton]; omega
    ·simp only
     rw [hG1]; simp
    ·simp -implicitDefEqProofs only [go_sem, hwj]
   ·rw [hb] at hks
    simp only [if_true] at hks
    rw [hks] at hG1 hG2
    have hel := zyy zs ta[j]
    refine zbw.ofEx (by kernel_rfl) ?_
    simp -implicitDefEqProofs only [go_sem, Bool.not_true]
    refine zbw.ofEx (by kernel_rfl) ?_
    simp -implicitDefEqProofs only [go_sem]
    refine ⟨(j + 1, Kr, Rr, erS zs ta[j]), ⟨hlt, hRl, hRt, hRd2, by simp only; omega, by simp only; omega, hG1, hG2⟩, by simp only; omega, rfl, zab ?_⟩
    simp -implicitDefEqProofs only [go_sem, hwj]
  ·have hlRi : ((j : Int) < (Rr.length : Int)) = False := eq_false (by omega)
   rw [List.drop_of_length_le (show ra.length <= j by omega), zk9, List.append_nil] at hG1
   rw [List.drop_of_length_le (show ra.length <= j by omega), zk9] at hG2
   simp only at hG2
   subst hG1 hG2
   have hcR : F1.length < Rr.length := by omega
   refine zbw.cut 0 rfl (by kernel_rfl) ?_
   simp -implicitDefEqProofs only [go_sem, hlRi]
   refine zbw.seq (zbw.region (zd2.plain 3 (by decide) rfl (by kernel_rfl) ?_))
   simp -implicitDefEqProofs only [go_sem]
   refine viewF ?_
   simp -implicitDefEqProofs only [go_sem, vwM, hcR, List.length_map]
   refine zd2.step rfl rfl (fun d hd => by cases hd) (qbf (x := .tmp 38) (t := 28) (e := 0) (gn := 0) (sz := 2) (k := F1.length) (rows := Rr.map frT) (zt := [.str [], .vs none 0 0]) (by simp -implicitDefEqProofs only [go_sem]) (by simp -implicitDefEqProofs only [go_sem]) (zka Rr) (by kernel_rfl) Tryz.zeroValue35 rfl ?_ ?_ ?_)
   ·intro v hv
    simp only [Value.cells, List.mem_cons, List.not_mem_nil, or_false] at hv
    rcases hv with rfl | rfl <;> rfl
   ·intro w
    exact ⟨_, _, [], [], rfl, rfl, by unfold zao; exact ⟨rfl, by simp [zds], rfl⟩, _, _, [], [], rfl, rfl, by unfold zao; exact ⟨rfl, rfl⟩, rfl, rfl⟩
   have hTk : ((Rr.map frT).take F1.length ++ List.replicate ((Rr.map frT).length - F1.length) [T.str [], .vs none 0 0]).take F1.length = F1.map frT := by
    rw [List.take_left' (by rw [List.length_take, List.length_map]; omega), <- List.map_take, hRt]
   have hZl : ((Rr.map frT).take F1.length ++ List.replicate ((Rr.map frT).length - F1.length) [T.str [], .vs none 0 0]).length = Rr.length := by simp; omega
   have hfl3 : ∀ c ∈ ((Rr.map frT).take F1.length ++ List.replicate ((Rr.map frT).length - F1.length) [T.str [], .vs none 0 0]).flatten, c.flat = true := fun c hc => by
    obtain ⟨r, hr, hc⟩ := List.mem_flatten.1 hc
    rcases List.mem_append.1 hr with hr | hr
    ·exact zka Rr c (List.mem_flatten.2 ⟨r, List.mem_of_mem_take hr, hc⟩)
    ·rw [List.eq_of_mem_replicate hr] at hc
     simp only [List.mem_cons, List.not_mem_nil, or_false] at hc
     rcases hc with rfl | rfl <;> rfl
   generalize (Rr.map frT).take F1.length ++ List.replicate ((Rr.map frT).length - F1.length) [T.str [], .vs none 0 0] = Rz at hTk hZl hfl3 ⊢
   refine zd2.done rfl ?_
   simp -implicitDefEqProofs only [go_sem, St.apd]
   refine zbw.seq (zbw.region (zd2.plain 2 (by decide) rfl (by kernel_rfl) ?_))
   simp -implicitDefEqProofs only [go_sem]
   refine zd2.step rfl rfl (fun d hd => by
    have : d = 41 := (Option.some.inj hd).symm
    subst this
    show 41 < Tryz.f36.ntmps
    simp only [Tryz.ntmps36]; omega) (qck (el := 35) (e := 0) (gn := 0) (sz := 2) (k := F1.length) (rows := Rz) (kk := .i64) (by simp -implicitDefEqProofs only [go_sem]) (by simp -implicitDefEqProofs only [go_sem]) (by simp -implicitDefEqProofs only [go_sem]) hfl3 (by omega) (by kernel_rfl) (by kernel_rfl) ?_)
   rw [hTk]
   simp -implicitDefEqProofs only [go_sem, St.apd]
   refine zd2.plain 1 (by decide) rfl (by kernel_rfl) ?_
   simp -implicitDefEqProofs only [go_sem]
   refine zd2.done rfl ?_
   simp -implicitDefEqProofs only [go_sem]
   refine zbw.ofEx (by kernel_rfl) ?_
   simp -implicitDefEqProofs only [go_sem, PSJ, Tryz.results36]
end
end Go.Proofs.YtaaniggpnljckaaGreat
namespace Go.Proofs.YtaaniggpnljckaaGreat
set_option linter.unusedSimpArgs false
set_option linter.unusedVariables false
set_option linter.unusedSectionVars false
set_option maxRecDepth 4000
open Go.RowKit
theorem zas.rdsK {w : World} {A : Nat -> Prop} : ∀ {ds : List D} {vs : List Value} {fp tp : List Nat}, zas w A (rd ds) vs fp tp -> fp = [] /\ tp = [] /\ zba w A ds vs
 | [], _, _, _, ⟨h1, h2, h3⟩ => ⟨h2, h3, h1⟩
 | d :: ds, _, _, _, h => by
  obtain ⟨v, vs', rfl, h1, h2⟩ := h
  obtain ⟨h3, h4, h5⟩ := zas.rdsK h2
  exact ⟨h3, h4, v, vs', rfl, h1, h5⟩
theorem qf7 {P : Program} {f : FuncId} {args : List D} {t : T} {v : Value} (hc : za8 P f) (hv : ∀ w, zao w t v []) (h : ∀ w vs, zba w (· < w.heap.size) args vs -> Calls P f ⟨vs⟩ w fun e w' => e = .returned v /\ Below w.heap.size w w') (htop : zg7 t [] = []) : FC P f args [.one t] := by
 refine ⟨hc, fun w vs fp tp ha hn => ?_⟩
 obtain ⟨rfl, rfl, hr⟩ := ha.rdsK
 refine (h w vs ?_).mono ?_
 ·simpa using hr
 ·rintro e w' ⟨rfl, hb⟩
  refine ⟨[v], [], [], rfl, ⟨v, [], [], [], [], [], rfl, rfl, rfl, ⟨hv w', htop.symm⟩, rfl, rfl, rfl⟩, List.nodup_nil, by simp, ?_⟩
  exact ⟨hb.os, hb.tape, hb.output, hb.size, fun k hk => hb.block k hk.1⟩
theorem zbu.rows {w : World} {R : Nat -> Prop} : ∀ {fl : List (List T)} {ts : List Tm}, zbu w R fl ts -> ∃ ra : List Frw, fl = ra.map frT
 | [], _, _ => ⟨[], rfl⟩
 | _ :: _, _, h => by
  obtain ⟨t, ts, rfl, ⟨ao, l, c, rfl, _⟩, h2⟩ := h
  obtain ⟨ra, rfl⟩ := zbu.rows h2
  exact ⟨(t.name, ao, l, c) :: ra, rfl⟩
theorem zao.fr_nodup {w : World} {ra : List Frw} {v : Value} {fp : List Nat} (h : zao w (.sl 2 (ra.map frT)) v fp) : fp.Nodup /\ ∃ ao cap, v = .slice ao ra.length cap := by
 obtain ⟨ao, cap, rfl, _, _, h3⟩ := qfw.1 h
 refine ⟨?_, ao, cap, rfl⟩
 rcases h3 with ⟨_, _, _, rfl⟩ | ⟨b, _, _, _, rfl, _⟩ <;> simp
section
variable {R : Nat -> Prop} {p : Nat} {tp : TypeId} {fq fa : List Nat} {ra rs : List Frw} {ta ys : List Tm}
theorem qfi (w : World) (v vb : Value) (hR : ∀ y, R y -> y < w.heap.size /\ y ≠ p /\ y ∉ fq /\ y ∉ fa) (hpf : p ∉ fq) (hpa : p ∉ fa) (hqa : ∀ y ∈ fq, y ∉ fa) (hyl : ys.length <= 1048576) (ht : ta.length <= 1048576)
  (ho : zao w (.sl 2 (ra.map frT)) v fa) (hp : w.heap[p]? = some (.cells #[vb] tp (0, 0))) (hob : zao w (.sl 2 (rs.map frT)) vb fq) (hfb : zbu w R (rs.map frT) ys) (hfa : zbu w R (ra.map frT) ta) :
  Calls Tryz.prog 36 #[v, .func (.func 37) #[] #[.pointer (some ⟨p, 0, none⟩)]] w fun e w' => ∃ (u v' : Value) (fa' : List Nat) (r1 r2 : List Frw), e = .returned u /\ zao w' (.sl 2 (r1.map frT)) u fa' /\ zbu w' R (r1.map frT) (zfq ta ys).1 ∧
   w'.heap[p]? = some (.cells #[v'] tp (0, 0)) /\ zao w' (.sl 2 (r2.map frT)) v' fq /\ zbu w' R (r2.map frT) (zfq ta ys).2 /\ (∀ b ∈ fa', b ∈ fa \/ w.heap.size <= b) /\ (∀ b ∈ fa', b ≠ p /\ b ∉ fq) /\ Bk (fun k => k < w.heap.size /\ k ∉ fa /\ k ≠ p /\ k ∉ fq) w w' := by
 have hlt := zao.lt _ _ _ ho
 have hltq := zao.lt _ _ _ hob
 have hplt : p < w.heap.size := (Array.getElem?_eq_some_iff.1 hp).1
 have hal : ra.length = ta.length := by have := hfa.len; simpa using this
 have hR' : ∀ y, R y -> y ≠ p /\ y ∉ fq := fun y hy => ⟨(hR y hy).2.1, (hR y hy).2.2.1⟩
 have hJ := qhq (tp := tp) (ra := ra) (ta := ta) (ys := ys) hR' hpf hyl hal ht
 refine (GCF_of (KJ := fun J' => J' = JB R p tp fq ra ta (kpR ra ta ys).2) (zvn hR') (fun J' e => by subst e; exact ⟨fun _ q => q, fun _ q => q⟩) rfl rfl (by simp only [List.length_cons, List.length_nil, Tryz.ntmps36]; omega) (by simp [zar, T.isPin]) hJ w [v, .func (.func 37) #[] #[.pointer (some ⟨p, 0, none⟩)]] fa (zg7 (.sl 2 (ra.map frT)) fa)
  ⟨v, _, fa, [], _, [], rfl, by simp, by simp, ⟨ho, rfl⟩, _, [], rfl, ?_, rfl, rfl, rfl⟩ ho.fr_nodup.1 ⟨⟨vb, rs, hp, hob, hfb⟩, hfa⟩ ?_ fun x hx => ⟨(hR x hx).1, (hR x hx).2.2.2⟩).mono ?_
 ·show zai w (fun b => b < w.heap.size /\ ¬ (JB R p tp fq ra ta ys).F b /\ b ∉ fa) (clC p) _
  unfold zai
  rfl
 ·rintro x (rfl | hx)
  ·exact ⟨hplt, hpa⟩
  ·exact ⟨hltq x hx, hqa x hx⟩
 rintro e w' ⟨us, fp', tp', J', rfl, ⟨u, _, g1, g2, t1, t2, rfl, rfl, rfl, ⟨o1, -⟩, rfl, rfl, rfl⟩, o2, o3, rfl, ⟨⟨v', rs', h1, h2, h3⟩, h4⟩, o5, o6⟩
 rw [List.append_nil] at *
 obtain ⟨k1, k2⟩ := zlj ys h4
 rw [k2] at h3
 exact ⟨u, v', g1, _, rs', rfl, o1, k1, h1, h2, h3, o3, fun b hb => ⟨fun e => o5 b hb (Or.inl e), fun e => o5 b hb (Or.inr e)⟩, o6.os, o6.tape, o6.output, o6.size, fun k hk => o6.block k ⟨hk.1, hk.2.1, fun q => q.elim hk.2.2.1 hk.2.2.2⟩⟩
end
theorem cm2_c (o : Og) (ho : o.ok = true) (x y : List Tm) (hx : ∀ t ∈ x, ET o t) (hy : ∀ t ∈ y, ET o t) (hl : y.length <= 1048577) : FC Tryz.prog 43 [.one (ogP o), .one (.ptr [tmS x]), .one (.ptr [tmS y])] [bD (gtL o x y)] := by
 have H := zdj o ho x y hx hy hl
 simp only [ogD, zax] at H
 simp only [ogP, zax]
 refine zan Tryz.call43 Tryz.func43 rfl (by kernel_rfl) (za2 (by kernel_rfl)) ?_
 simp -implicitDefEqProofs only [go_sem, Tryz.results43]
 refine callF (H) (by simp -implicitDefEqProofs only [go_sem]) ?_
 simp -implicitDefEqProofs only [go_sem]
theorem cm3_c (o : Og) (ho : o.ok = true) (x y : List Tm) (hx : ∀ t ∈ x, ET o t) (hy : ∀ t ∈ y, ET o t) (hl : y.length <= 1048577) : FC Tryz.prog 45 [.one (ogP o), .one (.ptr [tmS x]), .one (.ptr [tmS y])] [bD (gtL o x y)] := by
 have H := zdj o ho x y hx hy hl
 simp only [ogD, zax] at H
 simp only [ogP, zax]
 refine zan Tryz.call45 Tryz.func45 rfl (by kernel_rfl) (za2 (by kernel_rfl)) ?_
 simp -implicitDefEqProofs only [go_sem, Tryz.results45]
 refine callF (H) (by simp -implicitDefEqProofs only [go_sem]) ?_
 simp -implicitDefEqProofs only [go_sem]
end Go.Proofs.YtaaniggpnljckaaGreat
namespace Go.Proofs.YtaaniggpnljckaaGreat
set_option linter.unusedSimpArgs false
set_option linter.unusedVariables false
set_option linter.unusedSectionVars false
set_option maxRecDepth 4000
open Go.RowKit Go.Lib
theorem zqe {w : World} {A : Nat -> Prop} {sz : Nat} {rows : List (List T)} {v : Value} (h : zai w A (.sl sz rows) v) : ∃ ao l c, v = .slice ao l c := by
 unfold zai at h
 obtain ⟨ao, cap, rfl, _⟩ := h
 exact ⟨_, _, _, rfl⟩
set_option maxHeartbeats 4000000 in
set_option maxRecDepth 100000 in
theorem zc9 (o : Og) (ho : o.ok = true) (ta tb : List Tm) (ha : ∀ t ∈ ta, ET o t) (hb : ∀ t ∈ tb, ET o t) (hla : ta.length <= 1048576) (hlb : tb.length <= 1048576) : FC Tryz.prog 18 [ogD o, .one (tmS ta), .one (tmS tb)] [iD (zd4 o ta tb)] := by
 obtain ⟨hsa, hsb⟩ := zk2 ta tb
 have hm := zs4 o ta tb
 have hxx : ∀ t ∈ (zfq ta tb).1, ET o t := fun t ht => ha t (hsa.subset ht)
 have hyy : ∀ t ∈ (zfq ta tb).2, ET o t := fun t ht => hb t (hsb.subset ht)
 have hxl : (zfq ta tb).1.length <= 1048576 := Nat.le_trans hsa.length_le hla
 have hyl : (zfq ta tb).2.length <= 1048576 := Nat.le_trans hsb.length_le hlb
 rw [<- hm]
 clear hm hsa hsb
 have HK := fun (R : Nat -> Prop) p tp fq fa ra rs w v vb => @qfi R p tp fq fa ra rs ta tb w v vb
 generalize (zfq ta tb).1 = X at hxx hxl HK ⊢
 generalize (zfq ta tb).2 = Y at hyy hyl HK ⊢
 have HG := cm2_c o ho X Y hxx hyy (by omega)
 have HL := cm3_c o ho Y X hyy hxx (by omega)
 have HO := zvi (decide (X.length = 0) && decide (Y.length = 0)) (gtL o X Y) (gtL o Y X) _ _ [ogP o, .ptr [tmS X], .ptr [tmS Y]] [ogP o, .ptr [tmS Y], .ptr [tmS X]] HG HL
 refine qf7 (v := .int .i64 (zh4 (decide (X.length = 0) && decide (Y.length = 0)) (gtL o X Y) (gtL o Y X))) Tryz.call18 (fun w => by unfold zao; refine ⟨rfl, ?_, ?_, rfl⟩ <;> (unfold zh4; split <;> (try split) <;> (try split) <;> decide)) (fun w vs hv => ?_) rfl
 generalize zh4 (decide (X.length = 0) && decide (Y.length = 0)) (gtL o X Y) (gtL o Y X) = res at HO ⊢
 clear HG HL ha hb hxx hyy
 obtain ⟨vo, _, rfl, ⟨oa, rfl, h1⟩, va, _, rfl, h2, vb, _, rfl, h3, rfl⟩ := hv
 rw [zax] at h1
 simp only [zad] at h1
 obtain ⟨o1, _, e1, r1, o2, _, rfl, r2, o3, _, rfl, r3, rfl⟩ := h1
 subst e1
 have h2 : zai w (· < w.heap.size) (tmS ta) va := h2
 have h3 : zai w (· < w.heap.size) (tmS tb) vb := h3
 obtain ⟨aoa, la, ca, rfl⟩ := zqe h2
 obtain ⟨aob, lb, cb, rfl⟩ := zqe h3
 obtain ⟨fla, a1, a2⟩ := h2.flatL
 obtain ⟨flb, b1, b2⟩ := h3.flatL
 obtain ⟨ra, rfl⟩ := a2.rows
 obtain ⟨rb, rfl⟩ := b2.rows
 have hral : ra.length = ta.length := by simpa using a2.len
 have hrbl : rb.length = tb.length := by simpa using b2.len
 have HCa := zne (ra.map frT) (by rw [List.length_map]; omega) (zka ra)
 have HCb := zne (rb.map frT) (by rw [List.length_map]; omega) (zka rb)
 obtain ⟨W1, hW1⟩ : ∃ W1, w.alloc (.cells #[o1, o2, o3] 27) = W1 := ⟨_, rfl⟩
 obtain ⟨W2, hW2⟩ : ∃ W2, W1.alloc (.cells #[.slice aoa la ca] zk5) = W2 := ⟨_, rfl⟩
 obtain ⟨W3, hW3⟩ : ∃ W3, W2.alloc (.cells #[.slice aob lb cb] zk5) = W3 := ⟨_, rfl⟩
 have s1 : W1.heap.size = w.heap.size + 1 := by rw [<- hW1]; simp
 have s2 : W2.heap.size = W1.heap.size + 1 := by rw [<- hW2]; simp
 have s3 : W3.heap.size = W2.heap.size + 1 := by rw [<- hW3]; simp
 have k1 : ∀ k, k < w.heap.size -> W1.heap[k]? = w.heap[k]? := fun k hk => by rw [<- hW1]; exact Below.heap_alloc w _ k hk
 have k2 : ∀ k, k < W1.heap.size -> W2.heap[k]? = W1.heap[k]? := fun k hk => by rw [<- hW2]; exact Below.heap_alloc W1 _ k hk
 have k3 : ∀ k, k < W2.heap.size -> W3.heap[k]? = W2.heap[k]? := fun k hk => by rw [<- hW3]; exact Below.heap_alloc W2 _ k hk
 have g0 : W3.heap[w.heap.size]? = some (.cells #[o1, o2, o3] 27 (0, 0)) := by rw [k3 _ (by omega), k2 _ (by omega), <- hW1]; exact heap_alloc_new w _
 have g1 : W3.heap[W1.heap.size]? = some (.cells #[.slice aoa la ca] zk5 (0, 0)) := by rw [k3 _ (by omega), <- hW2]; exact heap_alloc_new W1 _
 have g2 : W3.heap[W2.heap.size]? = some (.cells #[.slice aob lb cb] zk5 (0, 0)) := by rw [<- hW3]; exact heap_alloc_new W2 _
 have B3 : Below w.heap.size w W3 := ⟨by rw [<- hW3, <- hW2, <- hW1]; rfl, by rw [<- hW3, <- hW2, <- hW1]; rfl, by rw [<- hW3, <- hW2, <- hW1]; rfl, by omega, fun k hk => by rw [k3 k (by omega), k2 k (by omega), k1 k hk]⟩
 have hq3 : W3.cell? ⟨W2.heap.size, 0, none⟩ = some (.slice aob lb cb) := by simp only [World.cell?, g2]; rfl
 have hz3 : W3.frozen? ⟨W2.heap.size, 0, none⟩ = false := by simp only [World.frozen?, g2]; rfl
 have hcb := HCb.use (w := W3) (vs := [.slice aob lb cb]) ⟨_, _, rfl, zai.keep (fun b hb => B3.block b hb) (fun b hb => by have hb : b < w.heap.size := hb; omega) _ _ b1, rfl⟩
 have S := zcl (And.intro s1 (And.intro s2 s3))
 have G := zcl (And.intro g0 (And.intro g1 g2))
 have HB3 := zcl B3
 have HC1 := zcl hcb
 have HCA := zcl HCa
 have HOO := zcl HO
 have HKK := zcl HK
 have HA := zcl (And.intro a1 a2)
 have HBB := zcl (And.intro b1 b2)
 have HR := zcl (And.intro r1 (And.intro r2 r3))
 have HLN := zcl (And.intro hla (And.intro hlb (And.intro hxl hyl)))
 clear s1 s2 s3 k1 k2 k3 g0 g1 g2 B3 hcb HCa HCb HO HK a1 a2 b1 b2 r1 r2 r3 hla hlb hxl hyl h2 h3 hral hrbl
 go_enter Tryz.func18, Tryz.ntmps18
 go_wp2_with fail
 refine HC1.out.mono ?_
 rintro e w4 ⟨us, fq, rfl, ob, onb, ob3, B4⟩
 obtain ⟨ub, _, f1, f2, rfl, rfl, ob, rfl, rfl⟩ := ob
 rw [List.append_nil] at *
 replace ob : zao w4 (.sl 2 (rb.map frT)) ub f1 := ob
 rw [show zbk [ub] = ub from rfl]
 obtain ⟨-, bu, cu, rfl⟩ := ob.fr_nodup
 have hltb := zao.lt _ _ _ ob
 have hg4 : w4.heap[W2.heap.size]? = some (.cells #[.slice aob lb cb] zk5 (0, 0)) := (B4.block _ (by have := S.out; omega)).trans G.out.2.2
 have hq4 : w4.cell? ⟨W2.heap.size, 0, none⟩ = some (.slice aob lb cb) := by simp only [World.cell?, hg4]; rfl
 have hz4 : w4.frozen? ⟨W2.heap.size, 0, none⟩ = false := by simp only [World.frozen?, hg4]; rfl
 obtain ⟨W5, hW5⟩ : ∃ W5, w4.setCell ⟨W2.heap.size, 0, none⟩ (.slice bu rb.length cu) = W5 := ⟨_, rfl⟩
 have s5 : W5.heap.size = w4.heap.size := by rw [<- hW5]; simp [World.setCell]
 have k5 : ∀ k, k ≠ W2.heap.size -> W5.heap[k]? = w4.heap[k]? := fun k hk => by rw [<- hW5]; exact Below.heap_setCell _ _ _ _ hk
 have g5 : W5.heap[W2.heap.size]? = some (.cells #[.slice bu rb.length cu] zk5 (0, 0)) := by rw [<- hW5]; exact one_setCell hg4
 have B5 : Below w.heap.size w W5 := ⟨by rw [<- hW5]; exact B4.os.trans HB3.out.os, by rw [<- hW5]; exact B4.tape.trans HB3.out.tape, by rw [<- hW5]; exact B4.output.trans HB3.out.output, by rw [s5]; exact Nat.le_trans HB3.out.size B4.size, fun k hk => by rw [k5 k (by have := S.out; omega), B4.block k (by have := S.out; omega)]; exact HB3.out.block k hk⟩
 have ga5 : W5.heap[W1.heap.size]? = some (.cells #[.slice aoa la ca] zk5 (0, 0)) := by rw [k5 _ (by have := S.out; omega), B4.block _ (by have := S.out; omega)]; exact G.out.2.1
 have go5 : W5.heap[w.heap.size]? = some (.cells #[o1, o2, o3] 27 (0, 0)) := by rw [k5 _ (by have := S.out; omega), B4.block _ (by have := S.out; omega)]; exact G.out.1
 have hq5 : W5.cell? ⟨W1.heap.size, 0, none⟩ = some (.slice aoa la ca) := by simp only [World.cell?, ga5]; rfl
 have hz5 : W5.frozen? ⟨W1.heap.size, 0, none⟩ = false := by simp only [World.frozen?, ga5]; rfl
 have ob5 : zao W5 (.sl 2 (rb.map frT)) (.slice bu rb.length cu) f1 := zao.keep _ _ _ ob fun b hb => k5 b (by have := ob3 b hb; have := S.out; omega)
 have hca := HCA.out.use (w := W5) (vs := [.slice aoa la ca]) ⟨_, _, rfl, zai.keep (fun b hb => B5.block b hb) (fun b hb => by have hb : b < w.heap.size := hb; have := B5.size; omega) _ _ HA.out.1, rfl⟩
 have S5 := zcl (And.intro s5 (And.intro B4.size hltb))
 have HCA5 := zcl hca
 have G5 := zcl (And.intro g5 (And.intro ga5 go5))
 have HB5 := zcl B5
 have OB5 := zcl (And.intro ob5 ob3)
 have K5 := zcl k5
 have HB4 := zcl B4
 clear hca g5 ga5 go5 B5 ob5 k5 s5 B4 hltb hg4 ob ob3 onb
 go_wp2_with fail
 refine HCA5.out.mono ?_
 rintro e w6 ⟨us, fq, rfl, oa, ona, oa3, B6⟩
 obtain ⟨ua, _, f2, f3, rfl, rfl, oa, rfl, rfl⟩ := oa
 rw [List.append_nil] at *
 replace oa : zao w6 (.sl 2 (ra.map frT)) ua f2 := oa
 rw [show zbk [ua] = ua from rfl]
 obtain ⟨-, au, cua, rfl⟩ := oa.fr_nodup
 have hw5 := S5.out
 have hS := S.out
 have hlta := zao.lt _ _ _ oa
 have g6 : w6.heap[W2.heap.size]? = some (.cells #[.slice bu rb.length cu] zk5 (0, 0)) := (B6.block _ (by omega)).trans G5.out.1
 have ob6 : zao w6 (.sl 2 (rb.map frT)) (.slice bu rb.length cu) f1 := zao.keep _ _ _ OB5.out.1 fun b hb => B6.block b (by have := hw5.2.2 b hb; omega)
 have k6 : ∀ k, k < w.heap.size -> w6.heap[k]? = w.heap[k]? := fun k hk => by rw [B6.block k (by omega)]; exact HB5.out.block k hk
 have fb6 : zbu w6 (· < w.heap.size) (rb.map frT) tb := HBB.out.2.keep (fun b hb => k6 b hb) fun _ q => q
 have fa6 : zbu w6 (· < w.heap.size) (ra.map frT) ta := HA.out.2.keep (fun b hb => k6 b hb) fun _ q => q
 have hb6 := B6.size
 have hdel := HKK.out (· < w.heap.size) W2.heap.size zk5 f1 f2 ra rb w6 (.slice au ra.length cua) (.slice bu rb.length cu) (fun y hy => ⟨by omega, by omega, fun q => by have := OB5.out.2 y q; omega, fun q => by have := oa3 y q; omega⟩) (fun q => by have := OB5.out.2 _ q; omega) (fun q => by have := oa3 _ q; omega) (fun y hy q => by have := oa3 y q; have := hw5.2.2 y hy; omega) (by have := HLN.out; omega) (by have := HLN.out; omega) oa g6 ob6 fb6 fa6
 have HD := zcl hdel
 have S6 := zcl (And.intro hb6 hlta)
 have HB6 := zcl B6
 have OA6 := zcl oa3
 clear hdel fb6 fa6 ob6 g6 hlta hS hw5 hb6 B6 k6 oa oa3 ona
 go_wp2_with fail
 refine HD.out.mono ?_
 rintro e w7 ⟨u7, v7, fa7, r1, r2, rfl, p1, p2, p3, p4, p5, p6, p7, p8⟩
 obtain ⟨-, a7, c7, rfl⟩ := p1.fr_nodup
 obtain ⟨-, b7, d7, rfl⟩ := p4.fr_nodup
 have hS := S.out
 have h5 := S5.out
 have h6 := S6.out
 have hlt1 := zao.lt _ _ _ p1
 have hlt4 := zao.lt _ _ _ p4
 have hs7 := p8.size
 have ge1 : ∀ b ∈ f1, W3.heap.size <= b := OB5.out.2
 have ge2 : ∀ b ∈ f2, W5.heap.size <= b := OA6.out
 have k7 : ∀ k, k < W3.heap.size -> k ≠ W2.heap.size -> w7.heap[k]? = W5.heap[k]? := fun k hk hk2 => by
  rw [p8.block k ⟨by omega, fun q => by have := ge2 k q; omega, hk2, fun q => by have := ge1 k q; omega⟩]
  exact HB6.out.block k (by omega)
 have g7 : w7.heap[W1.heap.size]? = some (.cells #[.slice aoa la ca] zk5 (0, 0)) := (k7 _ (by omega) (by omega)).trans G5.out.2.1
 have hq7 : w7.cell? ⟨W1.heap.size, 0, none⟩ = some (.slice aoa la ca) := by simp only [World.cell?, g7]; rfl
 have hz7 : w7.frozen? ⟨W1.heap.size, 0, none⟩ = false := by simp only [World.frozen?, g7]; rfl
 obtain ⟨W8, hW8⟩ : ∃ W8, w7.setCell ⟨W1.heap.size, 0, none⟩ (.slice a7 r1.length c7) = W8 := ⟨_, rfl⟩
 have s8 : W8.heap.size = w7.heap.size := by rw [<- hW8]; simp [World.setCell]
 have k8 : ∀ k, k ≠ W1.heap.size -> W8.heap[k]? = w7.heap[k]? := fun k hk => by rw [<- hW8]; exact Below.heap_setCell _ _ _ _ hk
 have g81 : W8.heap[W1.heap.size]? = some (.cells #[.slice a7 r1.length c7] zk5 (0, 0)) := by rw [<- hW8]; exact one_setCell g7
 have g82 : W8.heap[W2.heap.size]? = some (.cells #[.slice b7 r2.length d7] zk5 (0, 0)) := (k8 _ (by omega)).trans p3
 have g80 : W8.heap[w.heap.size]? = some (.cells #[o1, o2, o3] 27 (0, 0)) := by rw [k8 _ (by omega), k7 _ (by omega) (by omega)]; exact G5.out.2.2
 have B8 : Below w.heap.size w W8 := by
  have q5 := HB5.out
  have q6 := HB6.out
  exact ⟨by rw [<- hW8]; exact p8.os.trans (q6.os.trans q5.os), by rw [<- hW8]; exact p8.tape.trans (q6.tape.trans q5.tape), by rw [<- hW8]; exact p8.output.trans (q6.output.trans q5.output), by omega, fun k hk => by rw [k8 k (by omega), k7 k (by omega) (by omega)]; exact q5.block k hk⟩
 have hq81 : W8.cell? ⟨W1.heap.size, 0, none⟩ = some (.slice a7 r1.length c7) := by simp only [World.cell?, g81]; rfl
 have hq82 : W8.cell? ⟨W2.heap.size, 0, none⟩ = some (.slice b7 r2.length d7) := by simp only [World.cell?, g82]; rfl
 have hxL : r1.length = X.length := by simpa using p2.len
 have hyL : r2.length = Y.length := by simpa using p5.len
 have kA : ∀ b, b < w.heap.size -> W8.heap[b]? = w.heap[b]? := fun b hb => B8.block b hb
 have repX : zai W8 (· < W8.heap.size) (tmS X) (.slice a7 r1.length c7) := by
  refine zai.deepL (A := (· ∈ fa7)) (A' := (· < w.heap.size)) (fun b hb => by have := hlt1 b hb; omega) (fun b hb => by omega) (zao.rep _ _ _ (zao.keep _ _ _ p1 fun b hb => k8 b fun e => ?_) fun b hb => hb) (p2.keep (fun b hb => k8 b (by omega)) fun _ q => q)
  rcases p6 b hb with q | q
  ·have := ge2 b q; omega
  ·omega
 have repY : zai W8 (· < W8.heap.size) (tmS Y) (.slice b7 r2.length d7) := by
  refine zai.deepL (A := (· ∈ f1)) (A' := (· < w.heap.size)) (fun b hb => by have := hlt4 b hb; omega) (fun b hb => by omega) (zao.rep _ _ _ (zao.keep _ _ _ p4 fun b hb => k8 b fun e => by have := ge1 b hb; omega) fun b hb => hb) (p5.keep (fun b hb => k8 b (by omega)) fun _ q => q)
 have hpo : zai W8 (· < W8.heap.size) (ogP o) (.pointer (some ⟨w.heap.size, 0, none⟩)) := by
  unfold ogP zai
  refine ⟨_, _, rfl, by omega, ?_⟩
  rw [zax]
  simp only [zaz]
  exact ⟨⟨o1, by simp only [World.cell?, g80]; rfl, zai.keep (fun b hb => kA b hb) (fun b hb => by omega) _ _ HR.out.1⟩, ⟨o2, by simp only [World.cell?, g80]; rfl, zai.keep (fun b hb => kA b hb) (fun b hb => by omega) _ _ HR.out.2.1⟩, ⟨o3, by simp only [World.cell?, g80]; rfl, zai.keep (fun b hb => kA b hb) (fun b hb => by omega) _ _ HR.out.2.2⟩, trivial⟩
 have hpx : zai W8 (· < W8.heap.size) (.ptr [tmS X]) (.pointer (some ⟨W1.heap.size, 0, none⟩)) := by
  unfold zai
  exact ⟨_, _, rfl, by omega, by simp only [zaz]; exact ⟨⟨_, hq81, repX⟩, trivial⟩⟩
 have hpy : zai W8 (· < W8.heap.size) (.ptr [tmS Y]) (.pointer (some ⟨W2.heap.size, 0, none⟩)) := by
  unfold zai
  exact ⟨_, _, rfl, by omega, by simp only [zaz]; exact ⟨⟨_, hq82, repY⟩, trivial⟩⟩
 have hcall := HOO.out.use (w := W8) (vs := [.bool (decide (X.length = 0) && decide (Y.length = 0)), .func (.func 43) #[] #[.pointer (some ⟨w.heap.size, 0, none⟩), .pointer (some ⟨W1.heap.size, 0, none⟩), .pointer (some ⟨W2.heap.size, 0, none⟩)], .func (.func 45) #[] #[.pointer (some ⟨w.heap.size, 0, none⟩), .pointer (some ⟨W2.heap.size, 0, none⟩), .pointer (some ⟨W1.heap.size, 0, none⟩)]]) (by
  refine ⟨_, _, rfl, by show zai W8 (· < W8.heap.size) (.bool _) _; unfold zai; rfl, _, _, rfl, ?_, _, _, rfl, ?_, rfl⟩
  ·show zai W8 (· < W8.heap.size) (.fn _ _) _
   unfold zai
   exact ⟨_, rfl, by simp only [zad]; exact ⟨_, _, rfl, hpo, _, _, rfl, hpx, _, _, rfl, hpy, rfl⟩⟩
  ·show zai W8 (· < W8.heap.size) (.fn _ _) _
   unfold zai
   exact ⟨_, rfl, by simp only [zad]; exact ⟨_, _, rfl, hpo, _, _, rfl, hpy, _, _, rfl, hpx, rfl⟩⟩)
 have HC8 := zcl hcall
 have HB8 := zcl B8
 have S8 := zcl (And.intro s8 hs7)
 have HXY := zcl (And.intro hxL hyL)
 clear hcall hpo hpx hpy repX repY kA B8 g80 g81 g82 k8 s8 g7 k7 ge1 ge2 hs7 hlt1 hlt4 hS h5 h6 p1 p2 p3 p4 p5 p6 p7 p8 hxL hyL
 by_cases h0 : r1.length = 0
 ·have hb0 : ((r1.length : Int) == 0) = true := by rw [beq_iff_eq]; omega
  have hbe : (decide (X.length = 0) && decide (Y.length = 0)) = ((r2.length : Int) == 0) := by
   rw [<- HXY.out.1, <- HXY.out.2, decide_eq_true h0, Bool.true_and, Bool.eq_iff_iff, decide_eq_true_eq, beq_iff_eq]; omega
  rw [hbe] at HC8
  clear hbe h0
  go_wp2_with fail
  refine HC8.out.mono ?_
  rintro e w9 ⟨us, fq, rfl, o9, -, -, B9⟩
  obtain ⟨v9, _, _, _, rfl, rfl, o9, rfl, rfl⟩ := o9
  have o9 : zao w9 (.int .i64 res) v9 _ := o9
  unfold zao at o9
  obtain ⟨rfl, -, -, -⟩ := o9
  rw [show zbk [Value.int IntKind.i64 res] = Value.int IntKind.i64 res from rfl]
  have HB9 := zcl B9
  clear B9
  go_wp2_with fail
  go_ret
  exact ⟨rfl, HB8.out.trans (HB9.out.mono HB8.out.size)⟩
 ·have hb0 : ((r1.length : Int) == 0) = false := by rw [beq_eq_false_iff_ne]; omega
  have hbe : (decide (X.length = 0) && decide (Y.length = 0)) = false := by
   rw [<- HXY.out.1, decide_eq_false h0, Bool.false_and]
  rw [hbe] at HC8
  clear hbe h0
  go_wp2_with fail
  refine HC8.out.mono ?_
  rintro e w9 ⟨us, fq, rfl, o9, -, -, B9⟩
  obtain ⟨v9, _, _, _, rfl, rfl, o9, rfl, rfl⟩ := o9
  have o9 : zao w9 (.int .i64 res) v9 _ := o9
  unfold zao at o9
  obtain ⟨rfl, -, -, -⟩ := o9
  rw [show zbk [Value.int IntKind.i64 res] = Value.int IntKind.i64 res from rfl]
  have HB9 := zcl B9
  clear B9
  go_wp2_with fail
  go_ret
  exact ⟨rfl, HB8.out.trans (HB9.out.mono HB8.out.size)⟩
end Go.Proofs.YtaaniggpnljckaaGreat
namespace Go.Proofs.YtaaniggpnljckaaGreat
set_option linter.unusedSimpArgs false
set_option linter.unusedVariables false
set_option linter.unusedSectionVars false
set_option maxRecDepth 4000
open Go.RowKit
set_option maxRecDepth 100000 in
theorem zz7 (n : Nat) (hn : n <= 1099511627776) : FC Tryz.prog 114 [.one (.pin (.slice none 0 0) (.sl 2 [])), iD n] [.one (.sl 2 [])] := by
 refine ⟨Tryz.call114, fun w vs fp tp hv hnd => ?_⟩
 obtain ⟨v1, _, rfl, h1, hv⟩ := hv
 obtain ⟨v2, _, rfl, h2, hv⟩ := hv
 obtain ⟨rfl, rfl, rfl⟩ := hv
 have e1 : v1 = .slice none 0 0 := by
  have h : zai w (fun b => b < w.heap.size /\ ¬b ∈ []) (.pin (.slice none 0 0) (.sl 2 [])) v1 := h1
  unfold zai at h; exact h.1
 have e2 : v2 = .int .i64 n := by
  have h : zai w (fun b => b < w.heap.size /\ ¬b ∈ []) (.int .i64 n) v2 := h2
  unfold zai at h; exact h.1
 clear h1 h2
 subst e1 e2
 obtain ⟨i, cs, hi, hz, hzs, hs, hby⟩ : ∃ i cs, Tryz.prog.info? 35 = some i /\ i.zero = some (.agg cs) /\ cs.size = 2 /\ i.size = 2 /\ i.bytes = 40 := ⟨_, _, rfl, rfl, rfl, rfl, rfl⟩
 have g1 : ¬ ((n : Int) < 0) := by omega
 have g2 : wrap64 ((0 : Int) - 0) = 0 := by unfold wrap64; omega
 have g3 : wrap64 ((n : Int) - 0) = n := by unfold wrap64; omega
 by_cases h0 : n = 0
 ·subst h0
  go_enter Tryz.func114, Tryz.ntmps114
  go_wp2
  go_ret
  refine ⟨[.slice none 0 0], rfl, [], ⟨_, _, [], [], [], _, [], rfl, rfl, rfl, ⟨?_, rfl⟩, rfl, rfl, rfl⟩, List.nodup_nil, by simp, Bk.refl _ _⟩
  unfold zao
  exact ⟨none, 0, rfl, Nat.le_refl _, by simp, Or.inl ⟨rfl, rfl, rfl, rfl⟩⟩
 ·have g4 : (n : Int) > 0 := by omega
  have hrz := fun ty => Lib.run_append_nil_zeros (P := Tryz.prog) w 28 3 ty 35 i (.agg cs) .i64 .i64 Tryz.underlying28 Tryz.underlying3 hi hz n (by omega) (by omega) (by omega) (by rw [hby]; omega)
  go_enter Tryz.func114, Tryz.ntmps114
  go_wp2_with (at_builtin; refine Lib.wpList_append_run _ rfl _ _ _ _ rfl _ _ rfl rfl _ _ (hrz _) ?_)
  go_ret
  have hge := grownCap_ge w n 0 35
  have hle := grownCap_le_maxLen w n 0 35 (by unfold maxLen; omega)
  generalize grownCap w n 0 35 = G at hge hle ⊢
  refine ⟨[.slice (some ⟨w.heap.size, 0, none⟩) 0 G], rfl, [w.heap.size], ⟨_, _, [], [w.heap.size], [], _, [], rfl, rfl, rfl, ⟨?_, rfl⟩, rfl, rfl, rfl⟩, by simp, by simp, ⟨rfl, rfl, rfl, ?_, fun k hk => ?_⟩⟩
  ·unfold zao
   refine ⟨_, G, rfl, Nat.zero_le _, by unfold maxLen at hle; omega, Or.inr ⟨w.heap.size, Builtin.zeroCells cs n ++ Builtin.zeroCells cs (G - n), 35, [], rfl, rfl, ?_, ?_, by unfold zag; rfl⟩⟩
   ·show (w.heap.push _)[w.heap.size]? = _
    simp
   ·simp [size_zeroCells, hzs]; omega
  ·show w.heap.size <= (w.heap.push _).size
   rw [Array.size_push]; omega
  ·show (w.heap.push _)[k]? = _
   have hk : k < w.heap.size := by simpa using hk
   rw [Array.getElem?_push_lt hk, Array.getElem?_eq_getElem hk]
def qah (A B : List Tm) : Nat -> Nat
 | 0 => 0
 | 1 => A.length
 | _ => A.length + B.length
def zzy (A B : List Tm) : Nat -> List Tm
 | 0 => []
 | 1 => A
 | _ => A ++ B
theorem zwc (A B : List Tm) : qah A B 0 = 0 := rfl
theorem zzh (A B : List Tm) : qah A B 1 = A.length := rfl
theorem zxu (A B : List Tm) : qah A B 2 = A.length + B.length := rfl
theorem zx2 (A B : List Tm) : zzy A B 0 = [] := rfl
theorem zy7 (A B : List Tm) : zzy A B 1 = A := rfl
theorem zt6 (A B : List Tm) : zzy A B 2 = A ++ B := rfl
set_option maxHeartbeats 1000000 in
theorem zse (A B : List Tm) (hA : A.length + B.length <= 4194304) : RC Tryz.prog 104 [.one (.sl 1 [[tmS A], [tmS B]])] [.one (tmS (A ++ B))] := by
 have hG := zz7 (A.length + B.length) (by omega)
 have w1 : IntKind.i64.wrap ((A.length : Int) + (B.length : Int)) = ((A.length + B.length : Nat) : Int) := by rw [zbd (by omega) (by omega)]; omega
 have w0 : IntKind.i64.wrap (0 + (A.length : Int)) = ((A.length : Nat) : Int) := by rw [zbd (by omega) (by omega)]; omega
 have u1 : IntKind.i64.wrap 1 = 1 := rfl
 have u2 : IntKind.i64.wrap 2 = 2 := rfl
 have ha1 : A.length <= 4294967296 := by omega
 have ha2 : A.length + B.length <= 4294967296 := by omega
 refine zfj Tryz.call104 Tryz.func104 rfl (by kernel_rfl) (za2 (by kernel_rfl)) ?_
 simp -implicitDefEqProofs only [go_sem, Tryz.results104]
 refine zaj (fun k : Nat => hd [(0, vT (.sl 1 [[tmS A], [tmS B]])), (3, vI (qah A B k)), (9, vT (.sl 1 [[tmS A], [tmS B]])), (10, vI 2), (11, vI k)] [] []) (fun k => k <= 2) (fun k => 2 - k) 0 (zab ?_) (Nat.zero_le _) ?_
 ·simp -implicitDefEqProofs only [go_sem, zwc]
 ·intro k hk
  rcases (by omega : k = 0 \/ k = 1 \/ k = 2) with rfl | rfl | rfl
  ·simp -implicitDefEqProofs only [go_sem, zwc, w0]
   refine ⟨1, by omega, by omega, zab ?_⟩
   simp -implicitDefEqProofs only [go_sem, zzh, u1]
  ·simp -implicitDefEqProofs only [go_sem, zzh, w1]
   refine ⟨2, by omega, by omega, zab ?_⟩
   simp -implicitDefEqProofs only [go_sem, zxu, u2]
  ·simp -implicitDefEqProofs only [go_sem, zxu]
   refine callFn hG (by simp -implicitDefEqProofs only [go_sem, vdn_nl, vdn_t, qf8]) ?_
   simp -implicitDefEqProofs only [go_sem]
   refine zaj (fun k : Nat => hd [(6, .one (.ow 768 0)), (25, vT (.sl 1 [[tmS A], [tmS B]])), (26, vI 2), (27, vI k)] [] [(768, ⟨false, 2, (zzy A B k).map tmC, 0, true⟩)]) (fun k => k <= 2) (fun k => 2 - k) 0 (wk_sh 768 ?_) (Nat.zero_le _) ?_
   ·simp -implicitDefEqProofs only [go_sem]
    refine zab ?_
    simp -implicitDefEqProofs only [go_sem, zx2, List.map_nil]
   ·intro k hk
    rcases (by omega : k = 0 \/ k = 1 \/ k = 2) with rfl | rfl | rfl
    ·simp -implicitDefEqProofs only [go_sem, zx2, List.map_nil]
     refine apD false (by simp -implicitDefEqProofs only [go_sem, ne_eq, List.length_map, ha1, Nat.zero_add]) ?_
     simp -implicitDefEqProofs only [go_sem, ne_eq, List.length_map, ha1, Nat.zero_add]
     refine ⟨1, by omega, by omega, zab ?_⟩
     simp -implicitDefEqProofs only [go_sem, zy7, u1]
    ·simp -implicitDefEqProofs only [go_sem, zy7]
     refine apD false (by simp -implicitDefEqProofs only [go_sem, ne_eq, List.length_map, ha2]) ?_
     simp -implicitDefEqProofs only [go_sem, ne_eq, List.length_map, ha2]
     refine ⟨2, by omega, by omega, zab ?_⟩
     simp -implicitDefEqProofs only [go_sem, zt6, u2, List.map_append]
    ·simp -implicitDefEqProofs only [go_sem, zt6]
def mlB (l : Li) : List Tm := if (l.atom.name == [61]) = true then l.atom.args else [l.atom, .mk [] []]
def mlI (l : Li) : List Tm := if l.pos = true then mlB l else mlB l ++ mlB l
theorem zjw (l : Li) (hl : l.atom.args.length <= 1048576) : RC Tryz.prog 86 [liD l] [.one (tmS (mlI l))] := by
 have HE := zej l.atom
 have hz : tmC (.mk [] []) = [.str [], .sl 2 []] := rfl
 have hbl : (mlB l).length <= 1048576 := by
  unfold mlB
  split
  ·exact hl
  ·simp
 have HC := zse (mlB l) (mlB l) (by omega)
 unfold mlI
 simp only [liD, zcw]
 simp only [tmD, zaa l.atom] at HE
 cases hp : l.pos
 ·rw [if_neg (by simp)]
  cases he : (l.atom.name == [61])
  ·rw [he] at HE
   have hb : mlB l = [l.atom, .mk [] []] := by unfold mlB; rw [he]; rfl
   rw [hb] at HC ⊢
   simp only [tmS, List.map_cons, List.map_nil, hz, zaa l.atom] at HC
   refine zfj Tryz.call86 Tryz.func86 rfl (by kernel_rfl) (za2 (by kernel_rfl)) ?_
   simp -implicitDefEqProofs only [go_sem, Tryz.results86]
   refine ze2 (by simp -implicitDefEqProofs only [go_sem]) ?_
   simp -implicitDefEqProofs only [go_sem]
   refine callF (HE) (by simp -implicitDefEqProofs only [go_sem]) ?_
   simp -implicitDefEqProofs only [go_sem]
   refine ze2 (by simp -implicitDefEqProofs only [go_sem]) ?_
   simp -implicitDefEqProofs only [go_sem]
   refine callR (HC) (by simp -implicitDefEqProofs only [go_sem]) ?_
   simp -implicitDefEqProofs only [go_sem]
   simp only [tmS, List.map_cons, List.map_nil, List.cons_append, List.nil_append]
  ·rw [he] at HE
   have hb : mlB l = l.atom.args := by unfold mlB; rw [he]; rfl
   rw [hb] at HC ⊢
   refine zfj Tryz.call86 Tryz.func86 rfl (by kernel_rfl) (za2 (by kernel_rfl)) ?_
   simp -implicitDefEqProofs only [go_sem, Tryz.results86]
   refine ze2 (by simp -implicitDefEqProofs only [go_sem]) ?_
   simp -implicitDefEqProofs only [go_sem]
   refine callF (HE) (by simp -implicitDefEqProofs only [go_sem]) ?_
   simp -implicitDefEqProofs only [go_sem]
   refine ze2 (by simp -implicitDefEqProofs only [go_sem]) ?_
   simp -implicitDefEqProofs only [go_sem]
   refine callR (HC) (by simp -implicitDefEqProofs only [go_sem]) ?_
   simp -implicitDefEqProofs only [go_sem]
 ·rw [if_pos rfl]
  cases he : (l.atom.name == [61])
  ·rw [he] at HE
   have hb : mlB l = [l.atom, .mk [] []] := by unfold mlB; rw [he]; rfl
   rw [hb]
   simp only [tmS, List.map_cons, List.map_nil, hz, zaa l.atom]
   refine zfj Tryz.call86 Tryz.func86 rfl (by kernel_rfl) (za2 (by kernel_rfl)) ?_
   simp -implicitDefEqProofs only [go_sem, Tryz.results86]
   refine ze2 (by simp -implicitDefEqProofs only [go_sem]) ?_
   simp -implicitDefEqProofs only [go_sem]
   refine callF (HE) (by simp -implicitDefEqProofs only [go_sem]) ?_
   simp -implicitDefEqProofs only [go_sem]
  ·rw [he] at HE
   have hb : mlB l = l.atom.args := by unfold mlB; rw [he]; rfl
   rw [hb]
   refine zfj Tryz.call86 Tryz.func86 rfl (by kernel_rfl) (za2 (by kernel_rfl)) ?_
   simp -implicitDefEqProofs only [go_sem, Tryz.results86]
   refine ze2 (by simp -implicitDefEqProofs only [go_sem]) ?_
   simp -implicitDefEqProofs only [go_sem]
   refine callF (HE) (by simp -implicitDefEqProofs only [go_sem]) ?_
   simp -implicitDefEqProofs only [go_sem]
end Go.Proofs.YtaaniggpnljckaaGreat
namespace Go.Proofs.YtaaniggpnljckaaGreat
set_option linter.unusedSimpArgs false
set_option linter.unusedVariables false
set_option linter.unusedSectionVars false
set_option maxRecDepth 4000
open Go.RowKit
theorem zzs (e p q : Bool) : FC Tryz.prog 52 [bD e, bD p, bD q] [iD (zh4 e p q)] := by
 unfold zh4
 cases e <;> cases p <;> cases q
 all_goals
  refine zan Tryz.call52 Tryz.func52 rfl (by kernel_rfl) (za2 (by kernel_rfl)) ?_
  simp -implicitDefEqProofs only [go_sem, Tryz.results52]
  try rfl
def pcn (n : Str) (a : Tm) (k : Nat) : Nat := (if (a.name == n) = true then 1 else 0) + zw9 (zcn n) a.args k
theorem qgu (n : Str) (a : Tm) {k : Nat} (h : a.args.length <= k) : pcn n a k = zcn n a := by
 rw [zh2, pcn, qbz _ _ _ h]
theorem pcn_le (n : Str) (a : Tm) (k : Nat) : pcn n a k <= zcn n a := by
 have := zwp (zcn n) a.args k
 rw [zh2, pcn]; omega
theorem zs8 (n : Str) (a : Tm) (ha : a.wt <= 1048576) (H : ∀ x ∈ a.args, FC Tryz.prog 113 [tmD x, sD n] [iD (zcn n x)]) : FC Tryz.prog 113 [tmD a, sD n] [iD (zcn n a)] := by
 have hl : a.args.length <= 1048576 := by rw [Tm.wt_eq] at ha; omega
 have hn := zjv n a
 have hw := zdc a
 have hp := pcn_le n a
 have h0 : pcn n a 0 = if (a.name == n) = true then 1 else 0 := by rw [pcn, zxy]; omega
 have hs : ∀ k (h : k < a.args.length), pcn n a (k + 1) = pcn n a k + zcn n a.args[k] := fun k h => by rw [pcn, pcn, zxz _ _ _ h]; omega
 have he := fun k h => qgu n a (k := k) h
 generalize pcn n a = pc at hp h0 hs he
 simp only [tmD, zaa a]
 cases hb : a.name == n
 case' false =>
  rw [hb, if_neg (by simp)] at h0
  refine zan Tryz.call113 Tryz.func113 rfl (by kernel_rfl) (za2 (by kernel_rfl)) ?_
  simp -implicitDefEqProofs only [go_sem, Tryz.results113, hb]
 case' true =>
  rw [hb, if_pos rfl] at h0
  refine zan Tryz.call113 Tryz.func113 rfl (by kernel_rfl) (za2 (by kernel_rfl)) ?_
  simp -implicitDefEqProofs only [go_sem, Tryz.results113, hb]
 all_goals
  refine zaj (fun k : Nat => hd [(1, vT (.str n)), (2, .one (.bx 2 0)), (5, vI (pc k)), (6, vI k)] [(2, [.t (.str a.name), .t (tmS a.args)])] []) (fun k => k <= a.args.length) (fun k => a.args.length - k) 0 (zab ?_) (Nat.zero_le _) ?_
  ·simp -implicitDefEqProofs only [go_sem, h0]
   try rfl
  ·intro k hk
   by_cases hlt : k < a.args.length
   ·have HC := H a.args[k] (List.getElem_mem hlt)
    have e := hs k hlt
    have h1 := hp (k + 1)
    simp only [tmD, zaa a.args[k]] at HC
    simp -implicitDefEqProofs only [go_sem, hlt, zaf, zaa a.args[k]]
    refine callF (HC) (by simp -implicitDefEqProofs only [go_sem]) ?_
    simp -implicitDefEqProofs only [go_sem]
    refine ⟨k + 1, hlt, by omega, zab ?_⟩
    simp -implicitDefEqProofs only [go_sem]
    rw [zaq (by omega), zbd (by omega) (by omega), e]
    exact ⟨rfl, rfl⟩
   ·simp -implicitDefEqProofs only [go_sem, hlt]
    rw [he k (by omega)]
theorem zmb (n : Str) : ∀ a : Tm, a.wt <= 1048576 -> FC Tryz.prog 113 [tmD a, sD n] [iD (zcn n a)] := zbm fun m xs ih hw => zs8 n (.mk m xs) hw fun x hx => ih x hx (Nat.le_trans (zc6 (a := .mk m xs) hx) hw)
theorem zno {o : Og} (s t : Tm) (hs : KT o s) (ht : KT o t) : FC Tryz.prog 98 [tmD s, tmD t] [bD (bal s t)] := by
 have hvl := zpl t
 have hwt := ht.wt
 have HA := qaz t (by omega) (by omega)
 have hL := zp9 ht
 have hbal : bal s t = (zcq [] (voS t)).all fun n => decide (zcn n t <= zcn n s) := rfl
 have HN1 := fun n => zmb n s (Nat.le_trans hs.wt (by omega))
 have HN2 := fun n => zmb n t (Nat.le_trans ht.wt (by omega))
 generalize bal s t = z at hbal ⊢
 simp only [tmD, zaa s, zaa t] at HA HN1 HN2 ⊢
 generalize zcq [] (voS t) = L at HA hL hbal
 refine zan Tryz.call98 Tryz.func98 rfl (by kernel_rfl) (za2 (by kernel_rfl)) ?_
 simp -implicitDefEqProofs only [go_sem, Tryz.results98]
 refine callF (HA) (by simp -implicitDefEqProofs only [go_sem]) ?_
 simp -implicitDefEqProofs only [go_sem]
 refine zaj (fun k : Nat => hd [(2, .one (.bx 2 0)), (3, .one (.bx 3 0)), (5, .one (.ow 256 0)), (6, vI k)] [(2, [.t (.str s.name), .t (tmS s.args)]), (3, [.t (.str t.name), .t (tmS t.args)])] [(256, ⟨true, 1, L.map fun s => [.str s], 0, true⟩)]) (fun k => k <= L.length /\ z = (L.drop k).all fun n => decide (zcn n t <= zcn n s)) (fun k => L.length - k) 0 (zab ?_) ⟨Nat.zero_le _, hbal⟩ ?_
 ·simp -implicitDefEqProofs only [go_sem]
 ·intro k ⟨hk, hr⟩
  by_cases hlt : k < L.length
  ·rw [zjt hlt] at hr
   have HN1 := HN1 L[k]
   have HN2 := HN2 L[k]
   by_cases hc : zcn L[k] s < zcn L[k] t
   ·have hc' : ((zcn L[k] s : Int) < (zcn L[k] t : Int)) = True := eq_true (by omega)
    rw [decide_eq_false (by omega), Bool.false_and] at hr
    rw [hr]
    simp -implicitDefEqProofs only [go_sem, hlt, List.length_map]
    refine drawn (by kernel_rfl) ?_
    simp -implicitDefEqProofs only [go_sem, hlt, zbq L hlt, List.length_map]
    refine zau (HN1) (by simp -implicitDefEqProofs only [go_sem, hlt, zbq L hlt, List.length_map]) ?_
    simp -implicitDefEqProofs only [go_sem, hlt, zbq L hlt, List.length_map]
    refine zau (HN2) (by simp -implicitDefEqProofs only [go_sem, hc']) ?_
    simp -implicitDefEqProofs only [go_sem, hc']
    kernel_rfl
   ·have hc' : ((zcn L[k] s : Int) < (zcn L[k] t : Int)) = False := eq_false (by omega)
    rw [decide_eq_true (by omega), Bool.true_and] at hr
    simp -implicitDefEqProofs only [go_sem, hlt, List.length_map]
    refine drawn (by kernel_rfl) ?_
    simp -implicitDefEqProofs only [go_sem, hlt, zbq L hlt, List.length_map]
    refine zau (HN1) (by simp -implicitDefEqProofs only [go_sem, hlt, zbq L hlt, List.length_map]) ?_
    simp -implicitDefEqProofs only [go_sem, hlt, zbq L hlt, List.length_map]
    refine zau (HN2) (by simp -implicitDefEqProofs only [go_sem, hc']) ?_
    simp -implicitDefEqProofs only [go_sem, hc']
    refine ⟨by kernel_rfl, k + 1, ⟨hlt, hr⟩, by omega, zab ?_⟩
    simp -implicitDefEqProofs only [go_sem]
    rw [zaq (by omega)]
  ·rw [List.drop_of_length_le (show L.length <= k by omega)] at hr
   have hr : z = true := hr
   rw [hr]
   simp -implicitDefEqProofs only [go_sem, hlt, List.length_map]
set_option maxHeartbeats 1000000 in
theorem qb6 (o : Og) (ho : o.ok = true) (s t : Tm) (hs : KT o s) (ht : KT o t) (H : ∀ x ∈ s.args, ∀ y ∈ t.args, FC Tryz.prog 77 [ogD o, tmD x, tmD y] [bD (o.kbo x y)]) : FC Tryz.prog 77 [ogD o, tmD s, tmD t] [bD (o.kbo s t)] := by
 obtain ⟨p1, p2, p3, p4, p5, p6⟩ := Og.ok_parts ho
 have hk := o.kbo_eq s t
 have HB := zno s t hs ht
 have HW1 := zi5 o ho s hs.wt hs.cv
 have HW2 := zi5 o ho t ht.wt ht.cv
 have HV1 := zgk s.name
 have HV2 := zgk t.name
 have HR := qdn o (by omega) s t
 have HF := zty s t
 have hsl : s.args.length <= 1048576 := by
  have := Tm.wt_eq s
  have := hs.wt
  omega
 have hroot : o.root s t = if o.rgt t s = true then -1 else if o.rgt s t = true then 1 else 0 := rfl
 have hrr : o.rgt t s = true -> o.rgt s t = false /\ o.req s t = false := by
  unfold Og.rgt Og.req
  simp only [Bool.or_eq_true, Bool.and_eq_true, Bool.or_eq_false_iff, Bool.and_eq_false_iff, decide_eq_true_eq, decide_eq_false_iff_not]
  omega
 have hre : o.rgt t s = false -> o.rgt s t = false -> o.req s t = true /\ s.args.length = t.args.length := by
  unfold Og.rgt Og.req
  simp only [Bool.and_eq_true, Bool.or_eq_false_iff, Bool.and_eq_false_iff, decide_eq_true_eq, decide_eq_false_iff_not]
  omega
 have hfk := fun h => zx8 o s.args t.args 0 h
 rw [hk]
 clear hk
 simp only [ogD, zax] at HW1 HW2 HR H ⊢
 simp only [tmD, zaa s, zaa t] at HB HW1 HW2 HV1 HV2 HR HF ⊢
 cases hb : bal s t
 ·rw [hb] at HB
  rw [Bool.false_and]
  refine zan Tryz.call77 Tryz.func77 rfl (by kernel_rfl) (za2 (by kernel_rfl)) ?_
  simp -implicitDefEqProofs only [go_sem, Tryz.results77]
  refine callF (HB) (by simp -implicitDefEqProofs only [go_sem]) ?_
  simp -implicitDefEqProofs only [go_sem]
 rw [hb] at HB
 rw [Bool.true_and]
 by_cases hw : o.wgt s = o.wgt t
 ·rw [if_pos hw]
  rw [hw] at HW1
  have hne : (o.wgt t != o.wgt t) = false := by simp
  cases h1 : za6 s.name
  ·cases h2 : za6 t.name
   ·rw [h1] at HV1
    rw [h2] at HV2
    simp only [Bool.not_false, Bool.true_and]
    refine zan Tryz.call77 Tryz.func77 rfl (by kernel_rfl) (za2 (by kernel_rfl)) ?_
    simp -implicitDefEqProofs only [go_sem, Tryz.results77]
    refine callF (HB) (by simp -implicitDefEqProofs only [go_sem]) ?_
    simp -implicitDefEqProofs only [go_sem]
    refine drawn (by kernel_rfl) ?_
    simp -implicitDefEqProofs only [go_sem]
    refine zau (HW1) (by simp -implicitDefEqProofs only [go_sem]) ?_
    simp -implicitDefEqProofs only [go_sem]
    refine zau (HW2) (by simp -implicitDefEqProofs only [go_sem]) ?_
    simp -implicitDefEqProofs only [go_sem]
    refine ⟨by kernel_rfl, ?_⟩
    simp -implicitDefEqProofs only [go_sem, hne]
    refine callF (HV1) (by simp -implicitDefEqProofs only [go_sem]) ?_
    simp -implicitDefEqProofs only [go_sem]
    refine callF (HV2) (by simp -implicitDefEqProofs only [go_sem]) ?_
    simp -implicitDefEqProofs only [go_sem]
    cases hp : o.rgt t s
    ·cases hq : o.rgt s t
     ·obtain ⟨hr1, hr2⟩ := hre hp hq
      rw [hroot, hp, hq] at HR
      simp only [Bool.false_eq_true, if_false] at HR
      rw [hr1, Bool.false_or, Bool.true_and]
      have HF := HF hr2 hsl
      rcases hfk hr2 with ⟨f1, f2⟩ | ⟨j, f1, f2, f3, f4⟩
      ·rw [f1] at HF
       rw [f2]
       refine callF (HR) (by simp -implicitDefEqProofs only [go_sem]) ?_
       simp -implicitDefEqProofs only [go_sem]
       refine callF (HF) (by simp -implicitDefEqProofs only [go_sem]) ?_
       simp -implicitDefEqProofs only [go_sem]
       refine drawn (by kernel_rfl) ?_
       simp -implicitDefEqProofs only [go_sem]
       kernel_rfl
      ·rw [f3, Nat.zero_add] at HF
       rw [f4]
       have HX := H s.args[j] (List.getElem_mem f1) t.args[j] (List.getElem_mem f2)
       simp only [tmD, zaa s.args[j], zaa t.args[j]] at HX
       have hj : ((0 : Int) <= (j : Int)) = True := eq_true (by omega)
       refine callF (HR) (by simp -implicitDefEqProofs only [go_sem]) ?_
       simp -implicitDefEqProofs only [go_sem]
       refine callF (HF) (by simp -implicitDefEqProofs only [go_sem]) ?_
       simp -implicitDefEqProofs only [go_sem]
       refine drawn (by kernel_rfl) ?_
       simp -implicitDefEqProofs only [go_sem, hj, f1, f2, zaf, zaa s.args[j], zaa t.args[j]]
       refine zb3 (HX) (by simp -implicitDefEqProofs only [go_sem]) ?_
       simp -implicitDefEqProofs only [go_sem]
       kernel_rfl
     ·rw [hroot, hp, hq] at HR
      simp only [Bool.false_eq_true, if_false, if_true] at HR
      refine callF (HR) (by simp -implicitDefEqProofs only [go_sem]) ?_
      simp -implicitDefEqProofs only [go_sem]
      rfl
    ·obtain ⟨hr1, hr2⟩ := hrr hp
     rw [hroot, hp] at HR
     simp only [if_true] at HR
     rw [hr1, hr2]
     refine callF (HR) (by simp -implicitDefEqProofs only [go_sem]) ?_
     simp -implicitDefEqProofs only [go_sem]
     rfl
   ·rw [h1] at HV1
    rw [h2] at HV2
    refine zan Tryz.call77 Tryz.func77 rfl (by kernel_rfl) (za2 (by kernel_rfl)) ?_
    simp -implicitDefEqProofs only [go_sem, Tryz.results77]
    refine callF (HB) (by simp -implicitDefEqProofs only [go_sem]) ?_
    simp -implicitDefEqProofs only [go_sem]
    refine drawn (by kernel_rfl) ?_
    simp -implicitDefEqProofs only [go_sem]
    refine zau (HW1) (by simp -implicitDefEqProofs only [go_sem]) ?_
    simp -implicitDefEqProofs only [go_sem]
    refine zau (HW2) (by simp -implicitDefEqProofs only [go_sem]) ?_
    simp -implicitDefEqProofs only [go_sem]
    refine ⟨by kernel_rfl, ?_⟩
    simp -implicitDefEqProofs only [go_sem, hne]
    refine callF (HV1) (by simp -implicitDefEqProofs only [go_sem]) ?_
    simp -implicitDefEqProofs only [go_sem]
    refine callF (HV2) (by simp -implicitDefEqProofs only [go_sem]) ?_
    simp -implicitDefEqProofs only [go_sem]
  ·rw [h1] at HV1
   refine zan Tryz.call77 Tryz.func77 rfl (by kernel_rfl) (za2 (by kernel_rfl)) ?_
   simp -implicitDefEqProofs only [go_sem, Tryz.results77]
   refine callF (HB) (by simp -implicitDefEqProofs only [go_sem]) ?_
   simp -implicitDefEqProofs only [go_sem]
   refine drawn (by kernel_rfl) ?_
   simp -implicitDefEqProofs only [go_sem]
   refine zau (HW1) (by simp -implicitDefEqProofs only [go_sem]) ?_
   simp -implicitDefEqProofs only [go_sem]
   refine zau (HW2) (by simp -implicitDefEqProofs only [go_sem]) ?_
   simp -implicitDefEqProofs only [go_sem]
   refine ⟨by kernel_rfl, ?_⟩
   simp -implicitDefEqProofs only [go_sem, hne]
   refine callF (HV1) (by simp -implicitDefEqProofs only [go_sem]) ?_
   simp -implicitDefEqProofs only [go_sem]
 ·rw [if_neg hw]
  have hne : (o.wgt s != o.wgt t) = true := by simpa using hw
  refine zan Tryz.call77 Tryz.func77 rfl (by kernel_rfl) (za2 (by kernel_rfl)) ?_
  simp -implicitDefEqProofs only [go_sem, Tryz.results77]
  refine callF (HB) (by simp -implicitDefEqProofs only [go_sem]) ?_
  simp -implicitDefEqProofs only [go_sem]
  refine drawn (by kernel_rfl) ?_
  simp -implicitDefEqProofs only [go_sem]
  refine zau (HW1) (by simp -implicitDefEqProofs only [go_sem]) ?_
  simp -implicitDefEqProofs only [go_sem]
  refine zau (HW2) (by simp -implicitDefEqProofs only [go_sem]) ?_
  simp -implicitDefEqProofs only [go_sem]
  refine ⟨by kernel_rfl, ?_⟩
  simp -implicitDefEqProofs only [go_sem, hne]
theorem qgz (o : Og) (ho : o.ok = true) : ∀ s t : Tm, KT o s -> KT o t -> FC Tryz.prog 77 [ogD o, tmD s, tmD t] [bD (o.kbo s t)] := zbm fun n xs ih t hs ht => qb6 o ho (.mk n xs) t hs ht fun x hx y hy => ih x hx y (hs.args hx) (ht.args hy)
theorem zw5 (o : Og) (ho : o.ok = true) (s t : Tm) (hs : ET o s) (ht : ET o t) : FC Tryz.prog 51 [ogD o, tmD s, tmD t] [bD (o.abv s t)] := by
 have hv : o.abv s t = if (s.name == [] || t.name == []) = true then !(s.name == []) else o.kbo s t := rfl
 rw [hv]
 have HK := fun h1 h2 => qgz o ho s t (hs.kt h1) (ht.kt h2)
 simp only [ogD, zax] at HK ⊢
 simp only [tmD, zaa s, zaa t] at HK ⊢
 cases h1 : (s.name == [])
 ·cases h2 : (t.name == [])
  ·have HK := HK h1 h2
   refine zan Tryz.call51 Tryz.func51 rfl (by kernel_rfl) (za2 (by kernel_rfl)) ?_
   simp -implicitDefEqProofs only [go_sem, Tryz.results51, h1, h2]
   refine callF (HK) (by simp -implicitDefEqProofs only [go_sem]) ?_
   simp -implicitDefEqProofs only [go_sem]
   rfl
  ·refine zan Tryz.call51 Tryz.func51 rfl (by kernel_rfl) (za2 (by kernel_rfl)) ?_
   simp -implicitDefEqProofs only [go_sem, Tryz.results51, h1, h2]
   rfl
 ·refine zan Tryz.call51 Tryz.func51 rfl (by kernel_rfl) (za2 (by kernel_rfl)) ?_
  simp -implicitDefEqProofs only [go_sem, Tryz.results51, h1]
  rfl
end Go.Proofs.YtaaniggpnljckaaGreat
