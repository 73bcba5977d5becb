/-
  The walk over plain data, and contracts of functions of the program and of its laws.
  Conditions: those that each theorem names.
-/
import Derived.Test.YtmhbmpbgpjljeaaGreatQT7
import Derived.Test.YtmhbmpbgpjljeaaGreatQT2
import Derived.Test.YtmhbmpbgpjljeaaGreatProg
import Derived.Lib.AppendZerosOnto
import Derived.Lib.Overlaps
import Derived.Laws.Externs
import Derived.Laws.CopyRow
import Derived.Lib.SliceRun
import Derived.Deep.RegionLaw
import Derived.Test.YtmhbmpbgpjljeaaGreatQT6
namespace Go.Proofs.YtmhbmpbgpjljeaaGreat
set_option linter.unusedSimpArgs false
set_option linter.unusedVariables false
set_option linter.unusedSectionVars false
set_option maxRecDepth 4000
open Go.RowKit
def qf2 (n : Str) (a : Int) (x : Tb) : Bool := x.name == n && x.ar == a
theorem zwj (ts : List Tb) (hl : ts.length <= 1048576) (n : Str) (a : Int) : FC Tryz.prog 147 [.one (tbS ts), sD n, iD a] [iD (zqe ts (qf2 n a))] := by
 refine zau Tryz.call147 Tryz.func147 rfl (by kernel_rfl) (za6 (by kernel_rfl)) ?_
 simp -implicitDefEqProofs only [go_sem, Tryz.results147]
 refine zaf (fun k : Nat => hd [(0, vT (tbS ts)), (1, vT (.str n)), (2, .one (.t (.int .i64 a))), (7, vI k)] [] []) (fun k => k <= ts.length /\ ∀ x ∈ ts.take k, qf2 n a x = false) (fun k => ts.length - k) 0 (zaa ?_) ⟨Nat.zero_le _, by simp⟩ ?_
 ·simp -implicitDefEqProofs only [go_sem]
 ·intro k ⟨hk, hr⟩
  by_cases hlt : k < ts.length
  ·have hit : qf2 n a ts[k] = (ts[k].name == n && ts[k].ar == a) := rfl
   cases h1 : ts[k].name == n
   ·rw [h1, Bool.false_and] at hit
    simp -implicitDefEqProofs only [go_sem, hlt, zad, zat ts[k], h1]
    refine ⟨k + 1, ⟨hlt, zb5 hlt hr hit⟩, by omega, zaa ?_⟩
    simp -implicitDefEqProofs only [go_sem]
    rw [zam (by omega)]
   ·rw [h1, Bool.true_and] at hit
    cases h2 : ts[k].ar == a
    ·rw [h2] at hit
     simp -implicitDefEqProofs only [go_sem, hlt, zad, zat ts[k], h1, h2]
     refine ⟨k + 1, ⟨hlt, zb5 hlt hr hit⟩, by omega, zaa ?_⟩
     simp -implicitDefEqProofs only [go_sem]
     rw [zam (by omega)]
    ·rw [h2] at hit
     simp -implicitDefEqProofs only [go_sem, hlt, zad, zat ts[k], h1, h2]
     rw [zdu hlt hr hit]
  ·simp -implicitDefEqProofs only [go_sem, hlt]
   rw [List.take_of_length_le (by omega)] at hr
   rw [zed hr]
end Go.Proofs.YtmhbmpbgpjljeaaGreat
namespace Go.Proofs.YtmhbmpbgpjljeaaGreat
set_option linter.unusedSimpArgs false
set_option linter.unusedVariables false
set_option linter.unusedSectionVars false
set_option maxRecDepth 4000
open Go.RowKit
theorem zhu (xs : List Tb) (p : Tb -> Bool) (g : FuncId) (caps : List T) (H : ∀ x ∈ xs, FC Tryz.prog g (tbD x :: caps.map .one) [bD (p x)]) : FC Tryz.prog 94 [.one (tbS xs), .one (.fn g caps)] [iD (zqe xs p)] := by
 refine zci (fun hw => ?_) Tryz.call94
 have hl : xs.length <= 9223372036854775807 := by simpa [zgk, wfT] using hw.1.1
 refine zau Tryz.call94 Tryz.func94 rfl (by kernel_rfl) (za6 (by kernel_rfl)) ?_
 simp -implicitDefEqProofs only [go_sem, Tryz.results94]
 refine zaf (fun k : Nat => hd [(0, vT (tbS xs)), (1, vT (.fn g caps)), (7, vI xs.length), (8, vI k)] [] []) (fun k => k <= xs.length /\ ∀ x ∈ xs.take k, p x = false) (fun k => xs.length - k) 0 (zaa ?_) ?_ ?_
 ·simp -implicitDefEqProofs only [go_sem]
 ·simp
 ·intro k ⟨hk, hr⟩
  by_cases hlt : k < xs.length
  ·simp -implicitDefEqProofs only [go_sem, zad, hlt, zat]
   refine callF (H xs[k] (List.getElem_mem hlt)) (by simp -implicitDefEqProofs only [go_sem, zat]) ?_
   simp -implicitDefEqProofs only [go_sem, zat]
   refine ⟨fun h => ?_, fun h => ⟨k + 1, ⟨hlt, zb5 hlt hr h⟩, by omega, zaa (by simp -implicitDefEqProofs only [go_sem]; rw [zam (by omega)])⟩⟩
   rw [zdu hlt hr h]
  ·simp -implicitDefEqProofs only [go_sem, hlt]
   rw [List.take_of_length_le (by omega)] at hr
   rw [zed hr]
end Go.Proofs.YtmhbmpbgpjljeaaGreat
namespace Go.Proofs.YtmhbmpbgpjljeaaGreat
set_option linter.unusedSimpArgs false
set_option linter.unusedVariables false
set_option linter.unusedSectionVars false
set_option maxRecDepth 4000
open Go.RowKit
section
variable (p : Tb -> Bool)
def kpB (ts : List Tb) (j : Nat) : List Tb := (ts.take j).filter fun x => !p x
theorem zs4 (ts : List Tb) {j : Nat} (h : j < ts.length) : kpB p ts (j + 1) = kpB p ts j ++ if p ts[j] = true then [] else [ts[j]] := by
 unfold kpB
 rw [List.take_succ_eq_append_getElem h, List.filter_append]
 congr 1
 rw [List.filter_cons]
 cases p ts[j] <;> simp
theorem qan (ts : List Tb) : ∀ c ∈ (ts.map tbC).flatten, c.flat = true := fun c hc => by
 obtain ⟨r, hr, hc⟩ := List.mem_flatten.1 hc
 obtain ⟨t, _, rfl⟩ := List.mem_map.1 hr
 rw [zat] at hc
 simp only [List.mem_cons, List.not_mem_nil, or_false] at hc
 rcases hc with rfl | rfl | rfl | rfl <;> rfl
set_option maxHeartbeats 4000000 in
theorem zuz (ts : List Tb) (hlen : ts.length <= 1048576) (g : FuncId) (H : ∀ x ∈ ts, FC Tryz.prog g [tbD x] [bD (p x)]) : GC Tryz.prog 46 [(true, .one (tbS ts)), (false, .one (.fn g []))] [.one (tbS (ts.filter fun x => !p x))] := by
 refine ⟨Tryz.call46, fun w vs fp tp hv hn => ?_⟩
 refine GCJ_of (fn := Tryz.f46) (R := fun _ => False) (I := fun _ => True) (fun _ _ _ _ => trivial) rfl rfl (by simp only [List.length_cons, List.length_nil, Tryz.ntmps46]; omega) (by simp [zcj, T.isPin]) ?_ w vs fp tp hv hn trivial (fun x hx => hx.elim)
 have HI := zhu ts p g [] H
 by_cases hany : ts.any p = true
 ·obtain ⟨c, hc, hid, hno, hye⟩ : ∃ c, ∃ hc : c < ts.length, zqe ts p = (c : Nat) /\ (∀ x ∈ ts.take c, p x = false) /\ p ts[c] = true := by
   have hlt : ts.findIdx p < ts.length := List.findIdx_lt_length.2 (List.any_eq_true.1 hany)
   refine ⟨_, hlt, ?_, fun x hx => ?_, List.findIdx_getElem (p := p) (w := hlt)⟩
   ·unfold zqe; rw [if_pos hany]
   ·obtain ⟨q, hq, rfl⟩ := List.getElem_of_mem hx
    rw [List.length_take] at hq
    rw [List.getElem_take]
    have := List.not_of_lt_findIdx (p := p) (xs := ts) (show q < ts.findIdx p by omega)
    simpa using this
  rw [hid] at HI
  have hn1 : ((c : Int) == -1) = false := by rw [beq_eq_false_iff_ne]; omega
  have hw1 : IntKind.i64.wrap ((c : Int) + 1) = ((c + 1 : Nat) : Int) := zam (by omega)
  have hk0 : kpB p ts (c + 1) = ts.take c := by
   rw [zs4 p ts hc, hye, if_pos rfl, List.append_nil]
   unfold kpB
   rw [List.filter_eq_self]
   intro x hx
   rw [hno x hx]; rfl
  refine zbj.cut 0 rfl (by kernel_rfl) ?_
  simp -implicitDefEqProofs only [go_sem]
  refine zbj.cut 0 rfl (by kernel_rfl) ?_
  simp -implicitDefEqProofs only [go_sem]
  refine callF (HI) (by simp -implicitDefEqProofs only [go_sem, hn1]) ?_
  simp -implicitDefEqProofs only [go_sem, hn1]
  refine zbj.seq ?_
  refine zbj.ofEx (by kernel_rfl) ?_
  simp -implicitDefEqProofs only [go_sem, hn1]
  refine zbj.seq ?_
  refine zbj.cut 0 rfl (by kernel_rfl) ?_
  simp -implicitDefEqProofs only [go_sem, hw1]
  refine zbj.block ?_
  refine zbj.loop (fun x : Nat × List Tb => hd [(0, .one (.ow 0 0)), (1, vT (.fn g [])), (5, vI (kpB p ts x.1).length), (6, vI x.1)] [] [(0, ⟨true, 4, x.2.map tbC, 0, true⟩)]) (fun _ => ⟨fun _ => False, fun _ => False, fun _ => True⟩)
   (fun x => x.1 <= ts.length /\ x.2.length = ts.length /\ x.2.take (kpB p ts x.1).length = kpB p ts x.1 /\ x.2.drop x.1 = ts.drop x.1 /\ (kpB p ts x.1).length < x.1) (fun x => ts.length - x.1) (c + 1, ts) (zaa ?_) rfl ?_ ?_
  ·simp -implicitDefEqProofs only [go_sem]
   rw [hk0, List.length_take, Nat.min_eq_left (by omega)]
  ·refine ⟨hc, rfl, ?_, rfl, ?_⟩
   ·rw [hk0, List.length_take, Nat.min_eq_left (by omega)]
   ·rw [hk0, List.length_take]; simp only; omega
  rintro ⟨j, Rr⟩ ⟨hj, hRl, hRt, hRd, hcj⟩
  simp only at hj hRl hRt hRd hcj ⊢
  by_cases hlt : j < ts.length
  ·have hjR : j < Rr.length := by omega
   have hRj : Rr[j] = ts[j] := by
    have := congrArg (fun l => l[0]?) hRd
    simp only [List.getElem?_drop, Nat.add_zero, List.getElem?_eq_getElem hjR, List.getElem?_eq_getElem hlt] at this
    exact Option.some.inj this
   have hks := zs4 p ts hlt
   have HC := H ts[j] (List.getElem_mem hlt)
   have hcR : (kpB p ts j).length < Rr.length := by omega
   have hlRi : ((j : Int) < (Rr.length : Int)) = True := eq_true (by omega)
   have hRd2 : Rr.drop (j + 1) = ts.drop (j + 1) := by
    have := congrArg (List.drop 1) hRd
    simpa [List.drop_drop] using this
   have hwj : IntKind.i64.wrap ((j : Int) + 1) = ((j + 1 : Nat) : Int) := zam (by omega)
   have hwc : IntKind.i64.wrap (((kpB p ts j).length : Int) + 1) = (((kpB p ts j).length + 1 : Nat) : Int) := zam (by omega)
   simp only [tbD, zat ts[j]] at HC
   refine zbj.cut 0 rfl (by kernel_rfl) ?_
   simp -implicitDefEqProofs only [go_sem, hlRi]
   cases hb : p ts[j]
   ·rw [hb] at HC hks
    simp only [Bool.false_eq_true, if_false] at hks
    have hst : zc5 (Rr.map tbC) (kpB p ts j).length 0 [.str ts[j].name, .int .i64 ts[j].ar, .bool ts[j].pred, .vs none 0 0] = (Rr.set (kpB p ts j).length ts[j]).map tbC := by
     unfold zc5 setR
     rw [List.getD_eq_getElem?_getD, List.getElem?_map, List.getElem?_eq_getElem hcR]
     simp [List.map_set, zat]
    refine zbj.ofEx (by kernel_rfl) ?_
    simp -implicitDefEqProofs only [go_sem, hjR, zad, hRj, zat ts[j]]
    refine callF (HC) (by simp -implicitDefEqProofs only [go_sem, Bool.not_false, hcR, List.length_map]) ?_
    simp -implicitDefEqProofs only [go_sem, Bool.not_false, hcR, List.length_map]
    refine zhp (by simp -implicitDefEqProofs only [go_sem]; simp) ?_
    simp -implicitDefEqProofs only [go_sem, hst, hwc]
    refine ⟨(j + 1, Rr.set (kpB p ts j).length ts[j]), ⟨hlt, by rw [List.length_set]; exact hRl, ?_, ?_, ?_⟩, by simp only; omega, zaa ?_⟩
    ·simp only
     rw [hks, List.length_append, List.length_singleton, List.take_succ_eq_append_getElem (by rw [List.length_set]; exact hcR), List.getElem_set_self, List.take_set_of_le (Nat.le_refl _), hRt]
    ·simp only
     rw [List.drop_set_of_lt (by omega)]
     exact hRd2
    ·simp only
     rw [hks, List.length_append, List.length_singleton]; omega
    ·simp -implicitDefEqProofs only [go_sem, hwj]
     rw [hks, List.length_append, List.length_singleton]
   ·rw [hb] at HC hks
    simp only [if_true, List.append_nil] at hks
    refine zbj.ofEx (by kernel_rfl) ?_
    simp -implicitDefEqProofs only [go_sem, hjR, zad, hRj, zat ts[j]]
    refine callF (HC) (by simp -implicitDefEqProofs only [go_sem, Bool.not_true]) ?_
    simp -implicitDefEqProofs only [go_sem, Bool.not_true]
    refine ⟨(j + 1, Rr), ⟨hlt, hRl, by rw [hks]; exact hRt, hRd2, by rw [hks]; simp only; omega⟩, by simp only; omega, zaa ?_⟩
    simp -implicitDefEqProofs only [go_sem, hwj]
    rw [hks]
  ·have hjn : j = ts.length := by omega
   have hlRi : ((j : Int) < (Rr.length : Int)) = False := eq_false (by omega)
   have hall : kpB p ts j = ts.filter fun x => !p x := by
    unfold kpB
    rw [hjn, List.take_length]
   rw [hall] at hRt hcj ⊢
   generalize hK : (ts.filter fun x => !p x) = K at *
   have hcR : K.length < Rr.length := by omega
   refine zbj.cut 0 rfl (by kernel_rfl) ?_
   simp -implicitDefEqProofs only [go_sem, hlRi]
   refine zbj.seq (zbj.region (zd7.plain 3 (by decide) rfl (by kernel_rfl) ?_))
   simp -implicitDefEqProofs only [go_sem]
   refine viewF ?_
   simp -implicitDefEqProofs only [go_sem, vwM, hcR, List.length_map]
   refine zd7.step rfl rfl (fun d hd => by cases hd) (qet (x := .tmp 38) (t := 63) (e := 0) (gn := 0) (sz := 4) (k := K.length) (rows := Rr.map tbC) (zt := [.str [], .int .i64 0, .bool false, .vs none 0 0]) (by simp -implicitDefEqProofs only [go_sem]) (by simp -implicitDefEqProofs only [go_sem]) (qan Rr) (by kernel_rfl) Tryz.zeroValue69 rfl ?_ ?_ ?_)
   ·intro v hv
    simp only [Value.cells, List.mem_cons, List.not_mem_nil, or_false] at hv
    rcases hv with rfl | rfl | rfl | rfl <;> rfl
   ·intro w
    refine ⟨_, _, [], [], rfl, rfl, by unfold zao; exact ⟨rfl, by simp [zdi], rfl⟩, _, _, [], [], rfl, rfl, by unfold zao; exact ⟨rfl, by decide, by decide, rfl⟩, _, _, [], [], rfl, rfl, by unfold zao; exact ⟨rfl, rfl⟩, _, _, [], [], rfl, rfl, by unfold zao; exact ⟨rfl, rfl⟩, rfl, rfl⟩
   have hTk : ((Rr.map tbC).take K.length ++ List.replicate ((Rr.map tbC).length - K.length) [T.str [], .int .i64 0, .bool false, .vs none 0 0]).take K.length = K.map tbC := by
    rw [List.take_left' (by rw [List.length_take, List.length_map]; omega), <- List.map_take, hRt]
   have hZl : ((Rr.map tbC).take K.length ++ List.replicate ((Rr.map tbC).length - K.length) [T.str [], .int .i64 0, .bool false, .vs none 0 0]).length = Rr.length := by simp; omega
   have hfl3 : ∀ c ∈ ((Rr.map tbC).take K.length ++ List.replicate ((Rr.map tbC).length - K.length) [T.str [], .int .i64 0, .bool false, .vs none 0 0]).flatten, c.flat = true := fun c hc => by
    obtain ⟨r, hr, hc⟩ := List.mem_flatten.1 hc
    rcases List.mem_append.1 hr with hr | hr
    ·exact qan Rr c (List.mem_flatten.2 ⟨r, List.mem_of_mem_take hr, hc⟩)
    ·rw [List.eq_of_mem_replicate hr] at hc
     simp only [List.mem_cons, List.not_mem_nil, or_false] at hc
     rcases hc with rfl | rfl | rfl | rfl <;> rfl
   generalize (Rr.map tbC).take K.length ++ List.replicate ((Rr.map tbC).length - K.length) [T.str [], .int .i64 0, .bool false, .vs none 0 0] = Rz at hTk hZl hfl3 ⊢
   refine zd7.done rfl ?_
   simp -implicitDefEqProofs only [go_sem, St.apd]
   refine zbj.seq (zbj.region (zd7.plain 2 (by decide) rfl (by kernel_rfl) ?_))
   simp -implicitDefEqProofs only [go_sem]
   refine zd7.step rfl rfl (fun d hd => by
    have : d = 41 := (Option.some.inj hd).symm
    subst this
    show 41 < Tryz.f46.ntmps
    simp only [Tryz.ntmps46]; omega) (qdd (el := 69) (e := 0) (gn := 0) (sz := 4) (k := K.length) (rows := Rz) (kk := .i64) (by simp -implicitDefEqProofs only [go_sem]) (by simp -implicitDefEqProofs only [go_sem]) (by simp -implicitDefEqProofs only [go_sem]) hfl3 (by omega) (by kernel_rfl) (by kernel_rfl) ?_)
   rw [hTk]
   simp -implicitDefEqProofs only [go_sem, St.apd]
   refine zd7.plain 1 (by decide) rfl (by kernel_rfl) ?_
   simp -implicitDefEqProofs only [go_sem]
   refine zd7.done rfl ?_
   simp -implicitDefEqProofs only [go_sem]
   refine zbj.ofEx (by kernel_rfl) ?_
   simp -implicitDefEqProofs only [go_sem, PSJ, Tryz.results46]
 ·have hid : zqe ts p = -1 := by unfold zqe; rw [if_neg hany]
  have hall : ts.filter (fun x => !p x) = ts := by
   rw [List.filter_eq_self]
   intro x hx
   have := List.any_eq_false.1 (by simpa using hany : ts.any p = false) x hx
   simpa using this
  rw [hid] at HI
  rw [hall]
  refine zbj.cut 0 rfl (by kernel_rfl) ?_
  simp -implicitDefEqProofs only [go_sem]
  refine zbj.ofEx (by kernel_rfl) ?_
  simp -implicitDefEqProofs only [go_sem]
  refine callF (HI) (by simp -implicitDefEqProofs only [go_sem, PSJ, Tryz.results46]) ?_
  simp -implicitDefEqProofs only [go_sem, PSJ, Tryz.results46]
end
end Go.Proofs.YtmhbmpbgpjljeaaGreat
namespace Go.Proofs.YtmhbmpbgpjljeaaGreat
set_option linter.unusedSimpArgs false
set_option linter.unusedVariables false
set_option linter.unusedSectionVars false
set_option maxRecDepth 4000
open Go.RowKit
theorem zu2 (t : Tb) : FC Tryz.prog 47 [tbD t] [bD t.pred] := by
 simp only [tbD, zat]
 refine zau Tryz.call47 Tryz.func47 rfl (by kernel_rfl) (za6 (by kernel_rfl)) ?_
 simp -implicitDefEqProofs only [go_sem, Tryz.results47]
theorem zhb (t : Tm) (hw : t.wt <= 1048576) : FC Tryz.prog 50 [tmD t] [bD (!t.good)] := by
 have H := zf7 t (by omega)
 simp only [tmD, zab] at H ⊢
 refine zau Tryz.call50 Tryz.func50 rfl (by kernel_rfl) (za6 (by kernel_rfl)) ?_
 simp -implicitDefEqProofs only [go_sem, Tryz.results50]
 refine callF (H) (by simp -implicitDefEqProofs only [go_sem]) ?_
 simp -implicitDefEqProofs only [go_sem]
theorem zzc (ts : List Tb) (hlen : ts.length <= 1048576) : GC Tryz.prog 46 [(true, .one (tbS ts)), (false, .one (.fn 47 []))] [.one (tbS (ts.filter fun x => !x.pred))] :=
 zuz (fun x => x.pred) ts hlen 47 fun x _ => zu2 x
end Go.Proofs.YtmhbmpbgpjljeaaGreat
namespace Go.Proofs.YtmhbmpbgpjljeaaGreat
set_option linter.unusedSimpArgs false
set_option linter.unusedVariables false
set_option linter.unusedSectionVars false
set_option maxRecDepth 4000
open Go.RowKit
def dpS (f : Tb) (level : Int) (n : Nat) (x : List Tm) (l : List Tm) : Bool × List Tm :=
 (decide (n + (if ((Tm.mk f.name l).depth : Int) == level then x ++ [Tm.mk f.name l] else x).length <= 60), if ((Tm.mk f.name l).depth : Int) == level then x ++ [Tm.mk f.name l] else x)
set_option maxHeartbeats 4000000 in
theorem qio (f : Tb) (level : Int) (ts : List Tm) (x : List Tm) (l : List Tm) (hx : x.length <= 1048576) (hts : ts.length <= 1048576) (hlw : (Tm.mk f.name l).wt <= 1048576) :
  PC Tryz.prog 96 [[(true, tmS x)]] (.d false (.one (tmS l)) :: [1, 2, 0, 3].map (qba 1 [tbC f, [.int .i64 level], [tmS ts]])) [[(true, tmS (dpS f level ts.length x l).2)]] [(true, .one (.bool (dpS f level ts.length x l).1))] := by
 have hlw2 : zms l <= 1048576 := by
  have := Tm.wt_eq (.mk f.name l)
  simp only [Tm.name, Tm.args] at this
  unfold zms; omega
 have HCo := zpn l hlw2
 have HD := zwh (.mk f.name l) (by omega)
 show PC _ _ _ [.d false (.one (tmS l)), .d false (.one (.ptr (tbC f))), .d false (.one (.ptr [.int .i64 level])), .p 0, .d false (.one (.ptr [tmS ts]))] _ _
 simp only [zat]
 refine PC_ofW Tryz.call96 Tryz.func96 rfl (by simp only [List.length_cons, List.length_nil, Tryz.ntmps96]; omega) (by simp only [Tryz.ntmps96]; omega) rfl rfl (by simp [zcj, T.isPin, AF.ds, bxA]) (by simp [gFS, T.fs, T.flat, AF.ds, bxA]) rfl ?_
 unfold dpS
 simp only [tmD, znu] at HD
 generalize hdd : ((Tm.mk f.name l).depth : Int) = dd at HD ⊢
 have hx2 : x.length <= 4294967295 := by omega
 refine zr1.wkA (σ' := hd [(0, .one (.rn (tmS l))), (1, vT (.ptr [.str f.name, .int .i64 f.ar, .bool f.pred, .vs none 0 0])), (2, vT (.ptr [.int .i64 level])), (3, .one (.bx 1000000 0)), (4, vT (.ptr [tmS ts])), (1000000, .one (.bx 1000000 0))] [(1000000, [.ow 128 0])] [(128, ⟨true, 2, x.map tmC, 0, true⟩)]) (zaa ?_) ?_
 ·simp -implicitDefEqProofs only [go_sem]
 refine zr1.ofEx (by kernel_rfl) ?_
 simp -implicitDefEqProofs only [go_sem, Tryz.results96]
 refine drawn (by kernel_rfl) ?_
 simp -implicitDefEqProofs only [go_sem]
 refine zay (HCo) (by simp -implicitDefEqProofs only [go_sem]) ?_
 simp -implicitDefEqProofs only [go_sem]
 refine ⟨by kernel_rfl, ?_⟩
 refine drawn (by kernel_rfl) ?_
 simp -implicitDefEqProofs only [go_sem]
 refine zay (HD) (by simp -implicitDefEqProofs only [go_sem]) ?_
 simp -implicitDefEqProofs only [go_sem]
 cases he : dd == level
 ·simp only [Bool.false_eq_true, if_false]
  refine ⟨by kernel_rfl, fun h => h.elim, fun _ => Or.inl ⟨?_, Or.inl trivial⟩⟩
  rw [zbb (by omega) (by omega)]
  congr 1
  rw [decide_eq_decide]
  omega
 ·simp only [if_true]
  refine ⟨by kernel_rfl, fun _ => ?_, fun h => by cases h⟩
  have hnls : (nlsT Tryz.prog 6 74).getD 1 0 = 2 := by kernel_rfl
  have hz : [Value.string ⟨#[]⟩, Value.slice none 0 0].zipIdx = [(Value.string ⟨#[]⟩, 0), (Value.slice none 0 0, 1)] := rfl
  have hs0 : ((⟨#[]⟩ : ByteArray).size <= 9223372036854775807) = True := eq_true (by decide)
  refine drawn (by kernel_rfl) ?_
  simp -implicitDefEqProofs only [go_sem, hz, hnls, hs0]
  refine zc8 (by simp -implicitDefEqProofs only [go_sem, hz, hnls, hs0]) ?_
  simp -implicitDefEqProofs only [go_sem, hz, hnls, hs0]
  refine zfs true (by simp -implicitDefEqProofs only [go_sem, ne_eq, List.length_map, hx2, hz, hnls]) ?_
  simp -implicitDefEqProofs only [go_sem, ne_eq, List.length_map, hx2, hz, hnls]
  have hst : zc5 (x.map tmC ++ [[.str [], .sl 2 []]]) x.length 0 [.str f.name, .sl 2 (l.map tmC)] = x.map tmC ++ [[.str f.name, .sl 2 (l.map tmC)]] := by
   have := zom (x.map tmC) [] [.str [], .sl 2 []] (k := x.length) (List.length_map ..) 0 [.str f.name, .sl 2 (l.map tmC)]
   rw [this]
   rfl
  refine qi2 (by simp -implicitDefEqProofs only [go_sem, hst]; rintro p rfl; exact (by decide : (352 : Nat) ≠ 128)) ?_
  simp -implicitDefEqProofs only [go_sem, hst]
  refine ⟨by kernel_rfl, Or.inl ⟨?_, Or.inl ?_⟩⟩
  ·rw [zbb (by omega) (by omega)]
   congr 1
   rw [decide_eq_decide]
   omega
  ·rw [List.map_append, List.map_singleton, znu]
end Go.Proofs.YtmhbmpbgpjljeaaGreat
namespace Go.Proofs.YtmhbmpbgpjljeaaGreat
set_option linter.unusedSimpArgs false
set_option linter.unusedVariables false
set_option linter.unusedSectionVars false
set_option maxRecDepth 4000
open Go.RowKit
def zca (level : Int) (ts : List Tm) : List Tb -> List Tm -> Bool × List Tm
 | [], x => (true, x)
 | f :: fs, x => if f.ar == 0 then zca level ts fs x else
   if (runT (dpS f level ts.length) (zc7 ts f.ar.toNat) x).1 = true then zca level ts fs (runT (dpS f level ts.length) (zc7 ts f.ar.toNat) x).2 else (false, (runT (dpS f level ts.length) (zc7 ts f.ar.toNat) x).2)
theorem zv4 {f : Tb} {level : Int} {n : Nat} {x l : List Tm} (h : (dpS f level n x l).1 = true) : (dpS f level n x l).2.length <= 60 := by
 unfold dpS at h ⊢
 simp only [decide_eq_true_eq] at h ⊢
 omega
theorem zsg {f : Tb} {level : Int} {n : Nat} : ∀ (L : List (List Tm)) (x : List Tm), x.length <= 60 -> (runT (dpS f level n) L x).1 = true -> (runT (dpS f level n) L x).2.length <= 60
 | [], x, hx, _ => hx
 | l :: L, x, hx, h => by
  rw [runT] at h ⊢
  by_cases hc : (dpS f level n x l).1 = true
  ·rw [if_pos hc] at h ⊢
   exact zsg L _ (zv4 hc) h
  ·rw [if_neg hc] at h; cases h
theorem zue (f : Tb) (level : Int) (ts : List Tm) (hts : ts.length <= 1048576) (n : Nat) (hn : n <= 1048576) (hfw : ∀ l ∈ zc7 ts n, (Tm.mk f.name l).wt <= 1048576) (x : List Tm) (hx : x.length <= 60) :
  PC Tryz.prog 95 [[(true, tmS x)], [(false, .str f.name), (false, .int .i64 f.ar), (false, .bool f.pred), (false, .vs none 0 0)], [(false, .int .i64 level)], [(false, tmS ts)]] [.d false (.one (tmS ts)), .d false (.one (.int .i64 n)), .fn 96 [1, 2, 0, 3]]
   [[(true, tmS (runT (dpS f level ts.length) (zc7 ts n) x).2)], [(false, .str f.name), (false, .int .i64 f.ar), (false, .bool f.pred), (false, .vs none 0 0)], [(false, .int .i64 level)], [(false, tmS ts)]] [(true, .one (.bool (runT (dpS f level ts.length) (zc7 ts n) x).1))] := by
 have HE := zq7 (g := 96) (bx := fun x : List Tm => [[(true, tmS x)]]) (m := 1) (fun _ => rfl) (fun x b hb p hp => by
   rw [List.mem_singleton.1 hb, List.mem_singleton] at hp
   rw [hp]) [tbC f, [.int .i64 level], [tmS ts]] (js := [1, 2, 0, 3]) (by simp) (Inv := fun x => x.length <= 60) (okl := fun l => l ∈ zc7 ts n) (st := dpS f level ts.length) Tryz.call96 (fun x l hx hl ho => zv4 ho) (fun x l hx hl => qio f level ts x l (by omega) hts (hfw l hl))
  ts hts n hn (fun l h1 h2 => (zdy ts _ l).2 ⟨h1, h2⟩) x hx
 rw [zn2] at HE
 exact HE
end Go.Proofs.YtmhbmpbgpjljeaaGreat
namespace Go.Proofs.YtmhbmpbgpjljeaaGreat
set_option linter.unusedSimpArgs false
set_option linter.unusedVariables false
set_option linter.unusedSectionVars false
set_option maxRecDepth 4000
open Go.RowKit
def zht (ts : List Tm) : List Tm := ts.mergeSort fun a b => !ltOf zcn b a
theorem zdm (ts : List Tm) : (zht ts).Perm ts := List.mergeSort_perm _ _
theorem zow (ts : List Tm) : (zht ts).Pairwise fun a b => ltOf zcn b a = false := by
 have := List.pairwise_mergeSort (le := fun a b => !ltOf zcn b a) (fun a b c h1 h2 => ?_) (fun a b => ?_) ts
 ·exact this.imp fun h => by simpa using h
 ·have hO := qfg zfu
  simp only [Bool.not_eq_true'] at h1 h2 ⊢
  exact hO.ntrans c b a h2 h1
 ·have n1 := zfu.neg a b
  simp only [ltOf, Bool.or_eq_true, Bool.not_eq_true', decide_eq_false_iff_not]
  omega
theorem qb5 (xs : List Tm) (hg : ∀ x ∈ xs, upT x = true) (hl : xs.length < 4611686018427387904) : IC Tryz.prog 99 [] (.one (tmS xs)) [.one (.fn 100 [])] (.one (tmS (zht xs))) [] :=
 qje (G := fun x => upT x = true) (cf := zcn) Tryz.laysST Tryz.call99 (fun w => Tryz.isAgg74 w) (fun w => Tryz.sizeOf74 w) Tryz.call100 (fun x => by rw [zab]; rfl) (qfg zfu)
  (fun x y h1 h2 => by
   have n1 := zda x y
   unfold ltOf at h1 h2
   rw [decide_eq_false_iff_not] at h1 h2
   exact (zih x y).1 (by omega)) (fun x y h1 h2 => zfb x y h1 h2) xs (zht xs) (zdm xs).symm (zow xs) hg hl
set_option maxHeartbeats 4000000 in
theorem zte (fs : List Tb) (ts : List Tm) (level : Int) (hfs : fs.length <= 1048576) (hts : ts.length <= 1048576) (har : ∀ f ∈ fs, 0 <= f.ar /\ f.ar <= 3) (hfw : ∀ f ∈ fs, ∀ l ∈ zc7 ts f.ar.toNat, (Tm.mk f.name l).wt <= 1048576) (hup : ∀ x ∈ (zca level ts fs []).2, upT x = true) (hln : (zca level ts fs []).1 = true -> (zca level ts fs []).2.length <= 60) :
  FC Tryz.prog 48 [.one (tbS fs), .one (tmS ts), iD level] [.one (tmS (if (zca level ts fs []).1 = true then zht (zca level ts fs []).2 else [])), bD (zca level ts fs []).1] := by
 refine zg6 Tryz.call48 Tryz.func48 rfl (by kernel_rfl) (za6 (by kernel_rfl)) ?_
 simp -implicitDefEqProofs only [go_sem, Tryz.results48]
 refine zb6 (by simp -implicitDefEqProofs only [go_sem]) ?_
 simp -implicitDefEqProofs only [go_sem]
 refine zaf (fun z : Nat × List Tm => hd [(4, .one (.bx 4 0)), (5, .one (.bx 5 0)), (8, .one (.bx 8 0)), (12, .one (.rn (tbS fs))), (13, vI fs.length), (14, vI z.1)] [(4, [.rn (tmS ts)]), (5, [.t (.int .i64 level)]), (8, [.ow 352 0])] [(352, ⟨true, 2, z.2.map tmC, 0, true⟩)]) (fun z => z.1 <= fs.length /\ z.2.length <= 60 /\ zca level ts fs [] = zca level ts (fs.drop z.1) z.2) (fun z => fs.length - z.1) (0, []) (zaa ?_) ⟨Nat.zero_le _, by simp, rfl⟩ ?_
 ·simp -implicitDefEqProofs only [go_sem]
 ·rintro ⟨k, x⟩ ⟨hk, hx, heq⟩
  simp only at hk hx heq ⊢
  by_cases hlt : k < fs.length
  ·obtain ⟨h0, h3⟩ := har fs[k] (List.getElem_mem hlt)
   rw [List.drop_eq_getElem_cons hlt, zca] at heq
   cases hz : fs[k].ar == 0
   ·rw [hz, if_neg (by simp)] at heq
    have HE := zue fs[k] level ts hts fs[k].ar.toNat (by omega) (hfw _ (List.getElem_mem hlt)) x hx
    have hnn : ((fs[k].ar.toNat : Nat) : Int) = fs[k].ar := by omega
    rw [hnn] at HE
    have hrl := zsg (f := fs[k]) (level := level) (n := ts.length) (zc7 ts fs[k].ar.toNat) x hx
    generalize (runT (dpS fs[k] level ts.length) (zc7 ts fs[k].ar.toNat) x).2 = y at HE heq hrl
    cases hr : (runT (dpS fs[k] level ts.length) (zc7 ts fs[k].ar.toNat) x).1
    ·rw [hr] at HE
     rw [hr, if_neg (by simp)] at heq
     rw [heq]
     simp only [Bool.false_eq_true, if_false]
     simp -implicitDefEqProofs only [go_sem, hlt, zad, zat fs[k], hz]
     refine zr3 [4, 5, 8, 12, 13, 14] [21, 23, 24] [8, 10, 5, 4] [] (HE) (by decide) rfl (by simp -implicitDefEqProofs only [go_sem]) (by simp -implicitDefEqProofs only [go_sem]) (by simp -implicitDefEqProofs only [go_sem]) (by simp -implicitDefEqProofs only [go_sem]) ?_
     simp -implicitDefEqProofs only [go_sem]
    ·rw [hr] at HE
     rw [hr, if_pos rfl] at heq
     simp -implicitDefEqProofs only [go_sem, hlt, zad, zat fs[k], hz]
     refine zr3 [4, 5, 8, 12, 13, 14] [21, 23, 24] [8, 10, 5, 4] [] (HE) (by decide) rfl (by simp -implicitDefEqProofs only [go_sem]) (by simp -implicitDefEqProofs only [go_sem]) (by simp -implicitDefEqProofs only [go_sem]) (by simp -implicitDefEqProofs only [go_sem]) ?_
     simp -implicitDefEqProofs only [go_sem]
     refine ⟨(k + 1, y), ⟨hlt, hrl hr, heq⟩, by simp only; omega, zif 352 801 ?_⟩
     simp -implicitDefEqProofs only [go_sem]
     rw [zam (by omega)]
   ·rw [hz, if_pos rfl] at heq
    simp -implicitDefEqProofs only [go_sem, hlt, zad, zat fs[k], hz]
    refine ⟨(k + 1, x), ⟨hlt, hx, heq⟩, by simp only; omega, zaa ?_⟩
    simp -implicitDefEqProofs only [go_sem]
    rw [zam (by omega)]
  ·rw [List.drop_eq_nil_of_le (by omega), zca] at heq
   have HS := qb5 x (fun t ht => hup t (by rw [heq]; exact ht)) (by omega)
   simp -implicitDefEqProofs only [go_sem, hlt, heq]
   refine zp1 [8, 28] (HS) (by simp -implicitDefEqProofs only [go_sem]) (by simp -implicitDefEqProofs only [go_sem]) (by simp -implicitDefEqProofs only [go_sem]) (by simp -implicitDefEqProofs only [go_sem]) (by simp -implicitDefEqProofs only [go_sem]) rfl ?_
   simp -implicitDefEqProofs only [go_sem]
end Go.Proofs.YtmhbmpbgpjljeaaGreat
namespace Go.Proofs.YtmhbmpbgpjljeaaGreat
set_option linter.unusedSimpArgs false
set_option linter.unusedVariables false
set_option linter.unusedSectionVars false
set_option maxRecDepth 4000
open Go.RowKit
theorem zxv : GCmp zj3 := by
 refine ⟨fun a b => ?_, fun a b d => ?_⟩
 ·unfold zj3
  split <;> split <;> omega
 ·have e : ∀ x y : Int, (zj3 x y <= 0) = (x <= y) := fun x y => by
   unfold zj3
   rw [eq_iff_iff]
   split
   ·omega
   ·split <;> omega
  rw [e, e, e]
  omega
theorem zng {a b : Int} : zj3 a b = 0 ↔ a = b := by
 unfold zj3
 split
 ·omega
 ·split <;> omega
theorem zb3 : GCmp zeo := GCmp.lex (zjb.comp Tb.name) (zxv.comp Tb.ar)
theorem zi1 {a b : Tb} : zeo a b = 0 ↔ a.name = b.name /\ a.ar = b.ar := by
 unfold zeo
 rw [zty, zga, zng]
def ltB (a b : Tb) : Bool := decide (zeo a b < 0)
abbrev zfi (l : List Tb) : Prop := l.Pairwise fun a b => zeo a b < 0
theorem zfv {a b d : Tb} (h1 : zeo a b < 0) (h2 : zeo b d <= 0) : zeo a d < 0 := by
 have n1 := zb3.neg a b
 have n2 := zb3.neg b d
 have n3 := zb3.neg a d
 have t1 := zb3.tr a b d
 have t2 := zb3.tr b d a
 omega
def plB (ts : List Tb) (x : Tb) : Nat := (ts.takeWhile fun y => ltB y x).length
def fdB (ts : List Tb) (x : Tb) : Bool := if h : plB ts x < ts.length then zeo ts[plB ts x] x == 0 else false
theorem zs7 (ts : List Tb) (x : Tb) : plB ts x <= ts.length := by
 unfold plB
 have := (List.takeWhile_prefix (fun y => ltB y x) (l := ts)).length_le
 exact this
theorem zr6 {ts : List Tb} {x : Tb} (k : Nat) (hk : k < ts.length) (h : k < plB ts x) : zeo ts[k] x < 0 := by
 have hp := List.takeWhile_prefix (fun y => ltB y x) (l := ts)
 have hg : (ts.takeWhile fun y => ltB y x)[k]'h = ts[k] := by
  obtain ⟨r, hr⟩ := hp
  have : ts[k]? = some ((ts.takeWhile fun y => ltB y x)[k]'h) := by
   conv => lhs; rw [<- hr]
   rw [List.getElem?_append_left h, List.getElem?_eq_getElem h]
  rw [List.getElem?_eq_getElem hk] at this
  exact (Option.some.inj this).symm
 have := List.all_eq_true.1 (List.all_takeWhile (p := fun y => ltB y x) (l := ts)) _ (List.getElem_mem h)
 rw [hg] at this
 exact of_decide_eq_true this
theorem qf0 {ts : List Tb} {x : Tb} (h : plB ts x < ts.length) : ¬ zeo ts[plB ts x] x < 0 := by
 have hd : (ts.dropWhile fun y => ltB y x) = ts.drop (plB ts x) := by
  unfold plB
  have h := List.takeWhile_append_dropWhile (p := fun y => ltB y x) (l := ts)
  generalize (ts.takeWhile fun y => ltB y x) = A at h
  rw [<- h, List.drop_left]
  rw [h]
 have hh := List.head?_dropWhile_not (fun y => ltB y x) ts
 rw [hd, List.head?_drop, List.getElem?_eq_getElem h] at hh
 have hh : ltB ts[plB ts x] x = false := by simpa using hh
 exact of_decide_eq_false hh
theorem zz3 {ts : List Tb} (hs : zfi ts) {i j : Nat} (hi : i < ts.length) (hj : j < ts.length) (h : i < j) : zeo ts[i] ts[j] < 0 := List.pairwise_iff_getElem.1 hs i j hi hj h
theorem qfc {ts : List Tb} (hs : zfi ts) {x : Tb} (k : Nat) (hk : k < ts.length) (h : plB ts x <= k) : ¬ zeo ts[k] x < 0 := by
 have h0 := qf0 (ts := ts) (x := x) (by omega)
 intro hc
 by_cases he : plB ts x = k
 ·subst he; exact h0 hc
 ·have := zz3 hs (show plB ts x < ts.length by omega) hk (by omega)
  exact h0 (zfv this (by omega))
theorem zfy {ts : List Tb} {x : Tb} (h : fdB ts x = true) : ∃ hp : plB ts x < ts.length, zeo ts[plB ts x] x = 0 := by
 unfold fdB at h
 split at h
 ·rename_i hp
  exact ⟨hp, by simpa using h⟩
 ·cases h
theorem zqd {ts : List Tb} (hs : zfi ts) {x : Tb} : fdB ts x = true ↔ ∃ y ∈ ts, zeo y x = 0 := by
 constructor
 ·intro h
  obtain ⟨hp, h⟩ := zfy h
  exact ⟨_, List.getElem_mem hp, h⟩
 ·rintro ⟨y, hy, h⟩
  obtain ⟨k, hk, rfl⟩ := List.getElem_of_mem hy
  have h1 : plB ts x <= k := Nat.le_of_not_lt fun h' => by have := zr6 k hk h'; omega
  have hp : plB ts x < ts.length := by omega
  have h2 : plB ts x = k := by
   rcases Nat.lt_or_ge (plB ts x) k with h' | h'
   ·have a1 := zz3 hs hp hk h'
    have a2 := qf0 hp
    have := zfv a1 (show zeo ts[k] x <= 0 by omega)
    omega
   ·omega
  unfold fdB
  rw [dif_pos hp, beq_iff_eq]
  have : ts[plB ts x] = ts[k] := by congr 1
  rw [this]; exact h
def stB (z : List Tb × Bool) (x : Tb) : List Tb × Bool :=
 if fdB z.1 x = true then (z.1, z.2 || decide (3 < x.ar) || ((z.1.getD (plB z.1 x) x).pred != x.pred)) else (z.1.take (plB z.1 x) ++ [x] ++ z.1.drop (plB z.1 x), z.2 || decide (3 < x.ar))
theorem zmd {z : List Tb × Bool} (hs : zfi z.1) (x : Tb) : zfi (stB z x).1 := by
 unfold stB
 split
 ·exact hs
 ·rename_i hf
  have hn : ∀ y ∈ z.1, zeo y x ≠ 0 := fun y hy e => hf ((zqd hs).2 ⟨y, hy, e⟩)
  have hs' := hs
  rw [<- List.take_append_drop (plB z.1 x) z.1] at hs'
  unfold zfi at hs' ⊢
  rw [List.pairwise_append] at hs'
  obtain ⟨s1, s2, s3⟩ := hs'
  have h1 : ∀ y ∈ z.1.take (plB z.1 x), zeo y x < 0 := fun y hy => by
   obtain ⟨k, hk, rfl⟩ := List.getElem_of_mem hy
   rw [List.length_take] at hk
   rw [List.getElem_take]
   exact zr6 k (by omega) (by omega)
  have h2 : ∀ y ∈ z.1.drop (plB z.1 x), zeo x y < 0 := fun y hy => by
   have hne := hn y (List.mem_of_mem_drop hy)
   obtain ⟨k, hk, rfl⟩ := List.getElem_of_mem hy
   rw [List.length_drop] at hk
   rw [List.getElem_drop] at hne ⊢
   have a1 := qfc hs (x := x) (plB z.1 x + k) (by omega) (by omega)
   have a2 := zb3.neg z.1[plB z.1 x + k] x
   omega
  rw [List.pairwise_append, List.pairwise_append]
  refine ⟨⟨s1, List.pairwise_singleton _ _, fun a ha b hb => ?_⟩, s2, fun a ha b hb => ?_⟩
  ·rw [List.mem_singleton] at hb; subst hb; exact h1 a ha
  ·rcases List.mem_append.1 ha with ha | ha
   ·exact s3 a ha b hb
   ·rw [List.mem_singleton] at ha; subst ha; exact h2 b hb
theorem zqk (z : List Tb × Bool) (x : Tb) : (stB z x).1.length <= z.1.length + 1 /\ z.1.length <= (stB z x).1.length := by
 unfold stB
 split
 ·simp
 ·simp only [List.length_append, List.length_take, List.length_drop, List.length_singleton]
  have := zs7 z.1 x
  omega
theorem qiv {z : List Tb × Bool} (x y : Tb) : y ∈ (stB z x).1 ↔ y ∈ z.1 \/ (fdB z.1 x = false /\ y = x) := by
 unfold stB
 split
 ·rename_i h
  simp [h]
 ·rename_i h
  conv => rhs; rw [<- List.take_append_drop (plB z.1 x) z.1]
  rw [List.take_append_drop]
  simp only [List.mem_append, List.mem_singleton]
  have h' : fdB z.1 x = false := by simpa using h
  rw [h']
  have : y ∈ z.1 ↔ y ∈ z.1.take (plB z.1 x) \/ y ∈ z.1.drop (plB z.1 x) := by rw [<- List.mem_append, List.take_append_drop]
  rw [this]
  constructor
  ·rintro ((h | h) | h)
   ·exact Or.inl (Or.inl h)
   ·exact Or.inr ⟨rfl, h⟩
   ·exact Or.inl (Or.inr h)
  ·rintro ((h | h) | ⟨_, h⟩)
   ·exact Or.inl (Or.inl h)
   ·exact Or.inr h
   ·exact Or.inl (Or.inr h)
theorem qdf {z : List Tb × Bool} (h : z.2 = true) (x : Tb) : (stB z x).2 = true := by
 unfold stB
 rw [h]
 split <;> simp
theorem zgs : ∀ (L : List Tb) {z : List Tb × Bool}, z.2 = true -> (L.foldl stB z).2 = true
 | [], _, h => h
 | x :: L, _, h => zgs L (qdf h x)
theorem zen : ∀ (L : List Tb) {z : List Tb × Bool}, zfi z.1 -> zfi (L.foldl stB z).1
 | [], _, h => h
 | x :: L, _, h => zen L (zmd h x)
theorem zfz : ∀ (L : List Tb) (z : List Tb × Bool), (L.foldl stB z).1.length <= z.1.length + L.length
 | [], z => by simp
 | x :: L, z => by
  have h1 := zfz L (stB z x)
  have h2 := (zqk z x).1
  simp only [List.foldl_cons, List.length_cons]
  omega
def zhr (L : List Tb) : Prop := (∀ x ∈ L, x.ar <= 3) /\ ∀ x ∈ L, ∀ y ∈ L, zeo x y = 0 -> x.pred = y.pred
theorem tb_eq {x y : Tb} (h : zeo x y = 0) (hp : x.pred = y.pred) : x = y := by
 obtain ⟨n, a, p⟩ := x
 obtain ⟨n', a', p'⟩ := y
 obtain ⟨h1, h2⟩ := zi1.1 h
 simp only at h1 h2 hp
 subst h1 h2 hp
 rfl
theorem qe4 {ts M : List Tb} (hs : zfi ts) (hm : ∀ x, x ∈ ts ↔ x ∈ M) (hc : zhr M) (x : Tb) :
  ((stB (ts, false) x).2 = false -> zhr (M ++ [x]) /\ ∀ y, y ∈ (stB (ts, false) x).1 ↔ y ∈ M ++ [x]) /\ ((stB (ts, false) x).2 = true -> ¬ zhr (M ++ [x])) := by
 have hmm : ∀ y, y ∈ M ++ [x] ↔ y ∈ M \/ y = x := fun y => by simp
 by_cases hf : fdB ts x = true
 ·have hst : stB (ts, false) x = (ts, decide (3 < x.ar) || ((ts.getD (plB ts x) x).pred != x.pred)) := by
   unfold stB
   rw [if_pos hf]; rfl
  obtain ⟨hp, h0⟩ := zfy hf
  have hg : ts.getD (plB ts x) x = ts[plB ts x] := by rw [List.getD_eq_getElem?_getD, List.getElem?_eq_getElem hp]; rfl
  have hgm : ts[plB ts x] ∈ M := (hm _).1 (List.getElem_mem hp)
  rw [hst, hg]
  simp only [Bool.or_eq_false_iff, Bool.or_eq_true, decide_eq_false_iff_not, decide_eq_true_eq, bne_iff_ne, bne_eq_false_iff_eq]
  refine ⟨fun ⟨h1, h2⟩ => ?_, fun h hcc => ?_⟩
  ·have hx : ts[plB ts x] = x := tb_eq h0 h2
   have hxM : x ∈ M := by rw [<- hx]; exact hgm
   have hsub : ∀ y, y ∈ M ++ [x] ↔ y ∈ M := fun y => by
    rw [hmm]
    exact ⟨fun h => h.elim id fun e => e ▸ hxM, Or.inl⟩
   refine ⟨⟨fun y hy => hc.1 y ((hsub y).1 hy), fun y hy z hz => hc.2 y ((hsub y).1 hy) z ((hsub z).1 hz)⟩, fun y => ?_⟩
   rw [hsub, hm]
  ·rcases h with h | h
   ·have := hcc.1 x ((hmm x).2 (Or.inr rfl)); omega
   ·exact h (hcc.2 _ ((hmm _).2 (Or.inl hgm)) x ((hmm x).2 (Or.inr rfl)) h0)
 ·have hf' : fdB ts x = false := by simpa using hf
  have hst2 : (stB (ts, false) x).2 = decide (3 < x.ar) := by
   unfold stB
   rw [if_neg (show ¬ fdB (ts, false).1 x = true from hf)]; rfl
  have hnone : ∀ y ∈ M, zeo y x ≠ 0 := fun y hy e => hf ((zqd hs).2 ⟨y, (hm y).2 hy, e⟩)
  rw [hst2]
  refine ⟨fun h => ?_, fun h hcc => ?_⟩
  ·have h : ¬ 3 < x.ar := of_decide_eq_false h
   refine ⟨⟨fun y hy => ?_, fun y hy z hz e => ?_⟩, fun y => ?_⟩
   ·rcases (hmm y).1 hy with hy | rfl
    ·exact hc.1 y hy
    ·omega
   ·rcases (hmm y).1 hy with hyM | rfl
    ·rcases (hmm z).1 hz with hzM | hzx
     ·exact hc.2 y hyM z hzM e
     ·rw [hzx] at e
      exact absurd e (hnone y hyM)
    ·rcases (hmm z).1 hz with hz | hz
     ·have := zb3.neg y z
      exact absurd (by omega) (hnone z hz)
     ·rw [hz]
   ·rw [qiv, hmm]
    exact ⟨fun h => h.elim (fun h => Or.inl ((hm y).1 h)) fun h => Or.inr h.2, fun h => h.elim (fun h => Or.inl ((hm y).2 h)) fun h => Or.inr ⟨hf', h⟩⟩
  ·have h : 3 < x.ar := of_decide_eq_true h
   have := hcc.1 x ((hmm x).2 (Or.inr rfl)); omega
theorem qa5 {M L : List Tb} (h : zhr (M ++ L)) : zhr M := ⟨fun x hx => h.1 x (List.mem_append_left _ hx), fun x hx y hy => h.2 x (List.mem_append_left _ hx) y (List.mem_append_left _ hy)⟩
theorem zkt : ∀ (L : List Tb) {ts M : List Tb}, zfi ts -> (∀ x, x ∈ ts ↔ x ∈ M) -> zhr M →
  ((L.foldl stB (ts, false)).2 = false -> zhr (M ++ L) /\ ∀ y, y ∈ (L.foldl stB (ts, false)).1 ↔ y ∈ M ++ L) /\ ((L.foldl stB (ts, false)).2 = true -> ¬ zhr (M ++ L))
 | [], ts, M, hs, hm, hc => by
  simp only [List.foldl_nil, List.append_nil]
  exact ⟨fun _ => ⟨hc, hm⟩, fun h => by cases h⟩
 | x :: L, ts, M, hs, hm, hc => by
  have h1 := qe4 hs hm hc x
  have hsx := zmd (z := (ts, false)) hs x
  rw [List.foldl_cons, show M ++ x :: L = (M ++ [x]) ++ L by simp]
  cases hz : (stB (ts, false) x).2
  ·obtain ⟨c1, m1⟩ := h1.1 hz
   have he : stB (ts, false) x = ((stB (ts, false) x).1, false) := Prod.ext rfl hz
   rw [he]
   exact zkt L hsx m1 c1
  ·refine ⟨fun h => ?_, fun _ h => h1.2 hz (qa5 h)⟩
   rw [zgs L hz] at h; cases h
def sgB (L : List Tb) : List Tb × Bool := L.foldl stB ([], false)
theorem zpj (L : List Tb) : zfi (sgB L).1 := zen L List.Pairwise.nil
theorem zi6 (L : List Tb) : ((sgB L).2 = false -> zhr L /\ ∀ y, y ∈ (sgB L).1 ↔ y ∈ L) /\ ((sgB L).2 = true -> ¬ zhr L) := by
 have := zkt L (ts := []) (M := []) List.Pairwise.nil (fun _ => Iff.rfl) ⟨by simp, by simp⟩
 unfold sgB
 simpa using this
theorem qbj {l l' : List Tb} (h : zfi l) (h' : zfi l') (hm : ∀ y, y ∈ l ↔ y ∈ l') : l = l' := by
 have irr : ∀ a : Tb, ¬ zeo a a < 0 := fun a h => by rw [zb3.self] at h; omega
 have nd : ∀ {l : List Tb}, zfi l -> l.Nodup := fun h => List.Pairwise.imp (fun {a b} h e => by subst e; exact irr a h) h
 have hp : l.Perm l' := (List.perm_ext_iff_of_nodup (nd h) (nd h')).2 hm
 refine List.Perm.eq_of_pairwise (le := fun a b => zeo a b < 0) (fun a b _ _ h1 h2 => ?_) h h' hp
 have := zb3.neg a b
 omega
theorem qcw {L L' : List Tb} (hm : ∀ y, y ∈ L ↔ y ∈ L') : (sgB L).2 = (sgB L').2 /\ ((sgB L).2 = false -> (sgB L).1 = (sgB L').1) := by
 have hcc : zhr L ↔ zhr L' := ⟨fun h => ⟨fun x hx => h.1 x ((hm x).2 hx), fun x hx y hy => h.2 x ((hm x).2 hx) y ((hm y).2 hy)⟩, fun h => ⟨fun x hx => h.1 x ((hm x).1 hx), fun x hx y hy => h.2 x ((hm x).1 hx) y ((hm y).1 hy)⟩⟩
 have e : (sgB L).2 = (sgB L').2 := by
  cases h1 : (sgB L).2 <;> cases h2 : (sgB L').2
  ·rfl
  ·exact absurd (hcc.1 ((zi6 L).1 h1).1) ((zi6 L').2 h2)
  ·exact absurd (hcc.2 ((zi6 L').1 h2).1) ((zi6 L).2 h1)
  ·rfl
 refine ⟨e, fun h => qbj (zpj L) (zpj L') fun y => ?_⟩
 rw [((zi6 L).1 h).2, ((zi6 L').1 (e ▸ h)).2, hm]
def trB : List Tb -> List Tb -> List Tb × Bool
 | ts, [] => (ts, true)
 | ts, x :: L => if (stB (ts, false) x).2 = true then (ts, false) else trB (stB (ts, false) x).1 L
theorem zby : ∀ (A : List Tb) {B ts : List Tb}, trB ts (A ++ B) = if (trB ts A).2 = true then trB (trB ts A).1 B else (trB ts A)
 | [], _, _ => rfl
 | x :: A, B, ts => by
  rw [List.cons_append, trB, trB]
  split
  ·simp
  ·exact zby A
theorem zss : ∀ (L : List Tb) {ts : List Tb}, (trB ts L).2 = !(L.foldl stB (ts, false)).2 /\ ((trB ts L).2 = true -> (trB ts L).1 = (L.foldl stB (ts, false)).1)
 | [], _ => ⟨rfl, fun _ => rfl⟩
 | x :: L, ts => by
  rw [trB, List.foldl_cons]
  cases hz : (stB (ts, false) x).2
  ·rw [if_neg (by simp)]
   have he : stB (ts, false) x = ((stB (ts, false) x).1, false) := Prod.ext rfl hz
   rw [he]
   exact zss L
  ·rw [if_pos rfl, zgs L hz]
   exact ⟨rfl, fun h => by cases h⟩
theorem zk6 : ∀ (L : List Tb) {ts : List Tb}, zfi ts -> zfi (trB ts L).1
 | [], _, h => h
 | x :: L, ts, h => by
  rw [trB]
  split
  ·exact h
  ·exact zk6 L (zmd (z := (ts, false)) h x)
theorem zps : ∀ (L : List Tb) (ts : List Tb), (trB ts L).1.length <= ts.length + L.length
 | [], _ => by simp [trB]
 | x :: L, ts => by
  rw [trB]
  split
  ·simp
  ·have h1 := zps L (stB (ts, false) x).1
   have h2 := (zqk (ts, false) x).1
   simp only [List.length_cons]
   simp only at h2
   omega
def zpf (n : Str) (k : Nat) (p : Bool) : List Tb := if ((n == [61]) || za3 n) = true then [] else [⟨n, k, p⟩]
def suP : Tm -> List Tb := Tm.fold fun n xs rs => rs.flatten ++ zpf n xs.length false
theorem zry (t : Tm) : suP t = (t.args.map suP).flatten ++ zpf t.name t.args.length false := Tm.fold_eq _ t
def syP (t : Tm) (p : Bool) : List Tb := (t.args.map suP).flatten ++ zpf t.name t.args.length p
def zlq (n : Str) (k : Nat) (p : Bool) : List Tb := if (p && (n == [61])) = true then [] else [⟨n, k, p⟩]
def suS : Tm -> List Tb := Tm.fold fun n xs rs => if za3 n = true then [] else zlq n xs.length false ++ rs.flatten
theorem zdo (t : Tm) : suS t = if za3 t.name = true then [] else zlq t.name t.args.length false ++ (t.args.map suS).flatten := Tm.fold_eq _ t
def syS (t : Tm) (p : Bool) : List Tb := if za3 t.name = true then [] else zlq t.name t.args.length p ++ (t.args.map suS).flatten
theorem zcl {α β : Type} {f g : α -> List β} {l : List α} (h : ∀ a ∈ l, ∀ y, y ∈ f a ↔ y ∈ g a) (y : β) : y ∈ (l.map f).flatten ↔ y ∈ (l.map g).flatten := by
 simp only [List.mem_flatten, List.mem_map]
 constructor
 ·rintro ⟨_, ⟨a, ha, rfl⟩, hy⟩
  exact ⟨_, ⟨a, ha, rfl⟩, (h a ha y).1 hy⟩
 ·rintro ⟨_, ⟨a, ha, rfl⟩, hy⟩
  exact ⟨_, ⟨a, ha, rfl⟩, (h a ha y).2 hy⟩
theorem zz4 : ∀ t : Tm, t.names = true -> ∀ y, y ∈ suP t ↔ y ∈ suS t := zbi fun n xs ih h y => by
 rw [Tm.names_eq] at h
 rw [zry, zdo]
 change (if za3 n = true then decide (xs.length = 0) else zbx n && decide (xs.length <= 4) && xs.all Tm.names) = true at h
 change y ∈ (xs.map suP).flatten ++ zpf n xs.length false ↔ y ∈ if za3 n = true then [] else zlq n xs.length false ++ (xs.map suS).flatten
 by_cases hv : za3 n = true
 ·rw [if_pos hv] at h ⊢
  have hx : xs = [] := List.length_eq_zero_iff.1 (of_decide_eq_true h)
  subst hx
  unfold zpf
  rw [hv]
  simp
 ·rw [if_neg hv] at h ⊢
  simp only [Bool.and_eq_true] at h
  have hne : (n == [61]) = false := by
   rw [beq_eq_false_iff_ne]
   rintro rfl
   exact absurd h.1.1 (by decide)
  have hi := zcl (fun a ha y => ih a ha (List.all_eq_true.1 h.2 a ha) y) y
  unfold zpf zlq
  rw [hne, show za3 n = false by simpa using hv]
  simp only [List.mem_append, hi, Bool.or_false, Bool.false_and, Bool.false_eq_true, if_false]
  exact Or.comm
theorem qg5 {t : Tm} (h : t.atomOk = true) (y : Tb) : y ∈ syP t true ↔ y ∈ syS t true := by
 unfold Tm.atomOk at h
 unfold syP syS
 split at h
 ·rename_i he
  simp only [Bool.and_eq_true] at h
  have hn : t.name = [61] := by simpa using he
  have hi := zcl (fun a ha y => zz4 a (List.all_eq_true.1 h.2 a ha) y) y
  unfold zpf zlq
  rw [hn, show za3 [61] = false by decide]
  simpa using hi
 ·rename_i he
  simp only [Bool.and_eq_true] at h
  have hne : (t.name == [61]) = false := by simpa using he
  have hg := h.2
  unfold Tm.good at hg
  rw [Bool.and_eq_true, Tm.names_eq] at hg
  have hv : za3 t.name = false := by
   cases hv : za3 t.name
   ·rfl
   ·obtain ⟨u1, u2⟩ := zh4 hv
    obtain ⟨l1, l2⟩ := zgd h.1
    rw [u1] at l1; cases l1
  rw [hv] at hg
  simp only [Bool.false_eq_true, if_false, Bool.and_eq_true] at hg
  have hi := zcl (fun a ha y => zz4 a (List.all_eq_true.1 hg.2.2 a ha) y) y
  unfold zpf zlq
  rw [hne, hv]
  simp only [List.mem_append, hi, Bool.or_false, Bool.and_false, Bool.false_eq_true, if_false]
  exact Or.comm
def qdg (ls : List Li) : List Tb := (ls.map fun l => syP l.atom true).flatten
def zm8 (ls : List Li) : List Tb := (ls.map fun l => syS l.atom true).flatten
def zhv (cs : List Cq) : List Tb := (cs.map fun c => qdg c.lits).flatten
def zjg (cs : List Cq) : List Tb := (cs.map fun c => zm8 c.lits).flatten
theorem ztn {cs : List Cq} (h : ∀ c ∈ cs, c.ok = true) (y : Tb) : y ∈ zhv cs ↔ y ∈ zjg cs :=
 zcl (fun c hc y => zcl (fun l hl y => qg5 (zfm (h c hc) l hl) y) y) y
theorem zyo : ∀ t : Tm, (suP t).length <= t.nodes := zbi fun n xs ih => by
 rw [zry, Tm.nodes_eq]
 change ((xs.map suP).flatten ++ zpf n xs.length false).length <= 1 + (xs.map Tm.nodes).sum
 have h1 : ((xs.map suP).flatten).length <= (xs.map Tm.nodes).sum := by
  rw [List.length_flatten, List.map_map]
  revert ih
  intro ih
  induction xs with
  | nil => simp
  | cons a xs ih2 =>
   have := ih a (by simp)
   have := ih2 fun x hx => ih x (by simp [hx])
   simp only [List.map_cons, List.sum_cons, Function.comp]
   omega
 have h2 : (zpf n xs.length false).length <= 1 := by unfold zpf; split <;> simp
 rw [List.length_append]; omega
end Go.Proofs.YtmhbmpbgpjljeaaGreat
namespace Go.Proofs.YtmhbmpbgpjljeaaGreat
set_option linter.unusedSimpArgs false
set_option linter.unusedVariables false
set_option linter.unusedSectionVars false
set_option maxRecDepth 4000
open Go.RowKit
section
variable (ap : List Tm -> Tm -> List Tm) (lv : Int) (n : Nat)
def tkU (x : List Tm) (t : Tm) : List Tm := if ((t.depth : Int) == lv) = true then ap x t else x
def zec : List Tm -> List Tm -> Bool × List Tm
 | [], x => (true, x)
 | t :: Q, x => if n + (tkU ap lv x t).length <= 60 then zec Q (tkU ap lv x t) else (false, tkU ap lv x t)
theorem zfr : ∀ (A B x : List Tm), zec ap lv n (A ++ B) x = if (zec ap lv n A x).1 = true then zec ap lv n B (zec ap lv n A x).2 else zec ap lv n A x
 | [], _, _ => by rw [List.nil_append, zec, if_pos rfl]
 | t :: A, B, x => by
  rw [List.cons_append, zec, zec]
  split
  ·exact zfr A B _
  ·simp
end
def apX (x : List Tm) (t : Tm) : List Tm := x ++ [t]
theorem qf5 (f : Tb) (lv : Int) (n : Nat) : ∀ (L : List (List Tm)) (x : List Tm), runT (dpS f lv n) L x = zec apX lv n (L.map (Tm.mk f.name)) x
 | [], _ => rfl
 | l :: L, x => by
  rw [runT, List.map_cons, zec, qf5 f lv n L]
  unfold dpS tkU apX
  simp only [decide_eq_true_eq]
def qF (ts : List Tm) (fs : List Tb) : List Tm := (fs.filter fun f => !(f.ar == 0)).flatMap fun f => (zc7 ts f.ar.toNat).map (Tm.mk f.name)
theorem zg2 (lv : Int) (ts : List Tm) : ∀ (fs : List Tb) (x : List Tm), zca lv ts fs x = zec apX lv ts.length (qF ts fs) x
 | [], _ => rfl
 | f :: fs, x => by
  rw [zca]
  unfold qF
  cases hz : f.ar == 0
  ·rw [if_neg (by simp), List.filter_cons, hz, Bool.not_false, if_pos rfl, List.flatMap_cons, zfr, <- qf5]
   split
   ·exact zg2 lv ts fs _
   ·rename_i h
    rw [show (runT (dpS f lv ts.length) (zc7 ts f.ar.toNat) x) = ((runT (dpS f lv ts.length) (zc7 ts f.ar.toNat) x).1, (runT (dpS f lv ts.length) (zc7 ts f.ar.toNat) x).2) from rfl]
    simp [show (runT (dpS f lv ts.length) (zc7 ts f.ar.toNat) x).1 = false by simpa using h]
  ·rw [if_pos rfl, List.filter_cons, hz, Bool.not_true, if_neg (by simp)]
   exact zg2 lv ts fs x
noncomputable def dsS (f : Tb) (level : Int) (n : Nat) (x : List Tm) (l : List Tm) : Bool × List Tm :=
 (decide (n + (if ((Tm.mk f.name l).depth : Int) == level then zfl x (Tm.mk f.name l) else x).length <= 60), if ((Tm.mk f.name l).depth : Int) == level then zfl x (Tm.mk f.name l) else x)
noncomputable def zln (level : Int) (ts : List Tm) : List Tb -> List Tm -> Bool × List Tm
 | [], x => (true, x)
 | f :: fs, x => if ((f.ar == 0) != (level == 1)) = true then zln level ts fs x else
   if (runT (dsS f level ts.length) (zc7 ts f.ar.toNat) x).1 = true then zln level ts fs (runT (dsS f level ts.length) (zc7 ts f.ar.toNat) x).2 else (false, (runT (dsS f level ts.length) (zc7 ts f.ar.toNat) x).2)
theorem qfq (f : Tb) (lv : Int) (n : Nat) : ∀ (L : List (List Tm)) (x : List Tm), runT (dsS f lv n) L x = zec zfl lv n (L.map (Tm.mk f.name)) x
 | [], _ => rfl
 | l :: L, x => by
  rw [runT, List.map_cons, zec, qfq f lv n L]
  unfold dsS tkU
  simp only [decide_eq_true_eq]
def qS (lv : Int) (ts : List Tm) (fs : List Tb) : List Tm := (fs.filter fun f => !((f.ar == 0) != (lv == 1))).flatMap fun f => (zc7 ts f.ar.toNat).map (Tm.mk f.name)
theorem zr0 (lv : Int) (ts : List Tm) : ∀ (fs : List Tb) (x : List Tm), zln lv ts fs x = zec zfl lv ts.length (qS lv ts fs) x
 | [], _ => rfl
 | f :: fs, x => by
  rw [zln]
  unfold qS
  cases hz : (f.ar == 0) != (lv == 1)
  ·rw [if_neg (by simp), List.filter_cons, hz, Bool.not_false, if_pos rfl, List.flatMap_cons, zfr, <- qfq]
   split
   ·exact zr0 lv ts fs _
   ·rename_i h
    rw [show (runT (dsS f lv ts.length) (zc7 ts f.ar.toNat) x) = ((runT (dsS f lv ts.length) (zc7 ts f.ar.toNat) x).1, (runT (dsS f lv ts.length) (zc7 ts f.ar.toNat) x).2) from rfl]
    simp [show (runT (dsS f lv ts.length) (zc7 ts f.ar.toNat) x).1 = false by simpa using h]
  ·rw [if_pos rfl, List.filter_cons, hz, Bool.not_true, if_neg (by simp)]
   exact zr0 lv ts fs x
theorem zz0 {y : List Tm} {t : Tm} (h : t ∉ y) : (zfl y t).Perm (y ++ [t]) := by
 unfold zfl
 rw [if_neg (fun hc => h ((List.dropWhile_suffix (fun x => ltT x t)).subset (List.mem_of_mem_head? (Option.mem_def.2 (zdd.1 hc)))))]
 conv => rhs; rw [<- List.takeWhile_append_dropWhile (p := fun x => ltT x t) (l := y)]
 rw [List.append_assoc, List.append_assoc]
 exact List.Perm.append_left _ List.perm_append_comm
theorem zje (lv : Int) (n : Nat) : ∀ (Q x y : List Tm), Q.Nodup -> (∀ t ∈ Q, t ∉ x) -> x.Perm y -> zu6 y →
  (zec apX lv n Q x).1 = (zec zfl lv n Q y).1 /\ (zec apX lv n Q x).2.Perm (zec zfl lv n Q y).2 /\ zu6 (zec zfl lv n Q y).2
 | [], x, y, _, _, hp, hs => ⟨rfl, hp, hs⟩
 | t :: Q, x, y, hn, hx, hp, hs => by
  obtain ⟨n1, n2⟩ := List.nodup_cons.1 hn
  have key : ∀ {x' y' : List Tm}, x'.Perm y' -> zu6 y' -> (∀ u ∈ Q, u ∉ x') →
    (if n + x'.length <= 60 then zec apX lv n Q x' else (false, x')).1 = (if n + y'.length <= 60 then zec zfl lv n Q y' else (false, y')).1 /\ (if n + x'.length <= 60 then zec apX lv n Q x' else (false, x')).2.Perm (if n + y'.length <= 60 then zec zfl lv n Q y' else (false, y')).2 /\ zu6 (if n + y'.length <= 60 then zec zfl lv n Q y' else (false, y')).2 := by
   intro x' y' hp' hs' hx'
   rw [hp'.length_eq]
   split
   ·exact zje lv n Q x' y' n2 hx' hp' hs'
   ·exact ⟨rfl, hp', hs'⟩
  rw [zec, zec]
  unfold tkU
  by_cases hd : ((t.depth : Int) == lv) = true
  ·simp only [if_pos hd]
   refine key ?_ (qen hs t) fun u hu => ?_
   ·have h1 : t ∉ y := fun h => hx t (by simp) (hp.mem_iff.2 h)
    exact (hp.append_right [t]).trans (zz0 h1).symm
   ·intro hc
    rcases List.mem_append.1 hc with hc | hc
    ·exact hx u (by simp [hu]) hc
    ·rw [List.mem_singleton] at hc; subst hc; exact n1 hu
  ·simp only [if_neg hd]
   exact key hp hs fun u hu => hx u (by simp [hu])
theorem qe6 {x y : List Tm} (hp : x.Perm y) (hs : zu6 y) : zht x = y := by
 refine List.Perm.eq_of_pairwise (le := fun a b => ltOf zcn b a = false) (fun a b _ _ h1 h2 => ?_) (zow x) (hs.imp fun {a b} h => ?_) ((zdm x).trans hp)
 ·unfold ltOf at h1 h2
  rw [decide_eq_false_iff_not] at h1 h2
  have n1 := zda a b
  exact (zih a b).1 (by omega)
 ·unfold ltOf
  rw [decide_eq_false_iff_not]
  have := zda a b
  omega
theorem zks {ts : List Tm} (h : ts.Nodup) : ∀ n, (zc7 ts n).Nodup
 | 0 => by rw [zc7]; simp
 | n + 1 => by
  rw [zc7, List.Nodup, List.pairwise_flatMap]
  refine ⟨fun l _ => ?_, (zks h n).imp_of_mem fun {a b} ha hb hne => ?_⟩
  ·exact List.Pairwise.map _ (fun a b hab e => hab (List.singleton_inj.1 (List.append_cancel_left e))) h
  ·intro l h1 l' h2 e
   subst e
   obtain ⟨t, _, rfl⟩ := List.mem_map.1 h1
   obtain ⟨t', _, h2⟩ := List.mem_map.1 h2
   exact hne (List.append_inj_left' h2 rfl).symm
structure FnOk (fs : List Tb) : Prop where
 srt : zfi fs
 pos : ∀ f ∈ fs, 0 <= f.ar /\ f.ar <= 3
 low : ∀ f ∈ fs, zbx f.name = true
theorem zrt {ts : List Tm} {fs : List Tb} (h : FnOk fs) (hn : ts.Nodup) : (qF ts fs).Nodup := by
 unfold qF
 rw [List.Nodup, List.pairwise_flatMap]
 refine ⟨fun f hf => ?_, ?_⟩
 ·exact List.Pairwise.map _ (fun a b hab e => hab (Tm.mk.inj e).2) (zks hn _)
 ·refine (h.srt.filter _).imp_of_mem fun {a b} ha hb hab => ?_
  intro t h1 t' h2 e
  subst e
  obtain ⟨l1, m1, rfl⟩ := List.mem_map.1 h1
  obtain ⟨l2, m2, h2⟩ := List.mem_map.1 h2
  obtain ⟨e1, e2⟩ := Tm.mk.inj h2
  have k1 := ((zdy ts _ l1).1 m1).1
  have k2 := ((zdy ts _ l2).1 m2).1
  have p1 := (h.pos a (List.mem_filter.1 ha).1).1
  have p2 := (h.pos b (List.mem_filter.1 hb).1).1
  rw [e2] at k2
  have : zeo a b = 0 := zi1.2 ⟨e1.symm, by omega⟩
  omega
theorem zic {ap : List Tm -> Tm -> List Tm} (hap : ∀ x t u, u ∈ ap x t ↔ u ∈ x \/ u = t) {lv : Int} {n : Nat} : ∀ (Q x : List Tm), ∀ u ∈ (zec ap lv n Q x).2, u ∈ x \/ (u ∈ Q /\ (u.depth : Int) = lv)
 | [], _, u, h => Or.inl h
 | t :: Q, x, u, h => by
  rw [zec] at h
  unfold tkU at h
  by_cases hd : ((t.depth : Int) == lv) = true
  ·simp only [if_pos hd] at h
   have key : u ∈ ap x t -> u ∈ x \/ (u ∈ t :: Q /\ (u.depth : Int) = lv) := fun hu => ((hap x t u).1 hu).imp id fun e => by
    subst e
    exact ⟨by simp, by simpa using hd⟩
   split at h
   ·rcases zic hap Q _ u h with h | ⟨h1, h2⟩
    ·exact key h
    ·exact Or.inr ⟨by simp [h1], h2⟩
   ·exact key h
  ·simp only [if_neg hd] at h
   split at h
   ·rcases zic hap Q _ u h with h | ⟨h1, h2⟩
    ·exact Or.inl h
    ·exact Or.inr ⟨by simp [h1], h2⟩
   ·exact Or.inl h
theorem zl9 {ap : List Tm -> Tm -> List Tm} {lv : Int} {n : Nat} : ∀ (Q x : List Tm), n + x.length <= 60 -> (zec ap lv n Q x).1 = true -> n + (zec ap lv n Q x).2.length <= 60
 | [], _, h, _ => h
 | t :: Q, x, _, h => by
  rw [zec] at h ⊢
  split at h
  ·rename_i hc
   rw [if_pos hc]
   exact zl9 Q _ hc h
  ·cases h
def fcS (fs : List Tb) : List Tb := fs ++ if (fs.any fun f => f.ar == 0) = true then [] else [⟨[99, 48], 0, false⟩]
def cnT (fs : List Tb) : List Tm := (fs.filter fun f => f.ar == 0).map fun f => Tm.mk f.name []
def ts0 (fs : List Tb) : List Tm := if (cnT fs).length = 0 then [Tm.mk [99, 48] []] else cnT fs
theorem zr4 {lv : Int} (h2 : 2 <= lv) {ts : List Tm} {fs : List Tb} (hf : FnOk fs) (hn : ts.Nodup) :
  (zln lv ts (fcS fs) []).1 = (zca lv ts fs []).1 /\ (zln lv ts (fcS fs) []).2 = zht (zca lv ts fs []).2 := by
 have hq : qS lv ts (fcS fs) = qF ts fs := by
  unfold qS qF fcS
  have h1 : (lv == 1) = false := by rw [beq_eq_false_iff_ne]; omega
  rw [h1]
  have e : (fun f : Tb => !((f.ar == 0) != false)) = fun f => !(f.ar == 0) := by funext f; simp
  rw [e, List.filter_append, List.flatMap_append]
  split <;> simp
 rw [zr0, zg2, hq]
 obtain ⟨r1, r2, r3⟩ := zje lv ts.length (qF ts fs) [] [] (zrt hf hn) (by simp) (List.Perm.refl _) List.Pairwise.nil
 exact ⟨r1.symm, (qe6 r2 r3).symm⟩
noncomputable def lvI (fs : List Tb) : Nat -> Int -> List Tm -> Bool × List Tm
 | 0, _, ts => (true, ts)
 | k + 1, lv, ts => if (zca lv ts fs []).1 = true then lvI fs k (lv + 1) (ts ++ zht (zca lv ts fs []).2) else (false, [])
noncomputable def lvS (fs : List Tb) : Nat -> Int -> List Tm -> Bool × List Tm
 | 0, _, ts => (true, ts)
 | k + 1, lv, ts => if (zln lv ts fs []).1 = true then lvS fs k (lv + 1) (ts ++ (zln lv ts fs []).2) else (false, [])
structure TsOk (fs : List Tb) (lv : Int) (ts : List Tm) : Prop where
 nd : ts.Nodup
 dp : ∀ t ∈ ts, (t.depth : Int) < lv
 len : ts.length <= 60
 from' : ∀ t ∈ ts, ∀ p : Tm -> Prop, (∀ f ∈ fcS fs, ∀ l, l.length = f.ar.toNat -> (∀ a ∈ l, p a) -> p (.mk f.name l)) -> p t
theorem zmq {fs : List Tb} {f : Tb} (h : f ∈ fs) : f ∈ fcS fs := List.mem_append_left _ h
theorem zju {fs : List Tb} (hf : FnOk fs) {lv : Int} {ts : List Tm} (ht : TsOk fs lv ts) (hb : (zca lv ts fs []).1 = true) : TsOk fs (lv + 1) (ts ++ zht (zca lv ts fs []).2) := by
 rw [zg2] at hb ⊢
 have hm := zic (ap := apX) (fun x t u => by unfold apX; simp) (lv := lv) (n := ts.length) (qF ts fs) []
 have hl := zl9 (ap := apX) (lv := lv) (n := ts.length) (qF ts fs) [] (by have := ht.len; simpa using this) hb
 have hsm := zje lv ts.length (qF ts fs) [] [] (zrt hf ht.nd) (by simp) (List.Perm.refl _) List.Pairwise.nil
 have hnd : (zec apX lv ts.length (qF ts fs) []).2.Nodup := hsm.2.1.nodup_iff.2 (zkf hsm.2.2)
 generalize (zec apX lv ts.length (qF ts fs) []).2 = x at *
 have hp := zdm x
 have hmm : ∀ u ∈ zht x, u ∈ qF ts fs /\ (u.depth : Int) = lv := fun u hu => (hm u (hp.mem_iff.1 hu)).elim (fun h => by cases h) id
 refine ⟨?_, fun t h => ?_, ?_, fun t h p hp' => ?_⟩
 ·rw [List.nodup_append]
  refine ⟨ht.nd, hp.nodup_iff.2 hnd, fun a ha b hb' e => ?_⟩
  subst e
  have := ht.dp a ha
  have := (hmm a hb').2
  omega
 ·rcases List.mem_append.1 h with h | h
  ·have := ht.dp t h; omega
  ·have := (hmm t h).2; omega
 ·rw [List.length_append, hp.length_eq]; exact hl
 ·rcases List.mem_append.1 h with h | h
  ·exact ht.from' t h p hp'
  ·obtain ⟨h, _⟩ := hmm t h
   unfold qF at h
   obtain ⟨f, hfm, h⟩ := List.mem_flatMap.1 h
   obtain ⟨l, hl', rfl⟩ := List.mem_map.1 h
   obtain ⟨h1, h2⟩ := (zdy ts _ l).1 hl'
   exact hp' f (zmq (List.mem_filter.1 hfm).1) l h1 fun a ha => ht.from' a (h2 a ha) p hp'
theorem zz1 {fs : List Tb} (hf : FnOk fs) : ∀ (k : Nat) {lv : Int} {ts : List Tm}, 2 <= lv -> TsOk fs lv ts -> lvS (fcS fs) k lv ts = lvI fs k lv ts
 | 0, _, _, _, _ => rfl
 | k + 1, lv, ts, h2, ht => by
  obtain ⟨e1, e2⟩ := zr4 h2 hf ht.nd
  rw [lvS, lvI, e1, e2]
  split
  ·rename_i hb
   exact zz1 hf k (by omega) (zju hf ht hb)
  ·rfl
theorem qfd {fs : List Tb} (hf : FnOk fs) : ∀ (k : Nat) {lv : Int} {ts : List Tm}, TsOk fs lv ts -> (lvI fs k lv ts).1 = true -> TsOk fs (lv + k) (lvI fs k lv ts).2
 | 0, lv, ts, ht, _ => by
  rw [show lv + ((0 : Nat) : Int) = lv by omega]; exact ht
 | k + 1, lv, ts, ht, h => by
  rw [lvI] at h ⊢
  split at h
  ·rename_i hb
   rw [if_pos hb]
   have := qfd hf k (zju hf ht hb) h
   rw [show lv + ((k + 1 : Nat) : Int) = lv + 1 + (k : Int) by omega]
   exact this
  ·cases h
theorem qf7 {fs : List Tb} (hf : FnOk fs) : zu6 (cnT fs) := by
 unfold cnT
 rw [zu6, List.pairwise_map]
 refine (hf.srt.filter _).imp_of_mem fun {a b} ha hb h => ?_
 obtain ⟨ha, ha0⟩ := List.mem_filter.1 ha
 obtain ⟨hb, hb0⟩ := List.mem_filter.1 hb
 have n : ∀ f ∈ fs, za3 f.name = false := fun f hfm => by
  cases hv : za3 f.name
  ·rfl
  ·obtain ⟨u1, _⟩ := zh4 hv
   obtain ⟨l1, _⟩ := zgd (hf.low f hfm)
   rw [u1] at l1; cases l1
 rw [zjl]
 unfold hdT
 simp only [Tm.name, Tm.args, n a ha, n b hb]
 have e0 : zj7 false false = 0 := by decide
 have e1 : qfa ([] : List Tm).length ([] : List Tm).length = 0 := by decide
 have e2 : zdg [] [] = 0 := by rw [zdg]
 have ez : zj3 a.ar b.ar = 0 := by
  rw [zng]
  have h1 : a.ar = 0 := by simpa using ha0
  have h2 : b.ar = 0 := by simpa using hb0
  omega
 unfold zeo at h
 rw [ez] at h
 rw [e0, e1, e2]
 unfold orE at h ⊢
 simp only [if_true]
 split at h
 ·omega
 ·rename_i hne
  rw [if_neg hne, if_neg hne]
  exact h
theorem ztg {lv : Int} {n : Nat} : ∀ (Q x : List Tm), (∀ t ∈ Q, (t.depth : Int) = lv) -> zu6 (x ++ Q) -> n + x.length + Q.length <= 60 -> zec zfl lv n Q x = (true, x ++ Q)
 | [], x, _, _, _ => by rw [zec, List.append_nil]
 | t :: Q, x, hd, hs, hl => by
  have h1 : ((t.depth : Int) == lv) = true := by rw [beq_iff_eq]; exact hd t (by simp)
  have hs' : (x ++ t :: Q).Pairwise fun a b => zcn a b < 0 := hs
  rw [List.pairwise_append] at hs'
  have hin : zfl x t = x ++ [t] := by
   have := zra (l := x) (t := t) (k := x.length) (Nat.le_refl _) (fun y hy => decide_eq_true (hs'.2.2 y (by rw [List.take_length] at hy; exact hy) t (by simp))) fun h => absurd h (Nat.lt_irrefl _)
   rw [List.take_length, List.drop_length, if_neg (by rw [zdd]; simp), List.append_nil] at this
   exact this
  simp only [List.length_cons] at hl
  rw [zec, tkU, if_pos h1, hin, if_pos (by rw [List.length_append, List.length_singleton]; omega)]
  have := ztg (n := n) Q (x ++ [t]) (fun u hu => hd u (by simp [hu])) (by simpa using hs) (by rw [List.length_append, List.length_singleton]; omega)
  rw [this, List.append_assoc]; rfl
theorem zmf (n : Str) : (Tm.mk n []).depth = 1 := by rw [Tm.depth_eq]; rfl
theorem zyp (fs : List Tb) : (cnT fs).length <= fs.length := by
 unfold cnT
 rw [List.length_map]
 exact List.length_filter_le _ _
theorem zyr (fs : List Tb) : (fs.any fun f => f.ar == 0) = true ↔ (cnT fs).length ≠ 0 := by
 unfold cnT
 rw [List.length_map, List.any_eq_true]
 constructor
 ·rintro ⟨f, hf, h0⟩ hl
  rw [List.length_eq_zero_iff] at hl
  have : f ∈ fs.filter fun f => f.ar == 0 := List.mem_filter.2 ⟨hf, h0⟩
  rw [hl] at this; cases this
 ·intro h
  obtain ⟨f, hf⟩ := List.exists_mem_of_length_pos (Nat.pos_of_ne_zero h)
  obtain ⟨h1, h2⟩ := List.mem_filter.1 hf
  exact ⟨f, h1, h2⟩
theorem zrx {fs : List Tb} (hf : FnOk fs) (hl : fs.length <= 12) : zln 1 [] (fcS fs) [] = (true, ts0 fs) := by
 have hq : qS 1 [] (fcS fs) = ts0 fs := by
  have e : (fun f : Tb => !((f.ar == 0) != ((1 : Int) == 1))) = fun f => f.ar == 0 := by funext f; simp
  have e2 : ∀ l : List Tb, (∀ f ∈ l, (f.ar == 0) = true) -> (l.flatMap fun f => (zc7 [] f.ar.toNat).map (Tm.mk f.name)) = l.map fun f => Tm.mk f.name [] := by
   intro l
   induction l with
   | nil => intro _; rfl
   | cons f l ih =>
    intro h
    have h0 : f.ar = 0 := by simpa using h f (by simp)
    rw [List.flatMap_cons, ih fun g hg => h g (by simp [hg]), List.map_cons, h0]
    rfl
  unfold qS
  rw [e, e2 _ fun f h => (List.mem_filter.1 h).2]
  unfold fcS ts0
  rw [List.filter_append, List.map_append]
  by_cases ha : (fs.any fun f => f.ar == 0) = true
  ·rw [if_pos ha, if_neg ((zyr fs).1 ha)]
   simp [cnT]
  ·have hz : (cnT fs).length = 0 := Decidable.byContradiction fun h => ha ((zyr fs).2 h)
   rw [if_neg ha, if_pos hz]
   have : (fs.filter fun f => f.ar == 0).map (fun f => Tm.mk f.name []) = [] := List.length_eq_zero_iff.1 hz
   rw [this]
   rfl
 rw [zr0, hq]
 have hcl := zyp fs
 have hs : zu6 (ts0 fs) := by
  unfold ts0
  split
  ·exact List.pairwise_singleton _ _
  ·exact qf7 hf
 have hd : ∀ t ∈ ts0 fs, (t.depth : Int) = 1 := by
  unfold ts0
  intro t ht
  split at ht
  ·rw [List.mem_singleton.1 ht, zmf]; rfl
  ·obtain ⟨f, _, rfl⟩ := List.mem_map.1 ht
   rw [zmf]; rfl
 have hln : (ts0 fs).length <= 12 := by
  unfold ts0
  split
  ·simp
  ·omega
 have := ztg (lv := 1) (n := ([] : List Tm).length) (ts0 fs) [] hd (by simpa using hs) (by simp only [List.length_nil]; omega)
 rw [this, List.nil_append]
theorem zod {fs : List Tb} (hf : FnOk fs) (hl : fs.length <= 12) : TsOk fs 2 (ts0 fs) := by
 have hcl := zyp fs
 refine ⟨?_, fun t ht => ?_, ?_, fun t ht p hp => ?_⟩
 ·unfold ts0
  split
  ·simp
  ·exact zkf (qf7 hf)
 ·unfold ts0 at ht
  split at ht
  ·rw [List.mem_singleton.1 ht, zmf]; decide
  ·obtain ⟨f, _, rfl⟩ := List.mem_map.1 ht
   rw [zmf]; decide
 ·unfold ts0
  split
  ·simp
  ·omega
 ·unfold ts0 at ht
  split at ht
  ·rename_i hz
   rw [List.mem_singleton.1 ht]
   refine hp ⟨[99, 48], 0, false⟩ ?_ [] rfl (by simp)
   unfold fcS
   rw [if_neg fun ha => (zyr fs).1 ha hz]
   simp
  ·obtain ⟨f, hfm, rfl⟩ := List.mem_map.1 ht
   obtain ⟨h1, h2⟩ := List.mem_filter.1 hfm
   have h0 : f.ar = 0 := by simpa using h2
   exact hp f (zmq h1) [] (by rw [h0]; rfl) (by simp)
theorem lv_all {fs : List Tb} (hf : FnOk fs) (hl : fs.length <= 12) (d : Nat) : lvS (fcS fs) (d + 1) 1 [] = lvI fs d 2 (ts0 fs) := by
 rw [lvS, zrx hf hl, if_pos rfl, List.nil_append]
 exact zz1 hf d (by omega) (zod hf hl)
theorem zop {fs : List Tb} (hf : FnOk fs) : ∀ f ∈ fcS fs, zbx f.name = true /\ f.ar.toNat <= 3 := fun f h => by
 unfold fcS at h
 rcases List.mem_append.1 h with h | h
 ·have := hf.pos f h
  exact ⟨hf.low f h, by omega⟩
 ·split at h
  ·cases h
  ·rw [List.mem_singleton.1 h]; exact ⟨by decide, by decide⟩
theorem zyl {s : Str} (h : zbx s = true) : s.length <= 6 := by
 unfold zbx at h
 simp only [Bool.and_eq_true] at h
 have := h.1.2
 unfold inB at this
 simp only [Bool.and_eq_true, decide_eq_true_eq] at this
 omega
def pw3 : Nat -> Nat
 | 0 => 0
 | n + 1 => 9 + 3 * pw3 n
theorem zhw : ∀ {m n : Nat}, m <= n -> pw3 m <= pw3 n
 | 0, _, _ => Nat.zero_le _
 | m + 1, 0, h => by omega
 | m + 1, n + 1, h => by
  have := zhw (m := m) (n := n) (by omega)
  rw [pw3, pw3]; omega
theorem qh6 {t : Tm} {a : Tm} (h : a ∈ t.args) : a.depth + 1 <= t.depth := by
 rw [Tm.depth_eq t]
 have key : ∀ (l : List Nat) (m : Nat), m <= l.foldl max m /\ ∀ x ∈ l, x <= l.foldl max m := by
  intro l
  induction l with
  | nil => intro m; exact ⟨Nat.le_refl _, by simp⟩
  | cons y l ih =>
   intro m
   obtain ⟨h1, h2⟩ := ih (max m y)
   rw [List.foldl_cons]
   refine ⟨by omega, fun x hx => ?_⟩
   rcases List.mem_cons.1 hx with rfl | hx
   ·omega
   ·exact h2 x hx
 have := (key (t.args.map Tm.depth) 0).2 a.depth (List.mem_map_of_mem h)
 omega
theorem zoc (f : Tm -> Nat) (B : Nat) : ∀ l : List Tm, (∀ a ∈ l, f a <= B) -> (l.map f).sum <= l.length * B
 | [], _ => by simp
 | a :: l, h => by
  have h1 := zoc f B l fun x hx => h x (by simp [hx])
  have h2 := h a (by simp)
  rw [List.map_cons, List.sum_cons, List.length_cons, Nat.add_mul]; omega
def HtOk (t : Tm) : Prop := t.wt <= pw3 t.depth /\ upT t = true
theorem ztk {f : Tb} (h1 : zbx f.name = true) (h2 : f.ar.toNat <= 3) {l : List Tm} (hl : l.length = f.ar.toNat) (ha : ∀ a ∈ l, HtOk a) : HtOk (.mk f.name l) := by
 have hn := zyl h1
 refine ⟨?_, ?_⟩
 ·obtain ⟨d, hd⟩ : ∃ d, (Tm.mk f.name l).depth = d + 1 := ⟨(l.map Tm.depth).foldl max 0, by rw [Tm.depth_eq]; rfl⟩
  rw [hd, pw3, Tm.wt_eq]
  show f.name.length + l.length + (l.map Tm.wt).sum <= _
  have hs := zoc Tm.wt (pw3 d) l fun a hm => Nat.le_trans (ha a hm).1 (zhw (by have := qh6 (t := .mk f.name l) (a := a) hm; omega))
  have : l.length * pw3 d <= 3 * pw3 d := Nat.mul_le_mul_right _ (by omega)
  omega
 ·rw [zku]
  obtain ⟨l1, l2⟩ := zgd h1
  have hv : za3 f.name = false := by
   cases hv : za3 f.name
   ·rfl
   ·obtain ⟨u1, _⟩ := zh4 hv
    rw [u1] at l1; cases l1
  show (decide (0 < f.name.length) && (zhx (f.name.getD 0 0) == za3 f.name) && l.all upT) = true
  rw [l1, hv]
  simp only [Bool.and_eq_true, decide_eq_true_eq, List.all_eq_true]
  exact ⟨⟨l2, rfl⟩, fun a hm => (ha a hm).2⟩
theorem TsOk.ht {fs : List Tb} (hf : FnOk fs) {lv : Int} {ts : List Tm} (h : TsOk fs lv ts) : ∀ t ∈ ts, HtOk t := fun t ht => h.from' t ht HtOk fun f hfm l hl ha => ztk (zop hf f hfm).1 (zop hf f hfm).2 hl ha
theorem TsOk.one {fs : List Tb} (hf : FnOk fs) {lv : Int} (h9 : lv <= 8) {ts : List Tm} (h : TsOk fs lv ts) {f : Tb} (hfm : f ∈ fcS fs) {l : List Tm} (hl : l ∈ zc7 ts f.ar.toNat) : (Tm.mk f.name l).wt <= 1048576 /\ upT (.mk f.name l) = true := by
 obtain ⟨h1, h2⟩ := (zdy ts _ l).1 hl
 have hb := ztk (zop hf f hfm).1 (zop hf f hfm).2 h1 fun a ha => h.ht hf a (h2 a ha)
 refine ⟨Nat.le_trans hb.1 ?_, hb.2⟩
 have hd : (Tm.mk f.name l).depth <= 8 := by
  rw [Tm.depth_eq]
  show (l.map Tm.depth).foldl max 0 + 1 <= 8
  have := zeh (B := 7) (l.map Tm.depth) 0 (by omega) fun d hd => by
   obtain ⟨a, ha, rfl⟩ := List.mem_map.1 hd
   have := h.dp a (h2 a ha)
   omega
  omega
 exact Nat.le_trans (zhw hd) (by decide)
theorem TsOk.wts {fs : List Tb} (hf : FnOk fs) {lv : Int} (h9 : lv <= 9) {ts : List Tm} (h : TsOk fs lv ts) : ∀ t ∈ ts, t.wt <= 30000 := fun t ht => by
 have hd := h.dp t ht
 exact Nat.le_trans (h.ht hf t ht).1 (Nat.le_trans (zhw (n := 8) (by omega)) (by decide))
theorem qir : ∀ t : Tm, t.names = true -> ∀ y ∈ suS t, zbx y.name = true /\ 0 <= y.ar := zbi fun n xs ih h y hy => by
 rw [Tm.names_eq] at h
 rw [zdo] at hy
 change (if za3 n = true then decide (xs.length = 0) else zbx n && decide (xs.length <= 4) && xs.all Tm.names) = true at h
 change y ∈ (if za3 n = true then [] else zlq n xs.length false ++ (xs.map suS).flatten) at hy
 by_cases hv : za3 n = true
 ·rw [if_pos hv] at hy; cases hy
 ·rw [if_neg hv] at h hy
  simp only [Bool.and_eq_true] at h
  rcases List.mem_append.1 hy with hy | hy
  ·unfold zlq at hy
   rw [Bool.false_and, if_neg (by simp), List.mem_singleton] at hy
   subst hy
   exact ⟨h.1.1, Int.natCast_nonneg _⟩
  ·obtain ⟨_, hb, hy⟩ := List.mem_flatten.1 hy
   obtain ⟨a, ha, rfl⟩ := List.mem_map.1 hb
   exact ih a ha (List.all_eq_true.1 h.2 a ha) y hy
theorem qi6 {t : Tm} (h : t.atomOk = true) : ∀ y ∈ syS t true, y.pred = false -> zbx y.name = true /\ 0 <= y.ar := fun y hy hp => by
 have key : (∀ a ∈ t.args, a.names = true) -> zbx y.name = true /\ 0 <= y.ar := fun hn => by
  unfold syS at hy
  split at hy
  ·cases hy
  ·rcases List.mem_append.1 hy with hy | hy
   ·unfold zlq at hy
    split at hy
    ·cases hy
    ·rw [List.mem_singleton] at hy
     subst hy
     cases hp
   ·obtain ⟨_, hb, hy⟩ := List.mem_flatten.1 hy
    obtain ⟨a, ha, rfl⟩ := List.mem_map.1 hb
    exact qir a (hn a ha) y hy
 unfold Tm.atomOk at h
 split at h
 ·simp only [Bool.and_eq_true] at h
  exact key fun a ha => List.all_eq_true.1 h.2 a ha
 ·simp only [Bool.and_eq_true] at h
  have hg := h.2
  unfold Tm.good at hg
  rw [Bool.and_eq_true, Tm.names_eq] at hg
  split at hg
  ·have hx : t.args = [] := List.length_eq_zero_iff.1 (of_decide_eq_true hg.2)
   exact key (by rw [hx]; simp)
  ·simp only [Bool.and_eq_true] at hg
   exact key fun a ha => List.all_eq_true.1 hg.2.2 a ha
noncomputable def zco (cs : List Cq) : Bool := decide (cs.length <= 30) && cs.all Cq.ok && (!(sgB (zhv cs)).2 && decide ((sgB (zhv cs)).1.length <= 12))
noncomputable def zm0 (cs : List Cq) : List Tb := if zco cs = true then (sgB (zhv cs)).1 else []
theorem qg0 (cs : List Cq) (h : ∀ c ∈ cs, c.ok = true) : (sgB (zhv cs)).2 = (sgB (zjg cs)).2 /\ ((sgB (zhv cs)).2 = false -> (sgB (zhv cs)).1 = (sgB (zjg cs)).1) := qcw (ztn h)
noncomputable def fnT (cs : List Cq) : List Tb := (zm0 cs).filter fun x => !x.pred
theorem qjh {cs : List Cq} (h : zco cs = true) : FnOk (fnT cs) /\ (fnT cs).length <= 12 := by
 have hv : zm0 cs = (sgB (zhv cs)).1 := by unfold zm0; rw [if_pos h]
 unfold zco at h
 simp only [Bool.and_eq_true, decide_eq_true_eq, Bool.not_eq_true'] at h
 obtain ⟨⟨_, h1⟩, h2, h3⟩ := h
 obtain ⟨c1, m1⟩ := (zi6 (zhv cs)).1 h2
 unfold fnT
 rw [hv]
 have hof : ∀ f ∈ (sgB (zhv cs)).1.filter (fun x => !x.pred), f ∈ zhv cs /\ f.pred = false := fun f hf => by
  obtain ⟨a, b⟩ := List.mem_filter.1 hf
  exact ⟨(m1 f).1 a, by simpa using b⟩
 have hsy : ∀ f ∈ (sgB (zhv cs)).1.filter (fun x => !x.pred), zbx f.name = true /\ 0 <= f.ar := fun f hf => by
  obtain ⟨a, b⟩ := hof f hf
  have a := (ztn (fun c hc => List.all_eq_true.1 h1 c hc) f).1 a
  unfold zjg zm8 at a
  obtain ⟨_, ha, hy⟩ := List.mem_flatten.1 a
  obtain ⟨c, hc, rfl⟩ := List.mem_map.1 ha
  obtain ⟨_, ha, hy⟩ := List.mem_flatten.1 hy
  obtain ⟨l, hl, rfl⟩ := List.mem_map.1 ha
  exact qi6 (zfm (List.all_eq_true.1 h1 c hc) l hl) f hy b
 refine ⟨⟨(zpj _).filter _, fun f hf => ⟨(hsy f hf).2, c1.1 f (hof f hf).1⟩, fun f hf => (hsy f hf).1⟩, ?_⟩
 exact Nat.le_trans (List.length_filter_le _ _) h3
noncomputable def htB (cs : List Cq) (d : Int) : Bool := zco cs && (decide (1 <= d) && decide (d <= 8)) && ((lvI (fnT cs) (d - 1).toNat 2 (ts0 (fnT cs))).1 && (lvI (fnT cs) (d - 1).toNat 2 (ts0 (fnT cs))).2.all Tm.good)
noncomputable def htV (cs : List Cq) (d : Int) : List Tm := if htB cs d = true then (lvI (fnT cs) (d - 1).toNat 2 (ts0 (fnT cs))).2 else []
end Go.Proofs.YtmhbmpbgpjljeaaGreat
namespace Go.Proofs.YtmhbmpbgpjljeaaGreat
set_option linter.unusedSimpArgs false
set_option linter.unusedVariables false
set_option linter.unusedSectionVars false
set_option maxRecDepth 4000
open Go.RowKit Go.Lib
variable {P : Program}
theorem zof (w : World) {o : Oper} {a : Act} {K : Act -> World -> Prop} {Q : Exit -> Act -> World -> Prop} (d s : Operand) (t t' : TypeId)
  (ho : o.op = .call { callee := .builtin .copy, args := #[d, s], argTypes := #[t, t'] }) (v u : Value) (hd : a.eval d = v) (hs : a.eval s = u) {v' : Value} {w' : World}
  (hr : (Builtin.copy_ #[t, t'] o.type #[v, u]).run P w = .ok v' w') (h : K (a.put o.dst v') w') : o.wp P a w K Q := by
 unfold Oper.wp execOp
 simp only [ho, resolve, invoke, builtin, Sem.run_bind, Sem.run_pure, Result.andThen_ok, List.map_toArray, List.map_cons, List.map_nil, hd, hs, hr]
 exact h
theorem zea (w : World) {ops : Array Oper} {rest : List Oper} {o : Oper} {a : Act} {Q : Exit -> Act -> World -> Prop} (hgd : o.guard = none) (d s : Operand) (t t' : TypeId)
  (ho : o.op = .call { callee := .builtin .copy, args := #[d, s], argTypes := #[t, t'] }) (v u : Value) (hd : a.eval d = v) (hs : a.eval s = u) {v' : Value} {w' : World}
  (hr : (Builtin.copy_ #[t, t'] o.type #[v, u]).run P w = .ok v' w') (h : wpList P ops Q rest (a.put o.dst v') w') : wpList P ops Q (o :: rest) a w :=
 wpList_plain hgd fun _ hK => zof w d s t t' ho v u hd hs hr (hK _ _ h)
theorem zfe {ops : Array Oper} {o : Oper} {a : Act} {w : World} {K : Act -> World -> Prop} {Q : Exit -> Act -> World -> Prop} {E : Prop}
  (hg : o.guard = none) (d x : Operand) (dT sT : TypeId) (hop : o.op = Op.call { callee := Callee.builtin Builtin.copy, args := #[d, x], argTypes := #[dT, sT] })
  (v u : Value) (hd : a.eval d = v) (hx : a.eval x = u) {v' : Value} {w' : World} (hr : (Builtin.copy_ #[dT, sT] o.type #[v, u]).run P w = .ok v' w') (hK : K (a.put o.dst v') w') :
  if Region.wanted o (yielded ops a.tmps) = true then Oper.wp P o a w K Q else E := by
 have hw : Region.wanted o (yielded ops a.tmps) = true := by simp [Region.wanted, hg]
 rw [if_pos hw]
 unfold Oper.wp
 simp [execOp, hop, resolve, invoke, builtin, hd, hx, hr, Result.andThen]
 exact hK
theorem zh5 (w : World) (dT sT ty elem : TypeId) (g o dLen dCap : Nat) (a : Addr) (sLen sCap : Nat) (cur : Array Value) (t : TypeId) (cs : List Value) (n : Nat)
  (hu : P.underlying dT = some (.slice elem)) (hs : zba P elem = some n)
  (hg : w.heap[g]? = some (.cells cur t (0, 0))) (hn : cs.length = Nat.min sLen dLen * n)
  (hsrc : ∀ j v, cs[j]? = some v -> w.cell? (a.add j) = some v) (hfit : o + cs.length <= cur.size) (h1 : ∀ v ∈ cs, v.oneCell' = true) :
  (Builtin.copy_ #[dT, sT] ty #[.slice (some ⟨g, o, none⟩) dLen dCap, .slice (some a) sLen sCap]).run P w =
   .ok (goInt (Nat.min sLen dLen)) (w.setRow g (cur.toList.take o ++ cs ++ cur.toList.drop (o + cs.length)).toArray) := by
 have hl := run_loadCells_list (P := P) w a cs hsrc
 have hst := run_storeCells_at P g o t cs 0 cur w hg (by simpa using hfit) h1
 unfold zba at hs
 cases hq : P.info? elem with
 | none => simp [hq] at hs
 | some i =>
  have hi : i.size = n := by simpa [hq] using hs
  subst hi
  rw [hn] at hl
  simp [Builtin.copy_, run_underlying hu, Builtin.lenOf, Builtin.firstCells, sizeOf, typeInfo, hq, hl, hst]
section
abbrev zi2 : TypeId := 69
abbrev zfj : TypeId := 63
set_option maxHeartbeats 4000000
set_option maxRecDepth 100000
theorem qf6 (w : World) (v : Value) (n : Nat) (old : Option Nat) (xs : List Value)
  (hs : (v = .slice none 0 0 /\ n = 0 /\ xs = []) \/ ∃ b cap cells cty, v = .slice (some ⟨b, 0, none⟩) n cap /\ n <= cap /\ cap <= zdi /\ w.heap[b]? = some (.cells cells cty (0, 0)) /\ cells.size = cap * 4 /\ cells.toList.take (n * 4) = xs /\ old = some b)
  (vb vc : Nat) (news : List Value) (hl : news.length = 1 * 4) (hv : ∀ j u, news[j]? = some u -> w.cell? ((⟨vb, 0, none⟩ : Addr).add j) = some u) (h1 : ∀ u ∈ news, u.oneCell' = true) (hn : n <= 1048576) :
  Calls Tryz.prog 156 #[v, .int .i64 n, .slice (some ⟨vb, 0, none⟩) 1 vc] w fun e w' => ∃ v', e = .returned v' /\ Apd w w' 4 (n + 1) old (xs ++ news) v' := by
 obtain ⟨v', w', hr, ha⟩ := zkk (P := Tryz.prog) w zfj zfj zi2 4 56 Tryz.underlying63 (by kernel_rfl) (by kernel_rfl) [.t (.str []), .t (.int .i64 0), .t (.bool false), .nl 1] (by kernel_rfl) rfl v n old xs hs (some ⟨vb, 0, none⟩) 1 vc news hl (Or.inr ⟨_, rfl, hv⟩) h1 (by omega) (by omega)
 have hg : v' = v' := rfl
 rcases hs with ⟨rfl, rfl, rfl⟩ | ⟨b, cap, cells, cty, rfl, k1, k2, k3, k4, k5, rfl⟩
 ·go_enter Tryz.func156, Tryz.ntmps156
  go_wp2_with (at_builtin; refine Lib.wpList_append_run _ rfl _ _ _ _ rfl _ _ rfl rfl _ _ hr ?_)
  go_ret
  exact ⟨_, rfl, ha⟩
 ·go_enter Tryz.func156, Tryz.ntmps156
  go_wp2_with (at_builtin; refine Lib.wpList_append_run _ rfl _ _ _ _ rfl _ _ rfl rfl _ _ hr ?_)
  all_goals (go_ret; exact ⟨_, rfl, ha⟩)
theorem qht (w : World) (b n c i vb vc : Nat) (cells vcells : Array Value) (cty vty : TypeId) (xs news : List Value) (hvb : vb ≠ b)
  (hg : w.heap[b]? = some (.cells cells cty (0, 0))) (hcs : cells.size = c * 4) (hxs : cells.toList.take (n * 4) = xs) (hi : i < n) (hroom : n + 1 <= c) (hc : c <= zdi) (hn : n <= 1048576)
  (hv : w.heap[vb]? = some (.cells vcells vty (0, 0))) (hvx : vcells.toList.take 4 = news) (hl : news.length = 4) (h1c : ∀ v ∈ xs, v.oneCell' = true) (h1v : ∀ v ∈ news, v.oneCell' = true) :
  Calls Tryz.prog 156 #[.slice (some ⟨b, 0, none⟩) n c, .int .i64 i, .slice (some ⟨vb, 0, none⟩) 1 vc] w fun e w' =>
   e = .returned (.slice (some ⟨b, 0, none⟩) (n + 1) c) /\ ∃ A1 : Array Value, A1 = (cells.toList.take ((i + 1) * 4) ++ xs.drop (i * 4) ++ cells.toList.drop ((i + 1) * 4 + (xs.drop (i * 4)).length)).toArray ∧
    w' = (w.drew.setRow b A1).setRow b (A1.toList.take (i * 4) ++ news ++ A1.toList.drop (i * 4 + news.length)).toArray := by
 have hz2 : ¬ ((i : Int) = (n : Int)) := by omega
 have hw1 : IntKind.i64.wrap ((i : Int) + 1) = (i : Int) + 1 := by rw [IntKind.wrap_i64]; omega
 have hw2 : IntKind.i64.wrap ((n : Int) + 1) = (n : Int) + 1 := by rw [IntKind.wrap_i64]; omega
 have hb1 : (0 : Int) <= (i : Int) + 1 := by omega
 have hin : i <= n := by omega
 have htn : ((i : Int) + 1).toNat = i + 1 := by omega
 have htn2 : ((n : Int) + 1).toNat = n + 1 := by omega
 have hb2 : ¬ (c = i + 1) := by omega
 have hb3 : (i : Int) <= (n : Int) + 1 := by omega
 have hb4 : ¬ (c = i) := by omega
 have hxl : xs.length = n * 4 := by rw [<- hxs, List.length_take, Array.length_toList, hcs]; omega
 have hdl : (xs.drop (i * 4)).length = (n - i) * 4 := by rw [List.length_drop, hxl]; omega
 have hgd : w.drew.heap[b]? = some (.cells cells cty (0, 0)) := hg
 obtain ⟨A1, hA1⟩ : ∃ A1 : Array Value, (cells.toList.take ((i + 1) * 4) ++ xs.drop (i * 4) ++ cells.toList.drop ((i + 1) * 4 + (xs.drop (i * 4)).length)).toArray = A1 := ⟨_, rfl⟩
 have hA1s : A1.size = c * 4 := by
  rw [<- hA1]
  simp only [List.size_toArray, List.length_append, List.length_take, Array.length_toList, hdl, List.length_drop, hcs]
  omega
 have hcp1 : ∀ ty dc sc, (Builtin.copy_ #[zfj, zfj] ty #[.slice (some ⟨b, (i + 1) * 4, none⟩) (n - i) dc, .slice (some ⟨b, i * 4, none⟩) (n + 1 - i) sc]).run Tryz.prog w.drew = .ok (goInt (Nat.min (n + 1 - i) (n - i))) (w.drew.setRow b A1) := fun ty dc sc => by
  rw [<- hA1]
  refine zh5 w.drew zfj zfj ty zi2 b ((i + 1) * 4) (n - i) dc ⟨b, i * 4, none⟩ (n + 1 - i) sc cells cty (xs.drop (i * 4)) 4 Tryz.underlying63 (by kernel_rfl) hgd (by rw [hdl, show (n + 1 - i).min (n - i) = n - i from Nat.min_eq_right (by omega)]) (fun j v hj => ?_) (by rw [hdl, hcs]; omega) (fun v hv => h1c v (List.mem_of_mem_drop hv))
  rw [Addr.add_lit]
  rw [List.getElem?_drop, <- hxs, List.getElem?_take] at hj
  split at hj
  ·simp only [World.cell?, hgd]
   simpa using hj
  ·cases hj
 have hg1 : (w.drew.setRow b A1).heap[b]? = some (.cells A1 cty (0, 0)) := setRow_heap w.drew b cells A1 cty (0, 0) hgd
 have hv1 : (w.drew.setRow b A1).heap[vb]? = some (.cells vcells vty (0, 0)) := by rw [setRow_other w.drew b vb A1 hvb]; exact hv
 have hcp2 : ∀ ty dc, (Builtin.copy_ #[zfj, zfj] ty #[.slice (some ⟨b, i * 4, none⟩) (n + 1 - i) dc, .slice (some ⟨vb, 0, none⟩) 1 vc]).run Tryz.prog (w.drew.setRow b A1) = .ok (goInt (Nat.min 1 (n + 1 - i))) ((w.drew.setRow b A1).setRow b (A1.toList.take (i * 4) ++ news ++ A1.toList.drop (i * 4 + news.length)).toArray) := fun ty dc => by
  refine zh5 (w.drew.setRow b A1) zfj zfj ty zi2 b (i * 4) (n + 1 - i) dc ⟨vb, 0, none⟩ 1 vc A1 cty news 4 Tryz.underlying63 (by kernel_rfl) hg1 (by rw [hl, show Nat.min 1 (n + 1 - i) = 1 from Nat.min_eq_left (by omega)]) (fun j v hj => ?_) (by rw [hl, hA1s]; omega) h1v
  rw [Addr.add_lit, Nat.zero_add]
  rw [<- hvx, List.getElem?_take] at hj
  split at hj
  ·simp only [World.cell?, hv1]
   simpa using hj
  ·cases hj
 have hov : ∀ lb cb, (callFunc 202 #[.slice (some ⟨vb, 0, none⟩) 1 vc, .slice (some ⟨b, (i + 1) * 4, none⟩) lb cb]).run Tryz.prog w = .ok (.value (.bool false)) w := fun lb cb => by
  have hkv : vcells.size ≠ 0 := by
   intro h0
   have : vcells.toList = [] := List.length_eq_zero_iff.1 (by simpa using h0)
   rw [this] at hvx; rw [<- hvx] at hl; simp at hl
  rw [run_callFunc_extern Tryz.func202 (by kernel_rfl) (by kernel_rfl) (by kernel_rfl) (e := Extern.SlicesOverlaps.overlaps #[zfj, zfj] #[4]) (by kernel_rfl),
   Lib.run_overlaps_apart w zfj 4 zi2 Tryz.underlying63 4 Tryz.sizeOf69 ⟨vb, 0, none⟩ ⟨b, (i + 1) * 4, none⟩ 1 vc lb cb hvb vty cty vcells.size cells.size (by simp [World.shape?, hv]) (by simp [World.shape?, hg]) (by omega) (by simp [World.frozen?, hv]) (by simp [World.frozen?, hv])]
  rfl
 go_enter Tryz.func156, Tryz.ntmps156
 go_wp2_with (simp only [hov])
 go_region_law (refine zfe rfl _ _ zfj zfj rfl (.slice (some ⟨b, (i + 1) * 4, none⟩) (n - i) (c - (i + 1))) (.slice (some ⟨b, i * 4, none⟩) (n + 1 - i) (c - i)) (by simp [Act.eval, Act.put]) (by simp [Act.eval, Act.put]) (hcp1 _ _ _) ?_)
 go_wp2_with (at_builtin; refine zea _ rfl _ _ zfj zfj rfl _ _ rfl rfl (hcp2 _ _) ?_)
 go_ret
 exact ⟨rfl, A1, hA1.symm, by rw [hl, List.append_assoc]⟩
theorem qgp (w : World) (b n c i vb vc : Nat) (cells vcells : Array Value) (cty vty : TypeId) (xs news : List Value)
  (hg : w.heap[b]? = some (.cells cells cty (0, 0))) (hcs : cells.size = c * 4) (hxs : cells.toList.take (n * 4) = xs) (hi : i < n) (hnc : n <= c) (hroom : c < n + 1) (hn : n <= 1048576)
  (hv : w.heap[vb]? = some (.cells vcells vty (0, 0))) (hvx : vcells.toList.take 4 = news) (hl : news.length = 4) (h1c : ∀ v ∈ xs, v.oneCell' = true) (h1v : ∀ v ∈ news, v.oneCell' = true) :
  Calls Tryz.prog 156 #[.slice (some ⟨b, 0, none⟩) n c, .int .i64 i, .slice (some ⟨vb, 0, none⟩) 1 vc] w fun e w' =>
   ∃ G cells', n + 1 <= G /\ G <= zdi /\ e = .returned (.slice (some ⟨w.heap.size, 0, none⟩) (n + 1) G) /\ w'.heap[w.heap.size]? = some (.cells cells' zi2 (0, 0)) /\ cells'.size = G * 4 /\ cells'.toList.take ((n + 1) * 4) = xs.take (i * 4) ++ news ++ xs.drop (i * 4) /\ Below w.heap.size w w' := by
 obtain ⟨i0, z, hi0, hz0, hzs, hzb, hzl⟩ : ∃ i0 z, Tryz.prog.info? zi2 = some i0 /\ i0.zero = some z /\ i0.size = 4 /\ i0.bytes = 56 /\ z.cells.size = 4 := ⟨_, _, rfl, rfl, rfl, rfl, rfl⟩
 have hz2 : ¬ ((i : Int) = (n : Int)) := by omega
 have hz3 : (c : Int) < (n : Int) + 1 := by omega
 have hbw : b < w.heap.size := (Array.getElem?_eq_some_iff.1 hg).1
 have hvw : vb < w.heap.size := (Array.getElem?_eq_some_iff.1 hv).1
 have hkk : (n : Int) + 1 - (i : Int) = ((n + 1 - i : Nat) : Int) := by omega
 have hik : i + (n + 1 - i) = n + 1 := by omega
 have hxl : xs.length = n * 4 := by rw [<- hxs, List.length_take, Array.length_toList, hcs]; omega
 have hcell : ∀ j v, xs[j]? = some v -> w.cell? ⟨b, j, none⟩ = some v := fun j v hj => by
  rw [<- hxs, List.getElem?_take] at hj
  split at hj
  ·simp only [World.cell?, hg]
   simpa using hj
  ·cases hj
 have hold : (Builtin.firstCells i0.size i (.slice (some ⟨b, 0, none⟩) i c)).run Tryz.prog w.drew = .ok (xs.take (i * 4)).toArray w.drew := by
  rw [hzs]
  exact run_firstCells_some w.drew 4 i ⟨b, 0, none⟩ i c (xs.take (i * 4)) (by rw [List.length_take, hxl]; omega) (fun j v hj => by
   rw [Addr.add_lit, Nat.zero_add]
   rw [List.getElem?_take] at hj
   split at hj
   ·exact hcell j v hj
   ·cases hj)
 have hrz : ∀ ty, (Builtin.append_ #[zfj, 3] ty #[.slice (some ⟨b, 0, none⟩) i c, .int .i64 ((n : Int) + 1 - (i : Int))]).run Tryz.prog w =
   .ok (.slice (some ⟨w.heap.size, 0, none⟩) (n + 1) (grownCap w (n + 1) c zi2)) (w.drew.alloc (.cells ((xs.take (i * 4)).toArray ++ Builtin.zeroCells z.cells (n + 1 - i) ++ Builtin.zeroCells z.cells (grownCap w (n + 1) c zi2 - (n + 1))) zi2)) := fun ty => by
  have h := Lib.run_append_grow_zeros (P := Tryz.prog) w zfj 3 ty zi2 i0 z .i64 .i64 Tryz.underlying63 Tryz.underlying3 hi0 hz0 (some ⟨b, 0, none⟩) i c (xs.take (i * 4)) hold (n + 1 - i) (by omega) (by omega) (by omega) (by omega) (by rw [hzb]; omega) (by rw [hzb, hik]; exact growslice_fits hroom (by omega))
  rw [hik] at h
  rw [hkk]
  exact h
 have hge := grownCap_ge w (n + 1) c zi2
 have hle := grownCap_le_maxLen w (n + 1) c zi2 (by unfold maxLen; omega)
 generalize grownCap w (n + 1) c zi2 = G at hrz hge hle
 have hG63 : G <= 9223372036854775807 := by unfold maxLen at hle; omega
 obtain ⟨R0, hR0⟩ : ∃ R0 : Array Value, (xs.take (i * 4)).toArray ++ Builtin.zeroCells z.cells (n + 1 - i) ++ Builtin.zeroCells z.cells (G - (n + 1)) = R0 := ⟨_, rfl⟩
 have hR0s : R0.size = G * 4 := by
  rw [<- hR0]
  simp only [Array.size_append, List.size_toArray, size_zeroCells, hzl, List.length_take, hxl]
  omega
 have hR0t : R0.toList.take (i * 4) = xs.take (i * 4) := by
  rw [<- hR0]
  simp only [Array.toList_append, List.append_assoc]
  rw [List.take_left' (by rw [List.length_take, hxl]; omega)]
 obtain ⟨W1, hW1⟩ : ∃ W1, w.drew.alloc (.cells R0 zi2) = W1 := ⟨_, rfl⟩
 rw [hR0, hW1] at hrz
 obtain ⟨N, hN⟩ : ∃ N, w.heap.size = N := ⟨_, rfl⟩
 rw [hN] at hrz ⊢
 have hg0 : W1.heap[N]? = some (.cells R0 zi2 (0, 0)) := by rw [<- hW1, <- hN]; exact heap_alloc_new w.drew _
 have hold1 : ∀ k, k < N -> W1.heap[k]? = w.heap[k]? := fun k hk => by rw [<- hW1]; exact Below.heap_alloc w.drew _ k (by rw [<- hN] at hk; exact hk)
 have hB0 : Below N w W1 := by rw [<- hW1, <- hN]; exact ⟨rfl, rfl, rfl, by simp, fun k hk => Below.heap_alloc w.drew _ k hk⟩
 obtain ⟨R1, hR1⟩ : ∃ R1 : Array Value, (R0.toList.take (i * 4) ++ news ++ R0.toList.drop (i * 4 + news.length)).toArray = R1 := ⟨_, rfl⟩
 have hR1s : R1.size = G * 4 := by
  rw [<- hR1]
  simp only [List.size_toArray, List.length_append, List.length_take, Array.length_toList, List.length_drop, hR0s, hl]
  omega
 have hcpA : ∀ ty dc, (Builtin.copy_ #[zfj, zfj] ty #[.slice (some ⟨N, i * 4, none⟩) (n + 1 - i) dc, .slice (some ⟨vb, 0, none⟩) 1 vc]).run Tryz.prog W1 = .ok (goInt (Nat.min 1 (n + 1 - i))) (W1.setRow N R1) := fun ty dc => by
  rw [<- hR1]
  refine zh5 W1 zfj zfj ty zi2 N (i * 4) (n + 1 - i) dc ⟨vb, 0, none⟩ 1 vc R0 zi2 news 4 Tryz.underlying63 (by kernel_rfl) hg0 (by rw [hl, show Nat.min 1 (n + 1 - i) = 1 from Nat.min_eq_left (by omega)]) (fun j v hj => ?_) (by rw [hl, hR0s]; omega) h1v
  rw [Addr.add_lit, Nat.zero_add]
  rw [<- hvx, List.getElem?_take] at hj
  split at hj
  ·simp only [World.cell?, hold1 vb (by omega), hv]
   simpa using hj
  ·cases hj
 obtain ⟨W2, hW2⟩ : ∃ W2, W1.setRow N R1 = W2 := ⟨_, rfl⟩
 have hg2 : W2.heap[N]? = some (.cells R1 zi2 (0, 0)) := by rw [<- hW2]; exact setRow_heap W1 N R0 R1 zi2 (0, 0) hg0
 have hold2 : ∀ k, k < N -> W2.heap[k]? = w.heap[k]? := fun k hk => by rw [<- hW2, setRow_other W1 N k R1 (by omega)]; exact hold1 k hk
 have hB2 : Below N w W2 := ⟨by rw [<- hW2]; exact hB0.os, by rw [<- hW2]; exact hB0.tape, by rw [<- hW2]; exact hB0.output, by rw [<- hW2, size_setRow]; exact hB0.size, hold2⟩
 rw [hW2] at hcpA
 have hcpB : ∀ ty dc sc, (Builtin.copy_ #[zfj, zfj] ty #[.slice (some ⟨N, (i + 1) * 4, none⟩) (n - i) dc, .slice (some ⟨b, i * 4, none⟩) (n - i) sc]).run Tryz.prog W2.drew = .ok (goInt (Nat.min (n - i) (n - i))) (W2.drew.setRow N (R1.toList.take ((i + 1) * 4) ++ xs.drop (i * 4) ++ R1.toList.drop ((i + 1) * 4 + (xs.drop (i * 4)).length)).toArray) := fun ty dc sc => by
  have hdl : (xs.drop (i * 4)).length = (n - i) * 4 := by rw [List.length_drop, hxl]; omega
  refine zh5 W2.drew zfj zfj ty zi2 N ((i + 1) * 4) (n - i) dc ⟨b, i * 4, none⟩ (n - i) sc R1 zi2 (xs.drop (i * 4)) 4 Tryz.underlying63 (by kernel_rfl) hg2 (by rw [hdl, show (n - i).min (n - i) = n - i from Nat.min_self _]) (fun j v hj => ?_) (by rw [hdl, hR1s]; omega) (fun v hv => h1c v (List.mem_of_mem_drop hv))
  rw [Addr.add_lit]
  rw [List.getElem?_drop] at hj
  have := hcell _ v hj
  simp only [World.cell?] at this ⊢
  rw [show W2.drew.heap[b]? = w.heap[b]? from hold2 b (by omega)]
  exact this
 obtain ⟨R2, hR2⟩ : ∃ R2 : Array Value, (R1.toList.take ((i + 1) * 4) ++ xs.drop (i * 4) ++ R1.toList.drop ((i + 1) * 4 + (xs.drop (i * 4)).length)).toArray = R2 := ⟨_, rfl⟩
 rw [hR2] at hcpB
 have hfin : ∀ W3, W3 = W2.drew.setRow N R2 -> W3.heap[N]? = some (.cells R2 zi2 (0, 0)) /\ R2.size = G * 4 /\ R2.toList.take ((n + 1) * 4) = xs.take (i * 4) ++ news ++ xs.drop (i * 4) /\ Below N w W3 := fun W3 h3 => by
  have hdl : (xs.drop (i * 4)).length = (n - i) * 4 := by rw [List.length_drop, hxl]; omega
  subst h3
  refine ⟨setRow_heap W2.drew N R1 R2 zi2 (0, 0) hg2, ?_, ?_, ⟨hB2.os, hB2.tape, hB2.output, by rw [size_setRow]; exact hB2.size, fun k hk => by rw [setRow_other W2.drew N k R2 (by omega)]; exact hold2 k hk⟩⟩
  ·rw [<- hR2]
   simp only [List.size_toArray, List.length_append, List.length_take, Array.length_toList, List.length_drop, hR1s, hxl]
   omega
  ·have e1 : R1.toList.take ((i + 1) * 4) = xs.take (i * 4) ++ news := by
    rw [<- hR1]
    simp only
    rw [hR0t, List.take_left' (by rw [List.length_append, List.length_take, hxl, hl]; omega)]
   rw [<- hR2]
   simp only
   rw [e1, List.take_left' (by rw [List.length_append, List.length_append, List.length_take, hxl, hl, hdl]; omega)]
 have hGi : ¬ (G = i) := by omega
 have hGim : ¬ (G = i + 1) := by omega
 have hci : ¬ (c = i) := by omega
 have hw1 : IntKind.i64.wrap ((i : Int) + 1) = (i : Int) + 1 := by rw [IntKind.wrap_i64]; omega
 have hw2 : IntKind.i64.wrap ((n : Int) + 1) = (n : Int) + 1 := by rw [IntKind.wrap_i64]; omega
 have hw3 : IntKind.i64.wrap ((n : Int) + 1 - (i : Int)) = (n : Int) + 1 - (i : Int) := by rw [IntKind.wrap_i64]; omega
 have hb1 : (0 : Int) <= (i : Int) + 1 := by omega
 have hin : i <= n := by omega
 have htn : ((i : Int) + 1).toNat = i + 1 := by omega
 have hb3 : (i : Int) <= (n : Int) + 1 := by omega
 clear hkk hik hold hR0 hR1 hR2 hW1 hW2 hR0t hN
 go_enter Tryz.func156, Tryz.ntmps156
 go_wp2_with (first
  | (at_builtin; refine Lib.wpList_append_run _ rfl _ _ _ _ rfl _ _ rfl rfl _ _ (hrz _) ?_)
  | (at_builtin; refine zea _ rfl _ _ zfj zfj rfl _ _ rfl rfl (hcpA _ _) ?_))
 go_region_law (refine zfe rfl _ _ zfj zfj rfl (.slice (some ⟨N, (i + 1) * 4, none⟩) (n - i) (G - (i + 1))) (.slice (some ⟨b, i * 4, none⟩) (n - i) (c - i)) (by simp [Act.eval, Act.put]) (by simp [Act.eval, Act.put]) (hcpB _ _ _) ?_)
 go_wp2
 go_ret
 obtain ⟨f1, f2, f3, f4⟩ := hfin _ rfl
 exact ⟨G, R2, hge, hG63, rfl, f1, f2, f3, f4⟩
end
end Go.Proofs.YtmhbmpbgpjljeaaGreat
namespace Go.Proofs.YtmhbmpbgpjljeaaGreat
set_option linter.unusedSimpArgs false
set_option linter.unusedVariables false
set_option linter.unusedSectionVars false
set_option maxRecDepth 4000
open Go.RowKit
def tvB (t : Tb) : List Value := [.string ⟨t.name.toArray⟩, .int .i64 t.ar, .bool t.pred, .slice none 0 0]
def tvs (ts : List Tb) : List Value := (ts.map tvB).flatten
theorem zfn (ts : List Tb) : (tvs ts).length = ts.length * 4 := by
 unfold tvs
 induction ts with
 | nil => rfl
 | cons t ts ih => rw [List.map_cons, List.flatten_cons, List.length_append, ih, List.length_cons, Nat.add_mul]; simp [tvB]; omega
theorem zl5 (t : Tb) (ts : List Tb) : tvs (t :: ts) = tvB t ++ tvs ts := rfl
theorem zdt (a b : List Tb) : tvs (a ++ b) = tvs a ++ tvs b := by unfold tvs; rw [List.map_append, List.flatten_append]
theorem qbi (ts : List Tb) (i : Nat) : (tvs ts).take (i * 4) = tvs (ts.take i) := by
 by_cases h : i <= ts.length
 ·conv => lhs; rw [<- List.take_append_drop i ts, zdt]
  rw [List.take_left' (by rw [zfn, List.length_take, Nat.min_eq_left h])]
 ·rw [List.take_of_length_le (by rw [zfn]; omega), List.take_of_length_le (by omega)]
theorem qcv (ts : List Tb) (i : Nat) : (tvs ts).drop (i * 4) = tvs (ts.drop i) := by
 by_cases h : i <= ts.length
 ·conv => lhs; rw [<- List.take_append_drop i ts, zdt]
  rw [List.drop_left' (by rw [zfn, List.length_take, Nat.min_eq_left h])]
 ·rw [List.drop_of_length_le (by rw [zfn]; omega), List.drop_of_length_le (by omega)]; rfl
theorem zg0 (ts : List Tb) : ∀ v ∈ tvs ts, v.oneCell' = true := fun v hv => by
 unfold tvs at hv
 obtain ⟨r, hr, hv⟩ := List.mem_flatten.1 hv
 obtain ⟨t, _, rfl⟩ := List.mem_map.1 hr
 simp only [tvB, List.mem_cons, List.not_mem_nil, or_false] at hv
 rcases hv with rfl | rfl | rfl | rfl <;> rfl
def wfB (t : Tb) : Prop := t.name.length <= zdi /\ IntKind.i64.min <= t.ar /\ t.ar <= IntKind.i64.max
theorem zs0 {w : World} {cells : Array Value} {o : Nat} {t : Tb} {f : List Nat} : za2 w cells o (tbC t) f ↔ f = [] /\ wfB t /\ ∀ j v, (tvB t)[j]? = some v -> cells[o + j]? = some v := by
 constructor
 ·intro h
  rw [zat] at h
  simp only [za2] at h
  obtain ⟨v1, f1, _, c1, rfl, h1, v2, f2, _, c2, rfl, h2, v3, f3, _, c3, rfl, h3, v4, f4, _, c4, rfl, h4, rfl⟩ := h
  unfold zao at h1 h2 h3 h4
  obtain ⟨rfl, l1, rfl⟩ := h1
  obtain ⟨rfl, a1, a2, rfl⟩ := h2
  obtain ⟨rfl, rfl⟩ := h3
  obtain ⟨rfl, rfl⟩ := h4
  refine ⟨rfl, ⟨l1, a1, a2⟩, fun j v hj => ?_⟩
  match j, hj with
  | 0, hj => rw [<- Option.some.inj hj]; exact c1
  | 1, hj => rw [<- Option.some.inj hj]; exact c2
  | 2, hj => rw [<- Option.some.inj hj]; exact c3
  | 3, hj => rw [<- Option.some.inj hj]; exact c4
  | j + 4, hj => simp [tvB] at hj
 ·rintro ⟨rfl, ⟨l1, a1, a2⟩, h⟩
  rw [zat]
  simp only [za2]
  refine ⟨_, [], [], h 0 _ rfl, rfl, ?_, _, [], [], h 1 _ rfl, rfl, ?_, _, [], [], h 2 _ rfl, rfl, ?_, _, [], [], h 3 _ rfl, rfl, ?_, rfl⟩ <;> unfold zao
  ·exact ⟨rfl, l1, rfl⟩
  ·exact ⟨rfl, a1, a2, rfl⟩
  ·exact ⟨rfl, rfl⟩
  ·exact ⟨rfl, rfl⟩
theorem ze1 {w : World} {cells : Array Value} : ∀ {ts : List Tb} {o : Nat} {f : List Nat}, zah w cells o 4 (ts.map tbC) f ↔ f = [] /\ (∀ t ∈ ts, wfB t) /\ ∀ j v, (tvs ts)[j]? = some v -> cells[o + j]? = some v
 | [], o, f => by
  rw [List.map_nil, zah]
  exact ⟨fun h => ⟨h, by simp, fun j v hj => by simp [tvs] at hj⟩, fun h => h.1⟩
 | t :: ts, o, f => by
  rw [List.map_cons, zah]
  constructor
  ·rintro ⟨_, f1, f2, rfl, h1, h2⟩
   obtain ⟨rfl, w1, c1⟩ := zs0.1 h1
   obtain ⟨rfl, w2, c2⟩ := ze1.1 h2
   refine ⟨rfl, fun x hx => ?_, fun j v hj => ?_⟩
   ·rcases List.mem_cons.1 hx with rfl | hx
    ·exact w1
    ·exact w2 x hx
   ·rw [zl5] at hj
    by_cases h4 : j < 4
    ·rw [List.getElem?_append_left (by simpa [tvB] using h4)] at hj
     exact c1 j v hj
    ·rw [List.getElem?_append_right (by simpa [tvB] using Nat.le_of_not_lt h4)] at hj
     have := c2 (j - 4) v (by simpa [tvB] using hj)
     rwa [show o + 4 + (j - 4) = o + j by omega] at this
  ·rintro ⟨rfl, h1, h2⟩
   refine ⟨rfl, [], [], rfl, zs0.2 ⟨rfl, h1 t (by simp), fun j v hj => h2 j v ?_⟩, ze1.2 ⟨rfl, fun x hx => h1 x (by simp [hx]), fun j v hj => ?_⟩⟩
   ·rw [zl5, List.getElem?_append_left (by
     have := (List.getElem?_eq_some_iff.1 hj).1
     exact this)]
    exact hj
   ·have := h2 (4 + j) v (by
     rw [zl5, List.getElem?_append_right (by simp [tvB])]
     simpa [tvB] using hj)
    rwa [show o + 4 + j = o + (4 + j) by omega]
theorem zul {cells : Array Value} {xs : List Value} (h : ∀ j v, xs[j]? = some v -> cells[0 + j]? = some v) : cells.toList.take xs.length = xs := by
 apply List.ext_getElem?
 intro j
 by_cases hj : j < xs.length
 ·rw [List.getElem?_take, if_pos hj, List.getElem?_eq_getElem hj]
  have := h j _ (List.getElem?_eq_getElem hj)
  simpa using this
 ·rw [List.getElem?_take, if_neg hj, List.getElem?_eq_none (by omega)]
theorem zkj {cells : Array Value} {xs : List Value} {n : Nat} (h : cells.toList.take n = xs) : ∀ j v, xs[j]? = some v -> cells[0 + j]? = some v := fun j v hj => by
 rw [<- h, List.getElem?_take] at hj
 split at hj
 ·simpa using hj
 ·cases hj
theorem qjd {w : World} {ts : List Tb} {v : Value} {fp : List Nat} : zao w (tbS ts) v fp ↔ ∃ ao cap, v = .slice ao ts.length cap /\ ts.length <= cap /\ cap <= zdi /\ ((ao = none /\ cap = 0 /\ ts = [] /\ fp = []) ∨
  ∃ b cells ty, ao = some ⟨b, 0, none⟩ /\ fp = [b] /\ w.heap[b]? = some (.cells cells ty (0, 0)) /\ cells.size = cap * 4 /\ (∀ t ∈ ts, wfB t) /\ cells.toList.take (ts.length * 4) = tvs ts) := by
 constructor
 ·intro h
  unfold zao at h
  obtain ⟨ao, cap, rfl, h1, h2, h3⟩ := h
  rw [List.length_map] at h1 ⊢
  refine ⟨ao, cap, rfl, h1, h2, ?_⟩
  rcases h3 with ⟨rfl, rfl, h3, rfl⟩ | ⟨b, cells, ty, fps, rfl, rfl, h3, h4, h5⟩
  ·exact Or.inl ⟨rfl, rfl, List.map_eq_nil_iff.1 h3, rfl⟩
  ·obtain ⟨rfl, k1, k2⟩ := ze1.1 h5
   refine Or.inr ⟨b, cells, ty, rfl, rfl, h3, h4, k1, ?_⟩
   have := zul k2
   rwa [zfn] at this
 ·rintro ⟨ao, cap, rfl, h1, h2, h3⟩
  unfold zao
  refine ⟨ao, cap, by rw [List.length_map], by rw [List.length_map]; exact h1, h2, ?_⟩
  rcases h3 with ⟨rfl, rfl, rfl, rfl⟩ | ⟨b, cells, ty, rfl, rfl, h3, h4, k1, k2⟩
  ·exact Or.inl ⟨rfl, rfl, rfl, rfl⟩
  ·exact Or.inr ⟨b, cells, ty, [], rfl, rfl, h3, h4, ze1.2 ⟨rfl, k1, zkj k2⟩⟩
theorem zvg (ts : List Tb) (t : Tb) (i : Nat) (hi : i <= ts.length) (hl : ts.length <= 1048576) : GC Tryz.prog 156 [(true, .one (tbS ts)), (false, iD i), (true, .one (tbS [t]))] [.one (tbS (ts.take i ++ [t] ++ ts.drop i))] := by
 refine ⟨Tryz.call156, fun w vs fp tp hv hn => ?_⟩
 obtain ⟨v1, _, f1, _, t1, _, rfl, rfl, rfl, ⟨h1, ht1⟩, hv⟩ := hv
 obtain ⟨v2, _, rfl, h2, hv⟩ := hv
 obtain ⟨v3, _, f3, _, t3, _, rfl, rfl, rfl, ⟨h3, ht3⟩, hv⟩ := hv
 obtain ⟨rfl, rfl, rfl⟩ := hv
 have e2 : v2 = .int .i64 i := by
  have h : zai w (fun x => x < w.heap.size /\ x ∉ f1 ++ (f3 ++ [])) (.int .i64 i) v2 := h2
  unfold zai at h; exact h.1
 subst e2
 obtain ⟨ao, c, rfl, q1, q2, q3⟩ := qjd.1 h1
 obtain ⟨ao3, vc, rfl, r1, r2, r3⟩ := qjd.1 h3
 obtain ⟨vb, vcells, vty, rfl, rfl, hvb, hvs, hvw, hvx⟩ : ∃ vb vcells vty, ao3 = some ⟨vb, 0, none⟩ /\ f3 = [vb] /\ w.heap[vb]? = some (.cells vcells vty (0, 0)) /\ vcells.size = vc * 4 /\ (∀ x ∈ [t], wfB x) /\ vcells.toList.take ([t].length * 4) = tvs [t] := by
  rcases r3 with ⟨_, _, h, _⟩ | h
  ·cases h
  ·exact h
 have hnl : (tvs [t]).length = 4 := by rw [zfn]; rfl
 have hnews : ∀ j u, (tvs [t])[j]? = some u -> w.cell? ((⟨vb, 0, none⟩ : Addr).add j) = some u := fun j u hj => by
  rw [zdb, Nat.zero_add]
  have := zkj hvx j u hj
  simp only [World.cell?, hvb]
  simpa using this
 have hres : ∀ (wfs : ∀ x ∈ ts, wfB x), ∀ x ∈ ts.take i ++ [t] ++ ts.drop i, wfB x := fun wfs x hx => by
  rcases List.mem_append.1 hx with hx | hx
  ·rcases List.mem_append.1 hx with hx | hx
   ·exact wfs x (List.mem_of_mem_take hx)
   ·exact hvw x hx
  ·exact wfs x (List.mem_of_mem_drop hx)
 have hrl : (ts.take i ++ [t] ++ ts.drop i).length = ts.length + 1 := by
  simp only [List.length_append, List.length_take, List.length_drop, List.length_singleton]; omega
 have fin : ∀ (w' : World) (b' G : Nat) (cells' : Array Value) (ty' : TypeId), (∀ x ∈ ts, wfB x) -> ts.length + 1 <= G -> G <= zdi -> w'.heap[b']? = some (.cells cells' ty' (0, 0)) -> cells'.size = G * 4 -> cells'.toList.take ((ts.length + 1) * 4) = tvs (ts.take i ++ [t] ++ ts.drop i) →
   GDs w' [.one (tbS (ts.take i ++ [t] ++ ts.drop i))] [.slice (some ⟨b', 0, none⟩) (ts.length + 1) G] [b'] (zgx (tbS (ts.take i ++ [t] ++ ts.drop i)) [b']) := fun w' b' G cells' ty' k0 k1 k2 k3 k4 k5 => by
  refine ⟨_, [], [b'], [], zgx (tbS (ts.take i ++ [t] ++ ts.drop i)) [b'], [], rfl, by simp, by simp, ⟨?_, rfl⟩, rfl, rfl, rfl⟩
  exact qjd.2 ⟨_, G, by rw [hrl], by rw [hrl]; exact k1, k2, Or.inr ⟨b', cells', ty', rfl, rfl, k3, k4, hres k0, by rw [hrl]; exact k5⟩⟩
 by_cases hin : i = ts.length
 ·subst hin
  have hcat : ts.take ts.length ++ [t] ++ ts.drop ts.length = ts ++ [t] := by simp
  rcases q3 with ⟨rfl, rfl, rfl, rfl⟩ | ⟨b, cells, ty, rfl, rfl, hb, hs, hwf, hx⟩
  ·refine (qf6 w (.slice none 0 0) 0 none [] (Or.inl ⟨rfl, rfl, rfl⟩) vb vc (tvs [t]) hnl hnews (zg0 _) (by omega)).mono ?_
   rintro e w' ⟨v', rfl, ha⟩
   rcases ha.res with ⟨_, hc, _, _⟩ | ⟨b', cap', cells', ty', rfl, k1, k2, k3, k4, k5, k6, k7⟩
   ·rw [List.nil_append] at hc; rw [hc] at hnl; cases hnl
   ·have k6 : w.heap.size <= b' := k6.resolve_left (by simp)
    refine ⟨[_], [b'], _, rfl, fin w' b' cap' cells' ty' (by simp) k1 k2 k3 k4 (by simpa using k5), by simp, fun x hx => Or.inr (by rw [List.mem_singleton.1 hx]; exact k6), ⟨ha.os, ha.tape, ha.output, ha.size, fun k hk => k7 k hk.1 (by have := hk.1; omega)⟩⟩
  ·have hb' : b < w.heap.size := (Array.getElem?_eq_some_iff.1 hb).1
   refine (qf6 w (.slice (some ⟨b, 0, none⟩) ts.length c) ts.length (some b) (tvs ts) (Or.inr ⟨b, c, cells, ty, rfl, q1, q2, hb, hs, hx, rfl⟩) vb vc (tvs [t]) hnl hnews (zg0 _) (by omega)).mono ?_
   rintro e w' ⟨v', rfl, ha⟩
   rcases ha.res with ⟨_, hc, _, _⟩ | ⟨b', cap', cells', ty', rfl, k1, k2, k3, k4, k5, k6, k7⟩
   ·have := congrArg List.length hc
    rw [List.length_append, hnl] at this; simp at this
   ·refine ⟨[_], [b'], _, rfl, fin w' b' cap' cells' ty' hwf k1 k2 k3 k4 (by rw [k5, hcat, zdt]), by simp, fun x hx => ?_, ⟨ha.os, ha.tape, ha.output, ha.size, fun k hk => k7 k hk.1 fun e => ?_⟩⟩
    ·rw [List.mem_singleton.1 hx]
     rcases k6 with k6 | k6
     ·left; rw [Option.some.inj k6]; simp
     ·exact Or.inr k6
    ·rcases k6 with k6 | k6
     ·exact hk.2 (by rw [e, Option.some.inj k6]; simp)
     ·have := hk.1; omega
 ·rcases q3 with ⟨rfl, rfl, rfl, rfl⟩ | ⟨b, cells, ty, rfl, rfl, hb, hs, hwf, hx⟩
  ·simp at hi; omega
  have hne : vb ≠ b := by
   intro e
   subst e
   simp at hn
  have hb' : b < w.heap.size := (Array.getElem?_eq_some_iff.1 hb).1
  have hvb' : vb < w.heap.size := (Array.getElem?_eq_some_iff.1 hvb).1
  have hcat : tvs (ts.take i ++ [t] ++ ts.drop i) = (tvs ts).take (i * 4) ++ tvs [t] ++ (tvs ts).drop (i * 4) := by rw [zdt, zdt, qbi, qcv]
  have hxl := zfn ts
  by_cases hroom : ts.length + 1 <= c
  ·refine (qht w b ts.length c i vb vc cells vcells ty vty (tvs ts) (tvs [t]) hne hb hs hx (by omega) hroom q2 hl hvb hvx hnl (zg0 _) (zg0 _)).mono ?_
   rintro e w' ⟨rfl, A1, hA1, rfl⟩
   have hg1 : (w.drew.setRow b A1).heap[b]? = some (.cells A1 ty (0, 0)) := setRow_heap w.drew b cells A1 ty (0, 0) hb
   have hdl : ((tvs ts).drop (i * 4)).length = (ts.length - i) * 4 := by rw [List.length_drop, hxl]; omega
   have hA1s : A1.size = c * 4 := by
    rw [hA1]
    simp only [List.size_toArray, List.length_append, List.length_take, Array.length_toList, hdl, List.length_drop, hs]
    omega
   have hA1t : A1.toList = cells.toList.take ((i + 1) * 4) ++ (tvs ts).drop (i * 4) ++ cells.toList.drop ((i + 1) * 4 + ((tvs ts).drop (i * 4)).length) := by rw [hA1]
   have h4 : A1.toList.take (i * 4) = (tvs ts).take (i * 4) := by
    rw [hA1t, List.append_assoc, List.take_append_of_le_length (by rw [List.length_take, Array.length_toList, hs]; omega), List.take_take, Nat.min_eq_left (by omega), <- hx, List.take_take, Nat.min_eq_left (by omega)]
   have h5 : (A1.toList.drop (i * 4 + (tvs [t]).length)).take ((ts.length - i) * 4) = (tvs ts).drop (i * 4) := by
    rw [hnl, hA1t, List.append_assoc, List.drop_left' (by rw [List.length_take, Array.length_toList, hs]; omega), List.take_left' hdl]
   refine ⟨[_], [b], _, rfl, fin _ b c _ ty hwf hroom q2 (setRow_heap _ b A1 _ ty (0, 0) hg1) ?_ ?_, by simp, fun x hx => Or.inl (by rw [List.mem_singleton.1 hx]; simp), ⟨rfl, rfl, rfl, ?_, fun k hk => ?_⟩⟩
   ·simp only [List.size_toArray, List.length_append, List.length_take, Array.length_toList, List.length_drop, hA1s, hnl]
    omega
   ·rw [hcat]
    simp only
    rw [h4, List.take_append, List.take_of_length_le (by rw [List.length_append, List.length_take, hxl, hnl]; omega)]
    congr 1
    rw [List.length_append, List.length_take, hxl, hnl, Nat.min_eq_left (by omega), <- h5]
    congr 1
    omega
   ·rw [size_setRow, size_setRow]; exact Nat.le_refl _
   ·have hkb : k ≠ b := fun e => hk.2 (by rw [e]; simp)
    rw [setRow_other _ b k _ hkb, setRow_other _ b k _ hkb]; rfl
  ·refine (qgp w b ts.length c i vb vc cells vcells ty vty (tvs ts) (tvs [t]) hb hs hx (by omega) q1 (by omega) hl hvb hvx hnl (zg0 _) (zg0 _)).mono ?_
   rintro e w' ⟨G, cells', k1, k2, rfl, k3, k4, k5, bel⟩
   exact ⟨[_], [w.heap.size], _, rfl, fin w' w.heap.size G cells' _ hwf k1 k2 k3 k4 (by rw [k5, hcat]), by simp, fun x hx => Or.inr (by rw [List.mem_singleton.1 hx]; exact Nat.le_refl _), ⟨bel.os, bel.tape, bel.output, bel.size, fun k hk => bel.block k hk.1⟩⟩
end Go.Proofs.YtmhbmpbgpjljeaaGreat
namespace Go.Proofs.YtmhbmpbgpjljeaaGreat
set_option linter.unusedSimpArgs false
set_option linter.unusedVariables false
set_option linter.unusedSectionVars false
set_option maxRecDepth 4000
open Go.RowKit
variable {P : Program}
def nilC : C -> C
 | .nl _ => .t (.vs none 0 0)
 | c => c
theorem CR.nilC {σ : St} {g : Gh} {w : World} {c : C} {v : Value} (h : CR σ g w c v) : CR σ g w (nilC c) v := by
 cases c with
 | nl z =>
  have h : v = .slice none 0 0 := h
  subst h
  show zai _ _ _ _
  unfold zai
  rfl
 | _ => exact h
theorem CRs.nilC {σ : St} {g : Gh} {w : World} : ∀ {cs : List C} {vs : List Value}, CRs σ g w cs vs -> CRs σ g w (cs.map nilC) vs
 | [], _, h => h
 | c :: cs, _, h => by
  obtain ⟨v, vs', rfl, h1, h2⟩ := h
  exact ⟨v, vs', rfl, h1.nilC, CRs.nilC h2⟩
theorem Wk.nilB {σ σ' : St} (b : Nat) (k : zan (σ.bx b) fun cs => Wk { sl := σ.sl, bx := upd σ.bx b (some (cs.map nilC)), ev := σ.ev } σ') : Wk σ σ' := by
 obtain ⟨cs, hb, k⟩ := zal k
 refine Wk.trans (fun n0 N g a w hR => ⟨g, ?_, rfl, rfl⟩) k
 have hbn : σ.bx b ≠ none := by rw [hb]; simp
 have hne : ∀ k, σ.bx k ≠ none -> (upd σ.bx b (some (cs.map Go.Proofs.YtmhbmpbgpjljeaaGreat.nilC))) k ≠ none := fun k hk => by unfold upd; split <;> simp_all
 have hne' : ∀ k, (upd σ.bx b (some (cs.map Go.Proofs.YtmhbmpbgpjljeaaGreat.nilC))) k ≠ none -> σ.bx k ≠ none := fun k hk => by unfold upd at hk; split at hk <;> simp_all
 have m : Mv σ { sl := σ.sl, bx := upd σ.bx b (some (cs.map Go.Proofs.YtmhbmpbgpjljeaaGreat.nilC)), ev := σ.ev } g g w w :=
  ⟨fun _ _ => rfl, fun k hf => ⟨fun j hj => hf.1 j (hne' j hj), hf.2.1, hf.2.2.1, hf.2.2.2⟩, fun k hk => ⟨rfl, hne k hk⟩, fun e _ he => ⟨he, rfl⟩, fun b hf => hf.2⟩
 refine ⟨hR.defers, hR.size, hR.anew, fun i => m.vr (hR.slots i), fun q ds hk => ?_, fun k hk => hR.base k (hne' k hk), fun k k' h1 h2 => hR.inj k k' (hne' k h1) (hne' k' h2), fun e z he ho => m.evr (hR.evs e z he ho) fun q hq => rfl, fun e z he ho => ⟨m.rep (hR.offs e z he ho).1, (hR.offs e z he ho).2⟩, hR.slc, hR.ebase, hR.etop, hR.nodup, hR.apart, fun e k he hk => hR.ebx e k he (hne' k hk)⟩
 by_cases hkb : q = b
 ·rw [hkb] at hk ⊢
  simp only [zag] at hk
  cases hk
  obtain ⟨vs, ty, j1, j2⟩ := hR.boxes b cs hb
  exact ⟨vs, ty, j1, m.crs j2.nilC⟩
 ·simp only [zak _ _ hkb] at hk
  obtain ⟨vs', ty', j1, j2⟩ := hR.boxes q ds hk
  exact ⟨vs', ty', j1, m.crs j2⟩
theorem qid (z : Nat) : nilC (.nl z) = .t (.vs none 0 0) := rfl
theorem nilC_t (x : T) : nilC (.t x) = .t x := rfl
theorem zcz {ks : List Fr} {Q : Exit -> St -> Prop} {σ σ' : St} {i : Nat} {ops : Array Oper} (h : Wk σ σ') (k : ex P (.region i ops true) ks Q σ') : ex P (.region i ops true) ks Q σ := zc1.pre h k
attribute [go_sem] qid nilC_t
end Go.Proofs.YtmhbmpbgpjljeaaGreat
namespace Go.Proofs.YtmhbmpbgpjljeaaGreat
set_option linter.unusedSimpArgs false
set_option linter.unusedVariables false
set_option linter.unusedSectionVars false
set_option maxRecDepth 4000
open Go.RowKit
abbrev sgX (z : List Tb × Bool) : Bxs := [[(true, tbS z.1), (true, .bool z.2)]]
abbrev zvq (t : Tm) (p : Bool) (z : List Tb × Bool) : Prop := PC Tryz.prog 93 (sgX z) [.p 0, .d false (tmD t), .d false (bD p)] (sgX ((syP t p).foldl stB z)) []
theorem zdr {α β : Type} (f : α -> List β) (xs : List α) (k : Nat) (h : k < xs.length) : ((xs.take (k + 1)).map f).flatten = ((xs.take k).map f).flatten ++ f xs[k] := by
 rw [List.take_succ_eq_append_getElem h, List.map_append, List.flatten_append]; simp
theorem qae (ts : List Tb) (fl : Bool) (x : Tb) : stB (ts, fl) x = if fdB ts x = true then (ts, (fl || decide (3 < x.ar)) || ((ts.getD (plB ts x) x).pred != x.pred)) else (ts.take (plB ts x) ++ [x] ++ ts.drop (plB ts x), fl || decide (3 < x.ar)) := rfl
set_option maxHeartbeats 4000000 in
theorem qi8 (t : Tm) (hup : upT t = true) (hw : t.wt <= 1048576) (H : ∀ a ∈ t.args, ∀ z : List Tb × Bool, zfi z.1 -> z.1.length + a.nodes <= 1048576 -> zvq a false z) (p : Bool) (z : List Tb × Bool) (hs : zfi z.1) (hz : z.1.length + t.nodes <= 1048576) : zvq t p z := by
 have hN := t.nodes_eq
 have hW := t.wt_eq
 rw [zku] at hup
 simp only [Bool.and_eq_true, decide_eq_true_eq] at hup
 obtain ⟨⟨hu1, hu2⟩, hu3⟩ := hup
 have hu2 : zhx (t.name.getD 0 0) = za3 t.name := by simpa using hu2
 have HE := zhh t
 have HV := zp0 t hu1
 rw [hu2] at HV
 have hsy : syP t p = (t.args.map suP).flatten ++ zpf t.name t.args.length p := rfl
 unfold zvq
 rw [hsy, List.foldl_append]
 obtain ⟨Y, hY⟩ : ∃ Y : Nat -> List Tb × Bool, ∀ k, Y k = ((t.args.take k).map suP).flatten.foldl stB z := ⟨_, fun _ => rfl⟩
 have hY0 : Y 0 = z := by rw [hY]; rfl
 have hsl : ∀ k, zfi (Y k).1 := fun k => by rw [hY]; exact zen _ hs
 have hll : ∀ k, (Y k).1.length <= z.1.length + zh6 Tm.nodes t.args k := fun k => by
  rw [hY]
  have h1 := zfz (((t.args.take k).map suP).flatten) z
  have h2 : (((t.args.take k).map suP).flatten).length <= zh6 Tm.nodes t.args k := by
   unfold zh6
   rw [List.length_flatten, List.map_map]
   have : ∀ l : List Tm, (l.map (List.length ∘ suP)).sum <= (l.map Tm.nodes).sum := fun l => by
    induction l with
    | nil => simp
    | cons a l ih => have := zyo a; simp only [List.map_cons, List.sum_cons, Function.comp]; omega
   exact this _
  omega
 have hYn : (Y t.args.length) = ((t.args.map suP).flatten).foldl stB z := by rw [hY, List.take_length]
 have hYs : ∀ k (h : k < t.args.length), Y (k + 1) = (suP t.args[k]).foldl stB (Y k) := fun k h => by
  rw [hY, hY, zdr suP t.args k h, List.foldl_append]
 rw [<- hYn]
 simp only [tmD, zab t] at HE HV ⊢
 refine PC_of Tryz.call93 Tryz.func93 rfl (by kernel_rfl) (by simp only [List.length_cons, List.length_nil, Tryz.ntmps93]; omega) (by simp only [Tryz.ntmps93]; omega) rfl rfl (by simp [zcj, T.isPin, AF.ds, bxA]) (by simp [gFS, T.fs, T.flat, AF.ds, bxA]) rfl ?_
 simp -implicitDefEqProofs only [go_sem, Tryz.results93]
 refine zaf (fun k : Nat => hd [(0, .one (.bx 1000000 0)), (1000000, .one (.bx 1000000 0)), (2, .one (.t (.bool p))), (4, .one (.bx 4 0)), (12, .one (.rn (tmS t.args))), (13, vI t.args.length), (14, vI k)] [(4, [.t (.str t.name), .rn (tmS t.args)]), (1000000, [.ow 64 0, .t (.bool (Y k).2)])] [(64, ⟨true, 4, (Y k).1.map tbC, 0, true⟩)]) (fun k => k <= t.args.length) (fun k => t.args.length - k) 0 (zaa ?_) (Nat.zero_le _) ?_
 ·simp -implicitDefEqProofs only [go_sem, hY0]
 ·intro k hk
  by_cases hlt : k < t.args.length
  ·have hps := zbm Tm.nodes t.args k hlt
   have hpl := zb7 Tm.nodes t.args (k + 1)
   have hs1 := hsl k
   have hl1 := hll k
   have hYk := hYs k hlt
   generalize Y k = y at hs1 hl1 hYk ⊢
   have HC := H t.args[k] (List.getElem_mem hlt) y hs1 (by omega)
   unfold zvq at HC
   rw [show syP t.args[k] false = suP t.args[k] from (zry _).symm, <- hYk] at HC
   simp only [tmD, zab t.args[k]] at HC
   simp -implicitDefEqProofs only [go_sem, hlt, zad, zab t.args[k]]
   refine zr3 [0, 2, 4, 12, 13, 14, 1000000] [18, 19] [1000000] [] (HC) (by decide) rfl (by simp -implicitDefEqProofs only [go_sem]) (by simp -implicitDefEqProofs only [go_sem]) (by simp -implicitDefEqProofs only [go_sem]) (by simp -implicitDefEqProofs only [go_sem]) ?_
   simp -implicitDefEqProofs only [go_sem]
   refine ⟨k + 1, hlt, by omega, zif 64 640 ?_⟩
   simp -implicitDefEqProofs only [go_sem]
   rw [zam (by omega)]
  ·have hkn : k = t.args.length := by omega
   subst hkn
   have hs1 := hsl t.args.length
   have hl1 := hll t.args.length
   have hpl := zb7 Tm.nodes t.args t.args.length
   generalize Y t.args.length = y at hs1 hl1 ⊢
   obtain ⟨ts, fl⟩ := y
   simp only at hs1 hl1
   unfold zpf
   cases hE : t.name == [61]
   ·rw [hE] at HE
    rw [Bool.false_or]
    cases hV : za3 t.name
    ·rw [hV] at HV
     rw [if_neg (by simp), List.foldl_cons, List.foldl_nil]
     have HS := zu7 ts ⟨t.name, t.args.length, p⟩ (by omega) (plB ts ⟨t.name, t.args.length, p⟩) (zs7 _ _) (fun k h h2 => zr6 k h h2) (fun k h h2 => qfc hs1 k h h2)
     have hfd : (if h : plB ts ⟨t.name, t.args.length, p⟩ < ts.length then zeo ts[plB ts ⟨t.name, t.args.length, p⟩] ⟨t.name, t.args.length, p⟩ == 0 else false) = fdB ts ⟨t.name, t.args.length, p⟩ := rfl
     rw [hfd] at HS
     have hple := zs7 ts ⟨t.name, t.args.length, p⟩
     have hfs := zfy (ts := ts) (x := ⟨t.name, t.args.length, p⟩)
     have hst := qae ts fl ⟨t.name, t.args.length, p⟩
     simp only at hst
     have hI := zvg ts ⟨t.name, t.args.length, p⟩ (plB ts ⟨t.name, t.args.length, p⟩) hple (by omega)
     simp only [tbD, zat] at HS
     generalize hplv : plB ts ⟨t.name, t.args.length, p⟩ = pl at *
     generalize fdB ts ⟨t.name, t.args.length, p⟩ = fd at *
     simp -implicitDefEqProofs only [go_sem, hlt]
     refine callF (HE) (by simp -implicitDefEqProofs only [go_sem]) ?_
     simp -implicitDefEqProofs only [go_sem]
     refine callF (HV) (by simp -implicitDefEqProofs only [go_sem]) ?_
     simp -implicitDefEqProofs only [go_sem]
     obtain ⟨fl2, hfl2⟩ : ∃ fl2, fl2 = (fl || decide (3 < (t.args.length : Int))) := ⟨_, rfl⟩
     rw [<- hfl2] at hst
     refine ⟨fun hf => ?_, fun hf => ?_⟩
     all_goals
      refine zcz (σ' := hd [(0, .one (.bx 1000000 0)), (1000000, .one (.bx 1000000 0)), (2, .one (.t (.bool p))), (8, .one (.bx 8 0))] [(8, [.t (.str t.name), .t (.int .i64 t.args.length), .t (.bool p), .t (.vs none 0 0)]), (1000000, [.ow 64 0, .t (.bool fl2)])] [(64, ⟨true, 4, ts.map tbC, 0, true⟩)]) (Wk.nilB 8 ?_) ?_
      ·simp -implicitDefEqProofs only [go_sem]
       refine zaa ?_
       simp -implicitDefEqProofs only [go_sem, hfl2, hf, Bool.false_or, Bool.true_or]
     ·refine drawn (by kernel_rfl) ?_
      simp -implicitDefEqProofs only [go_sem]
      refine zay (HS) (by simp -implicitDefEqProofs only [go_sem]) ?_
      simp -implicitDefEqProofs only [go_sem]
      refine ⟨by kernel_rfl, ?_⟩
      cases fd
      ·rw [if_neg (by simp)] at hst
       simp -implicitDefEqProofs only [go_sem]
       refine qfx 8 (by kernel_rfl) (by kernel_rfl) (by kernel_rfl) ?_
       simp -implicitDefEqProofs only [go_sem]
       refine zc8 (by simp -implicitDefEqProofs only [go_sem]) ?_
       simp -implicitDefEqProofs only [go_sem]
       refine ⟨by kernel_rfl, ?_⟩
       refine zlb (σ' := hd [(59, .one (.bx 1000000 0)), (63, .one (.ow 64 0)), (64, vI pl), (66, .one (.ow 2112 0)), (1000000, .one (.bx 1000000 0))] [(1000000, [.any, .t (.bool fl2)])] [(64, ⟨true, 4, ts.map tbC, 0, true⟩), (2112, ⟨true, 4, [[.str t.name, .int .i64 t.args.length, .bool p, .vs none 0 0]], 0, true⟩)]) (zaa ?_) rfl rfl ?_
       ·simp -implicitDefEqProofs only [go_sem]
       have hI2 : GC Tryz.prog 156 [(true, .one (tbS ts)), (false, iD pl), (true, .one (.sl 4 [[.str t.name, .int .i64 t.args.length, .bool p, .vs none 0 0]]))] [.one (tbS (ts.take pl ++ [⟨t.name, t.args.length, p⟩] ++ ts.drop pl))] := hI
       refine zxz [59, 1000000] [63, 64, 66] [] (hI2) (by simp -implicitDefEqProofs only [go_sem]) (by simp -implicitDefEqProofs only [go_sem]) (by simp -implicitDefEqProofs only [go_sem]) (by simp -implicitDefEqProofs only [go_sem]) ?_
       simp -implicitDefEqProofs only [go_sem]
       rw [hst]
       exact Or.inl ⟨Or.inl rfl, rfl⟩
      ·obtain ⟨hp, hc0⟩ := hfs rfl
       rw [if_pos rfl] at hst
       have hg : ts.getD pl ⟨t.name, t.args.length, p⟩ = ts[pl] := by rw [List.getD_eq_getElem?_getD, List.getElem?_eq_getElem hp]; rfl
       rw [hg] at hst
       rw [hst]
       simp -implicitDefEqProofs only [go_sem, hp, zad, zat ts[pl]]
       refine ⟨fun hb => ?_, fun hb => ?_⟩
       ·rw [bne, hb, Bool.or_true]
        exact Or.inl rfl
       ·rw [bne, hb, Bool.or_false]
        exact Or.inl rfl
     ·refine drawn (by kernel_rfl) ?_
      simp -implicitDefEqProofs only [go_sem]
      refine zay (HS) (by simp -implicitDefEqProofs only [go_sem]) ?_
      simp -implicitDefEqProofs only [go_sem]
      refine ⟨by kernel_rfl, ?_⟩
      cases fd
      ·rw [if_neg (by simp)] at hst
       simp -implicitDefEqProofs only [go_sem]
       refine qfx 8 (by kernel_rfl) (by kernel_rfl) (by kernel_rfl) ?_
       simp -implicitDefEqProofs only [go_sem]
       refine zc8 (by simp -implicitDefEqProofs only [go_sem]) ?_
       simp -implicitDefEqProofs only [go_sem]
       refine ⟨by kernel_rfl, ?_⟩
       refine zlb (σ' := hd [(59, .one (.bx 1000000 0)), (63, .one (.ow 64 0)), (64, vI pl), (66, .one (.ow 2112 0)), (1000000, .one (.bx 1000000 0))] [(1000000, [.any, .t (.bool fl2)])] [(64, ⟨true, 4, ts.map tbC, 0, true⟩), (2112, ⟨true, 4, [[.str t.name, .int .i64 t.args.length, .bool p, .vs none 0 0]], 0, true⟩)]) (zaa ?_) rfl rfl ?_
       ·simp -implicitDefEqProofs only [go_sem]
       have hI2 : GC Tryz.prog 156 [(true, .one (tbS ts)), (false, iD pl), (true, .one (.sl 4 [[.str t.name, .int .i64 t.args.length, .bool p, .vs none 0 0]]))] [.one (tbS (ts.take pl ++ [⟨t.name, t.args.length, p⟩] ++ ts.drop pl))] := hI
       refine zxz [59, 1000000] [63, 64, 66] [] (hI2) (by simp -implicitDefEqProofs only [go_sem]) (by simp -implicitDefEqProofs only [go_sem]) (by simp -implicitDefEqProofs only [go_sem]) (by simp -implicitDefEqProofs only [go_sem]) ?_
       simp -implicitDefEqProofs only [go_sem]
       rw [hst]
       exact Or.inl ⟨Or.inl rfl, rfl⟩
      ·obtain ⟨hp, hc0⟩ := hfs rfl
       rw [if_pos rfl] at hst
       have hg : ts.getD pl ⟨t.name, t.args.length, p⟩ = ts[pl] := by rw [List.getD_eq_getElem?_getD, List.getElem?_eq_getElem hp]; rfl
       rw [hg] at hst
       rw [hst]
       simp -implicitDefEqProofs only [go_sem, hp, zad, zat ts[pl]]
       refine ⟨fun hb => ?_, fun hb => ?_⟩
       ·rw [bne, hb, Bool.or_true]
        exact Or.inl rfl
       ·rw [bne, hb, Bool.or_false]
        exact Or.inl rfl
    ·rw [hV] at HV
     rw [if_pos rfl, List.foldl_nil]
     simp -implicitDefEqProofs only [go_sem, hlt]
     refine callF (HE) (by simp -implicitDefEqProofs only [go_sem]) ?_
     simp -implicitDefEqProofs only [go_sem]
     refine callF (HV) (by simp -implicitDefEqProofs only [go_sem]) ?_
     simp -implicitDefEqProofs only [go_sem]
   ·rw [hE] at HE
    rw [Bool.true_or, if_pos rfl, List.foldl_nil]
    simp -implicitDefEqProofs only [go_sem, hlt]
    refine callF (HE) (by simp -implicitDefEqProofs only [go_sem]) ?_
    simp -implicitDefEqProofs only [go_sem]
theorem term_c : ∀ t : Tm, upT t = true -> t.wt <= 1048576 -> ∀ (p : Bool) (z : List Tb × Bool), zfi z.1 -> z.1.length + t.nodes <= 1048576 -> zvq t p z :=
 zbi fun n xs ih hup hw p z hs hz => qi8 (.mk n xs) hup hw (fun a ha z' hs' hz' => ih a ha (by
  rw [zku] at hup
  simp only [Bool.and_eq_true] at hup
  exact List.all_eq_true.1 hup.2 a ha) ((Tm.wt_args hw).2 a ha) false z' hs' hz') p z hs hz
end Go.Proofs.YtmhbmpbgpjljeaaGreat
namespace Go.Proofs.YtmhbmpbgpjljeaaGreat
set_option linter.unusedSimpArgs false
set_option linter.unusedVariables false
set_option linter.unusedSectionVars false
set_option maxRecDepth 4000
open Go.RowKit
theorem sig1_c (c : Cq) (hw : c.wt <= 1048576) : FC Tryz.prog 91 [cqD c] [bD (!c.ok)] := by
 have H := zil c hw
 simp only [cqD, za9] at H ⊢
 refine zau Tryz.call91 Tryz.func91 rfl (by kernel_rfl) (za6 (by kernel_rfl)) ?_
 simp -implicitDefEqProofs only [go_sem, Tryz.results91]
 refine callF (H) (by simp -implicitDefEqProofs only [go_sem]) ?_
 simp -implicitDefEqProofs only [go_sem]
theorem zev {t : Tm} (h : t.atomOk = true) : t.nodes <= 30 := by
 have hs : zd9 t = true := by
  unfold Tm.atomOk at h
  split at h
  ·simp only [Bool.and_eq_true] at h; exact h.1.2
  ·simp only [Bool.and_eq_true] at h
   have := h.2
   unfold Tm.good at this
   rw [Bool.and_eq_true] at this
   exact this.1
 unfold zd9 at hs
 simp only [Bool.and_eq_true, decide_eq_true_eq] at hs
 exact hs.1
theorem qhy (t : Tm) (p : Bool) : (syP t p).length <= t.nodes := by
 have h := zyo t
 rw [zry] at h
 have e : (zpf t.name t.args.length p).length = (zpf t.name t.args.length false).length := by unfold zpf; split <;> rfl
 unfold syP
 rw [List.length_append] at h ⊢
 omega
theorem zh8 {α β : Type} (f : α -> List β) (B : Nat) : ∀ l : List α, (∀ a ∈ l, (f a).length <= B) -> ((l.map f).flatten).length <= l.length * B
 | [], _ => by simp
 | a :: l, h => by
  have h1 := zh8 f B l fun x hx => h x (by simp [hx])
  have h2 := h a (by simp)
  rw [List.map_cons, List.flatten_cons, List.length_append, List.length_cons, Nat.add_mul]; omega
theorem zxf {c : Cq} (h : c.ok = true) (j : Nat) : (qdg (c.lits.take j)).length <= 240 := by
 have h1 := zh8 (fun l : Li => syP l.atom true) 30 (c.lits.take j) fun l hl => Nat.le_trans (qhy _ _) (zev (zfm h l (List.mem_of_mem_take hl)))
 have h2 := zsq h
 have h3 : (c.lits.take j).length <= 8 := by rw [List.length_take]; omega
 unfold qdg
 have : (c.lits.take j).length * 30 <= 8 * 30 := Nat.mul_le_mul_right _ h3
 omega
theorem qhv {cs : List Cq} (h : ∀ c ∈ cs, c.ok = true) (k : Nat) : (zhv (cs.take k)).length <= cs.length * 240 := by
 have h1 := zh8 (fun c : Cq => qdg c.lits) 240 (cs.take k) fun c hc => by
  have := zxf (h c (List.mem_of_mem_take hc)) c.lits.length
  rwa [List.take_length] at this
 have h3 : (cs.take k).length <= cs.length := by rw [List.length_take]; omega
 unfold zhv
 have : (cs.take k).length * 240 <= cs.length * 240 := Nat.mul_le_mul_right _ h3
 omega
set_option maxHeartbeats 4000000 in
theorem zzw (cs : List Cq) (hw : znb cs <= 1048576) : FC Tryz.prog 44 [.one (cqS cs)] [.one (tbS (zm0 cs)), bD (zco cs)] := by
 have hcw := fun c (h : c ∈ cs) => Nat.le_trans (qf9 h) hw
 have HF := ze8 cs (fun c => !c.ok) 91 [] fun c hc => sig1_c c (hcw c hc)
 have hv1 : zco cs = (decide (cs.length <= 30) && cs.all Cq.ok && (!(sgB (zhv cs)).2 && decide ((sgB (zhv cs)).1.length <= 12))) := rfl
 have hv2 : zm0 cs = if zco cs = true then (sgB (zhv cs)).1 else [] := rfl
 have hln : cs.length <= 1048576 := by have h2 : znb cs = cs.length + (cs.map Cq.wt).sum := rfl; omega
 by_cases h40 : cs.length <= 30
 ·have h40' : ((30 : Int) < (cs.length : Int)) = False := eq_false (by omega)
  rw [decide_eq_true h40, Bool.true_and] at hv1
  cases hg : cs.all Cq.ok
  ·have hany : (cs.any fun c => !c.ok) = true := by
    rw [List.any_eq_true]
    rw [List.all_eq_false] at hg
    obtain ⟨c, h1, h2⟩ := hg
    exact ⟨c, h1, by simpa using h2⟩
   rw [hg, Bool.false_and] at hv1
   rw [hany] at HF
   rw [hv1, if_neg (by simp)] at hv2
   rw [hv2, hv1]
   refine zg6 Tryz.call44 Tryz.func44 rfl (by kernel_rfl) (za6 (by kernel_rfl)) ?_
   simp -implicitDefEqProofs only [go_sem, Tryz.results44, h40']
   refine callF (HF) (by simp -implicitDefEqProofs only [go_sem]) ?_
   simp -implicitDefEqProofs only [go_sem]
  ·have hany : (cs.any fun c => !c.ok) = false := by
    rw [List.any_eq_false]
    rw [List.all_eq_true] at hg
    intro c hc
    simp [hg c hc]
   rw [hany] at HF
   rw [hg, Bool.true_and] at hv1
   have hok := fun c (hc : c ∈ cs) => List.all_eq_true.1 hg c hc
   obtain ⟨Y, hY⟩ : ∃ Y : Nat -> List Tb × Bool, ∀ k, Y k = (zhv (cs.take k)).foldl stB ([], false) := ⟨_, fun _ => rfl⟩
   have hY0 : Y 0 = ([], false) := by rw [hY]; rfl
   have hYn : Y cs.length = sgB (zhv cs) := by rw [hY, List.take_length]; rfl
   have hYs : ∀ k, zfi (Y k).1 := fun k => by rw [hY]; exact zen _ List.Pairwise.nil
   have hYl : ∀ k, (Y k).1.length <= 7200 := fun k => by
    rw [hY]
    have h1 := zfz (zhv (cs.take k)) ([], false)
    have h2 := qhv hok k
    simp only [List.length_nil] at h1
    omega
   have hYk : ∀ k (h : k < cs.length), Y (k + 1) = (qdg cs[k].lits).foldl stB (Y k) := fun k h => by
    rw [hY, hY]
    unfold zhv
    rw [zdr (fun c : Cq => qdg c.lits) cs k h, List.foldl_append]
   rw [<- hYn] at hv1 hv2
   refine zg6 Tryz.call44 Tryz.func44 rfl (by kernel_rfl) (za6 (by kernel_rfl)) ?_
   simp -implicitDefEqProofs only [go_sem, Tryz.results44, h40']
   refine callF (HF) (by simp -implicitDefEqProofs only [go_sem]) ?_
   simp -implicitDefEqProofs only [go_sem]
   refine zaf (fun k : Nat => hd [(4, .one (.bx 17 0)), (18, .one (.rn (cqS cs))), (19, vI cs.length), (20, vI k)] [(17, [.ow 3000 0, .t (.bool (Y k).2)])] [(3000, ⟨true, 4, (Y k).1.map tbC, 0, true⟩)]) (fun k => k <= cs.length) (fun k => cs.length - k) 0 (zaa ?_) (Nat.zero_le _) ?_
   ·simp -implicitDefEqProofs only [go_sem, hY0]
   ·intro k hk
    by_cases hlt : k < cs.length
    ·have hYk := hYk k hlt
     have hs1 := hYs k
     have hl1 := hYl k
     have hsyl := fun j => zxf (hok _ (List.getElem_mem hlt)) j
     have hat := fun l (h : l ∈ cs[k].lits) => zqu (zfm (hok _ (List.getElem_mem hlt)) l h)
     have hnd := fun l (h : l ∈ cs[k].lits) => zev (zfm (hok _ (List.getElem_mem hlt)) l h)
     have hlw := fun l (h : l ∈ cs[k].lits) => Nat.le_trans (zta h) (hcw _ (List.getElem_mem hlt))
     have hll : cs[k].lits.length <= 8 := zsq (hok _ (List.getElem_mem hlt))
     simp -implicitDefEqProofs only [go_sem, hlt, zad, za9 cs[k]]
     generalize cs[k].lits = ls at hYk hsyl hat hnd hlw hll ⊢
     obtain ⟨Z, hZ⟩ : ∃ Z : Nat -> List Tb × Bool, ∀ j, Z j = (qdg (ls.take j)).foldl stB (Y k) := ⟨_, fun _ => rfl⟩
     have hZ0 : Z 0 = Y k := by rw [hZ]; rfl
     have hZn : Z ls.length = Y (k + 1) := by rw [hZ, List.take_length, hYk]
     have hZs : ∀ j, zfi (Z j).1 := fun j => by rw [hZ]; exact zen _ hs1
     have hZl : ∀ j, (Z j).1.length <= 7440 := fun j => by
      rw [hZ]
      have h1 := zfz (qdg (ls.take j)) (Y k)
      have h2 := hsyl j
      omega
     have hZj : ∀ j (h : j < ls.length), Z (j + 1) = (syP ls[j].atom true).foldl stB (Z j) := fun j h => by
      rw [hZ, hZ]
      unfold qdg
      rw [zdr (fun l : Li => syP l.atom true) ls j h, List.foldl_append]
     refine zaf (fun j : Nat => hd [(4, .one (.bx 17 0)), (18, .one (.rn (cqS cs))), (19, vI cs.length), (20, vI k), (25, .one (.rn (liS ls))), (26, vI ls.length), (27, vI j)] [(17, [.ow 3000 0, .t (.bool (Z j).2)])] [(3000, ⟨true, 4, (Z j).1.map tbC, 0, true⟩)]) (fun j => j <= ls.length) (fun j => ls.length - j) 0 (zaa ?_) (Nat.zero_le _) ?_
     ·simp -implicitDefEqProofs only [go_sem, hZ0]
     ·intro j hj
      by_cases hlj : j < ls.length
      ·have hlj2 := hlw _ (List.getElem_mem hlj)
       have hlj3 := ls[j].wt_eq
       have HC := term_c ls[j].atom (hat _ (List.getElem_mem hlj)) (by omega) true (Z j) (hZs j) (by have := hZl j; have := hnd _ (List.getElem_mem hlj); omega)
       unfold zvq at HC
       rw [<- hZj j hlj] at HC
       simp only [tmD, zab ls[j].atom] at HC
       simp -implicitDefEqProofs only [go_sem, hlj, zad, zap ls[j]]
       refine zr3 [4, 18, 19, 20, 25, 26, 27] [31, 33] [17] [] (HC) (by decide) rfl (by simp -implicitDefEqProofs only [go_sem]) (by simp -implicitDefEqProofs only [go_sem]) (by simp -implicitDefEqProofs only [go_sem]) (by simp -implicitDefEqProofs only [go_sem]) ?_
       simp -implicitDefEqProofs only [go_sem]
       refine ⟨j + 1, hlj, by omega, zif 3000 1088 ?_⟩
       simp -implicitDefEqProofs only [go_sem]
       rw [zam (by omega)]
      ·have hjn : j = ls.length := by omega
       subst hjn
       rw [hZn]
       simp -implicitDefEqProofs only [go_sem, hlj]
       refine ⟨k + 1, hlt, by omega, zaa ?_⟩
       simp -implicitDefEqProofs only [go_sem]
       rw [zam (by omega)]
    ·have hkn : k = cs.length := by omega
     subst hkn
     have hl1 := hYl cs.length
     generalize Y cs.length = y at hv1 hv2 hl1 ⊢
     obtain ⟨ts, fl⟩ := y
     simp only at hv1 hv2 hl1
     cases fl
     ·by_cases h12 : ts.length <= 12
      ·have h12' : ((12 : Int) < (ts.length : Int)) = False := eq_false (by omega)
       have hv1 : zco cs = true := by rw [hv1, decide_eq_true h12]; rfl
       rw [hv1, if_pos rfl] at hv2
       rw [hv2, hv1]
       simp -implicitDefEqProofs only [go_sem, hlt, h12']
      ·have h12' : ((12 : Int) < (ts.length : Int)) = True := eq_true (by omega)
       have hv1 : zco cs = false := by rw [hv1, decide_eq_false h12]; rfl
       rw [hv1, if_neg (by simp)] at hv2
       rw [hv2, hv1]
       simp -implicitDefEqProofs only [go_sem, hlt, h12']
     ·have hv1 : zco cs = false := by rw [hv1]; rfl
      rw [hv1, if_neg (by simp)] at hv2
      rw [hv2, hv1]
      simp -implicitDefEqProofs only [go_sem, hlt]
 ·have h40' : ((30 : Int) < (cs.length : Int)) = True := eq_true (by omega)
  rw [decide_eq_false h40, Bool.false_and] at hv1
  rw [hv1, if_neg (by simp)] at hv2
  rw [hv2, hv1]
  refine zg6 Tryz.call44 Tryz.func44 rfl (by kernel_rfl) (za6 (by kernel_rfl)) ?_
  simp -implicitDefEqProofs only [go_sem, Tryz.results44, h40']
end Go.Proofs.YtmhbmpbgpjljeaaGreat
