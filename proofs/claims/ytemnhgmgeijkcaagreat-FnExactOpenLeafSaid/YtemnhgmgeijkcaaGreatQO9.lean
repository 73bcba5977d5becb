/-
  The walk over plain data, and contracts of functions of the program and of its laws.
  Conditions: those that each theorem names.
-/
import Derived.Test.YtemnhgmgeijkcaaGreatQO8
import Derived.Test.YtemnhgmgeijkcaaGreatQO7
import Derived.Test.YtemnhgmgeijkcaaGreatQO5
namespace Go.Proofs.YtemnhgmgeijkcaaGreat
set_option linter.unusedSimpArgs false
set_option linter.unusedVariables false
set_option linter.unusedSectionVars false
set_option maxRecDepth 4000
open Go.RowKit
theorem bft : (false == true) = false := rfl
theorem btf : (true == false) = false := rfl
theorem btt : (true == true) = true := rfl
theorem bff : (false == false) = true := rfl
set_option maxHeartbeats 2000000 in
theorem zml (s sq : Sq) (m : Int) (t : Tm) (c : Fm) (ps : List Dv) (hc : c.wt <= 1048576) : RC Tryz.prog 141 [sqD s, dvD (.mk 15 sq m t c ps)] [.one (sqS (if (m == 0 && t.none && c.good) = true then [⟨[], [c]⟩, ⟨[c], []⟩] else [])), bD (m == 0 && t.none && c.good)] := by
 have HZ := zaz t
 have HV := zcf c (by omega)
 simp only [sqD, zak, dvD, zbm, tmD, zab t, fmD, zaa c] at HZ HV ⊢
 generalize t.none = tn at HZ ⊢
 generalize c.good = cg at HV ⊢
 cases hm : (m == 0)
 ·have hne : (m != 0) = true := by unfold bne; rw [hm]; rfl
  rw [if_neg (by simp)]
  refine zbf Tryz.call141 Tryz.func141 rfl (by kernel_rfl) (zat (by kernel_rfl)) ?_
  simp -implicitDefEqProofs only [go_sem, Tryz.results141, hne]
 ·have hne : (m != 0) = false := by unfold bne; rw [hm]; rfl
  cases tn
  ·rw [if_neg (by simp)]
   refine zbf Tryz.call141 Tryz.func141 rfl (by kernel_rfl) (zat (by kernel_rfl)) ?_
   simp -implicitDefEqProofs only [go_sem, Tryz.results141, hne]
   refine callF (HZ) (by simp -implicitDefEqProofs only [go_sem]) ?_
   simp -implicitDefEqProofs only [go_sem]
  ·cases cg
   ·rw [if_neg (by simp)]
    refine zbf Tryz.call141 Tryz.func141 rfl (by kernel_rfl) (zat (by kernel_rfl)) ?_
    simp -implicitDefEqProofs only [go_sem, Tryz.results141, hne]
    refine callF (HZ) (by simp -implicitDefEqProofs only [go_sem]) ?_
    simp -implicitDefEqProofs only [go_sem]
    refine callF (HV) (by simp -implicitDefEqProofs only [go_sem]) ?_
    simp -implicitDefEqProofs only [go_sem]
   ·show RC _ _ _ [.one (.sl 2 [[.sl 5 [], .sl 5 [fmC c]], [.sl 5 [fmC c], .sl 5 []]]), bD true]
    rw [zaa c]
    refine zbf Tryz.call141 Tryz.func141 rfl (by kernel_rfl) (zat (by kernel_rfl)) ?_
    simp -implicitDefEqProofs only [go_sem, Tryz.results141, hne]
    refine callF (HZ) (by simp -implicitDefEqProofs only [go_sem]) ?_
    simp -implicitDefEqProofs only [go_sem]
    refine callF (HV) (by simp -implicitDefEqProofs only [go_sem]) ?_
    simp -implicitDefEqProofs only [go_sem]
    refine zcm (by simp -implicitDefEqProofs only [go_sem]) ?_
    simp -implicitDefEqProofs only [go_sem]
    refine frzS 928 rfl rfl ?_
    simp -implicitDefEqProofs only [go_sem]
    refine zcm (by simp -implicitDefEqProofs only [go_sem]) ?_
    simp -implicitDefEqProofs only [go_sem]
    refine frzS 1056 rfl rfl ?_
    simp -implicitDefEqProofs only [go_sem]
    refine zcm (by simp -implicitDefEqProofs only [go_sem]) ?_
    simp -implicitDefEqProofs only [go_sem]
set_option maxHeartbeats 2000000 in
theorem znq (s sq : Sq) (r m : Int) (t : Tm) (c : Fm) (ps : List Dv) (h15 : (r == 15) = false) (hno : (inB r 1 15 && same c zal && (inB r 11 14 == !t.none)) = false) : RC Tryz.prog 141 [sqD s, dvD (.mk r sq m t c ps)] [.one (sqS []), bD false] := by
 have HW := zbz r 1 15
 have HSF := za5 c zal
 have HQ := zay r
 have HZ := zaz t
 have hz : fmD zal = .agg [.int .i64 0, .str [], .sl 2 [], .str [], .sl 5 []] := rfl
 rw [hz] at HSF
 simp only [sqD, zak, dvD, zbm, tmD, zab t, fmD, zaa c] at HZ HSF ⊢
 show RC _ _ _ [.one (.sl 2 []), _]
 generalize t.none = tn at HZ hno
 generalize same c zal = sc at HSF hno
 generalize inB r 1 15 = bi at HW hno
 generalize inB r 11 14 = bq at HQ hno
 cases bi
 ·refine zbf Tryz.call141 Tryz.func141 rfl (by kernel_rfl) (zat (by kernel_rfl)) ?_
  simp -implicitDefEqProofs only [go_sem, Tryz.results141, h15]
  refine drawn (by kernel_rfl) ?_
  simp -implicitDefEqProofs only [go_sem]
  refine zan (HW) (by simp -implicitDefEqProofs only [go_sem]) ?_
  simp -implicitDefEqProofs only [go_sem]
  kernel_rfl
 ·cases sc
  ·refine zbf Tryz.call141 Tryz.func141 rfl (by kernel_rfl) (zat (by kernel_rfl)) ?_
   simp -implicitDefEqProofs only [go_sem, Tryz.results141, h15]
   refine drawn (by kernel_rfl) ?_
   simp -implicitDefEqProofs only [go_sem]
   refine zan (HW) (by simp -implicitDefEqProofs only [go_sem]) ?_
   simp -implicitDefEqProofs only [go_sem]
   refine za2 (HSF) (by simp -implicitDefEqProofs only [go_sem]) ?_
   simp -implicitDefEqProofs only [go_sem]
   kernel_rfl
  ·cases bq <;> cases tn
   ·refine zbf Tryz.call141 Tryz.func141 rfl (by kernel_rfl) (zat (by kernel_rfl)) ?_
    simp -implicitDefEqProofs only [go_sem, Tryz.results141, h15]
    refine drawn (by kernel_rfl) ?_
    simp -implicitDefEqProofs only [go_sem]
    refine zan (HW) (by simp -implicitDefEqProofs only [go_sem]) ?_
    simp -implicitDefEqProofs only [go_sem]
    refine za2 (HSF) (by simp -implicitDefEqProofs only [go_sem]) ?_
    simp -implicitDefEqProofs only [go_sem]
    refine za2 (HQ) (by simp -implicitDefEqProofs only [go_sem]) ?_
    simp -implicitDefEqProofs only [go_sem]
    refine za2 (HZ) (by simp -implicitDefEqProofs only [go_sem, bft, btf, btt, bff, Bool.not_false, Bool.not_true]) ?_
    simp -implicitDefEqProofs only [go_sem, bft, btf, btt, bff, Bool.not_false, Bool.not_true]
    kernel_rfl
   ·cases hno
   ·cases hno
   ·refine zbf Tryz.call141 Tryz.func141 rfl (by kernel_rfl) (zat (by kernel_rfl)) ?_
    simp -implicitDefEqProofs only [go_sem, Tryz.results141, h15]
    refine drawn (by kernel_rfl) ?_
    simp -implicitDefEqProofs only [go_sem]
    refine zan (HW) (by simp -implicitDefEqProofs only [go_sem]) ?_
    simp -implicitDefEqProofs only [go_sem]
    refine za2 (HSF) (by simp -implicitDefEqProofs only [go_sem]) ?_
    simp -implicitDefEqProofs only [go_sem]
    refine za2 (HQ) (by simp -implicitDefEqProofs only [go_sem]) ?_
    simp -implicitDefEqProofs only [go_sem]
    refine za2 (HZ) (by simp -implicitDefEqProofs only [go_sem, bft, btf, btt, bff, Bool.not_false, Bool.not_true]) ?_
    simp -implicitDefEqProofs only [go_sem, bft, btf, btt, bff, Bool.not_false, Bool.not_true]
    kernel_rfl
set_option maxHeartbeats 2000000 in
theorem zk2 (s sq : Sq) (r m : Int) (t : Tm) (c : Fm) (ps : List Dv) (h15 : (r == 15) = false) (hin : inB r 1 15 = true) (hc : same c zal = true) (hqn : inB r 11 14 = !t.none) (hl : s.left.length <= 1048576) (hr : s.right.length <= 1048576) (hm : zbp s (.mk r sq m t c ps) = false) : RC Tryz.prog 141 [sqD s, dvD (.mk r sq m t c ps)] [.one (sqS []), bD false] := by
 have HW := zbz r 1 15
 have HSF := za5 c zal
 have HQ := zay r
 have HZ := zaz t
 have hz : fmD zal = .agg [.int .i64 0, .str [], .sl 2 [], .str [], .sl 5 []] := rfl
 rw [hz] at HSF
 rw [hin] at HW
 rw [hc] at HSF
 have HMF := zbd s (.mk r sq m t c ps) (by unfold inB at hin; simp only [Bool.and_eq_true, decide_eq_true_eq] at hin; have h14 : r ≠ 15 := (by simpa using h15); simp only [Dv.rule]; omega) hl hr
 rw [hm, if_neg (by simp), hz] at HMF
 rw [hqn] at HQ
 simp only [sqD, zak, dvD, zbm, tmD, zab t, fmD, zaa c] at HZ HSF HMF ⊢
 show RC _ _ _ [.one (.sl 2 []), _]
 generalize t.none = tn at HZ HQ
 cases tn
 ·refine zbf Tryz.call141 Tryz.func141 rfl (by kernel_rfl) (zat (by kernel_rfl)) ?_
  simp -implicitDefEqProofs only [go_sem, Tryz.results141, h15]
  refine drawn (by kernel_rfl) ?_
  simp -implicitDefEqProofs only [go_sem]
  refine zan (HW) (by simp -implicitDefEqProofs only [go_sem]) ?_
  simp -implicitDefEqProofs only [go_sem]
  refine za2 (HSF) (by simp -implicitDefEqProofs only [go_sem]) ?_
  simp -implicitDefEqProofs only [go_sem]
  refine za2 (HQ) (by simp -implicitDefEqProofs only [go_sem]) ?_
  simp -implicitDefEqProofs only [go_sem]
  refine za2 (HZ) (by simp -implicitDefEqProofs only [go_sem, bft, btf, btt, bff, Bool.not_false, Bool.not_true]) ?_
  simp -implicitDefEqProofs only [go_sem, bft, btf, btt, bff, Bool.not_false, Bool.not_true]
  refine ⟨by kernel_rfl, ?_⟩
  refine callR (HMF) (by simp -implicitDefEqProofs only [go_sem]) ?_
  simp -implicitDefEqProofs only [go_sem]
 ·refine zbf Tryz.call141 Tryz.func141 rfl (by kernel_rfl) (zat (by kernel_rfl)) ?_
  simp -implicitDefEqProofs only [go_sem, Tryz.results141, h15]
  refine drawn (by kernel_rfl) ?_
  simp -implicitDefEqProofs only [go_sem]
  refine zan (HW) (by simp -implicitDefEqProofs only [go_sem]) ?_
  simp -implicitDefEqProofs only [go_sem]
  refine za2 (HSF) (by simp -implicitDefEqProofs only [go_sem]) ?_
  simp -implicitDefEqProofs only [go_sem]
  refine za2 (HQ) (by simp -implicitDefEqProofs only [go_sem]) ?_
  simp -implicitDefEqProofs only [go_sem]
  refine za2 (HZ) (by simp -implicitDefEqProofs only [go_sem, bft, btf, btt, bff, Bool.not_false, Bool.not_true]) ?_
  simp -implicitDefEqProofs only [go_sem, bft, btf, btt, bff, Bool.not_false, Bool.not_true]
  refine ⟨by kernel_rfl, ?_⟩
  refine callR (HMF) (by simp -implicitDefEqProofs only [go_sem]) ?_
  simp -implicitDefEqProofs only [go_sem]
set_option maxHeartbeats 2000000 in
theorem zre (s sq : Sq) (r m : Int) (t : Tm) (c : Fm) (ps : List Dv) (hs : s.good = true) (ht : t.wt <= 1048576) (hn : t.none = false) (hc : same c zal = true) (hq : inB r 11 14 = true) (hl : s.left.length <= 1048576) (hr : s.right.length <= 1048576) (f : Fm) (hm : zbp s (.mk r sq m t c ps) = true) (hf : zb3 s (.mk r sq m t c ps) = f) (hg : f.good = true) (ho : f.op = 8 \/ f.op = 9) : RC Tryz.prog 141 [sqD s, dvD (.mk r sq m t c ps)] [.one (sqS (zi3 s (.mk r sq m t c ps) f).1), bD (zi3 s (.mk r sq m t c ps) f).2] := by
 have hr1 : 11 <= r /\ r <= 14 := by unfold inB at hq; simpa only [Bool.and_eq_true, decide_eq_true_eq] using hq
 have hin : inB r 1 15 = true := by unfold inB; simp only [Bool.and_eq_true, decide_eq_true_eq]; omega
 have h15 : (r == 15) = false := by rw [beq_eq_false_iff_ne]; omega
 have HW := zbz r 1 15
 have HSF := za5 c zal
 have HQ := zay r
 have HZ := zaz t
 have hz : fmD zal = .agg [.int .i64 0, .str [], .sl 2 [], .str [], .sl 5 []] := rfl
 rw [hz] at HSF
 rw [hin] at HW
 rw [hc] at HSF
 have HMF := zbd s (.mk r sq m t c ps) (by simp only [Dv.rule]; omega) hl hr
 rw [hm, if_pos rfl, hf] at HMF
 rw [hq] at HQ
 rw [hn] at HZ
 have HI := zk1 s hs (.mk r sq m t c ps) hq ht f hg ho
 generalize zi3 s (.mk r sq m t c ps) f = B at HI ⊢
 obtain ⟨L, b⟩ := B
 simp only [sqD, zak, dvD, zbm, tmD, zab t, fmD, zaa c, zaa f] at HZ HSF HMF HI ⊢
 refine zbf Tryz.call141 Tryz.func141 rfl (by kernel_rfl) (zat (by kernel_rfl)) ?_
 simp -implicitDefEqProofs only [go_sem, Tryz.results141, h15]
 refine drawn (by kernel_rfl) ?_
 simp -implicitDefEqProofs only [go_sem]
 refine zan (HW) (by simp -implicitDefEqProofs only [go_sem]) ?_
 simp -implicitDefEqProofs only [go_sem]
 refine za2 (HSF) (by simp -implicitDefEqProofs only [go_sem]) ?_
 simp -implicitDefEqProofs only [go_sem]
 refine za2 (HQ) (by simp -implicitDefEqProofs only [go_sem]) ?_
 simp -implicitDefEqProofs only [go_sem]
 refine za2 (HZ) (by simp -implicitDefEqProofs only [go_sem, bft, btf, btt, bff, Bool.not_false, Bool.not_true]) ?_
 simp -implicitDefEqProofs only [go_sem, bft, btf, btt, bff, Bool.not_false, Bool.not_true]
 refine ⟨by kernel_rfl, ?_⟩
 refine callR (HMF) (by simp -implicitDefEqProofs only [go_sem]) ?_
 simp -implicitDefEqProofs only [go_sem]
 refine callF (HQ) (by simp -implicitDefEqProofs only [go_sem]) ?_
 simp -implicitDefEqProofs only [go_sem]
 refine callR (HI) (by simp -implicitDefEqProofs only [go_sem]) ?_
 simp -implicitDefEqProofs only [go_sem]
set_option maxHeartbeats 2000000 in
theorem zq4 (s sq : Sq) (m : Int) (t : Tm) (c : Fm) (ps : List Dv) (hn : t.none = true) (hc : same c zal = true) (hl : s.left.length <= 1048576) (hr : s.right.length <= 1048576) (f : Fm) (hm : zbp s (.mk 1 sq m t c ps) = true) (hf : zb3 s (.mk 1 sq m t c ps) = f) : RC Tryz.prog 141 [sqD s, dvD (.mk 1 sq m t c ps)] [.one (sqS []), bD (f.op == 2 || s.right.any fun g => same f g)] := by
 have HW : FC Tryz.prog 204 [iD 1, iD 1, iD 15] [bD true] := zbz 1 1 15
 have HSF := za5 c zal
 have HQ : FC Tryz.prog 206 [iD 1] [bD false] := zay 1
 have HZ := zaz t
 have hz : fmD zal = .agg [.int .i64 0, .str [], .sl 2 [], .str [], .sl 5 []] := rfl
 rw [hz] at HSF
 rw [hc] at HSF
 rw [hn] at HZ
 have HMF := zbd s (.mk 1 sq m t c ps) (by simp only [Dv.rule]; omega) hl hr
 rw [hm, if_pos rfl, hf] at HMF
 have HC := zas s.right (same f) 210 [.ptr (fmC f)] fun g _ => qii f g
 have hq : List.map sqC [] = [] := rfl
 rw [sqS, hq]
 simp only [sqD, zak, dvD, zbm, tmD, zab t, fmD, zaa c, zaa f, List.map_cons, List.map_nil] at HZ HSF HMF HC ⊢
 cases hop : (f.op == 2)
 ·rw [Bool.false_or]
  generalize (s.right.any fun g => same f g) = b at HC ⊢
  refine zbf Tryz.call141 Tryz.func141 rfl (by kernel_rfl) (zat (by kernel_rfl)) ?_
  simp -implicitDefEqProofs only [go_sem, Tryz.results141]
  refine drawn (by kernel_rfl) ?_
  simp -implicitDefEqProofs only [go_sem]
  refine zan (HW) (by simp -implicitDefEqProofs only [go_sem]) ?_
  simp -implicitDefEqProofs only [go_sem]
  refine za2 (HSF) (by simp -implicitDefEqProofs only [go_sem]) ?_
  simp -implicitDefEqProofs only [go_sem]
  refine za2 (HQ) (by simp -implicitDefEqProofs only [go_sem]) ?_
  simp -implicitDefEqProofs only [go_sem]
  refine za2 (HZ) (by simp -implicitDefEqProofs only [go_sem, bft, btf, btt, bff, Bool.not_false, Bool.not_true]) ?_
  simp -implicitDefEqProofs only [go_sem, bft, btf, btt, bff, Bool.not_false, Bool.not_true]
  refine ⟨by kernel_rfl, ?_⟩
  refine callR (HMF) (by simp -implicitDefEqProofs only [go_sem]) ?_
  simp -implicitDefEqProofs only [go_sem]
  refine callF (HQ) (by simp -implicitDefEqProofs only [go_sem]) ?_
  simp -implicitDefEqProofs only [go_sem]
  simp -implicitDefEqProofs only [go_sem, hop]
  refine callF (HC) (by simp -implicitDefEqProofs only [go_sem]) ?_
  simp -implicitDefEqProofs only [go_sem]
 ·rw [Bool.true_or]
  refine zbf Tryz.call141 Tryz.func141 rfl (by kernel_rfl) (zat (by kernel_rfl)) ?_
  simp -implicitDefEqProofs only [go_sem, Tryz.results141]
  refine drawn (by kernel_rfl) ?_
  simp -implicitDefEqProofs only [go_sem]
  refine zan (HW) (by simp -implicitDefEqProofs only [go_sem]) ?_
  simp -implicitDefEqProofs only [go_sem]
  refine za2 (HSF) (by simp -implicitDefEqProofs only [go_sem]) ?_
  simp -implicitDefEqProofs only [go_sem]
  refine za2 (HQ) (by simp -implicitDefEqProofs only [go_sem]) ?_
  simp -implicitDefEqProofs only [go_sem]
  refine za2 (HZ) (by simp -implicitDefEqProofs only [go_sem, bft, btf, btt, bff, Bool.not_false, Bool.not_true]) ?_
  simp -implicitDefEqProofs only [go_sem, bft, btf, btt, bff, Bool.not_false, Bool.not_true]
  refine ⟨by kernel_rfl, ?_⟩
  refine callR (HMF) (by simp -implicitDefEqProofs only [go_sem]) ?_
  simp -implicitDefEqProofs only [go_sem]
  refine callF (HQ) (by simp -implicitDefEqProofs only [go_sem]) ?_
  simp -implicitDefEqProofs only [go_sem]
  simp -implicitDefEqProofs only [go_sem, hop]
set_option maxHeartbeats 2000000 in
theorem zqw (s sq : Sq) (m : Int) (t : Tm) (c : Fm) (ps : List Dv) (hn : t.none = true) (hc : same c zal = true) (hl : s.left.length <= 1048576) (hr : s.right.length <= 1048576) (f : Fm) (hm : zbp s (.mk 2 sq m t c ps) = true) (hf : zb3 s (.mk 2 sq m t c ps) = f) : RC Tryz.prog 141 [sqD s, dvD (.mk 2 sq m t c ps)] [.one (sqS []), bD true] := by
 have HW : FC Tryz.prog 204 [iD 2, iD 1, iD 15] [bD true] := zbz 2 1 15
 have HSF := za5 c zal
 have HQ : FC Tryz.prog 206 [iD 2] [bD false] := zay 2
 have HZ := zaz t
 have hz : fmD zal = .agg [.int .i64 0, .str [], .sl 2 [], .str [], .sl 5 []] := rfl
 rw [hz] at HSF
 rw [hc] at HSF
 rw [hn] at HZ
 have HMF := zbd s (.mk 2 sq m t c ps) (by simp only [Dv.rule]; omega) hl hr
 rw [hm, if_pos rfl, hf] at HMF
 have hq : List.map sqC [] = [] := rfl
 rw [sqS, hq]
 simp only [sqD, zak, dvD, zbm, tmD, zab t, fmD, zaa c, zaa f, List.map_cons, List.map_nil] at HZ HSF HMF ⊢
 refine zbf Tryz.call141 Tryz.func141 rfl (by kernel_rfl) (zat (by kernel_rfl)) ?_
 simp -implicitDefEqProofs only [go_sem, Tryz.results141]
 refine drawn (by kernel_rfl) ?_
 simp -implicitDefEqProofs only [go_sem]
 refine zan (HW) (by simp -implicitDefEqProofs only [go_sem]) ?_
 simp -implicitDefEqProofs only [go_sem]
 refine za2 (HSF) (by simp -implicitDefEqProofs only [go_sem]) ?_
 simp -implicitDefEqProofs only [go_sem]
 refine za2 (HQ) (by simp -implicitDefEqProofs only [go_sem]) ?_
 simp -implicitDefEqProofs only [go_sem]
 refine za2 (HZ) (by simp -implicitDefEqProofs only [go_sem, bft, btf, btt, bff, Bool.not_false, Bool.not_true]) ?_
 simp -implicitDefEqProofs only [go_sem, bft, btf, btt, bff, Bool.not_false, Bool.not_true]
 refine ⟨by kernel_rfl, ?_⟩
 refine callR (HMF) (by simp -implicitDefEqProofs only [go_sem]) ?_
 simp -implicitDefEqProofs only [go_sem]
 refine callF (HQ) (by simp -implicitDefEqProofs only [go_sem]) ?_
 simp -implicitDefEqProofs only [go_sem]
set_option maxHeartbeats 2000000 in
theorem zry (s sq : Sq) (m : Int) (t : Tm) (c : Fm) (ps : List Dv) (hn : t.none = true) (hc : same c zal = true) (hl : s.left.length <= 1048576) (hr : s.right.length <= 1048576) (f : Fm) (hm : zbp s (.mk 3 sq m t c ps) = true) (hf : zb3 s (.mk 3 sq m t c ps) = f) (hp : 0 < f.parts.length) : RC Tryz.prog 141 [sqD s, dvD (.mk 3 sq m t c ps)] [.one (sqS [⟨[], [f.parts.getD 0 zal]⟩]), bD true] := by
 have HW : FC Tryz.prog 204 [iD 3, iD 1, iD 15] [bD true] := zbz 3 1 15
 have HSF := za5 c zal
 have HQ : FC Tryz.prog 206 [iD 3] [bD false] := zay 3
 have HZ := zaz t
 have hz : fmD zal = .agg [.int .i64 0, .str [], .sl 2 [], .str [], .sl 5 []] := rfl
 rw [hz] at HSF
 rw [hc] at HSF
 rw [hn] at HZ
 have HMF := zbd s (.mk 3 sq m t c ps) (by simp only [Dv.rule]; omega) hl hr
 rw [hm, if_pos rfl, hf] at HMF
 have H0 : RC Tryz.prog 209 [iD 0, .one (.ptr (fmC f))] [.one (fmS [f.parts.getD 0 zal])] := zgi f 0 (by omega)
 generalize f.parts.getD 0 zal = p0 at H0 ⊢
 have hq : List.map sqC [⟨[], [p0]⟩] = [[.sl 5 [], .sl 5 [fmC p0]]] := rfl
 rw [sqS, hq]
 simp only [sqD, zak, dvD, zbm, tmD, zab t, fmD, zaa c, zaa f, List.map_cons, List.map_nil] at HZ HSF HMF H0 ⊢
 refine zbf Tryz.call141 Tryz.func141 rfl (by kernel_rfl) (zat (by kernel_rfl)) ?_
 simp -implicitDefEqProofs only [go_sem, Tryz.results141]
 refine drawn (by kernel_rfl) ?_
 simp -implicitDefEqProofs only [go_sem]
 refine zan (HW) (by simp -implicitDefEqProofs only [go_sem]) ?_
 simp -implicitDefEqProofs only [go_sem]
 refine za2 (HSF) (by simp -implicitDefEqProofs only [go_sem]) ?_
 simp -implicitDefEqProofs only [go_sem]
 refine za2 (HQ) (by simp -implicitDefEqProofs only [go_sem]) ?_
 simp -implicitDefEqProofs only [go_sem]
 refine za2 (HZ) (by simp -implicitDefEqProofs only [go_sem, bft, btf, btt, bff, Bool.not_false, Bool.not_true]) ?_
 simp -implicitDefEqProofs only [go_sem, bft, btf, btt, bff, Bool.not_false, Bool.not_true]
 refine ⟨by kernel_rfl, ?_⟩
 refine callR (HMF) (by simp -implicitDefEqProofs only [go_sem]) ?_
 simp -implicitDefEqProofs only [go_sem]
 refine callF (HQ) (by simp -implicitDefEqProofs only [go_sem]) ?_
 simp -implicitDefEqProofs only [go_sem]
 refine frzX 6 rfl rfl ?_
 simp -implicitDefEqProofs only [go_sem]
 refine callR (H0) (by simp -implicitDefEqProofs only [go_sem]) ?_
 simp -implicitDefEqProofs only [go_sem]
 refine zcm (by simp -implicitDefEqProofs only [go_sem]) ?_
 simp -implicitDefEqProofs only [go_sem]
 rfl
set_option maxHeartbeats 2000000 in
theorem zq1 (s sq : Sq) (m : Int) (t : Tm) (c : Fm) (ps : List Dv) (hn : t.none = true) (hc : same c zal = true) (hl : s.left.length <= 1048576) (hr : s.right.length <= 1048576) (f : Fm) (hm : zbp s (.mk 4 sq m t c ps) = true) (hf : zb3 s (.mk 4 sq m t c ps) = f) (hp : 0 < f.parts.length) : RC Tryz.prog 141 [sqD s, dvD (.mk 4 sq m t c ps)] [.one (sqS [⟨[f.parts.getD 0 zal], []⟩]), bD true] := by
 have HW : FC Tryz.prog 204 [iD 4, iD 1, iD 15] [bD true] := zbz 4 1 15
 have HSF := za5 c zal
 have HQ : FC Tryz.prog 206 [iD 4] [bD false] := zay 4
 have HZ := zaz t
 have hz : fmD zal = .agg [.int .i64 0, .str [], .sl 2 [], .str [], .sl 5 []] := rfl
 rw [hz] at HSF
 rw [hc] at HSF
 rw [hn] at HZ
 have HMF := zbd s (.mk 4 sq m t c ps) (by simp only [Dv.rule]; omega) hl hr
 rw [hm, if_pos rfl, hf] at HMF
 have H0 : RC Tryz.prog 209 [iD 0, .one (.ptr (fmC f))] [.one (fmS [f.parts.getD 0 zal])] := zgi f 0 (by omega)
 generalize f.parts.getD 0 zal = p0 at H0 ⊢
 have hq : List.map sqC [⟨[p0], []⟩] = [[.sl 5 [fmC p0], .sl 5 []]] := rfl
 rw [sqS, hq]
 simp only [sqD, zak, dvD, zbm, tmD, zab t, fmD, zaa c, zaa f, List.map_cons, List.map_nil] at HZ HSF HMF H0 ⊢
 refine zbf Tryz.call141 Tryz.func141 rfl (by kernel_rfl) (zat (by kernel_rfl)) ?_
 simp -implicitDefEqProofs only [go_sem, Tryz.results141]
 refine drawn (by kernel_rfl) ?_
 simp -implicitDefEqProofs only [go_sem]
 refine zan (HW) (by simp -implicitDefEqProofs only [go_sem]) ?_
 simp -implicitDefEqProofs only [go_sem]
 refine za2 (HSF) (by simp -implicitDefEqProofs only [go_sem]) ?_
 simp -implicitDefEqProofs only [go_sem]
 refine za2 (HQ) (by simp -implicitDefEqProofs only [go_sem]) ?_
 simp -implicitDefEqProofs only [go_sem]
 refine za2 (HZ) (by simp -implicitDefEqProofs only [go_sem, bft, btf, btt, bff, Bool.not_false, Bool.not_true]) ?_
 simp -implicitDefEqProofs only [go_sem, bft, btf, btt, bff, Bool.not_false, Bool.not_true]
 refine ⟨by kernel_rfl, ?_⟩
 refine callR (HMF) (by simp -implicitDefEqProofs only [go_sem]) ?_
 simp -implicitDefEqProofs only [go_sem]
 refine callF (HQ) (by simp -implicitDefEqProofs only [go_sem]) ?_
 simp -implicitDefEqProofs only [go_sem]
 refine frzX 6 rfl rfl ?_
 simp -implicitDefEqProofs only [go_sem]
 refine callR (H0) (by simp -implicitDefEqProofs only [go_sem]) ?_
 simp -implicitDefEqProofs only [go_sem]
 refine zcm (by simp -implicitDefEqProofs only [go_sem]) ?_
 simp -implicitDefEqProofs only [go_sem]
 rfl
set_option maxHeartbeats 2000000 in
theorem zqe (s sq : Sq) (m : Int) (t : Tm) (c : Fm) (ps : List Dv) (hn : t.none = true) (hc : same c zal = true) (hl : s.left.length <= 1048576) (hr : s.right.length <= 1048576) (f : Fm) (hm : zbp s (.mk 5 sq m t c ps) = true) (hf : zb3 s (.mk 5 sq m t c ps) = f) : RC Tryz.prog 141 [sqD s, dvD (.mk 5 sq m t c ps)] [.one (sqS [⟨f.parts, []⟩]), bD true] := by
 have HW : FC Tryz.prog 204 [iD 5, iD 1, iD 15] [bD true] := zbz 5 1 15
 have HSF := za5 c zal
 have HQ : FC Tryz.prog 206 [iD 5] [bD false] := zay 5
 have HZ := zaz t
 have hz : fmD zal = .agg [.int .i64 0, .str [], .sl 2 [], .str [], .sl 5 []] := rfl
 rw [hz] at HSF
 rw [hc] at HSF
 rw [hn] at HZ
 have HMF := zbd s (.mk 5 sq m t c ps) (by simp only [Dv.rule]; omega) hl hr
 rw [hm, if_pos rfl, hf] at HMF
 have hq : List.map sqC [⟨f.parts, []⟩] = [[.sl 5 (f.parts.map fmC), .sl 5 []]] := rfl
 rw [sqS, hq]
 simp only [sqD, zak, dvD, zbm, tmD, zab t, fmD, zaa c, zaa f, List.map_cons, List.map_nil] at HZ HSF HMF ⊢
 refine zbf Tryz.call141 Tryz.func141 rfl (by kernel_rfl) (zat (by kernel_rfl)) ?_
 simp -implicitDefEqProofs only [go_sem, Tryz.results141]
 refine drawn (by kernel_rfl) ?_
 simp -implicitDefEqProofs only [go_sem]
 refine zan (HW) (by simp -implicitDefEqProofs only [go_sem]) ?_
 simp -implicitDefEqProofs only [go_sem]
 refine za2 (HSF) (by simp -implicitDefEqProofs only [go_sem]) ?_
 simp -implicitDefEqProofs only [go_sem]
 refine za2 (HQ) (by simp -implicitDefEqProofs only [go_sem]) ?_
 simp -implicitDefEqProofs only [go_sem]
 refine za2 (HZ) (by simp -implicitDefEqProofs only [go_sem, bft, btf, btt, bff, Bool.not_false, Bool.not_true]) ?_
 simp -implicitDefEqProofs only [go_sem, bft, btf, btt, bff, Bool.not_false, Bool.not_true]
 refine ⟨by kernel_rfl, ?_⟩
 refine callR (HMF) (by simp -implicitDefEqProofs only [go_sem]) ?_
 simp -implicitDefEqProofs only [go_sem]
 refine callF (HQ) (by simp -implicitDefEqProofs only [go_sem]) ?_
 simp -implicitDefEqProofs only [go_sem]
 refine zcm (by simp -implicitDefEqProofs only [go_sem]) ?_
 simp -implicitDefEqProofs only [go_sem]
set_option maxHeartbeats 2000000 in
theorem zqu (s sq : Sq) (m : Int) (t : Tm) (c : Fm) (ps : List Dv) (hn : t.none = true) (hc : same c zal = true) (hl : s.left.length <= 1048576) (hr : s.right.length <= 1048576) (f : Fm) (hm : zbp s (.mk 6 sq m t c ps) = true) (hf : zb3 s (.mk 6 sq m t c ps) = f) (hp : 1 < f.parts.length) : RC Tryz.prog 141 [sqD s, dvD (.mk 6 sq m t c ps)] [.one (sqS [⟨[], [f.parts.getD 0 zal]⟩, ⟨[], [f.parts.getD 1 zal]⟩]), bD true] := by
 have HW : FC Tryz.prog 204 [iD 6, iD 1, iD 15] [bD true] := zbz 6 1 15
 have HSF := za5 c zal
 have HQ : FC Tryz.prog 206 [iD 6] [bD false] := zay 6
 have HZ := zaz t
 have hz : fmD zal = .agg [.int .i64 0, .str [], .sl 2 [], .str [], .sl 5 []] := rfl
 rw [hz] at HSF
 rw [hc] at HSF
 rw [hn] at HZ
 have HMF := zbd s (.mk 6 sq m t c ps) (by simp only [Dv.rule]; omega) hl hr
 rw [hm, if_pos rfl, hf] at HMF
 have H0 : RC Tryz.prog 209 [iD 0, .one (.ptr (fmC f))] [.one (fmS [f.parts.getD 0 zal])] := zgi f 0 (by omega)
 have H1 : RC Tryz.prog 209 [iD 1, .one (.ptr (fmC f))] [.one (fmS [f.parts.getD 1 zal])] := zgi f 1 (by omega)
 generalize f.parts.getD 0 zal = p0 at H0 ⊢
 generalize f.parts.getD 1 zal = p1 at H1 ⊢
 have hq : List.map sqC [⟨[], [p0]⟩, ⟨[], [p1]⟩] = [[.sl 5 [], .sl 5 [fmC p0]], [.sl 5 [], .sl 5 [fmC p1]]] := rfl
 rw [sqS, hq]
 simp only [sqD, zak, dvD, zbm, tmD, zab t, fmD, zaa c, zaa f, List.map_cons, List.map_nil] at HZ HSF HMF H0 H1 ⊢
 refine zbf Tryz.call141 Tryz.func141 rfl (by kernel_rfl) (zat (by kernel_rfl)) ?_
 simp -implicitDefEqProofs only [go_sem, Tryz.results141]
 refine drawn (by kernel_rfl) ?_
 simp -implicitDefEqProofs only [go_sem]
 refine zan (HW) (by simp -implicitDefEqProofs only [go_sem]) ?_
 simp -implicitDefEqProofs only [go_sem]
 refine za2 (HSF) (by simp -implicitDefEqProofs only [go_sem]) ?_
 simp -implicitDefEqProofs only [go_sem]
 refine za2 (HQ) (by simp -implicitDefEqProofs only [go_sem]) ?_
 simp -implicitDefEqProofs only [go_sem]
 refine za2 (HZ) (by simp -implicitDefEqProofs only [go_sem, bft, btf, btt, bff, Bool.not_false, Bool.not_true]) ?_
 simp -implicitDefEqProofs only [go_sem, bft, btf, btt, bff, Bool.not_false, Bool.not_true]
 refine ⟨by kernel_rfl, ?_⟩
 refine callR (HMF) (by simp -implicitDefEqProofs only [go_sem]) ?_
 simp -implicitDefEqProofs only [go_sem]
 refine callF (HQ) (by simp -implicitDefEqProofs only [go_sem]) ?_
 simp -implicitDefEqProofs only [go_sem]
 refine frzX 6 rfl rfl ?_
 simp -implicitDefEqProofs only [go_sem]
 refine callR (H0) (by simp -implicitDefEqProofs only [go_sem]) ?_
 simp -implicitDefEqProofs only [go_sem]
 refine callR (H1) (by simp -implicitDefEqProofs only [go_sem]) ?_
 simp -implicitDefEqProofs only [go_sem]
 refine zcm (by simp -implicitDefEqProofs only [go_sem]) ?_
 simp -implicitDefEqProofs only [go_sem]
 rfl
set_option maxHeartbeats 2000000 in
theorem zrx (s sq : Sq) (m : Int) (t : Tm) (c : Fm) (ps : List Dv) (hn : t.none = true) (hc : same c zal = true) (hl : s.left.length <= 1048576) (hr : s.right.length <= 1048576) (f : Fm) (hm : zbp s (.mk 7 sq m t c ps) = true) (hf : zb3 s (.mk 7 sq m t c ps) = f) (hp : 1 < f.parts.length) : RC Tryz.prog 141 [sqD s, dvD (.mk 7 sq m t c ps)] [.one (sqS [⟨[f.parts.getD 0 zal], []⟩, ⟨[f.parts.getD 1 zal], []⟩]), bD true] := by
 have HW : FC Tryz.prog 204 [iD 7, iD 1, iD 15] [bD true] := zbz 7 1 15
 have HSF := za5 c zal
 have HQ : FC Tryz.prog 206 [iD 7] [bD false] := zay 7
 have HZ := zaz t
 have hz : fmD zal = .agg [.int .i64 0, .str [], .sl 2 [], .str [], .sl 5 []] := rfl
 rw [hz] at HSF
 rw [hc] at HSF
 rw [hn] at HZ
 have HMF := zbd s (.mk 7 sq m t c ps) (by simp only [Dv.rule]; omega) hl hr
 rw [hm, if_pos rfl, hf] at HMF
 have H0 : RC Tryz.prog 209 [iD 0, .one (.ptr (fmC f))] [.one (fmS [f.parts.getD 0 zal])] := zgi f 0 (by omega)
 have H1 : RC Tryz.prog 209 [iD 1, .one (.ptr (fmC f))] [.one (fmS [f.parts.getD 1 zal])] := zgi f 1 (by omega)
 generalize f.parts.getD 0 zal = p0 at H0 ⊢
 generalize f.parts.getD 1 zal = p1 at H1 ⊢
 have hq : List.map sqC [⟨[p0], []⟩, ⟨[p1], []⟩] = [[.sl 5 [fmC p0], .sl 5 []], [.sl 5 [fmC p1], .sl 5 []]] := rfl
 rw [sqS, hq]
 simp only [sqD, zak, dvD, zbm, tmD, zab t, fmD, zaa c, zaa f, List.map_cons, List.map_nil] at HZ HSF HMF H0 H1 ⊢
 refine zbf Tryz.call141 Tryz.func141 rfl (by kernel_rfl) (zat (by kernel_rfl)) ?_
 simp -implicitDefEqProofs only [go_sem, Tryz.results141]
 refine drawn (by kernel_rfl) ?_
 simp -implicitDefEqProofs only [go_sem]
 refine zan (HW) (by simp -implicitDefEqProofs only [go_sem]) ?_
 simp -implicitDefEqProofs only [go_sem]
 refine za2 (HSF) (by simp -implicitDefEqProofs only [go_sem]) ?_
 simp -implicitDefEqProofs only [go_sem]
 refine za2 (HQ) (by simp -implicitDefEqProofs only [go_sem]) ?_
 simp -implicitDefEqProofs only [go_sem]
 refine za2 (HZ) (by simp -implicitDefEqProofs only [go_sem, bft, btf, btt, bff, Bool.not_false, Bool.not_true]) ?_
 simp -implicitDefEqProofs only [go_sem, bft, btf, btt, bff, Bool.not_false, Bool.not_true]
 refine ⟨by kernel_rfl, ?_⟩
 refine callR (HMF) (by simp -implicitDefEqProofs only [go_sem]) ?_
 simp -implicitDefEqProofs only [go_sem]
 refine callF (HQ) (by simp -implicitDefEqProofs only [go_sem]) ?_
 simp -implicitDefEqProofs only [go_sem]
 refine frzX 6 rfl rfl ?_
 simp -implicitDefEqProofs only [go_sem]
 refine callR (H0) (by simp -implicitDefEqProofs only [go_sem]) ?_
 simp -implicitDefEqProofs only [go_sem]
 refine callR (H1) (by simp -implicitDefEqProofs only [go_sem]) ?_
 simp -implicitDefEqProofs only [go_sem]
 refine zcm (by simp -implicitDefEqProofs only [go_sem]) ?_
 simp -implicitDefEqProofs only [go_sem]
 rfl
set_option maxHeartbeats 2000000 in
theorem zr1 (s sq : Sq) (m : Int) (t : Tm) (c : Fm) (ps : List Dv) (hn : t.none = true) (hc : same c zal = true) (hl : s.left.length <= 1048576) (hr : s.right.length <= 1048576) (f : Fm) (hm : zbp s (.mk 8 sq m t c ps) = true) (hf : zb3 s (.mk 8 sq m t c ps) = f) : RC Tryz.prog 141 [sqD s, dvD (.mk 8 sq m t c ps)] [.one (sqS [⟨[], f.parts⟩]), bD true] := by
 have HW : FC Tryz.prog 204 [iD 8, iD 1, iD 15] [bD true] := zbz 8 1 15
 have HSF := za5 c zal
 have HQ : FC Tryz.prog 206 [iD 8] [bD false] := zay 8
 have HZ := zaz t
 have hz : fmD zal = .agg [.int .i64 0, .str [], .sl 2 [], .str [], .sl 5 []] := rfl
 rw [hz] at HSF
 rw [hc] at HSF
 rw [hn] at HZ
 have HMF := zbd s (.mk 8 sq m t c ps) (by simp only [Dv.rule]; omega) hl hr
 rw [hm, if_pos rfl, hf] at HMF
 have hq : List.map sqC [⟨[], f.parts⟩] = [[.sl 5 [], .sl 5 (f.parts.map fmC)]] := rfl
 rw [sqS, hq]
 simp only [sqD, zak, dvD, zbm, tmD, zab t, fmD, zaa c, zaa f, List.map_cons, List.map_nil] at HZ HSF HMF ⊢
 refine zbf Tryz.call141 Tryz.func141 rfl (by kernel_rfl) (zat (by kernel_rfl)) ?_
 simp -implicitDefEqProofs only [go_sem, Tryz.results141]
 refine drawn (by kernel_rfl) ?_
 simp -implicitDefEqProofs only [go_sem]
 refine zan (HW) (by simp -implicitDefEqProofs only [go_sem]) ?_
 simp -implicitDefEqProofs only [go_sem]
 refine za2 (HSF) (by simp -implicitDefEqProofs only [go_sem]) ?_
 simp -implicitDefEqProofs only [go_sem]
 refine za2 (HQ) (by simp -implicitDefEqProofs only [go_sem]) ?_
 simp -implicitDefEqProofs only [go_sem]
 refine za2 (HZ) (by simp -implicitDefEqProofs only [go_sem, bft, btf, btt, bff, Bool.not_false, Bool.not_true]) ?_
 simp -implicitDefEqProofs only [go_sem, bft, btf, btt, bff, Bool.not_false, Bool.not_true]
 refine ⟨by kernel_rfl, ?_⟩
 refine callR (HMF) (by simp -implicitDefEqProofs only [go_sem]) ?_
 simp -implicitDefEqProofs only [go_sem]
 refine callF (HQ) (by simp -implicitDefEqProofs only [go_sem]) ?_
 simp -implicitDefEqProofs only [go_sem]
 refine zcm (by simp -implicitDefEqProofs only [go_sem]) ?_
 simp -implicitDefEqProofs only [go_sem]
set_option maxHeartbeats 2000000 in
theorem zqd (s sq : Sq) (m : Int) (t : Tm) (c : Fm) (ps : List Dv) (hn : t.none = true) (hc : same c zal = true) (hl : s.left.length <= 1048576) (hr : s.right.length <= 1048576) (f : Fm) (hm : zbp s (.mk 9 sq m t c ps) = true) (hf : zb3 s (.mk 9 sq m t c ps) = f) (hp : 1 < f.parts.length) : RC Tryz.prog 141 [sqD s, dvD (.mk 9 sq m t c ps)] [.one (sqS [⟨[], [f.parts.getD 0 zal]⟩, ⟨[f.parts.getD 1 zal], []⟩]), bD true] := by
 have HW : FC Tryz.prog 204 [iD 9, iD 1, iD 15] [bD true] := zbz 9 1 15
 have HSF := za5 c zal
 have HQ : FC Tryz.prog 206 [iD 9] [bD false] := zay 9
 have HZ := zaz t
 have hz : fmD zal = .agg [.int .i64 0, .str [], .sl 2 [], .str [], .sl 5 []] := rfl
 rw [hz] at HSF
 rw [hc] at HSF
 rw [hn] at HZ
 have HMF := zbd s (.mk 9 sq m t c ps) (by simp only [Dv.rule]; omega) hl hr
 rw [hm, if_pos rfl, hf] at HMF
 have H0 : RC Tryz.prog 209 [iD 0, .one (.ptr (fmC f))] [.one (fmS [f.parts.getD 0 zal])] := zgi f 0 (by omega)
 have H1 : RC Tryz.prog 209 [iD 1, .one (.ptr (fmC f))] [.one (fmS [f.parts.getD 1 zal])] := zgi f 1 (by omega)
 generalize f.parts.getD 0 zal = p0 at H0 ⊢
 generalize f.parts.getD 1 zal = p1 at H1 ⊢
 have hq : List.map sqC [⟨[], [p0]⟩, ⟨[p1], []⟩] = [[.sl 5 [], .sl 5 [fmC p0]], [.sl 5 [fmC p1], .sl 5 []]] := rfl
 rw [sqS, hq]
 simp only [sqD, zak, dvD, zbm, tmD, zab t, fmD, zaa c, zaa f, List.map_cons, List.map_nil] at HZ HSF HMF H0 H1 ⊢
 refine zbf Tryz.call141 Tryz.func141 rfl (by kernel_rfl) (zat (by kernel_rfl)) ?_
 simp -implicitDefEqProofs only [go_sem, Tryz.results141]
 refine drawn (by kernel_rfl) ?_
 simp -implicitDefEqProofs only [go_sem]
 refine zan (HW) (by simp -implicitDefEqProofs only [go_sem]) ?_
 simp -implicitDefEqProofs only [go_sem]
 refine za2 (HSF) (by simp -implicitDefEqProofs only [go_sem]) ?_
 simp -implicitDefEqProofs only [go_sem]
 refine za2 (HQ) (by simp -implicitDefEqProofs only [go_sem]) ?_
 simp -implicitDefEqProofs only [go_sem]
 refine za2 (HZ) (by simp -implicitDefEqProofs only [go_sem, bft, btf, btt, bff, Bool.not_false, Bool.not_true]) ?_
 simp -implicitDefEqProofs only [go_sem, bft, btf, btt, bff, Bool.not_false, Bool.not_true]
 refine ⟨by kernel_rfl, ?_⟩
 refine callR (HMF) (by simp -implicitDefEqProofs only [go_sem]) ?_
 simp -implicitDefEqProofs only [go_sem]
 refine callF (HQ) (by simp -implicitDefEqProofs only [go_sem]) ?_
 simp -implicitDefEqProofs only [go_sem]
 refine frzX 6 rfl rfl ?_
 simp -implicitDefEqProofs only [go_sem]
 refine callR (H0) (by simp -implicitDefEqProofs only [go_sem]) ?_
 simp -implicitDefEqProofs only [go_sem]
 refine callR (H1) (by simp -implicitDefEqProofs only [go_sem]) ?_
 simp -implicitDefEqProofs only [go_sem]
 refine zcm (by simp -implicitDefEqProofs only [go_sem]) ?_
 simp -implicitDefEqProofs only [go_sem]
 rfl
set_option maxHeartbeats 2000000 in
theorem zpp (s sq : Sq) (m : Int) (t : Tm) (c : Fm) (ps : List Dv) (hn : t.none = true) (hc : same c zal = true) (hl : s.left.length <= 1048576) (hr : s.right.length <= 1048576) (f : Fm) (hm : zbp s (.mk 10 sq m t c ps) = true) (hf : zb3 s (.mk 10 sq m t c ps) = f) (hp : 1 < f.parts.length) : RC Tryz.prog 141 [sqD s, dvD (.mk 10 sq m t c ps)] [.one (sqS [⟨[f.parts.getD 0 zal], [f.parts.getD 1 zal]⟩]), bD true] := by
 have HW : FC Tryz.prog 204 [iD 10, iD 1, iD 15] [bD true] := zbz 10 1 15
 have HSF := za5 c zal
 have HQ : FC Tryz.prog 206 [iD 10] [bD false] := zay 10
 have HZ := zaz t
 have hz : fmD zal = .agg [.int .i64 0, .str [], .sl 2 [], .str [], .sl 5 []] := rfl
 rw [hz] at HSF
 rw [hc] at HSF
 rw [hn] at HZ
 have HMF := zbd s (.mk 10 sq m t c ps) (by simp only [Dv.rule]; omega) hl hr
 rw [hm, if_pos rfl, hf] at HMF
 have H0 : RC Tryz.prog 209 [iD 0, .one (.ptr (fmC f))] [.one (fmS [f.parts.getD 0 zal])] := zgi f 0 (by omega)
 have H1 : RC Tryz.prog 209 [iD 1, .one (.ptr (fmC f))] [.one (fmS [f.parts.getD 1 zal])] := zgi f 1 (by omega)
 generalize f.parts.getD 0 zal = p0 at H0 ⊢
 generalize f.parts.getD 1 zal = p1 at H1 ⊢
 have hq : List.map sqC [⟨[p0], [p1]⟩] = [[.sl 5 [fmC p0], .sl 5 [fmC p1]]] := rfl
 rw [sqS, hq]
 simp only [sqD, zak, dvD, zbm, tmD, zab t, fmD, zaa c, zaa f, List.map_cons, List.map_nil] at HZ HSF HMF H0 H1 ⊢
 refine zbf Tryz.call141 Tryz.func141 rfl (by kernel_rfl) (zat (by kernel_rfl)) ?_
 simp -implicitDefEqProofs only [go_sem, Tryz.results141]
 refine drawn (by kernel_rfl) ?_
 simp -implicitDefEqProofs only [go_sem]
 refine zan (HW) (by simp -implicitDefEqProofs only [go_sem]) ?_
 simp -implicitDefEqProofs only [go_sem]
 refine za2 (HSF) (by simp -implicitDefEqProofs only [go_sem]) ?_
 simp -implicitDefEqProofs only [go_sem]
 refine za2 (HQ) (by simp -implicitDefEqProofs only [go_sem]) ?_
 simp -implicitDefEqProofs only [go_sem]
 refine za2 (HZ) (by simp -implicitDefEqProofs only [go_sem, bft, btf, btt, bff, Bool.not_false, Bool.not_true]) ?_
 simp -implicitDefEqProofs only [go_sem, bft, btf, btt, bff, Bool.not_false, Bool.not_true]
 refine ⟨by kernel_rfl, ?_⟩
 refine callR (HMF) (by simp -implicitDefEqProofs only [go_sem]) ?_
 simp -implicitDefEqProofs only [go_sem]
 refine callF (HQ) (by simp -implicitDefEqProofs only [go_sem]) ?_
 simp -implicitDefEqProofs only [go_sem]
 refine frzX 6 rfl rfl ?_
 simp -implicitDefEqProofs only [go_sem]
 refine callR (H0) (by simp -implicitDefEqProofs only [go_sem]) ?_
 simp -implicitDefEqProofs only [go_sem]
 refine callR (H1) (by simp -implicitDefEqProofs only [go_sem]) ?_
 simp -implicitDefEqProofs only [go_sem]
 refine zcm (by simp -implicitDefEqProofs only [go_sem]) ?_
 simp -implicitDefEqProofs only [go_sem]
 rfl
end Go.Proofs.YtemnhgmgeijkcaaGreat
namespace Go.Proofs.YtemnhgmgeijkcaaGreat
set_option linter.unusedSimpArgs false
set_option linter.unusedVariables false
set_option linter.unusedSectionVars false
set_option maxRecDepth 4000
open Go.RowKit
variable {P : Program}
theorem qir {σ : St} {g : Gh} {w : World} {e : Nat} {x : Ev} (he : σ.ev e = none) : ∀ {c : C} {v : Value}, CR σ g w c v -> C.fs e x c = c := fun {c v} hc => by
 have key : ∀ e' n, σ.has e' n -> e' ≠ e := fun e' n ⟨y, hy, _⟩ h => by
  rw [h, he] at hy; cases hy
 cases c with
 | ow e' n =>
  show (if e' = e then (if n = x.gen then C.t (.sl x.sz x.rows) else .any) else .ow e' n) = _
  rw [if_neg (key e' n hc.2)]
 | eo e' s sz i o =>
  obtain ⟨b, n, c, h1, h2, h3, h4⟩ := hc
  show (if e' = e then C.any else .eo e' s sz i o) = _
  rw [if_neg (key e' s h4)]
 | _ => rfl
theorem zuc {σ : St} {g : Gh} {w : World} {e : Nat} {x : Ev} (he : σ.ev e = none) : ∀ {cs : List C} {vs : List Value}, CRs σ g w cs vs -> cs.map (C.fs e x) = cs
 | [], _, _ => rfl
 | c :: cs, _, h => by
  obtain ⟨v, vs', rfl, h1, h2⟩ := h
  rw [List.map_cons, qir he h1, zuc he h2]
theorem nor_t {σ : St} {g : Gh} {w : World} {e : Nat} {x : Ev} (he : σ.ev e = none) : ∀ {xs : List (Bool × List C)} {vs : List Value}, CRt σ g w xs vs -> xs.map (fun y => (y.1, y.2.map (C.fs e x))) = xs
 | [], _, _ => rfl
 | y :: ys, _, h => by
  obtain ⟨v, vs', rfl, h1, h2⟩ := h
  rw [List.map_cons, nor_t he h2]
  obtain ⟨b, cs⟩ := y
  unfold CRx at h1
  simp only at h1 ⊢
  split at h1
  ·obtain ⟨a, _, h1⟩ := h1
   rw [zuc he h1]
  ·obtain ⟨c, rfl, h1⟩ := h1
   rw [List.map_cons, qir he h1, List.map_nil]
theorem nor_v {σ : St} {g : Gh} {w : World} {e : Nat} {x : Ev} (he : σ.ev e = none) {y : V} {v : Value} (h : VR σ g w y v) : V.map (C.fs e x) y = y := by
 cases y with
 | one c => exact congrArg V.one (qir he h)
 | agg cs => obtain ⟨a, _, h⟩ := h; exact congrArg V.agg (zuc he h)
 | tup xs => obtain ⟨vs, _, h⟩ := h; exact congrArg V.tup (nor_t he h)
section
variable {ks : List Fr} {Q : Exit -> St -> Prop} {σ : St} {ops : Array Oper} {os : List Oper} {L : List (List Ky × List Ky)} {d : Nat} {t : TypeId} {ty : TypeId} {ps : String} {af : Array Edge} {len : Nat} {parts : Array (Nat × Operand)} {n : Nat} {rs : List (List C)} {rows : List (List T)}
theorem qek (h : zku P (σ.get P) t len parts = some (n, rs) /\ zrb σ rs = some rows /\ σ.ev (d * 32) = none) : zai P ⟨some d, .buildSlice t len parts, ty, ps, af, none⟩ σ (σ.put (some d) (.one (.t (.sl n rows)))) := fun n0 N g a w hR hn hdN => by
 refine Oper.wp_mono ?_ (zms (P := P) (ty := ty) (ps := ps) (af := af) h n0 N g a w hR hn hdN)
 rintro a' w' ⟨g', r1, r2, r3, r4⟩
 have he := h.2.2
 obtain ⟨g2, s1, s2, s3⟩ := fs_wk (σ := (σ.apd (d * 32) [] ⟨false, n, rows, 0, true⟩).put (some d) (.one (.ow (d * 32) 0))) (e := d * 32) (x := ⟨false, n, rows, 0, true⟩) (zag _ _ _) rfl rfl n0 N g' a' w' r1
 refine ⟨g2, ?_, r2, s2.trans r3, s3.trans r4⟩
 have e1 : ((σ.apd (d * 32) [] ⟨false, n, rows, 0, true⟩).put (some d) (.one (.ow (d * 32) 0))).fs (d * 32) ⟨false, n, rows, 0, true⟩ = σ.put (some d) (.one (.t (.sl n rows))) := by
  have q1 : fsS (upd σ.sl d (.one (.ow (d * 32) 0))) (d * 32) ⟨false, n, rows, 0, true⟩ = upd σ.sl d (.one (.t (.sl n rows))) := funext fun i => by
   show V.map _ (upd σ.sl d _ i) = _
   by_cases hi : i = d
   ·subst hi
    rw [zag, zag]
    show V.one (C.fs _ _ (.ow _ 0)) = _
    simp [C.fs]
   ·rw [zao _ _ hi, zao _ _ hi]
    exact nor_v he (hR.slots i)
  have q2 : fsB σ.bx (d * 32) ⟨false, n, rows, 0, true⟩ = σ.bx := funext fun b => by
   show (σ.bx b).map _ = _
   cases hb : σ.bx b with
   | none => rfl
   | some cs =>
    obtain ⟨vs, ty', k1, k2⟩ := hR.boxes b cs hb
    exact congrArg some (zuc he k2)
  have q3 : fsE (upd σ.ev (d * 32) (some ⟨false, n, rows, 0, true⟩)) (d * 32) = σ.ev := funext fun k => by
   show (if k = d * 32 then none else upd σ.ev (d * 32) _ k) = _
   by_cases hk : k = d * 32
   ·rw [if_pos hk, hk, he]
   ·rw [if_neg hk, zao _ _ hk]
  show St.mk (fsS (upd σ.sl d (.one (.ow (d * 32) 0))) (d * 32) ⟨false, n, rows, 0, true⟩) (fsB σ.bx (d * 32) ⟨false, n, rows, 0, true⟩) (fsE (upd σ.ev (d * 32) (some ⟨false, n, rows, 0, true⟩)) (d * 32)) = _
  rw [q1, q2, q3]
  rfl
 rw [e1] at s1
 exact s1
def slOf : Option (Ev × List (Nat × Ev)) -> T
 | some (x, _) => .sl x.sz x.rows
 | none => .sl 0 []
theorem zff (h : zaw (blS P σ t len parts) fun _ => σ.ev (d * 32) = none)
  (k : exd P ops os (L ++ [(zax (parts.toList.map (·.2)) ++ (rK (qd4 (zku P (σ.get P) t len parts)) ++ [(2, d * 32)]), dK (some d) ++ eK [])]) ks Q (σ.put (some d) (.one (.t (slOf (blS P σ t len parts)))))) :
  exd P ops (⟨some d, .buildSlice t len parts, ty, ps, af, none⟩ :: os) L ks Q σ := by
 obtain ⟨⟨x, cons⟩, h1, h2⟩ := zaq h
 rw [h1] at k
 unfold blS at h1
 obtain ⟨p, e1, h1⟩ := Option.bind_eq_some_iff.1 h1
 obtain ⟨q, e2, h1⟩ := Option.map_eq_some_iff.1 h1
 simp only [Prod.mk.injEq] at h1
 obtain ⟨rfl, rfl⟩ := h1
 rw [e1] at k
 refine zfy rfl rfl ?_ k
 have := zgp.of (P := P) (σ := σ) (o := ⟨some d, .buildSlice t len parts, ty, ps, af, none⟩) (l := []) (v := .one (.t (.sl p.1 q))) (R := zax (parts.toList.map (·.2)) ++ (rK p.2 ++ [(2, d * 32)])) (zbe (zbx _) (zbe (zv9 _) rfl)) fun σ1 h1 => ?_
 ·exact this
 ·have e3 : zku P (σ1.get P) t len parts = zku P (σ.get P) t len parts := zmo fun t x hx => zcb (fun k hk => h1 k (by simp [hk])) hx t
  have e4 : zrb σ1 p.2 = zrb σ p.2 := zmp fun k hk => h1 k (by simp [hk])
  exact qek ⟨e3.trans e1, e4.trans e2, (Eq.symm (h1 (2, d * 32) (by simp))).trans h2⟩
end
attribute [go_sem] slOf
end Go.Proofs.YtemnhgmgeijkcaaGreat
namespace Go.Proofs.YtemnhgmgeijkcaaGreat
set_option linter.unusedSimpArgs false
set_option linter.unusedVariables false
set_option linter.unusedSectionVars false
set_option maxRecDepth 4000
open Go.RowKit
theorem zrt (s : Sq) (hs : s.good = true) (d : Dv) (hd : d.wt <= 1048576) : RC Tryz.prog 141 [sqD s, dvD d] [.one (sqS (adR s d).1), bD (adR s d).2] := by
 obtain ⟨l1, l2, _, _⟩ := zfe hs
 have hW := d.wt_eq
 have hmm := fun h => zoq (s := s) (d := d) h
 have hop := fun h => qjk (s := s) (d := d) h
 obtain ⟨r, sq, m, t, c, ps⟩ := d
 simp only [Dv.rule, Dv.seq, Dv.main, Dv.term, Dv.cut, Dv.parts] at hW hmm hop
 by_cases h15 : r = 15
 ·subst h15
  have h := zml s sq m t c ps (by omega)
  have e : adR s (.mk 15 sq m t c ps) = (if (m == 0 && t.none && c.good) = true then [⟨[], [c]⟩, ⟨[c], []⟩] else [], m == 0 && t.none && c.good) := by
   unfold adR
   rw [if_pos (show (Dv.mk 15 sq m t c ps).rule = 15 from rfl)]
   show (if (m == 0 && t.none && c.good) = true then (([⟨[], [c]⟩, ⟨[c], []⟩] : List Sq), true) else ([], false)) = _
   cases (m == 0 && t.none && c.good) <;> rfl
  rw [e]; exact h
 ·have h15' : (r == 15) = false := by rw [beq_eq_false_iff_ne]; exact h15
  have e0 : adR s (.mk r sq m t c ps) = if (inB r 1 15 && same c zal && (inB r 11 14 == !t.none) && zbp s (.mk r sq m t c ps)) = true then (if inB r 11 14 = true then zi3 s (.mk r sq m t c ps) (zb3 s (.mk r sq m t c ps)) else zb6 s r (zb3 s (.mk r sq m t c ps))) else ([], false) := by
   unfold adR
   rw [if_neg (show ¬ (Dv.mk r sq m t c ps).rule = 15 from h15)]; rfl
  cases hno : (inB r 1 15 && same c zal && (inB r 11 14 == !t.none))
  ·rw [hno, Bool.false_and, if_neg (by simp)] at e0
   rw [e0]
   exact znq s sq r m t c ps h15' hno
  ·rw [hno, Bool.true_and] at e0
   simp only [Bool.and_eq_true, beq_iff_eq] at hno
   obtain ⟨⟨hin, hc⟩, hqn⟩ := hno
   cases hm : zbp s (.mk r sq m t c ps)
   ·rw [hm, if_neg (by simp)] at e0
    rw [e0]
    exact zk2 s sq r m t c ps h15' hin hc hqn (by omega) (by omega) hm
   ·rw [hm, if_pos rfl] at e0
    rw [e0]
    have hg := zh9 hs r (hmm hm).2.2
    have hop := hop hm
    cases hq : inB r 11 14
    ·rw [if_neg (by simp)]
     rw [hq] at hqn
     have hn : t.none = true := by simpa using hqn.symm
     have hr : r = 1 \/ r = 2 \/ r = 3 \/ r = 4 \/ r = 5 \/ r = 6 \/ r = 7 \/ r = 8 \/ r = 9 \/ r = 10 := by
      unfold inB at hin hq
      simp only [Bool.and_eq_true, decide_eq_true_eq] at hin
      simp only [Bool.and_eq_false_iff, decide_eq_false_iff_not] at hq
      omega
     rcases hr with rfl | rfl | rfl | rfl | rfl | rfl | rfl | rfl | rfl | rfl
     ·exact zq4 s sq m t c ps hn hc (by omega) (by omega) _ hm rfl
     ·exact zqw s sq m t c ps hn hc (by omega) (by omega) _ hm rfl
     ·obtain ⟨p, hp⟩ := zf2 hg (hop.resolve_left (by decide))
      exact zry s sq m t c ps hn hc (by omega) (by omega) _ hm rfl (by rw [hp]; simp)
     ·obtain ⟨p, hp⟩ := zf2 hg (hop.resolve_left (by decide))
      exact zq1 s sq m t c ps hn hc (by omega) (by omega) _ hm rfl (by rw [hp]; simp)
     ·exact zqe s sq m t c ps hn hc (by omega) (by omega) _ hm rfl
     ·obtain ⟨p, q, hp⟩ := zbs hg (Or.inl (hop.resolve_left (by decide)))
      exact zqu s sq m t c ps hn hc (by omega) (by omega) _ hm rfl (by rw [hp]; simp)
     ·obtain ⟨p, q, hp⟩ := zbs hg (Or.inr (Or.inl (hop.resolve_left (by decide))))
      exact zrx s sq m t c ps hn hc (by omega) (by omega) _ hm rfl (by rw [hp]; simp)
     ·exact zr1 s sq m t c ps hn hc (by omega) (by omega) _ hm rfl
     ·obtain ⟨p, q, hp⟩ := zbs hg (Or.inr (Or.inr (hop.resolve_left (by decide))))
      exact zqd s sq m t c ps hn hc (by omega) (by omega) _ hm rfl (by rw [hp]; simp)
     ·obtain ⟨p, q, hp⟩ := zbs hg (Or.inr (Or.inr (hop.resolve_left (by decide))))
      exact zpp s sq m t c ps hn hc (by omega) (by omega) _ hm rfl (by rw [hp]; simp)
    ·rw [if_pos rfl]
     rw [hq] at hqn
     have hn : t.none = false := by simpa using hqn.symm
     have ho : (zb3 s (.mk r sq m t c ps)).op = 8 \/ (zb3 s (.mk r sq m t c ps)).op = 9 := by
      have hr : r = 11 \/ r = 12 \/ r = 13 \/ r = 14 := by
       unfold inB at hq
       simp only [Bool.and_eq_true, decide_eq_true_eq] at hq
       omega
      rcases hr with rfl | rfl | rfl | rfl
      ·exact Or.inl (hop.resolve_left (by decide))
      ·exact Or.inl (hop.resolve_left (by decide))
      ·exact Or.inr (hop.resolve_left (by decide))
      ·exact Or.inr (hop.resolve_left (by decide))
     exact zre s sq r m t c ps hs (by omega) hn hc hq (by omega) (by omega) _ hm rfl hg ho
theorem zei (f : Fm) : zb7 [f] = 1 + f.wt := by simp [zb7]
theorem zha : zb7 [] = 0 := rfl
theorem qel {f : Fm} : zb7 f.parts <= f.wt := by have := f.wt_eq; unfold zb7; omega
theorem qby (f : Fm) (i : Nat) : (f.parts.getD i zal).wt <= f.wt := by
 by_cases h : i < f.parts.length
 ·rw [zca h]
  exact zcp (List.getElem_mem h)
 ·rw [List.getD_eq_getElem?_getD, List.getElem?_eq_none (by omega)]
  exact Nat.zero_le _
def zue (x : Sq) : Prop := x.left.length <= 100000 /\ x.right.length <= 100000 /\ zb7 x.left <= 100000 /\ zb7 x.right <= 100000
theorem zg2 {x : Sq} (h1 : zb7 x.left <= 100000) (h2 : zb7 x.right <= 100000) : zue x := by
 have e1 : zb7 x.left = x.left.length + (x.left.map Fm.wt).sum := rfl
 have e2 : zb7 x.right = x.right.length + (x.right.map Fm.wt).sum := rfl
 exact ⟨by omega, by omega, h1, h2⟩
theorem zsx (s : Sq) (hs : s.good = true) (d : Dv) : ∀ x ∈ (adR s d).1, zue x := by
 unfold adR
 split
 ·split
  ·rename_i h
   rw [Bool.and_eq_true] at h
   have hw := zcx h.2
   intro x hx
   simp only [List.mem_cons, List.not_mem_nil, or_false] at hx
   rcases hx with rfl | rfl <;> exact zg2 (by simp only [zei, zha]; omega) (by simp only [zei, zha]; omega)
  ·intro x hx; cases hx
 ·split
  ·rename_i h
   rw [Bool.and_eq_true] at h
   have hg := zh9 hs d.rule (zoq h.2).2.2
   have hw := zcx hg
   generalize zb3 s d = f at hg hw ⊢
   have h0 := qby f 0
   have h1 := qby f 1
   have h2 := qel (f := f)
   split
   ·unfold zi3
    split
    ·intro x hx; cases hx
    ·split
     ·rename_i h
      have hsg : (sbF f.var d.term (f.parts.getD 0 zal)).1.good = true := by
       unfold sbF at h ⊢
       split at h
       ·rename_i h3
        rw [if_pos h3]
        rw [Bool.and_eq_true] at h3
        exact h3.2
       ·cases h
      have hsw := zcx hsg
      split
      ·intro x hx
       rw [List.mem_singleton.1 hx]
       exact zg2 (by simp only [zei]; omega) (by simp only [zha]; omega)
      ·intro x hx
       rw [List.mem_singleton.1 hx]
       exact zg2 (by simp only [zha]; omega) (by simp only [zei]; omega)
     ·intro x hx; cases hx
   ·have key : ∀ x : Sq, ((x.left = [] \/ x.left = [f.parts.getD 0 zal] \/ x.left = [f.parts.getD 1 zal] \/ x.left = f.parts) /\ (x.right = [] \/ x.right = [f.parts.getD 0 zal] \/ x.right = [f.parts.getD 1 zal] \/ x.right = f.parts)) -> zue x := by
     rintro ⟨l, r⟩ ⟨hl, hr⟩
     simp only at hl hr
     refine zg2 ?_ ?_
     ·rcases hl with rfl | rfl | rfl | rfl
      ·exact Nat.zero_le _
      ·show zb7 [f.parts.getD 0 zal] <= 100000
       rw [zei]; omega
      ·show zb7 [f.parts.getD 1 zal] <= 100000
       rw [zei]; omega
      ·show zb7 f.parts <= 100000
       omega
     ·rcases hr with rfl | rfl | rfl | rfl
      ·exact Nat.zero_le _
      ·show zb7 [f.parts.getD 0 zal] <= 100000
       rw [zei]; omega
      ·show zb7 [f.parts.getD 1 zal] <= 100000
       rw [zei]; omega
      ·show zb7 f.parts <= 100000
       omega
    unfold zb6
    repeat' split
    all_goals (intro x hx; simp only [List.mem_cons, List.not_mem_nil, or_false] at hx)
    all_goals first
     | exact hx.elim
     | (rcases hx with rfl | rfl <;> exact key _ ⟨by simp, by simp⟩)
     | (rw [hx]; exact key _ ⟨by simp, by simp⟩)
  ·intro x hx; cases hx
theorem zoj {s : Sq} (hs : s.good = true) (d : Dv) {x : Sq} (hx : zue x) : zb7 (ze0 s d x).left <= 400000 /\ zb7 (ze0 s d x).right <= 400000 := by
 obtain ⟨l1, l2, g1, g2⟩ := zfe hs
 obtain ⟨_, _, h1, h2⟩ := hx
 have hh : ∀ xs : List Fm, xs.length <= 10 -> (∀ x ∈ xs, x.good = true) -> zb7 xs <= 300000 := fun xs hl hg => by
  have : (xs.map Fm.wt).sum <= 20800 * xs.length := by
   clear hl
   induction xs with
   | nil => exact Nat.le_refl _
   | cons x xs ih =>
    have h1 := ih fun y hy => hg y (by simp [hy])
    have h2 := zcx (hg x (by simp))
    rw [List.map_cons, List.sum_cons, List.length_cons]; omega
  unfold zb7; omega
 have a1 := Nat.le_trans (zt5 (zh0 s.left (zfb d true))) (hh _ l1 g1)
 have a2 := Nat.le_trans (zt5 (zh0 s.right (zfb d false))) (hh _ l2 g2)
 unfold ze0
 simp only [qep]
 omega
end Go.Proofs.YtemnhgmgeijkcaaGreat
namespace Go.Proofs.YtemnhgmgeijkcaaGreat
set_option linter.unusedSimpArgs false
set_option linter.unusedVariables false
set_option linter.unusedSectionVars false
set_option maxRecDepth 4000
open Go.RowKit
theorem zxn (s : Sq) (hs : s.good = true) (d : Dv) (hd : d.wt <= 1048576) : FC Tryz.prog 138 [sqD s, dvD d] [.one (sqS (ruS s d).1), bD (ruS s d).2] := by
 have hW := d.wt_eq
 have hE : ruS s d = if ((!inB d.rule 11 14 && !d.term.none) || (!(d.rule == 15) && !same d.cut zal)) = true then ([], false)
  else if d.rule = 15 then ([zbg s (-1) [] (-1) [d.cut], zbg s (-1) [d.cut] (-1) []], d.main == 0 && d.cut.good)
  else if (inB d.rule 1 15 && zbp s d) = true then (if inB d.rule 11 14 = true then qS s d (zb3 s d) else ((zb6 s d.rule (zb3 s d)).1.map (ze0 s d), (zb6 s d.rule (zb3 s d)).2))
  else ([], false) := rfl
 rw [hE]
 cases hno : ((!inB d.rule 11 14 && !d.term.none) || (!(d.rule == 15) && !same d.cut zal))
 ·rw [if_neg (by simp)]
  rw [Bool.or_eq_false_iff] at hno
  obtain ⟨n1, n2⟩ := hno
  by_cases h15 : d.rule = 15
  ·rw [if_pos h15]
   have hn : d.term.none = true := by rw [h15] at n1; simpa [inB] using n1
   obtain ⟨r, sq, m, t, c, ps⟩ := d
   have h15 : r = 15 := h15
   subst h15
   simp only [Dv.seq, Dv.term, Dv.cut, Dv.parts] at hW
   exact qe7 s sq hs m t c ps hn (by omega)
  ·rw [if_neg h15]
   have h15' : (d.rule == 15) = false := by rw [beq_eq_false_iff_ne]; exact h15
   have hcz : same d.cut zal = true := by rw [h15'] at n2; simpa using n2
   obtain ⟨r, sq, m, t, c, ps⟩ := d
   simp only [Dv.seq, Dv.term, Dv.cut, Dv.parts] at hW
   cases hq : inB (Dv.mk r sq m t c ps).rule 11 14
   ·have hn : t.none = true := by rw [hq] at n1; simpa [Dv.term] using n1
    exact rule_p s sq r m t c ps hs hq hn h15' hcz _ (by rw [if_neg Bool.false_ne_true]; rfl)
   ·exact rule_q s sq r m t c ps hs hq (by omega) h15' hcz _ (by rw [if_pos rfl]; rfl)
 ·rw [if_pos rfl]
  obtain ⟨r, sq, m, t, c, ps⟩ := d
  exact qiw s sq r m t c ps hno
end Go.Proofs.YtemnhgmgeijkcaaGreat
namespace Go.Proofs.YtemnhgmgeijkcaaGreat
set_option linter.unusedSimpArgs false
set_option linter.unusedVariables false
set_option linter.unusedSectionVars false
set_option maxRecDepth 4000
open Go.RowKit
variable {P : Program} {N : Nat}
theorem ins_op {n0 : Nat -> Prop} {ag : Bool} {b : Nat} {A0 : (Nat -> Prop) × RP} {g : Gh} {a : Act} {w : World} {mt : TypeId} {x k v : Operand} {ty : TypeId} {ps : String} {af : Array Edge} {σ : St} {rows : List (List T)} {K : St -> List (List T) -> Prop} (hM : RelM n0 N σ ag rows b A0 g a w) (h2 : LtK n0 w) (hK : zup P ag b mt x k v σ rows K) :
  ∃ rows' w2, K σ rows' /\ (execOp a.eval ⟨none, .insert mt x k v, ty, ps, af, none⟩).run P w = .ok .skip w2 /\ RelM n0 N σ ag rows' b A0 g a w2 /\ LtK n0 w2 /\ Bk n0 w w2 := by
 obtain ⟨n1, es, clk, k1, k2, k3, k4, k5, k6, k7⟩ := hM.rel
 obtain ⟨kT, d, et, vts, c1, c2, c3, c4, c5, c6, c7⟩ := qhw hK
 obtain ⟨kt, t1, t2⟩ := zxw c3
 have hA' : ¬ g.A0 b := k3
 have he : w.heap[b]? = some (.map es clk) := k6
 have hr : za9 w (fun x => n1 x /\ g.A0 x) ag rows es.toList := k7
 have v1 := k4.get P 0 x
 have v2 := k4.get P 0 k
 have v3 := k4.get P 0 v
 rw [c1] at v1
 rw [c2] at v2
 have v1 : a.eval x = .map (some b) := v1
 have v2 : zar w (Fix σ g w) kT (a.eval k) := v2
 have hfn := zew c5 (zdw (A' := fun x => n1 x /\ g.A0 x) (w := w) (znw c5) v2) ag rows es.toList 0 none hr c6
 have hkey := znd c5 v2
 have hrun := zpv t1 t2 (val := a.eval v) he hkey hfn
 have hex : (execOp a.eval ⟨none, .insert mt x k v, ty, ps, af, none⟩).run P w = .ok .skip { w with heap := w.heap.setIfInBounds b (.map (es.push { key := a.eval k, val := a.eval v, born := clk }) (clk + 1)) } := by
  unfold execOp
  simp only [v1, Sem.run_bind, hrun, Result.andThen_ok, Sem.run_pure]
 have hh := (Go.MapKept.heap_set (o' := .map (es.push { key := a.eval k, val := a.eval v, born := clk }) (clk + 1)) he)
 have hother : ∀ x, x ≠ b -> ({ w with heap := w.heap.setIfInBounds b (.map (es.push { key := a.eval k, val := a.eval v, born := clk }) (clk + 1)) } : World).heap[x]? = w.heap[x]? := hh.2
 have hsize : ({ w with heap := w.heap.setIfInBounds b (.map (es.push { key := a.eval k, val := a.eval v, born := clk }) (clk + 1)) } : World).heap.size = w.heap.size := by simp
 have hself : ({ w with heap := w.heap.setIfInBounds b (.map (es.push { key := a.eval k, val := a.eval v, born := clk }) (clk + 1)) } : World).heap[b]? = _ := hh.1
 have hbk : Bk n0 w { w with heap := w.heap.setIfInBounds b (.map (es.push { key := a.eval k, val := a.eval v, born := clk }) (clk + 1)) } := ⟨rfl, rfl, rfl, by rw [hsize]; exact Nat.le_refl _, fun j hj => hother j fun e => hM.nb (e ▸ hj)⟩
 have hfree : ∀ y, zcl σ g w y -> y < w.heap.size /\ g.A0 y := fun y hy => ⟨hy.1.2.2.1, hy.1.2.2.2⟩
 generalize hw : ({ w with heap := w.heap.setIfInBounds b (.map (es.push { key := a.eval k, val := a.eval v, born := clk }) (clk + 1)) } : World) = w2 at hother hsize hself hbk hex ⊢
 have hR2 : Rel (fun y => n1 y \/ zcl σ g w y) N σ g a w2 := by
  refine k4.turn (n1 := fun y => n1 y \/ zcl σ g w y) (A1 := g.A0) (w' := w2) (fun y hf => ⟨hf.2.2.2, hother y fun e => hA' (e ▸ hf.2.2.2)⟩) (by rw [hsize]; exact Nat.le_refl _) (fun y hy => k4.anew y fun q => hy (Or.inl q)) (fun j hj => ⟨?_, hother _ fun e => k4.base j hj (e ▸ k2)⟩) fun e ho y hy => ⟨?_, (k4.ebase e ho y hy).1, hother _ fun q => k4.etop e ho y hy (q ▸ k2)⟩
  ·rintro (q | q)
   ·exact k4.base j hj q
   ·exact q.1.1 j hj rfl
  ·rintro (q | q)
   ·exact k4.etop e ho y hy q
   ·exact q.2 e ho hy
 obtain ⟨us, u1, u2⟩ := qkb (A := fun y => (n1 y \/ zcl σ g w y) /\ g.A0 y) (fun y hy => ⟨Or.inr hy, hy.1.2.2.2⟩) c4 v3
 refine ⟨rows ++ [kT :: vts], w2, c7, hex, ⟨⟨fun y => n1 y \/ zcl σ g w y, es.push { key := a.eval k, val := a.eval v, born := clk }, clk + 1, fun y hy => Or.inl (k1 y hy), Or.inl k2, hA', hR2, fun y hy => ?_, hself, ?_⟩, hM.nb, hM.sub, hM.r0, hM.new⟩, h2.mono hbk.size, hbk⟩
 ·rw [hsize]
  rcases hy with q | q
  ·exact k5 y q
  ·exact (hfree y q).1
 ·rw [Array.toList_push]
  refine za9.keep (A := fun y => (n1 y \/ zcl σ g w y) /\ g.A0 y) (fun y hy => hother y fun e => hA' (e ▸ hy.2)) (fun y hy => hy) ag _ _ (za9.push ⟨us, u1, ?_⟩ (za9.keep (fun _ _ => rfl) (fun y hy => ⟨Or.inl hy.1, hy.2⟩) ag rows _ hr))
  unfold zae
  exact ⟨_, _, rfl, zdw (znw c5) v2, u2⟩
def litM (P : Program) (ag : Bool) (b d0 d9 d1 : Nat) : List Oper -> St -> List (List T) -> (List (List T) -> Prop) -> Prop
 | [], _, _, _ => False
 | o :: os, σ, rows, K => match o with
  | ⟨none, .insert mt x k v, _, _, _, none⟩ => zup P ag b mt x k v σ rows fun _ rows' => litM P ag b d0 d9 d1 os σ rows' K
  | ⟨some d, .move (.tmp j), _, _, _, none⟩ => d = d9 /\ j = d0 /\ K rows /\ match os with
   | [⟨some d', .assign (.tmp j'), _, _, _, none⟩] => d' = d1 /\ j' = d9
   | _ => False
  | _ => False
theorem ztj {n0 : Nat -> Prop} {σ : St} {g : Gh} {a : Act} {w : World} {j b : Nat} (k : Rel n0 N σ g a w) (hs : σ.sl j = .one (.cv (.map (some b)))) (h0 : j < N) : a.eval (.tmp j) = .map (some b) := by
 have := k.slots j
 rw [hs] at this
 have this : a.tmps.getD j (g.R0.ξ j) = .map (some b) := this
 show a.tmps.getD j undef = _
 rw [Array.getD_eq_getD_getElem?] at this ⊢
 have hj : j < a.tmps.size := by rw [k.size]; exact h0
 rw [Array.getElem?_eq_getElem hj] at this ⊢
 exact this
theorem RelM.putC {n0 : Nat -> Prop} {ag : Bool} {b d : Nat} {A0 : (Nat -> Prop) × RP} {g : Gh} {a : Act} {w : World} {σ : St} {rows : List (List T)} (hM : RelM n0 N σ ag rows b A0 g a w) (h1 : d < N) : RelM n0 N (σ.put (some d) (.one (.cv (.map (some b))))) ag rows b A0 g (a.put (some d) (.map (some b))) w := by
 obtain ⟨n1, es, clk, k1, k2, k3, k4, k5, k6, k7⟩ := hM.rel
 have hR := k4.put (some d) (x := .one (.cv (.map (some b)))) (v := .map (some b)) rfl (fun q hq => by cases hq; exact h1)
 exact ⟨⟨n1, es, clk, k1, k2, k3, hR, k5, k6, k7⟩, hM.nb, hM.sub, hM.r0, hM.new⟩
theorem zoa {n0 : Nat -> Prop} {ag : Bool} {b d0 d9 d1 : Nat} {A0 : (Nat -> Prop) × RP} {g : Gh} {a : Act} {ops : Array Oper} {σ : St} {K : List (List T) -> Prop} {Q : Exit -> Act -> World -> Prop} (hs : σ.sl d0 = .one (.cv (.map (some b)))) (h0 : d0 < N) (h9 : d9 < N) (h1 : d1 < N) : ∀ (os : List Oper) (rows : List (List T)) (w : World), litM P ag b d0 d9 d1 os σ rows K -> RelM n0 N σ ag rows b A0 g a w -> LtK n0 w →
  (∀ rows' w', K rows' -> RelM n0 N ((σ.put (some d9) (.one (.cv (.map (some b))))).put (some d1) (.one (.cv (.map (some b))))) ag rows' b A0 g ((a.put (some d9) (.map (some b))).put (some d1) (.map (some b))) w' -> LtK n0 w' -> Bk n0 w w' -> Q .normal ((a.put (some d9) (.map (some b))).put (some d1) (.map (some b))) w') -> wpList P ops Q os a w
 | [], _, _, h, _, _, _ => h.elim
 | o :: os, rows, w, h, hM, h2, hq => by
  unfold litM at h
  split at h
  ·rename_i mt x k v ty ps af
   obtain ⟨rows', w2, c1, c2, c3, c4, c5⟩ := ins_op (ty := ty) (ps := ps) (af := af) hM h2 h
   unfold wpList
   rw [if_pos (by simp [Region.wanted])]
   refine Or.inl ?_
   unfold Oper.wp
   rw [c2]
   exact zoa hs h0 h9 h1 os rows' w2 c1 c3 c4 fun rows'' w' e1 e2 e3 e4 => hq rows'' w' e1 e2 e3 (c5.trans e4)
  ·rename_i d j ty ps af
   obtain ⟨rfl, rfl, hk, h⟩ := h
   split at h
   ·rename_i d' j' ty' ps' af'
    obtain ⟨rfl, rfl⟩ := h
    obtain ⟨n1, es, clk, k1, k2, k3, k4, k5, k6, k7⟩ := hM.rel
    have ev := ztj k4 hs h0
    have hM1 := hM.putC (d := j') h9
    obtain ⟨n2, es2, clk2, l1, l2, l3, l4, l5, l6, l7⟩ := hM1.rel
    have ev2 := ztj l4 (zag _ _ _) h9
    have hM2 := hM1.putC (d := d') h1
    unfold wpList
    rw [if_pos (by simp [Region.wanted])]
    refine Or.inl ?_
    unfold Oper.wp
    have e1 : (execOp a.eval ⟨some j', .move (.tmp j), ty, ps, af, none⟩).run P w = .ok (.value (a.eval (.tmp j))) w := rfl
    rw [e1, ev]
    show wpList P ops Q [_] (a.put (some j') (.map (some b))) w
    unfold wpList
    rw [if_pos (by simp [Region.wanted])]
    refine Or.inl ?_
    unfold Oper.wp
    have e2 : (execOp (a.put (some j') (.map (some b))).eval ⟨some d', .assign (.tmp j'), ty', ps', af', none⟩).run P w = .ok (.value ((a.put (some j') (.map (some b))).eval (.tmp j'))) w := rfl
    rw [e2, ev2]
    show wpList P ops Q [] _ _
    unfold wpList
    exact hq rows w hk hM2 h2 (Bk.refl _ _)
   ·exact h.elim
  ·exact h.elim
theorem zdq.lit {i d0 : Nat} {mt t0 : TypeId} {p0 : String} {f0 : Array Edge} {Y : Code} {σ : St} {Q : Exit -> St -> Prop} {ops : Array Oper} {os : List Oper} (d9 d1 : Nat) (ag : Bool) (hops : ops.toList = ⟨some d0, .makeMap mt none, t0, p0, f0, none⟩ :: os) (hd : d0 < N /\ d9 < N /\ d1 < N)
  (h : ∀ b, litM P ag b d0 d9 d1 os (σ.put (some d0) (.one (.cv (.map (some b))))) [] fun rows => zdq P N Y ((((σ.put (some d0) (.one (.cv (.map (some b))))).put (some d9) (.one (.cv (.map (some b))))).put (some d1) (.one (.cv (.map (some b))))).put (some d1) (.one (.rn (.mp ag rows)))) Q) :
  zdq P N (.seq (.region i ops false) Y) σ Q := fun n0 w0 A0 g a w hR h2 h3 h4 => by
 refine wp_seq (wp_region_list ?_)
 rw [hops]
 have e0 : (execOp a.eval ⟨some d0, .makeMap mt none, t0, p0, f0, none⟩).run P w = .ok (.value (.map (some w.heap.size))) (w.alloc (.map #[] 0)) := by
  unfold execOp
  simp only [Option.map_none, Sem.run_bind, zpc, Result.andThen_ok, Sem.run_pure]
 have hR1 := (hR.enter1 (.map #[] 0)).put (some d0) (x := .one (.cv (.map (some w.heap.size)))) (v := .map (some w.heap.size)) rfl (fun j hj => by cases hj; exact hd.1)
 unfold wpList
 rw [if_pos (by simp [Region.wanted])]
 refine Or.inl ?_
 unfold Oper.wp
 rw [e0]
 have hbk : Bk n0 w (w.alloc (.map #[] 0)) := ⟨rfl, rfl, rfl, by simp, fun k hk => Below.heap_alloc w _ k (h2 k hk)⟩
 have hM : RelM n0 N (σ.put (some d0) (.one (.cv (.map (some w.heap.size))))) ag [] w.heap.size A0 { g with A0 := fun b => g.A0 b /\ b ≠ w.heap.size } (a.put (some d0) (.map (some w.heap.size))) (w.alloc (.map #[] 0)) := by
  refine ⟨⟨fun b => n0 b \/ b = w.heap.size, #[], 0, fun x hx => Or.inl hx, Or.inr rfl, fun q => q.2 rfl, hR1, fun x hx => ?_, (Go.MapKept.heap_alloc w _).1, ?_⟩, h2.new (Nat.le_refl _), fun x hx => ?_, ?_, fun x hx => ?_⟩
  ·rcases hx with q | q
   ·have := h2 x q; simp; omega
   ·simp; omega
  ·unfold za9; rfl
  ·rw [<- h4]; exact hx.1
  ·rw [<- h4]
  ·rw [<- h4]; exact hR.anew x hx
 refine zoa (zag _ _ _) hd.1 hd.2.1 hd.2.2 os [] _ (h w.heap.size) hM (h2.mono hbk.size) fun rows w' hk q3 q4 q5 => ?_
 obtain ⟨g'', r1, r2⟩ := q3.leave (zag _ _ _)
 exact hk n0 w0 A0 g'' _ w' r1 q4 (h3.trans (hbk.trans q5)) r2
attribute [go_sem] litM
end Go.Proofs.YtemnhgmgeijkcaaGreat
namespace Go.Proofs.YtemnhgmgeijkcaaGreat
set_option linter.unusedSimpArgs false
set_option linter.unusedVariables false
set_option linter.unusedSectionVars false
set_option maxRecDepth 4000
open Go.RowKit
def zh5 (o : Int) (left : Bool) : Int := if inB o 4 7 = true then 3 + 2 * (o - 4) + (if left = true then 0 else 1) else 0
abbrev zmq : List (List T) := [[.int .i64 4, .int .i64 3], [.int .i64 5, .int .i64 5], [.int .i64 6, .int .i64 7], [.int .i64 7, .int .i64 9]]
theorem qcr : lk2Z Tryz.prog 3 = some (.tup [(false, [.t (.int .i64 0)]), (false, [.t (.bool false)])]) := by kernel_rfl
set_option maxHeartbeats 4000000 in
theorem zo0 (f : Fm) (left : Bool) : FC Tryz.prog 221 [fmD f, bD left] [iD (zh5 f.op left)] := by
 have hz := qcr
 simp only [fmD, zaa f]
 generalize f.op = o
 by_cases h : inB o 4 7 = true
 ·have ho : o = 4 \/ o = 5 \/ o = 6 \/ o = 7 := by unfold inB at h; simp only [Bool.and_eq_true, decide_eq_true_eq] at h; omega
  rcases ho with rfl | rfl | rfl | rfl
  ·have hf : zd6 (.int .i64 4) zmq = some (some [.int .i64 3]) := rfl
   cases left
   ·show FC _ _ _ [iD 4]
    refine zey Tryz.call221 Tryz.func221 rfl (zat (by kernel_rfl)) ?_
    refine zdq.cut 0 rfl (by kernel_rfl) ?_
    simp -implicitDefEqProofs only [go_sem, Tryz.results221]
    refine zdq.lit 9 5 false rfl ?_ fun b => ?_
    ·exact of_decide_eq_true (by kernel_rfl)
    simp -implicitDefEqProofs only [go_sem, zup, Tryz.underlying238, Tryz.underlying3]
    refine zdq.ofEx (by kernel_rfl) ?_
    simp -implicitDefEqProofs only [go_sem]
    refine zgy (by simp -implicitDefEqProofs only [go_sem, hf, hz, Tryz.underlying238, Tryz.underlying3]; rfl) ?_
    simp -implicitDefEqProofs only [go_sem]
    exact Or.inl rfl
   ·show FC _ _ _ [iD 3]
    refine zey Tryz.call221 Tryz.func221 rfl (zat (by kernel_rfl)) ?_
    refine zdq.cut 0 rfl (by kernel_rfl) ?_
    simp -implicitDefEqProofs only [go_sem, Tryz.results221]
    refine zdq.lit 9 5 false rfl ?_ fun b => ?_
    ·exact of_decide_eq_true (by kernel_rfl)
    simp -implicitDefEqProofs only [go_sem, zup, Tryz.underlying238, Tryz.underlying3]
    refine zdq.ofEx (by kernel_rfl) ?_
    simp -implicitDefEqProofs only [go_sem]
    refine zgy (by simp -implicitDefEqProofs only [go_sem, hf, hz, Tryz.underlying238, Tryz.underlying3]; rfl) ?_
    simp -implicitDefEqProofs only [go_sem]
  ·have hf : zd6 (.int .i64 5) zmq = some (some [.int .i64 5]) := rfl
   cases left
   ·show FC _ _ _ [iD 6]
    refine zey Tryz.call221 Tryz.func221 rfl (zat (by kernel_rfl)) ?_
    refine zdq.cut 0 rfl (by kernel_rfl) ?_
    simp -implicitDefEqProofs only [go_sem, Tryz.results221]
    refine zdq.lit 9 5 false rfl ?_ fun b => ?_
    ·exact of_decide_eq_true (by kernel_rfl)
    simp -implicitDefEqProofs only [go_sem, zup, Tryz.underlying238, Tryz.underlying3]
    refine zdq.ofEx (by kernel_rfl) ?_
    simp -implicitDefEqProofs only [go_sem]
    refine zgy (by simp -implicitDefEqProofs only [go_sem, hf, hz, Tryz.underlying238, Tryz.underlying3]; rfl) ?_
    simp -implicitDefEqProofs only [go_sem]
    exact Or.inl rfl
   ·show FC _ _ _ [iD 5]
    refine zey Tryz.call221 Tryz.func221 rfl (zat (by kernel_rfl)) ?_
    refine zdq.cut 0 rfl (by kernel_rfl) ?_
    simp -implicitDefEqProofs only [go_sem, Tryz.results221]
    refine zdq.lit 9 5 false rfl ?_ fun b => ?_
    ·exact of_decide_eq_true (by kernel_rfl)
    simp -implicitDefEqProofs only [go_sem, zup, Tryz.underlying238, Tryz.underlying3]
    refine zdq.ofEx (by kernel_rfl) ?_
    simp -implicitDefEqProofs only [go_sem]
    refine zgy (by simp -implicitDefEqProofs only [go_sem, hf, hz, Tryz.underlying238, Tryz.underlying3]; rfl) ?_
    simp -implicitDefEqProofs only [go_sem]
  ·have hf : zd6 (.int .i64 6) zmq = some (some [.int .i64 7]) := rfl
   cases left
   ·show FC _ _ _ [iD 8]
    refine zey Tryz.call221 Tryz.func221 rfl (zat (by kernel_rfl)) ?_
    refine zdq.cut 0 rfl (by kernel_rfl) ?_
    simp -implicitDefEqProofs only [go_sem, Tryz.results221]
    refine zdq.lit 9 5 false rfl ?_ fun b => ?_
    ·exact of_decide_eq_true (by kernel_rfl)
    simp -implicitDefEqProofs only [go_sem, zup, Tryz.underlying238, Tryz.underlying3]
    refine zdq.ofEx (by kernel_rfl) ?_
    simp -implicitDefEqProofs only [go_sem]
    refine zgy (by simp -implicitDefEqProofs only [go_sem, hf, hz, Tryz.underlying238, Tryz.underlying3]; rfl) ?_
    simp -implicitDefEqProofs only [go_sem]
    exact Or.inl rfl
   ·show FC _ _ _ [iD 7]
    refine zey Tryz.call221 Tryz.func221 rfl (zat (by kernel_rfl)) ?_
    refine zdq.cut 0 rfl (by kernel_rfl) ?_
    simp -implicitDefEqProofs only [go_sem, Tryz.results221]
    refine zdq.lit 9 5 false rfl ?_ fun b => ?_
    ·exact of_decide_eq_true (by kernel_rfl)
    simp -implicitDefEqProofs only [go_sem, zup, Tryz.underlying238, Tryz.underlying3]
    refine zdq.ofEx (by kernel_rfl) ?_
    simp -implicitDefEqProofs only [go_sem]
    refine zgy (by simp -implicitDefEqProofs only [go_sem, hf, hz, Tryz.underlying238, Tryz.underlying3]; rfl) ?_
    simp -implicitDefEqProofs only [go_sem]
  ·have hf : zd6 (.int .i64 7) zmq = some (some [.int .i64 9]) := rfl
   cases left
   ·show FC _ _ _ [iD 10]
    refine zey Tryz.call221 Tryz.func221 rfl (zat (by kernel_rfl)) ?_
    refine zdq.cut 0 rfl (by kernel_rfl) ?_
    simp -implicitDefEqProofs only [go_sem, Tryz.results221]
    refine zdq.lit 9 5 false rfl ?_ fun b => ?_
    ·exact of_decide_eq_true (by kernel_rfl)
    simp -implicitDefEqProofs only [go_sem, zup, Tryz.underlying238, Tryz.underlying3]
    refine zdq.ofEx (by kernel_rfl) ?_
    simp -implicitDefEqProofs only [go_sem]
    refine zgy (by simp -implicitDefEqProofs only [go_sem, hf, hz, Tryz.underlying238, Tryz.underlying3]; rfl) ?_
    simp -implicitDefEqProofs only [go_sem]
    exact Or.inl rfl
   ·show FC _ _ _ [iD 9]
    refine zey Tryz.call221 Tryz.func221 rfl (zat (by kernel_rfl)) ?_
    refine zdq.cut 0 rfl (by kernel_rfl) ?_
    simp -implicitDefEqProofs only [go_sem, Tryz.results221]
    refine zdq.lit 9 5 false rfl ?_ fun b => ?_
    ·exact of_decide_eq_true (by kernel_rfl)
    simp -implicitDefEqProofs only [go_sem, zup, Tryz.underlying238, Tryz.underlying3]
    refine zdq.ofEx (by kernel_rfl) ?_
    simp -implicitDefEqProofs only [go_sem]
    refine zgy (by simp -implicitDefEqProofs only [go_sem, hf, hz, Tryz.underlying238, Tryz.underlying3]; rfl) ?_
    simp -implicitDefEqProofs only [go_sem]
 ·have hn : o ≠ 4 /\ o ≠ 5 /\ o ≠ 6 /\ o ≠ 7 := by refine ⟨?_, ?_, ?_, ?_⟩ <;> (rintro rfl; exact h rfl)
  have d4 : decide (o = 4) = false := by simp [hn]
  have d5 : decide (o = 5) = false := by simp [hn]
  have d6 : decide (o = 6) = false := by simp [hn]
  have d7 : decide (o = 7) = false := by simp [hn]
  have hr : zh5 o left = 0 := by unfold zh5; rw [if_neg h]
  rw [hr]
  refine zey Tryz.call221 Tryz.func221 rfl (zat (by kernel_rfl)) ?_
  refine zdq.cut 0 rfl (by kernel_rfl) ?_
  simp -implicitDefEqProofs only [go_sem, Tryz.results221]
  refine zdq.lit 9 5 false rfl ?_ fun b => ?_
  ·exact of_decide_eq_true (by kernel_rfl)
  simp -implicitDefEqProofs only [go_sem, zup, Tryz.underlying238, Tryz.underlying3]
  refine zdq.ofEx (by kernel_rfl) ?_
  simp -implicitDefEqProofs only [go_sem]
  refine zgy (by simp -implicitDefEqProofs only [go_sem, d4, d5, d6, d7, hz, Tryz.underlying238, Tryz.underlying3]; rfl) ?_
  simp -implicitDefEqProofs only [go_sem]
end Go.Proofs.YtemnhgmgeijkcaaGreat
namespace Go.Proofs.YtemnhgmgeijkcaaGreat
set_option linter.unusedSimpArgs false
set_option linter.unusedVariables false
set_option linter.unusedSectionVars false
set_option maxRecDepth 4000
open Go.RowKit
def isP (f : Fm) : Bool := inB f.op 4 7
noncomputable def axA (s : Sq) (f : Fm) : Bool := f.op == 2 || s.right.any fun g => same f g
noncomputable def zea (s : Sq) : Int × Int :=
 if 0 <= ze9 s.left (axA s) then (1, ze9 s.left (axA s))
 else if 0 <= ze9 s.right (fun f => f.op == 1) then (2, ze9 s.right fun f => f.op == 1)
 else if 0 <= ze9 s.left isP then (zh5 (s.left.getD (ze9 s.left isP).toNat zal).op true, ze9 s.left isP)
 else if 0 <= ze9 s.right isP then (zh5 (s.right.getD (ze9 s.right isP).toNat zal).op false, ze9 s.right isP)
 else (0, 0)
def qfj (r m : Int) : List T := [.int .i64 r, .sl 5 [], .sl 5 [], .int .i64 m, .str [], .sl 2 [], .int .i64 0, .str [], .sl 2 [], .str [], .sl 5 [], .sl 12 []]
theorem qa5 (o : Int) (l : Bool) : (zh5 o l != 0) = inB o 4 7 := by
 unfold zh5
 cases h : inB o 4 7
 ·rw [if_neg (by simp)]; rfl
 ·rw [if_pos rfl]
  unfold inB at h
  simp only [Bool.and_eq_true, decide_eq_true_eq] at h
  have : 3 + 2 * (o - 4) + (if l = true then 0 else 1) ≠ (0 : Int) := by cases l <;> simp <;> omega
  simpa using this
theorem qgq {s : Sq} {k : Nat} (hk : k < s.left.length) (hn : ∀ x ∈ s.left.take k, axA s x = false) (h : axA s s.left[k] = true) : zea s = (1, (k : Int)) := by
 unfold zea
 rw [zd0 hk hn h, if_pos (by omega)]
theorem qgp {s : Sq} (h0 : ze9 s.left (axA s) = -1) {k : Int} (h : (ze9 s.right fun f => f.op == 1) = k) (hk : 0 <= k) : zea s = (2, k) := by
 unfold zea
 rw [h0, if_neg (by omega), h, if_pos hk]
theorem qg6 {s : Sq} (h0 : ze9 s.left (axA s) = -1) (h1 : ¬ 0 <= (ze9 s.right fun f => f.op == 1)) {k : Nat} (hk : k < s.left.length) (hn : ∀ x ∈ s.left.take k, isP x = false) (h : isP s.left[k] = true) : zea s = (zh5 s.left[k].op true, (k : Int)) := by
 unfold zea
 rw [h0, if_neg (by omega), if_neg h1, zd0 hk hn h, if_pos (by omega), Int.toNat_natCast, zca hk]
theorem qgh {s : Sq} (h0 : ze9 s.left (axA s) = -1) (h1 : ¬ 0 <= (ze9 s.right fun f => f.op == 1)) (h2 : ze9 s.left isP = -1) {k : Nat} (hk : k < s.right.length) (hn : ∀ x ∈ s.right.take k, isP x = false) (h : isP s.right[k] = true) : zea s = (zh5 s.right[k].op false, (k : Int)) := by
 unfold zea
 rw [h0, if_neg (by omega), if_neg h1, h2, if_neg (by omega), zd0 hk hn h, if_pos (by omega), Int.toNat_natCast, zca hk]
theorem qhh {s : Sq} (h0 : ze9 s.left (axA s) = -1) (h1 : ¬ 0 <= (ze9 s.right fun f => f.op == 1)) (h2 : ze9 s.left isP = -1) (h3 : ze9 s.right isP = -1) : zea s = (0, 0) := by
 unfold zea
 rw [h0, if_neg (by omega), if_neg h1, h2, if_neg (by omega), h3, if_neg (by omega)]
theorem qbe (f g : Fm) : FC Tryz.prog 219 [fmD g, .one (.ptr (fmC f))] [bD (same f g)] := by
 have H := za5 f g
 simp only [fmD, zaa f, zaa g] at H ⊢
 refine zah Tryz.call219 Tryz.func219 rfl (by kernel_rfl) (zat (by kernel_rfl)) ?_
 simp -implicitDefEqProofs only [go_sem, Tryz.results219]
 refine callF (H) (by simp -implicitDefEqProofs only [go_sem]) ?_
 simp -implicitDefEqProofs only [go_sem]
theorem zza (f : Fm) : FC Tryz.prog 220 [fmD f] [bD (f.op == 1)] := by
 simp only [fmD, zaa f]
 refine zah Tryz.call220 Tryz.func220 rfl (by kernel_rfl) (zat (by kernel_rfl)) ?_
 simp -implicitDefEqProofs only [go_sem, Tryz.results220]
set_option maxHeartbeats 4000000 in
theorem qfe (s : Sq) (hl : s.left.length <= 1048576) (hr : s.right.length <= 1048576) : FC Tryz.prog 150 [sqD s] [.agg (qfj (zea s).1 (zea s).2), bD (!((zea s).1 == 0))] := by
 have HIx := zeg s.right (fun f => f.op == 1) 220 [] fun x _ => zza x
 have h2c := qgp (s := s)
 have h3c := qg6 (s := s)
 have h4c := qgh (s := s)
 have h0c := qhh (s := s)
 generalize hix : (ze9 s.right fun f => f.op == 1) = x2 at HIx h3c h4c h0c
 simp only [sqD, zak, qfj]
 refine zah Tryz.call150 Tryz.func150 rfl (by kernel_rfl) (zat (by kernel_rfl)) ?_
 simp -implicitDefEqProofs only [go_sem, Tryz.results150]
 refine zaf (fun k : Nat => hd [(1, .one (.bx 1 0)), (2, .one (.bx 2 0)), (14, vT (fmS s.left)), (15, vI s.left.length), (16, vI k)] [(1, [.t (fmS s.left), .t (fmS s.right)]), (2, [.t (.int .i64 0), .nl 5, .nl 5, .t (.int .i64 0), .t (.str []), .nl 2, .t (.int .i64 0), .t (.str []), .nl 2, .t (.str []), .nl 5, .nl 12])] []) (fun k => k <= s.left.length /\ ∀ x ∈ s.left.take k, axA s x = false) (fun k => s.left.length - k) 0 (zac ?_) ⟨Nat.zero_le _, by simp⟩ ?_
 ·simp -implicitDefEqProofs only [go_sem]
 ·rintro k ⟨hk, hno⟩
  by_cases hlt : k < s.left.length
  ·have HC := zas s.right (same s.left[k]) 219 [.ptr (fmC s.left[k])] fun g _ => qbe s.left[k] g
   have hax : axA s s.left[k] = (s.left[k].op == 2 || s.right.any fun g => same s.left[k] g) := rfl
   have hst := qgq hlt hno
   have hnx := fun h => zbu hlt hno h
   rw [hax] at hst hnx
   simp only [zaa s.left[k]] at HC
   generalize (s.right.any fun g => same s.left[k] g) = b at HC hst hnx
   cases hop : (s.left[k].op == 2)
   ·rw [hop, Bool.false_or] at hst hnx
    cases b
    ·simp -implicitDefEqProofs only [go_sem, hlt, zad, zaa s.left[k], hop]
     refine callF (HC) (by simp -implicitDefEqProofs only [go_sem]) ?_
     simp -implicitDefEqProofs only [go_sem]
     refine ⟨k + 1, ⟨hlt, hnx rfl⟩, by omega, zac ?_⟩
     simp -implicitDefEqProofs only [go_sem]
     rw [zav (by omega)]
    ·rw [hst rfl]
     simp -implicitDefEqProofs only [go_sem, hlt, zad, zaa s.left[k], hop]
     refine callF (HC) (by simp -implicitDefEqProofs only [go_sem]) ?_
     simp -implicitDefEqProofs only [go_sem]
   ·rw [hop, Bool.true_or] at hst
    rw [hst rfl]
    simp -implicitDefEqProofs only [go_sem, hlt, zad, zaa s.left[k], hop]
  ·rw [List.take_of_length_le (by omega)] at hno
   have h1n := zcn hno
   have h2c := @h2c h1n
   have h3c := @h3c h1n
   have h4c := @h4c h1n
   have h0c := @h0c h1n
   by_cases hx2 : 0 <= x2
   ·have hge : (x2 >= 0) = True := by simp; omega
    rw [h2c hix hx2]
    simp -implicitDefEqProofs only [go_sem, hlt]
    refine callF (HIx) (by simp -implicitDefEqProofs only [go_sem, hge]) ?_
    simp -implicitDefEqProofs only [go_sem, hge]
   ·have hge : (x2 >= 0) = False := by simp; omega
    have h3c := @h3c hx2
    have h4c := @h4c hx2
    have h0c := @h0c hx2
    simp -implicitDefEqProofs only [go_sem, hlt]
    refine callF (HIx) (by simp -implicitDefEqProofs only [go_sem, hge]) ?_
    simp -implicitDefEqProofs only [go_sem, hge]
    refine zaf (fun k : Nat => hd [(1, .one (.bx 1 0)), (2, .one (.bx 2 0)), (41, vT (fmS s.left)), (42, vI s.left.length), (43, vI k)] [(1, [.t (fmS s.left), .t (fmS s.right)]), (2, [.t (.int .i64 0), .nl 5, .nl 5, .t (.int .i64 0), .t (.str []), .nl 2, .t (.int .i64 0), .t (.str []), .nl 2, .t (.str []), .nl 5, .nl 12])] []) (fun k => k <= s.left.length /\ ∀ x ∈ s.left.take k, isP x = false) (fun k => s.left.length - k) 0 (zac ?_) ⟨Nat.zero_le _, by simp⟩ ?_
    ·simp -implicitDefEqProofs only [go_sem]
    ·rintro k ⟨hk, hno⟩
     by_cases hlt : k < s.left.length
     ·have HC := zo0 s.left[k] true
      have hne := qa5 s.left[k].op true
      have hip : inB s.left[k].op 4 7 = isP s.left[k] := rfl
      rw [hip] at hne
      have hst := h3c hlt hno
      have hnx := fun h => zbu hlt hno h
      simp only [fmD, zaa s.left[k]] at HC
      generalize zh5 s.left[k].op true = r at HC hst hne
      cases hb : isP s.left[k]
      ·rw [hb] at hne
       simp -implicitDefEqProofs only [go_sem, hlt, zad, zaa s.left[k]]
       refine callF (HC) (by simp -implicitDefEqProofs only [go_sem, hne]) ?_
       simp -implicitDefEqProofs only [go_sem, hne]
       refine ⟨k + 1, ⟨hlt, hnx hb⟩, by omega, zac ?_⟩
       simp -implicitDefEqProofs only [go_sem]
       rw [zav (by omega)]
      ·rw [hb] at hne
       have hz : (r == 0) = false := by unfold bne at hne; simpa using hne
       rw [hst hb]
       simp only [hz, Bool.not_false]
       simp -implicitDefEqProofs only [go_sem, hlt, zad, zaa s.left[k]]
       refine callF (HC) (by simp -implicitDefEqProofs only [go_sem, hne]) ?_
       simp -implicitDefEqProofs only [go_sem, hne]
     ·rw [List.take_of_length_le (by omega)] at hno
      have h4c := @h4c (zcn hno)
      have h0c := @h0c (zcn hno)
      simp -implicitDefEqProofs only [go_sem, hlt]
      refine zaf (fun k : Nat => hd [(1, .one (.bx 1 0)), (2, .one (.bx 2 0)), (57, vT (fmS s.right)), (58, vI s.right.length), (59, vI k)] [(1, [.t (fmS s.left), .t (fmS s.right)]), (2, [.t (.int .i64 0), .nl 5, .nl 5, .t (.int .i64 0), .t (.str []), .nl 2, .t (.int .i64 0), .t (.str []), .nl 2, .t (.str []), .nl 5, .nl 12])] []) (fun k => k <= s.right.length /\ ∀ x ∈ s.right.take k, isP x = false) (fun k => s.right.length - k) 0 (zac ?_) ⟨Nat.zero_le _, by simp⟩ ?_
      ·simp -implicitDefEqProofs only [go_sem]
      ·rintro k ⟨hk, hno⟩
       by_cases hlt : k < s.right.length
       ·have HC := zo0 s.right[k] false
        have hne := qa5 s.right[k].op false
        have hip : inB s.right[k].op 4 7 = isP s.right[k] := rfl
        rw [hip] at hne
        have hst := h4c hlt hno
        have hnx := fun h => zbu hlt hno h
        simp only [fmD, zaa s.right[k]] at HC
        generalize zh5 s.right[k].op false = r at HC hst hne
        cases hb : isP s.right[k]
        ·rw [hb] at hne
         simp -implicitDefEqProofs only [go_sem, hlt, zad, zaa s.right[k]]
         refine callF (HC) (by simp -implicitDefEqProofs only [go_sem, hne]) ?_
         simp -implicitDefEqProofs only [go_sem, hne]
         refine ⟨k + 1, ⟨hlt, hnx hb⟩, by omega, zac ?_⟩
         simp -implicitDefEqProofs only [go_sem]
         rw [zav (by omega)]
        ·rw [hb] at hne
         have hz : (r == 0) = false := by unfold bne at hne; simpa using hne
         rw [hst hb]
         simp only [hz, Bool.not_false]
         simp -implicitDefEqProofs only [go_sem, hlt, zad, zaa s.right[k]]
         refine callF (HC) (by simp -implicitDefEqProofs only [go_sem, hne]) ?_
         simp -implicitDefEqProofs only [go_sem, hne]
       ·rw [List.take_of_length_le (by omega)] at hno
        rw [h0c (zcn hno)]
        simp -implicitDefEqProofs only [go_sem, hlt]
end Go.Proofs.YtemnhgmgeijkcaaGreat
namespace Go.Proofs.YtemnhgmgeijkcaaGreat
set_option linter.unusedSimpArgs false
set_option linter.unusedVariables false
set_option linter.unusedSectionVars false
set_option maxRecDepth 4000
open Go.RowKit
theorem zuo {o : Int} (h : inB o 4 7 = true) : IntKind.i64.wrap (o - 4) = o - 4 /\ IntKind.i64.wrap (2 * (o - 4)) = 2 * (o - 4) /\ IntKind.i64.wrap (3 + 2 * (o - 4)) = zh5 o true /\ IntKind.i64.wrap (4 + 2 * (o - 4)) = zh5 o false := by
 have hr : ∀ l, zh5 o l = 3 + 2 * (o - 4) + (if l = true then 0 else 1) := fun l => by unfold zh5; rw [h, if_pos rfl]
 have hb : 4 <= o /\ o <= 7 := by unfold inB at h; simpa only [Bool.and_eq_true, decide_eq_true_eq] using h
 refine ⟨zbl (by omega) (by omega), zbl (by omega) (by omega), ?_, ?_⟩
 ·rw [zbl (by omega) (by omega), hr, if_pos rfl]; omega
 ·rw [zbl (by omega) (by omega), hr, if_neg (by simp)]; omega
set_option maxHeartbeats 4000000 in
theorem zyq (s : Sq) (hl : s.left.length <= 1048576) (hr : s.right.length <= 1048576) : FC Tryz.prog 148 [sqD s] [.agg (qfj (zea s).1 (zea s).2)] := by
 have h2c := qgp (s := s)
 have h3c := qg6 (s := s)
 have h4c := qgh (s := s)
 have h0c := qhh (s := s)
 simp only [sqD, zak, qfj]
 refine zah Tryz.call148 Tryz.func148 rfl (by kernel_rfl) (zat (by kernel_rfl)) ?_
 simp -implicitDefEqProofs only [go_sem, Tryz.results148]
 refine zaf (fun k : Nat => hd [(1, .one (.bx 1 0)), (2, .one (.bx 2 0)), (3, vI k)] [(1, [.t (fmS s.left), .t (fmS s.right)]), (2, [.t (.int .i64 0), .nl 5, .nl 5, .t (.int .i64 0), .t (.str []), .nl 2, .t (.int .i64 0), .t (.str []), .nl 2, .t (.str []), .nl 5, .nl 12])] []) (fun k => k <= s.left.length /\ ∀ x ∈ s.left.take k, axA s x = false) (fun k => s.left.length - k) 0 (zac ?_) ⟨Nat.zero_le _, by simp⟩ ?_
 ·simp -implicitDefEqProofs only [go_sem]
 ·rintro k ⟨hk, hno⟩
  by_cases hlt : k < s.left.length
  ·have HC := zmg s.right s.left[k]
   have hax : axA s s.left[k] = (s.left[k].op == 2 || s.right.any fun g => same s.left[k] g) := rfl
   have hst := qgq hlt hno
   have hnx := fun h => zbu hlt hno h
   rw [hax] at hst hnx
   simp only [fmD, zaa s.left[k]] at HC
   generalize (s.right.any fun g => same s.left[k] g) = b at HC hst hnx
   cases hop : (s.left[k].op == 2)
   ·rw [hop, Bool.false_or] at hst hnx
    cases b
    ·simp -implicitDefEqProofs only [go_sem, hlt]
     refine drawn (by kernel_rfl) ?_
     simp -implicitDefEqProofs only [go_sem, hlt, zad, zaa s.left[k], hop]
     refine za2 (HC) (by simp -implicitDefEqProofs only [go_sem]) ?_
     simp -implicitDefEqProofs only [go_sem]
     refine ⟨by kernel_rfl, k + 1, ⟨hlt, hnx rfl⟩, by omega, zac ?_⟩
     simp -implicitDefEqProofs only [go_sem]
     rw [zav (by omega)]
    ·rw [hst rfl]
     simp -implicitDefEqProofs only [go_sem, hlt]
     refine drawn (by kernel_rfl) ?_
     simp -implicitDefEqProofs only [go_sem, hlt, zad, zaa s.left[k], hop]
     refine za2 (HC) (by simp -implicitDefEqProofs only [go_sem]) ?_
     simp -implicitDefEqProofs only [go_sem]
     kernel_rfl
   ·rw [hop, Bool.true_or] at hst
    rw [hst rfl]
    simp -implicitDefEqProofs only [go_sem, hlt]
    refine drawn (by kernel_rfl) ?_
    simp -implicitDefEqProofs only [go_sem, hlt, zad, zaa s.left[k], hop]
    kernel_rfl
  ·rw [List.take_of_length_le (by omega)] at hno
   have h1n := zcn hno
   have h2c := @h2c h1n
   have h3c := @h3c h1n
   have h4c := @h4c h1n
   have h0c := @h0c h1n
   simp -implicitDefEqProofs only [go_sem, hlt]
   refine zaf (fun k : Nat => hd [(1, .one (.bx 1 0)), (2, .one (.bx 2 0)), (4, vI k)] [(1, [.t (fmS s.left), .t (fmS s.right)]), (2, [.t (.int .i64 0), .nl 5, .nl 5, .t (.int .i64 0), .t (.str []), .nl 2, .t (.int .i64 0), .t (.str []), .nl 2, .t (.str []), .nl 5, .nl 12])] []) (fun k => k <= s.right.length /\ ∀ x ∈ s.right.take k, (x.op == 1) = false) (fun k => s.right.length - k) 0 (zac ?_) ⟨Nat.zero_le _, by simp⟩ ?_
   ·simp -implicitDefEqProofs only [go_sem]
   ·rintro k ⟨hk, hno⟩
    by_cases hlt : k < s.right.length
    ·have hnx := fun h => zbu (p := fun x : Fm => x.op == 1) hlt hno h
     cases hop : (s.right[k].op == 1)
     ·simp -implicitDefEqProofs only [go_sem, hlt, zad, zaa s.right[k], hop]
      refine ⟨k + 1, ⟨hlt, hnx hop⟩, by omega, zac ?_⟩
      simp -implicitDefEqProofs only [go_sem]
      rw [zav (by omega)]
     ·rw [h2c (zd0 (p := fun x : Fm => x.op == 1) hlt hno hop) (by omega)]
      simp -implicitDefEqProofs only [go_sem, hlt, zad, zaa s.right[k], hop]
    ·rw [List.take_of_length_le (by omega)] at hno
     have hx2 : ¬ 0 <= (ze9 s.right fun f => f.op == 1) := by rw [zcn (p := fun x : Fm => x.op == 1) hno]; omega
     have h3c := @h3c hx2
     have h4c := @h4c hx2
     have h0c := @h0c hx2
     simp -implicitDefEqProofs only [go_sem, hlt]
     refine zaf (fun k : Nat => hd [(1, .one (.bx 1 0)), (2, .one (.bx 2 0)), (5, vI k)] [(1, [.t (fmS s.left), .t (fmS s.right)]), (2, [.t (.int .i64 0), .nl 5, .nl 5, .t (.int .i64 0), .t (.str []), .nl 2, .t (.int .i64 0), .t (.str []), .nl 2, .t (.str []), .nl 5, .nl 12])] []) (fun k => k <= s.left.length /\ ∀ x ∈ s.left.take k, isP x = false) (fun k => s.left.length - k) 0 (zac ?_) ⟨Nat.zero_le _, by simp⟩ ?_
     ·simp -implicitDefEqProofs only [go_sem]
     ·rintro k ⟨hk, hno⟩
      by_cases hlt : k < s.left.length
      ·have HC := zef s.left[k].op 4 7
       have hst := h3c hlt hno
       have hnx := fun h => zbu hlt hno h
       have hsi := zuo (o := s.left[k].op)
       have hip : inB s.left[k].op 4 7 = isP s.left[k] := rfl
       rw [hip] at HC hsi
       cases hb : isP s.left[k]
       ·rw [hb] at HC
        simp -implicitDefEqProofs only [go_sem, hlt, zad, zaa s.left[k]]
        refine callF (HC) (by simp -implicitDefEqProofs only [go_sem]) ?_
        simp -implicitDefEqProofs only [go_sem]
        refine ⟨k + 1, ⟨hlt, hnx hb⟩, by omega, zac ?_⟩
        simp -implicitDefEqProofs only [go_sem]
        rw [zav (by omega)]
       ·rw [hb] at HC
        obtain ⟨w1, w2, w3, _⟩ := hsi hb
        rw [hst hb]
        simp -implicitDefEqProofs only [go_sem, hlt, zad, zaa s.left[k]]
        refine callF (HC) (by simp -implicitDefEqProofs only [go_sem, w1, w2, w3]) ?_
        simp -implicitDefEqProofs only [go_sem, w1, w2, w3]
      ·rw [List.take_of_length_le (by omega)] at hno
       have h4c := @h4c (zcn hno)
       have h0c := @h0c (zcn hno)
       simp -implicitDefEqProofs only [go_sem, hlt]
       refine zaf (fun k : Nat => hd [(1, .one (.bx 1 0)), (2, .one (.bx 2 0)), (7, vI k)] [(1, [.t (fmS s.left), .t (fmS s.right)]), (2, [.t (.int .i64 0), .nl 5, .nl 5, .t (.int .i64 0), .t (.str []), .nl 2, .t (.int .i64 0), .t (.str []), .nl 2, .t (.str []), .nl 5, .nl 12])] []) (fun k => k <= s.right.length /\ ∀ x ∈ s.right.take k, isP x = false) (fun k => s.right.length - k) 0 (zac ?_) ⟨Nat.zero_le _, by simp⟩ ?_
       ·simp -implicitDefEqProofs only [go_sem]
       ·rintro k ⟨hk, hno⟩
        by_cases hlt : k < s.right.length
        ·have HC := zef s.right[k].op 4 7
         have hst := h4c hlt hno
         have hnx := fun h => zbu hlt hno h
         have hsi := zuo (o := s.right[k].op)
         have hip : inB s.right[k].op 4 7 = isP s.right[k] := rfl
         rw [hip] at HC hsi
         cases hb : isP s.right[k]
         ·rw [hb] at HC
          simp -implicitDefEqProofs only [go_sem, hlt, zad, zaa s.right[k]]
          refine callF (HC) (by simp -implicitDefEqProofs only [go_sem]) ?_
          simp -implicitDefEqProofs only [go_sem]
          refine ⟨k + 1, ⟨hlt, hnx hb⟩, by omega, zac ?_⟩
          simp -implicitDefEqProofs only [go_sem]
          rw [zav (by omega)]
         ·rw [hb] at HC
          obtain ⟨w1, w2, _, w4⟩ := hsi hb
          rw [hst hb]
          simp -implicitDefEqProofs only [go_sem, hlt, zad, zaa s.right[k]]
          refine callF (HC) (by simp -implicitDefEqProofs only [go_sem, w1, w2, w4]) ?_
          simp -implicitDefEqProofs only [go_sem, w1, w2, w4]
        ·rw [List.take_of_length_le (by omega)] at hno
         rw [h0c (zcn hno)]
         simp -implicitDefEqProofs only [go_sem, hlt]
end Go.Proofs.YtemnhgmgeijkcaaGreat
namespace Go.Proofs.YtemnhgmgeijkcaaGreat
set_option linter.unusedSimpArgs false
set_option linter.unusedVariables false
set_option linter.unusedSectionVars false
set_option maxRecDepth 4000
open Go.RowKit
noncomputable def stD (s : Sq) : Dv := .mk (zea s).1 ⟨[], []⟩ (zea s).2 (.mk [] []) zal []
theorem zn2 (s : Sq) : dvC (stD s) = qfj (zea s).1 (zea s).2 := by unfold stD; rw [zbm]; rfl
theorem qg5 (s : Sq) : (stD s).wt = 0 := by
 rw [Dv.wt_eq]
 show Sq.wt ⟨[], []⟩ + Tm.wt (.mk [] []) + zal.wt + 0 = 0
 rw [Sq.wt_eq, Tm.wt_eq]
 rfl
theorem znh {α : Type} {xs : List α} {p : α -> Bool} (h : 0 <= ze9 xs p) : ∃ j : Nat, ∃ hj : j < xs.length, ze9 xs p = j /\ p xs[j] = true := by
 unfold ze9 at h ⊢
 split at h
 ·rename_i ha
  have h2 : xs.findIdx p < xs.length := List.findIdx_lt_length.2 (List.any_eq_true.1 ha)
  rw [if_pos ha]
  exact ⟨_, h2, rfl, List.findIdx_getElem (w := h2)⟩
 ·omega
def zd1 (xs : List Fm) : Nat := (xs.map Fm.nodes).sum
theorem zje (a b : List Fm) : zd1 (a ++ b) = zd1 a + zd1 b := by unfold zd1; rw [List.map_append, List.sum_append]
def sqn (s : Sq) : Nat := zd1 s.left + zd1 s.right
theorem zw5 (xs : List Fm) {k : Nat} (h : k < xs.length) : zd1 (xs.take (k + 1)) = zd1 (xs.take k) + xs[k].nodes := by
 rw [List.take_succ_eq_append_getElem h, zje]; simp [zd1]
theorem zjq (xs : List Fm) {j : Nat} (hj : j < xs.length) : ∀ k, k <= xs.length -> zd1 (zfl xs (j : Int) k) + (if j < k then xs[j].nodes else 0) = zd1 (xs.take k)
 | 0, _ => by rw [if_neg (by omega)]; rfl
 | k + 1, hk => by
  have ih := zjq xs hj k (by omega)
  rw [zid xs j (by omega), zje, zw5 xs (by omega)]
  by_cases hjk : j = k
  ·subst hjk
   have hb : ((j : Int) == (j : Int)) = true := by simp
   rw [if_neg (by omega)] at ih
   rw [hb, if_pos rfl, if_pos (by omega)]
   show _ + 0 + _ = _
   omega
  ·have hb : ((k : Int) == (j : Int)) = false := by rw [beq_eq_false_iff_ne]; omega
   rw [hb, if_neg (by simp)]
   have e : zd1 [xs[k]] = xs[k].nodes := by simp [zd1]
   rw [e]
   by_cases hjk2 : j < k
   ·rw [if_pos hjk2] at ih
    rw [if_pos (by omega)]; omega
   ·rw [if_neg hjk2] at ih
    rw [if_neg (by omega)]; omega
theorem zkj (xs : List Fm) {j : Nat} (hj : j < xs.length) : zd1 (zem xs (j : Int)) + xs[j].nodes = zd1 xs := by
 have h := zjq xs hj xs.length (Nat.le_refl _)
 rw [if_pos hj, List.take_length] at h
 exact h
theorem zvi (s : Sq) {r : Int} {f : Fm} (hf : f.good = true) (hr : 3 <= r /\ r <= 10) (ho : f.op = opL r) : ∀ x ∈ (zb6 s r f).1, sqn x < f.nodes := by
 have hn := f.nodes_eq
 have e0 : zd1 [] = 0 := rfl
 have e1 : ∀ p : Fm, zd1 [p] = p.nodes := fun p => by simp [zd1]
 have e2 : ∀ p q : Fm, zd1 [p, q] = p.nodes + q.nodes := fun p q => by simp [zd1]
 rcases (show r = 3 \/ r = 4 \/ r = 5 \/ r = 6 \/ r = 7 \/ r = 8 \/ r = 9 \/ r = 10 by omega) with rfl | rfl | rfl | rfl | rfl | rfl | rfl | rfl
 ·obtain ⟨p, hp⟩ := zf2 hf ho
  intro x hx
  have hx : x ∈ [(⟨[], [f.parts.getD 0 zal]⟩ : Sq)] := hx
  rw [List.mem_singleton.1 hx, hp]
  rw [hp] at hn
  show zd1 [] + zd1 [p] < _
  rw [e0, e1, hn]; simp <;> omega
 ·obtain ⟨p, hp⟩ := zf2 hf ho
  intro x hx
  have hx : x ∈ [(⟨[f.parts.getD 0 zal], []⟩ : Sq)] := hx
  rw [List.mem_singleton.1 hx, hp]
  rw [hp] at hn
  show zd1 [p] + zd1 [] < _
  rw [e0, e1, hn]; simp <;> omega
 ·obtain ⟨p, q, hp⟩ := zbs hf (Or.inl ho)
  intro x hx
  have hx : x ∈ [(⟨f.parts, []⟩ : Sq)] := hx
  rw [List.mem_singleton.1 hx, hp]
  rw [hp] at hn
  show zd1 [p, q] + zd1 [] < _
  rw [e0, e2, hn]; simp <;> omega
 ·obtain ⟨p, q, hp⟩ := zbs hf (Or.inl ho)
  intro x hx
  have hx : x ∈ [(⟨[], [f.parts.getD 0 zal]⟩ : Sq), ⟨[], [f.parts.getD 1 zal]⟩] := hx
  rw [hp] at hn hx
  simp only [List.mem_cons, List.not_mem_nil, or_false] at hx
  rcases hx with rfl | rfl
  ·show zd1 [] + zd1 [p] < _
   rw [e0, e1, hn]; simp <;> omega
  ·show zd1 [] + zd1 [q] < _
   rw [e0, e1, hn]; simp <;> omega
 ·obtain ⟨p, q, hp⟩ := zbs hf (Or.inr (Or.inl ho))
  intro x hx
  have hx : x ∈ [(⟨[f.parts.getD 0 zal], []⟩ : Sq), ⟨[f.parts.getD 1 zal], []⟩] := hx
  rw [hp] at hn hx
  simp only [List.mem_cons, List.not_mem_nil, or_false] at hx
  rcases hx with rfl | rfl
  ·show zd1 [p] + zd1 [] < _
   rw [e0, e1, hn]; simp <;> omega
  ·show zd1 [q] + zd1 [] < _
   rw [e0, e1, hn]; simp <;> omega
 ·obtain ⟨p, q, hp⟩ := zbs hf (Or.inr (Or.inl ho))
  intro x hx
  have hx : x ∈ [(⟨[], f.parts⟩ : Sq)] := hx
  rw [List.mem_singleton.1 hx, hp]
  rw [hp] at hn
  show zd1 [] + zd1 [p, q] < _
  rw [e0, e2, hn]; simp <;> omega
 ·obtain ⟨p, q, hp⟩ := zbs hf (Or.inr (Or.inr ho))
  intro x hx
  have hx : x ∈ [(⟨[], [f.parts.getD 0 zal]⟩ : Sq), ⟨[f.parts.getD 1 zal], []⟩] := hx
  rw [hp] at hn hx
  simp only [List.mem_cons, List.not_mem_nil, or_false] at hx
  rcases hx with rfl | rfl
  ·show zd1 [] + zd1 [p] < _
   rw [e0, e1, hn]; simp <;> omega
  ·show zd1 [q] + zd1 [] < _
   rw [e0, e1, hn]; simp <;> omega
 ·obtain ⟨p, q, hp⟩ := zbs hf (Or.inr (Or.inr ho))
  intro x hx
  have hx : x ∈ [(⟨[f.parts.getD 0 zal], [f.parts.getD 1 zal]⟩ : Sq)] := hx
  rw [List.mem_singleton.1 hx, hp]
  rw [hp] at hn
  show zd1 [p] + zd1 [q] < _
  rw [e1, e1, hn]; simp <;> omega
theorem qei {s : Sq} (hs : s.good = true) {r : Int} {j : Nat} (hr : 1 <= r /\ r <= 10) (hj : j < (zbw s r).length) (ho : opL r = 0 \/ (zbw s r)[j].op = opL r) (hax : r = 1 -> ((zbw s r)[j].op == 2 || s.right.any fun g => same (zbw s r)[j] g) = true) :
  (adR s (.mk r ⟨[], []⟩ j (.mk [] []) zal [])).2 = true /\ ∀ x ∈ (adR s (.mk r ⟨[], []⟩ j (.mk [] []) zal [])).1, sqn (ze0 s (.mk r ⟨[], []⟩ j (.mk [] []) zal []) x) < sqn s := by
 have hmf : zb3 s (.mk r ⟨[], []⟩ j (.mk [] []) zal []) = (zbw s r)[j] := by
  show (zbw s r).getD (j : Int).toNat zal = _
  rw [Int.toNat_natCast, zca hj]
 have hmk : zbp s (.mk r ⟨[], []⟩ j (.mk [] []) zal []) = true := by
  unfold zbp
  rw [hmf]
  show (inB (j : Int) 0 ((zbw s r).length - 1) && (opL r == 0 || (zbw s r)[j].op == opL r)) = true
  rw [Bool.and_eq_true]
  refine ⟨by unfold inB; simp only [Bool.and_eq_true, decide_eq_true_eq]; omega, ?_⟩
  rcases ho with h | h <;> rw [h] <;> simp
 have hg := zh9 hs r (List.getElem_mem hj)
 have hin : inB r 1 15 = true := by unfold inB; simp only [Bool.and_eq_true, decide_eq_true_eq]; omega
 have hq : inB r 11 14 = false := by unfold inB; simp only [Bool.and_eq_false_iff, decide_eq_false_iff_not]; omega
 have h15 : ¬ r = 15 := by omega
 have had : adR s (.mk r ⟨[], []⟩ j (.mk [] []) zal []) = zb6 s r (zbw s r)[j] := by
  have e : adR s (.mk r ⟨[], []⟩ j (.mk [] []) zal []) = if (inB r 1 15 && same zal zal && (inB r 11 14 == !(Tm.mk [] []).none) && zbp s (.mk r ⟨[], []⟩ j (.mk [] []) zal [])) = true then (if inB r 11 14 = true then zi3 s (.mk r ⟨[], []⟩ j (.mk [] []) zal []) (zb3 s (.mk r ⟨[], []⟩ j (.mk [] []) zal [])) else zb6 s r (zb3 s (.mk r ⟨[], []⟩ j (.mk [] []) zal []))) else ([], false) := by
   unfold adR
   rw [if_neg (show ¬ (Dv.mk r ⟨[], []⟩ (j : Int) (.mk [] []) zal []).rule = 15 from h15)]; rfl
  rw [e, hin, zbn, hq, hmk, hmf]
  rfl
 rw [had]
 by_cases h1 : r = 1
 ·subst h1
  have e : zb6 s 1 (zbw s 1)[j] = ([], (zbw s 1)[j].op == 2 || s.right.any fun g => same (zbw s 1)[j] g) := rfl
  rw [e]
  exact ⟨hax rfl, fun x hx => by cases hx⟩
 ·by_cases h2 : r = 2
  ·subst h2
   exact ⟨rfl, fun x hx => by cases hx⟩
  ·have hr3 : 3 <= r /\ r <= 10 := by omega
   have ho0 : opL r ≠ 0 := by
    rcases (show r = 3 \/ r = 4 \/ r = 5 \/ r = 6 \/ r = 7 \/ r = 8 \/ r = 9 \/ r = 10 by omega) with rfl | rfl | rfl | rfl | rfl | rfl | rfl | rfl <;> decide
   have hop := ho.resolve_left ho0
   refine ⟨?_, fun x hx => ?_⟩
   ·rcases (show r = 3 \/ r = 4 \/ r = 5 \/ r = 6 \/ r = 7 \/ r = 8 \/ r = 9 \/ r = 10 by omega) with rfl | rfl | rfl | rfl | rfl | rfl | rfl | rfl <;> rfl
   ·have hx2 := zvi s hg hr3 hop x hx
    have hrem : qeb r = false := by
     rcases (show r = 3 \/ r = 4 \/ r = 5 \/ r = 6 \/ r = 7 \/ r = 8 \/ r = 9 \/ r = 10 by omega) with rfl | rfl | rfl | rfl | rfl | rfl | rfl | rfl <;> rfl
    have hgo : ∀ l, zfb (.mk r ⟨[], []⟩ j (.mk [] []) zal []) l = if (onL r == l) = true then (j : Int) else -1 := fun l => by
     have h15b : (r == 15) = false := by rw [beq_eq_false_iff_ne]; exact h15
     have e : zfb (.mk r ⟨[], []⟩ j (.mk [] []) zal []) l = if (!(r == 15) && !qeb r && (onL r == l)) = true then (j : Int) else -1 := rfl
     rw [e, h15b, hrem]; rfl
    show zd1 (zem s.left (zfb _ true) ++ x.left) + zd1 (zem s.right (zfb _ false) ++ x.right) < zd1 s.left + zd1 s.right
    rw [hgo, hgo, zje, zje]
    have hx3 : sqn x = zd1 x.left + zd1 x.right := rfl
    cases hon : onL r
    ·have hside : zbw s r = s.right := by unfold zbw; rw [hon]; rfl
     have hj' : j < s.right.length := by rw [<- hside]; exact hj
     have hfe : (zbw s r)[j] = s.right[j] := by simp only [hside]
     have hd := zkj s.right hj'
     rw [hfe] at hx2
     simp only [bff, btf, btt, bft, Bool.false_eq_true, if_true, if_false]
     rw [zjf s.left (by omega)]
     omega
    ·have hside : zbw s r = s.left := by unfold zbw; rw [hon]; rfl
     have hj' : j < s.left.length := by rw [<- hside]; exact hj
     have hfe : (zbw s r)[j] = s.left[j] := by simp only [hside]
     have hd := zkj s.left hj'
     rw [hfe] at hx2
     simp only [bff, btf, btt, bft, Bool.false_eq_true, if_true, if_false]
     rw [zjf s.right (by omega)]
     omega
theorem qiq {s : Sq} (hs : s.good = true) (h0 : (zea s).1 ≠ 0) : (1 <= (zea s).1 /\ (zea s).1 <= 10) /\ (adR s (stD s)).2 = true /\ ∀ x ∈ (adR s (stD s)).1, sqn (ze0 s (stD s) x) < sqn s := by
 have rl : ∀ (o : Int) (l : Bool), inB o 4 7 = true -> (1 <= zh5 o l /\ zh5 o l <= 10) /\ onL (zh5 o l) = l /\ opL (zh5 o l) = o /\ zh5 o l ≠ 1 := fun o l h => by
  have ho : o = 4 \/ o = 5 \/ o = 6 \/ o = 7 := by unfold inB at h; simp only [Bool.and_eq_true, decide_eq_true_eq] at h; omega
  rcases ho with rfl | rfl | rfl | rfl <;> cases l <;> decide
 have h11 : (1 : Int) <= 1 /\ (1 : Int) <= 10 := by decide
 have h22 : (1 : Int) <= 2 /\ (2 : Int) <= 10 := by decide
 unfold stD
 by_cases c1 : 0 <= ze9 s.left (axA s)
 ·obtain ⟨j, hj, e, hp⟩ := znh c1
  have hst : zea s = (1, (j : Int)) := by unfold zea; rw [if_pos c1, e]
  rw [hst]
  exact ⟨h11, qei hs h11 hj (Or.inl rfl) fun _ => hp⟩
 ·by_cases c2 : 0 <= ze9 s.right (fun f => f.op == 1)
  ·obtain ⟨j, hj, e, hp⟩ := znh c2
   have hst : zea s = (2, (j : Int)) := by unfold zea; rw [if_neg c1, if_pos c2, e]
   rw [hst]
   have hp2 : s.right[j].op = 1 := by simpa using hp
   exact ⟨h22, qei hs h22 hj (Or.inr hp2) fun h => absurd h (show ¬ (2 : Int) = 1 by decide)⟩
  ·by_cases c3 : 0 <= ze9 s.left isP
   ·obtain ⟨j, hj, e, hp⟩ := znh c3
    have hst : zea s = (zh5 s.left[j].op true, (j : Int)) := by unfold zea; rw [if_neg c1, if_neg c2, if_pos c3, e, Int.toNat_natCast, zca hj]
    rw [hst]
    obtain ⟨r1, r2, r3, r4⟩ := rl s.left[j].op true hp
    have hside : zbw s (zh5 s.left[j].op true) = s.left := by unfold zbw; rw [r2]; rfl
    have hj2 : j < (zbw s (zh5 s.left[j].op true)).length := by rw [hside]; exact hj
    have hfe : (zbw s (zh5 s.left[j].op true))[j] = s.left[j] := by simp only [hside]
    exact ⟨r1, qei hs r1 hj2 (Or.inr (by rw [hfe, r3])) fun h => absurd h r4⟩
   ·by_cases c4 : 0 <= ze9 s.right isP
    ·obtain ⟨j, hj, e, hp⟩ := znh c4
     have hst : zea s = (zh5 s.right[j].op false, (j : Int)) := by unfold zea; rw [if_neg c1, if_neg c2, if_neg c3, if_pos c4, e, Int.toNat_natCast, zca hj]
     rw [hst]
     obtain ⟨r1, r2, r3, r4⟩ := rl s.right[j].op false hp
     have hside : zbw s (zh5 s.right[j].op false) = s.right := by unfold zbw; rw [r2]; rfl
     have hj2 : j < (zbw s (zh5 s.right[j].op false)).length := by rw [hside]; exact hj
     have hfe : (zbw s (zh5 s.right[j].op false))[j] = s.right[j] := by simp only [hside]
     exact ⟨r1, qei hs r1 hj2 (Or.inr (by rw [hfe, r3])) fun h => absurd h r4⟩
    ·exfalso
     refine h0 ?_
     unfold zea
     rw [if_neg c1, if_neg c2, if_neg c3, if_neg c4]
noncomputable def lfL (g : Sq -> Sq × Int) : List Sq -> Sq × Int
 | [] => (⟨[], []⟩, 0)
 | q :: qs => if q.good = true then (if (g q).2 = 0 then lfL g qs else g q) else (⟨[], []⟩, -1)
noncomputable def lfR : Nat -> Sq -> Sq × Int
 | 0, _ => (⟨[], []⟩, -1)
 | n + 1, s => if (zea s).1 = 0 then (s, 1) else lfL (lfR n) ((adR s (stD s)).1.map (ze0 s (stD s)))
theorem zzu (g : Sq -> Sq × Int) (h : ∀ q, (g q).2 = -1 \/ (g q).2 = 0 \/ (g q).2 = 1) : ∀ qs, (lfL g qs).2 = -1 \/ (lfL g qs).2 = 0 \/ (lfL g qs).2 = 1
 | [] => Or.inr (Or.inl rfl)
 | q :: qs => by
  unfold lfL
  split
  ·split
   ·exact zzu g h qs
   ·exact h q
  ·exact Or.inl rfl
theorem zqa : ∀ (n : Nat) (s : Sq), (lfR n s).2 = -1 \/ (lfR n s).2 = 0 \/ (lfR n s).2 = 1
 | 0, _ => Or.inl rfl
 | n + 1, s => by
  unfold lfR
  split
  ·exact Or.inr (Or.inr rfl)
  ·exact zzu _ (zqa n) _
end Go.Proofs.YtemnhgmgeijkcaaGreat
namespace Go.Proofs.YtemnhgmgeijkcaaGreat
set_option linter.unusedSimpArgs false
set_option linter.unusedVariables false
set_option linter.unusedSectionVars false
set_option maxRecDepth 4000
open Go.RowKit
theorem qhi (s : Sq) (d : Dv) : (adR s d).1.length <= 2 := by
 unfold adR
 split
 ·split <;> simp
 ·split
  ·split
   ·unfold zi3
    repeat' split
    all_goals simp
   ·unfold zb6
    repeat' split
    all_goals simp
  ·simp
theorem lfR_0 {n : Nat} {s : Sq} (h : (zea s).1 = 0) : lfR (n + 1) s = (s, 1) := by
 show (if (zea s).1 = 0 then (s, 1) else _) = _
 rw [if_pos h]
theorem lfR_s {n : Nat} {s : Sq} (h : ¬ (zea s).1 = 0) : lfR (n + 1) s = lfL (lfR n) ((adR s (stD s)).1.map (ze0 s (stD s))) := by
 show (if (zea s).1 = 0 then (s, 1) else _) = _
 rw [if_neg h]
theorem zyw {g : Sq -> Sq × Int} {q : Sq} {qs : List Sq} (h : q.good = false) : lfL g (q :: qs) = (⟨[], []⟩, -1) := by
 show (if q.good = true then _ else _) = _
 rw [h]; rfl
theorem qgt {g : Sq -> Sq × Int} {q : Sq} {qs : List Sq} (h : q.good = true) (h0 : (g q).2 = 0) : lfL g (q :: qs) = lfL g qs := by
 show (if q.good = true then (if (g q).2 = 0 then _ else _) else _) = _
 rw [if_pos h, if_pos h0]
theorem zyk {g : Sq -> Sq × Int} {q : Sq} {qs : List Sq} (h : q.good = true) (h0 : ¬ (g q).2 = 0) : lfL g (q :: qs) = g q := by
 show (if q.good = true then (if (g q).2 = 0 then _ else _) else _) = _
 rw [if_pos h, if_neg h0]
theorem zl6 {α β : Type} (f : α -> β) (L : List α) {k : Nat} (h : k < L.length) : (L.map f).drop k = f L[k] :: (L.map f).drop (k + 1) := by
 rw [List.drop_eq_getElem_cons (by simpa using h), List.getElem_map]
theorem zjc {xs : List Fm} (hl : xs.length <= 10) (hg : ∀ x ∈ xs, x.good = true) : zb7 xs <= 300000 := by
 have : (xs.map Fm.wt).sum <= 20800 * xs.length := by
  clear hl
  induction xs with
  | nil => exact Nat.le_refl _
  | cons x xs ih =>
   have h1 := ih fun y hy => hg y (by simp [hy])
   have h2 := zcx (hg x (by simp))
   rw [List.map_cons, List.sum_cons, List.length_cons]; omega
 unfold zb7; omega
set_option maxHeartbeats 4000000 in
theorem zls : ∀ (n : Nat) (s : Sq), s.good = true -> sqn s < n -> FC Tryz.prog 101 [sqD s] [sqD (lfR n s).1, bD ((lfR n s).2 == 1), bD (decide (0 <= (lfR n s).2))]
 | 0, _, _, h => by omega
 | n + 1, s, hs, hn => by
  obtain ⟨l1, l2, g1, g2⟩ := zfe hs
  have HCh := qfe s (by omega) (by omega)
  by_cases h0 : (zea s).1 = 0
  ·rw [lfR_0 h0]
   have hw1 := zjc l1 g1
   have hw2 := zjc l2 g2
   have HCp := zmu s (by omega) (by omega)
   rw [h0] at HCh
   simp only [sqD, zak, qfj] at HCh HCp ⊢
   refine zah Tryz.call101 Tryz.func101 rfl (by kernel_rfl) (zat (by kernel_rfl)) ?_
   simp -implicitDefEqProofs only [go_sem, Tryz.results101]
   refine callF (HCh) (by simp -implicitDefEqProofs only [go_sem]) ?_
   simp -implicitDefEqProofs only [go_sem]
   refine callF (HCp) (by simp -implicitDefEqProofs only [go_sem]) ?_
   simp -implicitDefEqProofs only [go_sem]
  ·rw [lfR_s h0]
   obtain ⟨⟨hr1, hr2⟩, had, hlt2⟩ := qiq hs h0
   have hr : 1 <= (stD s).rule /\ (stD s).rule <= 15 := ⟨hr1, by show (zea s).1 <= 15; omega⟩
   have h0b : ((zea s).1 == 0) = false := by rw [beq_eq_false_iff_ne]; exact h0
   have HA := zrt s hs (stD s) (by rw [qg5]; omega)
   have hsm := zsx s hs (stD s)
   have hlen := qhi s (stD s)
   rw [had] at HA
   rw [h0b] at HCh
   have HL := qgr (stD s) s.left true hr (by omega)
   have HR := qgr (stD s) s.right false hr (by omega)
   have hd1 := (zh0 s.left (zfb (stD s) true)).length_le
   have hd2 := (zh0 s.right (zfb (stD s) false)).length_le
   have hexl : ∀ x, (ze0 s (stD s) x).left = zem s.left (zfb (stD s) true) ++ x.left := fun _ => rfl
   have hexr : ∀ x, (ze0 s (stD s) x).right = zem s.right (zfb (stD s) false) ++ x.right := fun _ => rfl
   generalize (adR s (stD s)).1 = L at HA hsm hlen hlt2 ⊢
   simp only [sqD, zak s, dvD, zn2, qfj] at HCh HA HL HR
   generalize hE : L.map (ze0 s (stD s)) = E
   have hdr : ∀ k (h : k < L.length), E.drop k = ze0 s (stD s) L[k] :: E.drop (k + 1) := fun k h => by rw [<- hE]; exact zl6 _ L h
   have hel : E.length = L.length := by rw [<- hE]; exact List.length_map ..
   have hns : ∀ k (h : k < L.length), sqn (ze0 s (stD s) L[k]) < n := fun k h => by have := hlt2 _ (List.getElem_mem h); omega
   clear hE hlt2
   have hq0 : sqC ⟨[], []⟩ = [.sl 5 [], .sl 5 []] := rfl
   simp only [sqD, zak s]
   refine zah Tryz.call101 Tryz.func101 rfl (by kernel_rfl) (zat (by kernel_rfl)) ?_
   simp -implicitDefEqProofs only [go_sem, Tryz.results101]
   refine callF (HCh) (by simp -implicitDefEqProofs only [go_sem]) ?_
   simp -implicitDefEqProofs only [go_sem]
   refine qdd 545 rfl rfl ?_
   simp -implicitDefEqProofs only [go_sem]
   refine qdd 546 rfl rfl ?_
   simp -implicitDefEqProofs only [go_sem]
   refine qdd 549 rfl rfl ?_
   simp -implicitDefEqProofs only [go_sem]
   refine qdd 552 rfl rfl ?_
   simp -implicitDefEqProofs only [go_sem]
   refine qdd 554 rfl rfl ?_
   simp -implicitDefEqProofs only [go_sem]
   refine qdd 555 rfl rfl ?_
   simp -implicitDefEqProofs only [go_sem]
   refine callR (HA) (by simp -implicitDefEqProofs only [go_sem]) ?_
   simp -implicitDefEqProofs only [go_sem]
   refine zaf (fun k : Nat => hd [(1, .one (.bx 1 0)), (5, .one (.bx 5 0)), (2, .one (.bx 2 0)), (30, vT (sqS L)), (31, vI L.length), (32, vI k)] [(1, [.t (fmS s.left), .t (fmS s.right)]), (5, [.t (.int .i64 (zea s).1), .rn (.sl 5 []), .rn (.sl 5 []), .t (.int .i64 (zea s).2), .t (.str []), .rn (.sl 2 []), .t (.int .i64 0), .t (.str []), .rn (.sl 2 []), .t (.str []), .rn (.sl 5 []), .rn (.sl 12 [])]), (2, [.nl 5, .nl 5])] []) (fun k => k <= L.length /\ lfL (lfR n) E = lfL (lfR n) (E.drop k)) (fun k => L.length - k) 0 (zac ?_) ⟨Nat.zero_le _, rfl⟩ ?_
   ·simp -implicitDefEqProofs only [go_sem]
   ·rintro k ⟨hk, hE⟩
    by_cases hlt : k < L.length
    ·have hx := hsm _ (List.getElem_mem hlt)
     have hy := zoj hs (stD s) hx
     obtain ⟨x1, x2, x3, x4⟩ := hx
     have HC1 := zlk (zem s.left (zfb (stD s) true)) L[k].left (by omega)
     have HC2 := zlk (zem s.right (zfb (stD s) false)) L[k].right (by omega)
     have HV := zfa (ze0 s (stD s) L[k]) (by rw [Sq.wt_eq]; omega)
     have HI := zls n (ze0 s (stD s) L[k])
     rw [hdr k hlt] at hE
     simp only [sqD, zak, hexl, hexr] at HV HI
     cases hgk : (ze0 s (stD s) L[k]).good
     ·rw [hgk] at HV
      rw [hE, zyw hgk, hq0]
      simp -implicitDefEqProofs only [go_sem, hlt, zad, zak L[k]]
      refine drawn (by kernel_rfl) ?_
      simp -implicitDefEqProofs only [go_sem]
      refine zdn HL (by simp -implicitDefEqProofs only [go_sem]) ?_
      simp -implicitDefEqProofs only [go_sem]
      refine zff (by simp -implicitDefEqProofs only [go_sem]) ?_
      simp -implicitDefEqProofs only [go_sem]
      refine zdn HC1 (by simp -implicitDefEqProofs only [go_sem]) ?_
      simp -implicitDefEqProofs only [go_sem]
      refine zdn HR (by simp -implicitDefEqProofs only [go_sem]) ?_
      simp -implicitDefEqProofs only [go_sem]
      refine zff (by simp -implicitDefEqProofs only [go_sem]) ?_
      simp -implicitDefEqProofs only [go_sem]
      refine zdn HC2 (by simp -implicitDefEqProofs only [go_sem]) ?_
      simp -implicitDefEqProofs only [go_sem]
      refine ⟨by kernel_rfl, ?_⟩
      refine callF (HV) (by simp -implicitDefEqProofs only [go_sem]) ?_
      simp -implicitDefEqProofs only [go_sem]
     ·rw [hgk] at HV
      have HI := HI hgk (hns k hlt)
      have hgo := qgt (g := lfR n) (qs := E.drop (k + 1)) hgk
      have hhit := zyk (g := lfR n) (qs := E.drop (k + 1)) hgk
      rw [<- hE] at hgo hhit
      have hv := zqa n (ze0 s (stD s) L[k])
      generalize lfR n (ze0 s (stD s) L[k]) = A at HI hgo hhit hv
      obtain ⟨q, v⟩ := A
      simp only at HI hgo hhit hv
      rcases hv with rfl | rfl | rfl
      ·rw [hhit (by decide), zak q]
       simp -implicitDefEqProofs only [go_sem, hlt, zad, zak L[k]]
       refine drawn (by kernel_rfl) ?_
       simp -implicitDefEqProofs only [go_sem]
       refine zdn HL (by simp -implicitDefEqProofs only [go_sem]) ?_
       simp -implicitDefEqProofs only [go_sem]
       refine zff (by simp -implicitDefEqProofs only [go_sem]) ?_
       simp -implicitDefEqProofs only [go_sem]
       refine zdn HC1 (by simp -implicitDefEqProofs only [go_sem]) ?_
       simp -implicitDefEqProofs only [go_sem]
       refine zdn HR (by simp -implicitDefEqProofs only [go_sem]) ?_
       simp -implicitDefEqProofs only [go_sem]
       refine zff (by simp -implicitDefEqProofs only [go_sem]) ?_
       simp -implicitDefEqProofs only [go_sem]
       refine zdn HC2 (by simp -implicitDefEqProofs only [go_sem]) ?_
       simp -implicitDefEqProofs only [go_sem]
       refine ⟨by kernel_rfl, ?_⟩
       refine callF (HV) (by simp -implicitDefEqProofs only [go_sem]) ?_
       simp -implicitDefEqProofs only [go_sem]
       refine callF (HI) (by simp -implicitDefEqProofs only [go_sem]) ?_
       simp -implicitDefEqProofs only [go_sem]
      ·simp -implicitDefEqProofs only [go_sem, hlt, zad, zak L[k]]
       refine drawn (by kernel_rfl) ?_
       simp -implicitDefEqProofs only [go_sem]
       refine zdn HL (by simp -implicitDefEqProofs only [go_sem]) ?_
       simp -implicitDefEqProofs only [go_sem]
       refine zff (by simp -implicitDefEqProofs only [go_sem]) ?_
       simp -implicitDefEqProofs only [go_sem]
       refine zdn HC1 (by simp -implicitDefEqProofs only [go_sem]) ?_
       simp -implicitDefEqProofs only [go_sem]
       refine zdn HR (by simp -implicitDefEqProofs only [go_sem]) ?_
       simp -implicitDefEqProofs only [go_sem]
       refine zff (by simp -implicitDefEqProofs only [go_sem]) ?_
       simp -implicitDefEqProofs only [go_sem]
       refine zdn HC2 (by simp -implicitDefEqProofs only [go_sem]) ?_
       simp -implicitDefEqProofs only [go_sem]
       refine ⟨by kernel_rfl, ?_⟩
       refine callF (HV) (by simp -implicitDefEqProofs only [go_sem]) ?_
       simp -implicitDefEqProofs only [go_sem]
       refine callF (HI) (by simp -implicitDefEqProofs only [go_sem]) ?_
       simp -implicitDefEqProofs only [go_sem]
       refine ⟨k + 1, ⟨hlt, hgo rfl⟩, by omega, zac ?_⟩
       simp -implicitDefEqProofs only [go_sem]
       rw [zav (by omega)]
      ·rw [hhit (by decide), zak q]
       simp -implicitDefEqProofs only [go_sem, hlt, zad, zak L[k]]
       refine drawn (by kernel_rfl) ?_
       simp -implicitDefEqProofs only [go_sem]
       refine zdn HL (by simp -implicitDefEqProofs only [go_sem]) ?_
       simp -implicitDefEqProofs only [go_sem]
       refine zff (by simp -implicitDefEqProofs only [go_sem]) ?_
       simp -implicitDefEqProofs only [go_sem]
       refine zdn HC1 (by simp -implicitDefEqProofs only [go_sem]) ?_
       simp -implicitDefEqProofs only [go_sem]
       refine zdn HR (by simp -implicitDefEqProofs only [go_sem]) ?_
       simp -implicitDefEqProofs only [go_sem]
       refine zff (by simp -implicitDefEqProofs only [go_sem]) ?_
       simp -implicitDefEqProofs only [go_sem]
       refine zdn HC2 (by simp -implicitDefEqProofs only [go_sem]) ?_
       simp -implicitDefEqProofs only [go_sem]
       refine ⟨by kernel_rfl, ?_⟩
       refine callF (HV) (by simp -implicitDefEqProofs only [go_sem]) ?_
       simp -implicitDefEqProofs only [go_sem]
       refine callF (HI) (by simp -implicitDefEqProofs only [go_sem]) ?_
       simp -implicitDefEqProofs only [go_sem]
    ·have htk : E.drop k = [] := List.drop_of_length_le (by omega)
     rw [hE, htk, show lfL (lfR n) [] = (⟨[], []⟩, 0) from rfl, hq0]
     simp -implicitDefEqProofs only [go_sem, hlt]
end Go.Proofs.YtemnhgmgeijkcaaGreat
namespace Go.Proofs.YtemnhgmgeijkcaaGreat
set_option linter.unusedSimpArgs false
set_option linter.unusedVariables false
set_option linter.unusedSectionVars false
set_option maxRecDepth 4000
open Go.RowKit
theorem ru_ad {s : Sq} {d : Dv} (h15 : ¬ d.rule = 15) (hq : inB d.rule 11 14 = false) (hn : d.term.none = true) (h : (adR s d).2 = true) : ruS s d = ((adR s d).1.map (ze0 s d), true) := by
 have hA : adR s d = if (inB d.rule 1 15 && same d.cut zal && (inB d.rule 11 14 == !d.term.none) && zbp s d) = true then (if inB d.rule 11 14 = true then zi3 s d (zb3 s d) else zb6 s d.rule (zb3 s d)) else ([], false) := by
  unfold adR
  rw [if_neg h15]
 have hS : ruS s d = if ((!inB d.rule 11 14 && !d.term.none) || (!(d.rule == 15) && !same d.cut zal)) = true then ([], false)
  else if d.rule = 15 then ([zbg s (-1) [] (-1) [d.cut], zbg s (-1) [d.cut] (-1) []], d.main == 0 && d.cut.good)
  else if (inB d.rule 1 15 && zbp s d) = true then (if inB d.rule 11 14 = true then qS s d (zb3 s d) else ((zb6 s d.rule (zb3 s d)).1.map (ze0 s d), (zb6 s d.rule (zb3 s d)).2))
  else ([], false) := rfl
 by_cases hc : (inB d.rule 1 15 && same d.cut zal && (inB d.rule 11 14 == !d.term.none) && zbp s d) = true
 ·rw [if_pos hc, hq, if_neg (by simp)] at hA
  simp only [Bool.and_eq_true] at hc
  obtain ⟨⟨⟨c1, c2⟩, _⟩, c4⟩ := hc
  rw [hS, hq, hn, c1, c2, c4, hA, if_neg (by simp), if_neg h15, if_pos (by rfl), if_neg (by simp)]
  rw [hA] at h
  rw [h]
 ·rw [if_neg hc] at hA
  rw [hA] at h
  cases h
theorem ru_st {s : Sq} (hs : s.good = true) (h0 : ¬ (zea s).1 = 0) : ruS s (stD s) = ((adR s (stD s)).1.map (ze0 s (stD s)), true) := by
 obtain ⟨⟨h1, h2⟩, had, _⟩ := qiq hs h0
 have hq : inB (stD s).rule 11 14 = false := by
  show inB (zea s).1 11 14 = false
  unfold inB; simp only [Bool.and_eq_false_iff, decide_eq_false_iff_not]; omega
 exact ru_ad (show ¬ (zea s).1 = 15 by omega) hq rfl had
theorem zke (s : Sq) (hs : s.wt <= 1048576) (n : Nat) (hn : sqn s < n) : FC Tryz.prog 50 [sqD s] [sqD (if s.good = true then lfR n s else (⟨[], []⟩, -1)).1, bD ((if s.good = true then lfR n s else (⟨[], []⟩, -1)).2 == 1), bD (decide (0 <= (if s.good = true then lfR n s else (⟨[], []⟩, -1)).2))] := by
 have HV := zfa s (by omega)
 have hq0 : sqC ⟨[], []⟩ = [.sl 5 [], .sl 5 []] := rfl
 cases hg : s.good
 ·rw [hg] at HV
  rw [if_neg (by simp)]
  simp only [sqD, zak s, hq0] at HV ⊢
  refine zah Tryz.call50 Tryz.func50 rfl (by kernel_rfl) (zat (by kernel_rfl)) ?_
  simp -implicitDefEqProofs only [go_sem, Tryz.results50]
  refine callF (HV) (by simp -implicitDefEqProofs only [go_sem]) ?_
  simp -implicitDefEqProofs only [go_sem]
 ·rw [hg] at HV
  rw [if_pos rfl]
  have HI := zls n s hg hn
  generalize lfR n s = A at HI ⊢
  obtain ⟨q, v⟩ := A
  simp only [sqD, zak s, zak q] at HV HI ⊢
  refine zah Tryz.call50 Tryz.func50 rfl (by kernel_rfl) (zat (by kernel_rfl)) ?_
  simp -implicitDefEqProofs only [go_sem, Tryz.results50]
  refine callF (HV) (by simp -implicitDefEqProofs only [go_sem]) ?_
  simp -implicitDefEqProofs only [go_sem]
  refine callF (HI) (by simp -implicitDefEqProofs only [go_sem]) ?_
  simp -implicitDefEqProofs only [go_sem]
set_option maxHeartbeats 4000000 in
theorem zol : ∀ (n : Nat) (s : Sq), s.good = true -> sqn s < n -> FC Tryz.prog 100 [sqD s] [sqD (lfR n s).1, iD (lfR n s).2]
 | 0, _, _, h => by omega
 | n + 1, s, hs, hn => by
  obtain ⟨l1, l2, g1, g2⟩ := zfe hs
  have HSt := zyq s (by omega) (by omega)
  by_cases h0 : (zea s).1 = 0
  ·rw [lfR_0 h0]
   have HN := zd8 s hs (-1) (-1) [] [] (fun _ h => by cases h) (fun _ h => by cases h) (Nat.zero_le _) (Nat.zero_le _)
   have hnx : zbg s (-1) [] (-1) [] = s := by
    unfold zbg
    rw [zjf s.left (by omega), zjf s.right (by omega), List.append_nil, List.append_nil]
   rw [hnx] at HN
   have hf0 : fmS [] = .sl 5 [] := rfl
   rw [h0] at HSt
   simp only [sqD, zak, qfj, hf0] at HSt HN ⊢
   refine zah Tryz.call100 Tryz.func100 rfl (by kernel_rfl) (zat (by kernel_rfl)) ?_
   simp -implicitDefEqProofs only [go_sem, Tryz.results100]
   refine callF (HSt) (by simp -implicitDefEqProofs only [go_sem]) ?_
   simp -implicitDefEqProofs only [go_sem]
   refine zaj (by simp -implicitDefEqProofs only [go_sem]) ?_
   simp -implicitDefEqProofs only [go_sem]
   refine zaj (by simp -implicitDefEqProofs only [go_sem]) ?_
   simp -implicitDefEqProofs only [go_sem]
   refine callF (HN) (by simp -implicitDefEqProofs only [go_sem]) ?_
   simp -implicitDefEqProofs only [go_sem]
  ·rw [lfR_s h0]
   obtain ⟨⟨hr1, hr2⟩, had, hlt2⟩ := qiq hs h0
   have h0b : ((zea s).1 == 0) = false := by rw [beq_eq_false_iff_ne]; exact h0
   have HR := zxn s hs (stD s) (by rw [qg5]; omega)
   have hsm := zsx s hs (stD s)
   have hlen := qhi s (stD s)
   rw [ru_st hs h0] at HR
   generalize (adR s (stD s)).1 = L at HR hsm hlen hlt2 ⊢
   have hq0 : sqC ⟨[], []⟩ = [.sl 5 [], .sl 5 []] := rfl
   have hgE : ∀ x ∈ L.map (ze0 s (stD s)), x.wt <= 1000000 /\ sqn x < n := fun x hx => by
    obtain ⟨y, hy, rfl⟩ := List.mem_map.1 hx
    have h1 := zoj hs (stD s) (hsm y hy)
    have h2 := hlt2 y hy
    refine ⟨by rw [Sq.wt_eq]; omega, by omega⟩
   have hEl : (L.map (ze0 s (stD s))).length <= 2 := by rw [List.length_map]; exact hlen
   generalize L.map (ze0 s (stD s)) = E at HR hgE hEl ⊢
   simp only [sqD, zak s, dvD, zn2, qfj] at HSt HR
   simp only [sqD, zak s]
   refine zah Tryz.call100 Tryz.func100 rfl (by kernel_rfl) (zat (by kernel_rfl)) ?_
   simp -implicitDefEqProofs only [go_sem, Tryz.results100]
   refine callF (HSt) (by simp -implicitDefEqProofs only [go_sem, h0b]) ?_
   simp -implicitDefEqProofs only [go_sem, h0b]
   refine callF (HR) (by simp -implicitDefEqProofs only [go_sem]) ?_
   simp -implicitDefEqProofs only [go_sem]
   refine zaf (fun k : Nat => hd [(2, .one (.bx 2 0)), (5, .one (.ow 704 0)), (6, vB true), (7, vI k)] [(2, [.nl 5, .nl 5])] [(704, ⟨true, 2, E.map sqC, 0, true⟩)]) (fun k => k <= E.length /\ lfL (lfR n) E = lfL (lfR n) (E.drop k)) (fun k => E.length - k) 0 (zac ?_) ⟨Nat.zero_le _, rfl⟩ ?_
   ·simp -implicitDefEqProofs only [go_sem]
   ·rintro k ⟨hk, hE⟩
    by_cases hlt : k < E.length
    ·obtain ⟨x1, x2⟩ := hgE _ (List.getElem_mem hlt)
     have HV := zpo E[k] (by omega)
     have HI := zol n E[k]
     rw [List.drop_eq_getElem_cons hlt] at hE
     simp only [sqD, zak E[k]] at HV HI
     cases hgk : E[k].good
     ·rw [hgk] at HV
      rw [hE, zyw hgk, hq0]
      simp -implicitDefEqProofs only [go_sem, hlt, zad, zak E[k]]
      refine callF (HV) (by simp -implicitDefEqProofs only [go_sem]) ?_
      simp -implicitDefEqProofs only [go_sem]
     ·rw [hgk] at HV
      have HI := HI hgk x2
      have hgo := qgt (g := lfR n) (qs := E.drop (k + 1)) hgk
      have hhit := zyk (g := lfR n) (qs := E.drop (k + 1)) hgk
      rw [<- hE] at hgo hhit
      have hv := zqa n E[k]
      generalize lfR n E[k] = A at HI hgo hhit hv
      obtain ⟨q, v⟩ := A
      simp only at HI hgo hhit hv
      simp only [zak q] at HI
      rcases hv with rfl | rfl | rfl
      ·rw [hhit (by decide), zak q]
       simp -implicitDefEqProofs only [go_sem, hlt, zad, zak E[k]]
       refine callF (HV) (by simp -implicitDefEqProofs only [go_sem, hlt, zad, zak E[k]]) ?_
       simp -implicitDefEqProofs only [go_sem, hlt, zad, zak E[k]]
       refine callF (HI) (by simp -implicitDefEqProofs only [go_sem]) ?_
       simp -implicitDefEqProofs only [go_sem]
      ·simp -implicitDefEqProofs only [go_sem, hlt, zad, zak E[k]]
       refine callF (HV) (by simp -implicitDefEqProofs only [go_sem, hlt, zad, zak E[k]]) ?_
       simp -implicitDefEqProofs only [go_sem, hlt, zad, zak E[k]]
       refine callF (HI) (by simp -implicitDefEqProofs only [go_sem]) ?_
       simp -implicitDefEqProofs only [go_sem]
       refine ⟨k + 1, ⟨hlt, hgo rfl⟩, by omega, zac ?_⟩
       simp -implicitDefEqProofs only [go_sem]
       rw [zav (by omega)]
      ·rw [hhit (by decide), zak q]
       simp -implicitDefEqProofs only [go_sem, hlt, zad, zak E[k]]
       refine callF (HV) (by simp -implicitDefEqProofs only [go_sem, hlt, zad, zak E[k]]) ?_
       simp -implicitDefEqProofs only [go_sem, hlt, zad, zak E[k]]
       refine callF (HI) (by simp -implicitDefEqProofs only [go_sem]) ?_
       simp -implicitDefEqProofs only [go_sem]
    ·have htk : E.drop k = [] := List.drop_of_length_le (by omega)
     rw [hE, htk, show lfL (lfR n) [] = (⟨[], []⟩, 0) from rfl, hq0]
     simp -implicitDefEqProofs only [go_sem, hlt]
theorem zkh (s : Sq) (hs : s.wt <= 1048576) (n : Nat) (hn : sqn s < n) : FC Tryz.prog 49 [sqD s] [sqD (if s.good = true then lfR n s else (⟨[], []⟩, -1)).1, bD ((if s.good = true then lfR n s else (⟨[], []⟩, -1)).2 == 1), bD (decide (0 <= (if s.good = true then lfR n s else (⟨[], []⟩, -1)).2))] := by
 have HV := zpo s (by omega)
 have hq0 : sqC ⟨[], []⟩ = [.sl 5 [], .sl 5 []] := rfl
 cases hg : s.good
 ·rw [hg] at HV
  rw [if_neg (by simp)]
  simp only [sqD, zak s, hq0] at HV ⊢
  refine zah Tryz.call49 Tryz.func49 rfl (by kernel_rfl) (zat (by kernel_rfl)) ?_
  simp -implicitDefEqProofs only [go_sem, Tryz.results49]
  refine callF (HV) (by simp -implicitDefEqProofs only [go_sem]) ?_
  simp -implicitDefEqProofs only [go_sem]
 ·rw [hg] at HV
  rw [if_pos rfl]
  have HI := zol n s hg hn
  generalize lfR n s = A at HI ⊢
  obtain ⟨q, v⟩ := A
  simp only [sqD, zak s, zak q] at HV HI ⊢
  refine zah Tryz.call49 Tryz.func49 rfl (by kernel_rfl) (zat (by kernel_rfl)) ?_
  simp -implicitDefEqProofs only [go_sem, Tryz.results49]
  refine callF (HV) (by simp -implicitDefEqProofs only [go_sem]) ?_
  simp -implicitDefEqProofs only [go_sem]
  refine callF (HI) (by simp -implicitDefEqProofs only [go_sem]) ?_
  simp -implicitDefEqProofs only [go_sem]
end Go.Proofs.YtemnhgmgeijkcaaGreat
namespace Go.Proofs.YtemnhgmgeijkcaaGreat
set_option linter.unusedSimpArgs false
set_option linter.unusedVariables false
set_option linter.unusedSectionVars false
set_option maxRecDepth 4000
open Go.RowKit
theorem zi2 (s : Sq) (k : Nat) : sqC (zbc s k).1 = [.sl 5 ((zbc s k).1.left.map fmC), .sl 5 ((zbc s k).1.right.map fmC)] := rfl
theorem zhf (a : Sq) : zcz a <= 4 * a.wt := by
 obtain ⟨l, g⟩ := a
 have h1 := zjg l
 have h2 := zjg g
 rw [Sq.wt_eq, zcz]
 simp only
 omega
end Go.Proofs.YtemnhgmgeijkcaaGreat
namespace Go.Proofs.YtemnhgmgeijkcaaGreat
set_option linter.unusedSimpArgs false
set_option linter.unusedVariables false
set_option linter.unusedSectionVars false
set_option maxRecDepth 4000
open Go.RowKit
theorem zvn {s : Sq} (h : s.good = true) : s.wt <= 1000000 := by
 obtain ⟨l1, l2, g1, g2⟩ := zfe h
 have h1 := zjc l1 g1
 have h2 := zjc l2 g2
 rw [Sq.wt_eq]; omega
theorem zht : Sq.wt ⟨[], []⟩ <= 1000000 := by
 rw [Sq.wt_eq]
 show zb7 [] + zb7 [] + _ <= 1000000
 rw [zha]; omega
theorem qf5 {g : Sq -> Sq × Int} (h : ∀ q, q.good = true -> (g q).1.wt <= 1000000) : ∀ qs, (lfL g qs).1.wt <= 1000000
 | [] => zht
 | q :: qs => by
  unfold lfL
  split
  ·rename_i hg
   split
   ·exact qf5 h qs
   ·exact h q hg
  ·exact zht
theorem qg4 : ∀ (n : Nat) (s : Sq), s.good = true -> (lfR n s).1.wt <= 1000000
 | 0, _, _ => zht
 | n + 1, s, hg => by
  unfold lfR
  split
  ·exact zvn hg
  ·exact qf5 (qg4 n) _
noncomputable def olR (s : Sq) : Sq × Int := if s.good = true then lfR (sqn s + 1) s else (⟨[], []⟩, -1)
theorem olR_wt (s : Sq) : (olR s).1.wt <= 1000000 := by
 unfold olR
 split
 ·rename_i h
  exact qg4 _ s h
 ·exact zht
theorem zm4 (a : Sq) (k : Nat) (h0 : 0 < k) (hk : k + zcz a <= 4611686018427387904) : FC Tryz.prog 51 [.agg (sqC (zbc a k).1), iD k] [iD (zbc a k).2] := by
 obtain ⟨l0, r0⟩ := a
 simp only [zcz] at hk
 have hc0 := zde l0 k
 have hc1 := zde r0 (zbk l0 k).2
 simp only [zak, zbc]
 refine zah Tryz.call51 Tryz.func51 rfl (by kernel_rfl) (zat (by kernel_rfl)) ?_
 simp -implicitDefEqProofs only [go_sem, Tryz.results51]
 refine callF (zgg l0 k (by omega) (by omega)) (by simp -implicitDefEqProofs only [go_sem]) ?_
 simp -implicitDefEqProofs only [go_sem]
 refine callF (zgg r0 (zbk l0 k).2 (by omega) (by omega)) (by simp -implicitDefEqProofs only [go_sem]) ?_
 simp -implicitDefEqProofs only [go_sem]
set_option maxHeartbeats 4000000 in
theorem qja (s : Sq) : FC Tryz.prog 10 [sqD s] [bD true] := by
 have HZ := zqk s 1048576 (by omega) (by omega)
 simp only [sqD, zak s] at HZ ⊢
 refine zgf Tryz.call10 Tryz.func10 rfl (by kernel_rfl) (zat (by kernel_rfl)) ?_
 simp -implicitDefEqProofs only [go_sem, Tryz.results10]
 refine callF (HZ) (by simp -implicitDefEqProofs only [go_sem]) ?_
 simp -implicitDefEqProofs only [go_sem]
 refine ⟨fun h => trivial, fun h => ?_⟩
 have hw : s.wt <= 1048576 := by have := (zfp (show ¬ szR s.wt 1048576 < 0 by simpa using h)).1; omega
 have HS := zkh s hw (sqn s + 1) (by omega)
 have HI := zke s hw (sqn s + 1) (by omega)
 have HT := zqb s hw
 have HE := zj8 s s
 have hrw := olR_wt s
 have hol : (if s.good = true then lfR (sqn s + 1) s else (⟨[], []⟩, -1)) = olR s := rfl
 rw [hol] at HS HI
 generalize olR s = A at HS HI hrw
 obtain ⟨R, v⟩ := A
 simp only at HS HI hrw
 generalize (v == 1) = b1 at HS HI
 generalize decide (0 <= v) = b2 at HS HI
 have HF := zj8 R R
 simp only [sqD, zak s, zak R] at HS HI HT HE HF
 refine callF (HT) (by simp -implicitDefEqProofs only [go_sem]) ?_
 simp -implicitDefEqProofs only [go_sem]
 refine callF (HS) (by simp -implicitDefEqProofs only [go_sem]) ?_
 simp -implicitDefEqProofs only [go_sem]
 refine callF (HT) (by simp -implicitDefEqProofs only [go_sem]) ?_
 simp -implicitDefEqProofs only [go_sem]
 refine callF (HI) (by simp -implicitDefEqProofs only [go_sem]) ?_
 simp -implicitDefEqProofs only [go_sem]
 refine callF (HF) (by simp -implicitDefEqProofs only [go_sem, zbn, beq_self_eq_true, Bool.not_true]) ?_
 simp -implicitDefEqProofs only [go_sem, zbn, beq_self_eq_true, Bool.not_true]
 refine drawn (by kernel_rfl) ?_
 simp -implicitDefEqProofs only [go_sem]
 refine zan (HT) (by simp -implicitDefEqProofs only [go_sem]) ?_
 simp -implicitDefEqProofs only [go_sem]
 refine zan (HE) (by simp -implicitDefEqProofs only [go_sem]) ?_
 simp -implicitDefEqProofs only [go_sem]
 refine ⟨by kernel_rfl, fun h => ?_, fun _ => ?_⟩
 ·simp [zbn] at h
 have hc := zhf s
 have hcR := zhf R
 have HM := zhm s 1 (by omega) (by omega)
 have hm := zg5 s 1
 have HM2 := zhm R 1 (by omega) (by omega)
 have HL := zm4 R 1 (by omega) (by omega)
 have hmR := (zg5 R 1).1
 rw [zi2] at HM HM2 HL
 generalize (zbc s 1).2 = k1 at HM hm
 generalize (zbc s 1).1.left = f1 at HM
 generalize (zbc s 1).1.right = f2 at HM
 generalize (zbc R 1).2 = k2 at HM2 HL hmR
 generalize (zbc R 1).1.left = r1 at HM2 HL
 generalize (zbc R 1).1.right = r2 at HM2 HL
 simp only [zak s, zak R] at HM HM2
 refine zzq [1, 4, 5, 6, 7, 8, 9, 10, 56, 57] (HM) (by simp -implicitDefEqProofs only [go_sem]) (by simp -implicitDefEqProofs only [go_sem]) (by simp -implicitDefEqProofs only [go_sem]) (by simp -implicitDefEqProofs only [go_sem]) (by simp -implicitDefEqProofs only [go_sem]) rfl ?_
 simp -implicitDefEqProofs only [go_sem]
 refine callF (HF) (by simp -implicitDefEqProofs only [go_sem, zbn, beq_self_eq_true, Bool.not_true]) ?_
 simp -implicitDefEqProofs only [go_sem, zbn, beq_self_eq_true, Bool.not_true]
 refine zzq [1, 4, 5, 6, 8, 9, 10, 77, 78] (HM2) (by simp -implicitDefEqProofs only [go_sem]) (by simp -implicitDefEqProofs only [go_sem]) (by simp -implicitDefEqProofs only [go_sem]) (by simp -implicitDefEqProofs only [go_sem]) (by simp -implicitDefEqProofs only [go_sem]) rfl ?_
 simp -implicitDefEqProofs only [go_sem]
 refine callF (HL) (by simp -implicitDefEqProofs only [go_sem]) ?_
 simp -implicitDefEqProofs only [go_sem]
 refine ⟨fun h => by simp at h, fun _ => ?_⟩
 refine callF (HT) (by simp -implicitDefEqProofs only [go_sem]) ?_
 simp -implicitDefEqProofs only [go_sem]
 refine callF (HI) (by simp -implicitDefEqProofs only [go_sem]) ?_
 simp -implicitDefEqProofs only [go_sem]
 refine callF (HF) (by simp -implicitDefEqProofs only [go_sem, zbn, beq_self_eq_true, Bool.not_true]) ?_
 simp -implicitDefEqProofs only [go_sem, zbn, beq_self_eq_true, Bool.not_true]
 refine callF (HL) (by simp -implicitDefEqProofs only [go_sem]) ?_
 simp -implicitDefEqProofs only [go_sem]
 refine ⟨fun h => by simp at h, fun _ => trivial⟩
end Go.Proofs.YtemnhgmgeijkcaaGreat
