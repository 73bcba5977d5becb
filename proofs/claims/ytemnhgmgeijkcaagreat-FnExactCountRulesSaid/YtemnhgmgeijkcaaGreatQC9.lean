/-
  The walk over plain data, and contracts of functions of the program and of its laws.
  Conditions: those that each theorem names.
-/
import Derived.Test.YtemnhgmgeijkcaaGreatQC8
import Derived.Test.YtemnhgmgeijkcaaGreatQC5
import Derived.Test.YtemnhgmgeijkcaaGreatQC7
import Derived.Test.YtemnhgmgeijkcaaGreatQC6
namespace Go.Proofs.YtemnhgmgeijkcaaGreat
set_option linter.unusedSimpArgs false
set_option linter.unusedVariables false
set_option linter.unusedSectionVars false
set_option maxRecDepth 4000
open Go.RowKit
theorem bft : (false == true) = false := rfl
theorem btf : (true == false) = false := rfl
theorem btt : (true == true) = true := rfl
theorem bff : (false == false) = true := rfl
set_option maxHeartbeats 2000000 in
theorem zns (s sq : Sq) (m : Int) (t : Tm) (c : Fm) (ps : List Dv) (hc : c.wt <= 1048576) : RC Tryz.prog 141 [sqD s, dvD (.mk 15 sq m t c ps)] [.one (sqS (if (m == 0 && t.none && c.good) = true then [⟨[], [c]⟩, ⟨[c], []⟩] else [])), bD (m == 0 && t.none && c.good)] := by
 have HZ := za4 t
 have HV := zcf c (by omega)
 simp only [sqD, zah, dvD, zbo, tmD, zab t, fmD, zaa c] at HZ HV ⊢
 generalize t.none = tn at HZ ⊢
 generalize c.good = cg at HV ⊢
 cases hm : (m == 0)
 ·have hne : (m != 0) = true := by unfold bne; rw [hm]; rfl
  rw [if_neg (by simp)]
  refine zbf Tryz.call141 Tryz.func141 rfl (by kernel_rfl) (zau (by kernel_rfl)) ?_
  simp -implicitDefEqProofs only [go_sem, Tryz.results141, hne]
 ·have hne : (m != 0) = false := by unfold bne; rw [hm]; rfl
  cases tn
  ·rw [if_neg (by simp)]
   refine zbf Tryz.call141 Tryz.func141 rfl (by kernel_rfl) (zau (by kernel_rfl)) ?_
   simp -implicitDefEqProofs only [go_sem, Tryz.results141, hne]
   refine callF (HZ) (by simp -implicitDefEqProofs only [go_sem]) ?_
   simp -implicitDefEqProofs only [go_sem]
  ·cases cg
   ·rw [if_neg (by simp)]
    refine zbf Tryz.call141 Tryz.func141 rfl (by kernel_rfl) (zau (by kernel_rfl)) ?_
    simp -implicitDefEqProofs only [go_sem, Tryz.results141, hne]
    refine callF (HZ) (by simp -implicitDefEqProofs only [go_sem]) ?_
    simp -implicitDefEqProofs only [go_sem]
    refine callF (HV) (by simp -implicitDefEqProofs only [go_sem]) ?_
    simp -implicitDefEqProofs only [go_sem]
   ·show RC _ _ _ [.one (.sl 2 [[.sl 5 [], .sl 5 [fmC c]], [.sl 5 [fmC c], .sl 5 []]]), bD true]
    rw [zaa c]
    refine zbf Tryz.call141 Tryz.func141 rfl (by kernel_rfl) (zau (by kernel_rfl)) ?_
    simp -implicitDefEqProofs only [go_sem, Tryz.results141, hne]
    refine callF (HZ) (by simp -implicitDefEqProofs only [go_sem]) ?_
    simp -implicitDefEqProofs only [go_sem]
    refine callF (HV) (by simp -implicitDefEqProofs only [go_sem]) ?_
    simp -implicitDefEqProofs only [go_sem]
    refine zcq (by simp -implicitDefEqProofs only [go_sem]) ?_
    simp -implicitDefEqProofs only [go_sem]
    refine frzS 928 rfl rfl ?_
    simp -implicitDefEqProofs only [go_sem]
    refine zcq (by simp -implicitDefEqProofs only [go_sem]) ?_
    simp -implicitDefEqProofs only [go_sem]
    refine frzS 1056 rfl rfl ?_
    simp -implicitDefEqProofs only [go_sem]
    refine zcq (by simp -implicitDefEqProofs only [go_sem]) ?_
    simp -implicitDefEqProofs only [go_sem]
set_option maxHeartbeats 2000000 in
theorem zqb (s sq : Sq) (r m : Int) (t : Tm) (c : Fm) (ps : List Dv) (h15 : (r == 15) = false) (hno : (inB r 1 15 && same c zao && (inB r 11 14 == !t.none)) = false) : RC Tryz.prog 141 [sqD s, dvD (.mk r sq m t c ps)] [.one (sqS []), bD false] := by
 have HW := zb3 r 1 15
 have HSF := za9 c zao
 have HQ := za3 r
 have HZ := za4 t
 have hz : fmD zao = .agg [.int .i64 0, .str [], .sl 2 [], .str [], .sl 5 []] := rfl
 rw [hz] at HSF
 simp only [sqD, zah, dvD, zbo, tmD, zab t, fmD, zaa c] at HZ HSF ⊢
 show RC _ _ _ [.one (.sl 2 []), _]
 generalize t.none = tn at HZ hno
 generalize same c zao = sc at HSF hno
 generalize inB r 1 15 = bi at HW hno
 generalize inB r 11 14 = bq at HQ hno
 cases bi
 ·refine zbf Tryz.call141 Tryz.func141 rfl (by kernel_rfl) (zau (by kernel_rfl)) ?_
  simp -implicitDefEqProofs only [go_sem, Tryz.results141, h15]
  refine drawn (by kernel_rfl) ?_
  simp -implicitDefEqProofs only [go_sem]
  refine zan (HW) (by simp -implicitDefEqProofs only [go_sem]) ?_
  simp -implicitDefEqProofs only [go_sem]
  kernel_rfl
 ·cases sc
  ·refine zbf Tryz.call141 Tryz.func141 rfl (by kernel_rfl) (zau (by kernel_rfl)) ?_
   simp -implicitDefEqProofs only [go_sem, Tryz.results141, h15]
   refine drawn (by kernel_rfl) ?_
   simp -implicitDefEqProofs only [go_sem]
   refine zan (HW) (by simp -implicitDefEqProofs only [go_sem]) ?_
   simp -implicitDefEqProofs only [go_sem]
   refine za6 (HSF) (by simp -implicitDefEqProofs only [go_sem]) ?_
   simp -implicitDefEqProofs only [go_sem]
   kernel_rfl
  ·cases bq <;> cases tn
   ·refine zbf Tryz.call141 Tryz.func141 rfl (by kernel_rfl) (zau (by kernel_rfl)) ?_
    simp -implicitDefEqProofs only [go_sem, Tryz.results141, h15]
    refine drawn (by kernel_rfl) ?_
    simp -implicitDefEqProofs only [go_sem]
    refine zan (HW) (by simp -implicitDefEqProofs only [go_sem]) ?_
    simp -implicitDefEqProofs only [go_sem]
    refine za6 (HSF) (by simp -implicitDefEqProofs only [go_sem]) ?_
    simp -implicitDefEqProofs only [go_sem]
    refine za6 (HQ) (by simp -implicitDefEqProofs only [go_sem]) ?_
    simp -implicitDefEqProofs only [go_sem]
    refine za6 (HZ) (by simp -implicitDefEqProofs only [go_sem, bft, btf, btt, bff, Bool.not_false, Bool.not_true]) ?_
    simp -implicitDefEqProofs only [go_sem, bft, btf, btt, bff, Bool.not_false, Bool.not_true]
    kernel_rfl
   ·cases hno
   ·cases hno
   ·refine zbf Tryz.call141 Tryz.func141 rfl (by kernel_rfl) (zau (by kernel_rfl)) ?_
    simp -implicitDefEqProofs only [go_sem, Tryz.results141, h15]
    refine drawn (by kernel_rfl) ?_
    simp -implicitDefEqProofs only [go_sem]
    refine zan (HW) (by simp -implicitDefEqProofs only [go_sem]) ?_
    simp -implicitDefEqProofs only [go_sem]
    refine za6 (HSF) (by simp -implicitDefEqProofs only [go_sem]) ?_
    simp -implicitDefEqProofs only [go_sem]
    refine za6 (HQ) (by simp -implicitDefEqProofs only [go_sem]) ?_
    simp -implicitDefEqProofs only [go_sem]
    refine za6 (HZ) (by simp -implicitDefEqProofs only [go_sem, bft, btf, btt, bff, Bool.not_false, Bool.not_true]) ?_
    simp -implicitDefEqProofs only [go_sem, bft, btf, btt, bff, Bool.not_false, Bool.not_true]
    kernel_rfl
set_option maxHeartbeats 2000000 in
theorem zl5 (s sq : Sq) (r m : Int) (t : Tm) (c : Fm) (ps : List Dv) (h15 : (r == 15) = false) (hin : inB r 1 15 = true) (hc : same c zao = true) (hqn : inB r 11 14 = !t.none) (hl : s.left.length <= 1048576) (hr : s.right.length <= 1048576) (hm : zbn s (.mk r sq m t c ps) = false) : RC Tryz.prog 141 [sqD s, dvD (.mk r sq m t c ps)] [.one (sqS []), bD false] := by
 have HW := zb3 r 1 15
 have HSF := za9 c zao
 have HQ := za3 r
 have HZ := za4 t
 have hz : fmD zao = .agg [.int .i64 0, .str [], .sl 2 [], .str [], .sl 5 []] := rfl
 rw [hz] at HSF
 rw [hin] at HW
 rw [hc] at HSF
 have HMF := zbj s (.mk r sq m t c ps) (by unfold inB at hin; simp only [Bool.and_eq_true, decide_eq_true_eq] at hin; have h14 : r ≠ 15 := (by simpa using h15); simp only [Dv.rule]; omega) hl hr
 rw [hm, if_neg (by simp), hz] at HMF
 rw [hqn] at HQ
 simp only [sqD, zah, dvD, zbo, tmD, zab t, fmD, zaa c] at HZ HSF HMF ⊢
 show RC _ _ _ [.one (.sl 2 []), _]
 generalize t.none = tn at HZ HQ
 cases tn
 ·refine zbf Tryz.call141 Tryz.func141 rfl (by kernel_rfl) (zau (by kernel_rfl)) ?_
  simp -implicitDefEqProofs only [go_sem, Tryz.results141, h15]
  refine drawn (by kernel_rfl) ?_
  simp -implicitDefEqProofs only [go_sem]
  refine zan (HW) (by simp -implicitDefEqProofs only [go_sem]) ?_
  simp -implicitDefEqProofs only [go_sem]
  refine za6 (HSF) (by simp -implicitDefEqProofs only [go_sem]) ?_
  simp -implicitDefEqProofs only [go_sem]
  refine za6 (HQ) (by simp -implicitDefEqProofs only [go_sem]) ?_
  simp -implicitDefEqProofs only [go_sem]
  refine za6 (HZ) (by simp -implicitDefEqProofs only [go_sem, bft, btf, btt, bff, Bool.not_false, Bool.not_true]) ?_
  simp -implicitDefEqProofs only [go_sem, bft, btf, btt, bff, Bool.not_false, Bool.not_true]
  refine ⟨by kernel_rfl, ?_⟩
  refine callR (HMF) (by simp -implicitDefEqProofs only [go_sem]) ?_
  simp -implicitDefEqProofs only [go_sem]
 ·refine zbf Tryz.call141 Tryz.func141 rfl (by kernel_rfl) (zau (by kernel_rfl)) ?_
  simp -implicitDefEqProofs only [go_sem, Tryz.results141, h15]
  refine drawn (by kernel_rfl) ?_
  simp -implicitDefEqProofs only [go_sem]
  refine zan (HW) (by simp -implicitDefEqProofs only [go_sem]) ?_
  simp -implicitDefEqProofs only [go_sem]
  refine za6 (HSF) (by simp -implicitDefEqProofs only [go_sem]) ?_
  simp -implicitDefEqProofs only [go_sem]
  refine za6 (HQ) (by simp -implicitDefEqProofs only [go_sem]) ?_
  simp -implicitDefEqProofs only [go_sem]
  refine za6 (HZ) (by simp -implicitDefEqProofs only [go_sem, bft, btf, btt, bff, Bool.not_false, Bool.not_true]) ?_
  simp -implicitDefEqProofs only [go_sem, bft, btf, btt, bff, Bool.not_false, Bool.not_true]
  refine ⟨by kernel_rfl, ?_⟩
  refine callR (HMF) (by simp -implicitDefEqProofs only [go_sem]) ?_
  simp -implicitDefEqProofs only [go_sem]
set_option maxHeartbeats 2000000 in
theorem zsv (s sq : Sq) (r m : Int) (t : Tm) (c : Fm) (ps : List Dv) (hs : s.good = true) (ht : t.wt <= 1048576) (hn : t.none = false) (hc : same c zao = true) (hq : inB r 11 14 = true) (hl : s.left.length <= 1048576) (hr : s.right.length <= 1048576) (f : Fm) (hm : zbn s (.mk r sq m t c ps) = true) (hf : zb0 s (.mk r sq m t c ps) = f) (hg : f.good = true) (ho : f.op = 8 \/ f.op = 9) : RC Tryz.prog 141 [sqD s, dvD (.mk r sq m t c ps)] [.one (sqS (zhv s (.mk r sq m t c ps) f).1), bD (zhv s (.mk r sq m t c ps) f).2] := by
 have hr1 : 11 <= r /\ r <= 14 := by unfold inB at hq; simpa only [Bool.and_eq_true, decide_eq_true_eq] using hq
 have hin : inB r 1 15 = true := by unfold inB; simp only [Bool.and_eq_true, decide_eq_true_eq]; omega
 have h15 : (r == 15) = false := by rw [beq_eq_false_iff_ne]; omega
 have HW := zb3 r 1 15
 have HSF := za9 c zao
 have HQ := za3 r
 have HZ := za4 t
 have hz : fmD zao = .agg [.int .i64 0, .str [], .sl 2 [], .str [], .sl 5 []] := rfl
 rw [hz] at HSF
 rw [hin] at HW
 rw [hc] at HSF
 have HMF := zbj s (.mk r sq m t c ps) (by simp only [Dv.rule]; omega) hl hr
 rw [hm, if_pos rfl, hf] at HMF
 rw [hq] at HQ
 rw [hn] at HZ
 have HI := zl1 s hs (.mk r sq m t c ps) hq ht f hg ho
 generalize zhv s (.mk r sq m t c ps) f = B at HI ⊢
 obtain ⟨L, b⟩ := B
 simp only [sqD, zah, dvD, zbo, tmD, zab t, fmD, zaa c, zaa f] at HZ HSF HMF HI ⊢
 refine zbf Tryz.call141 Tryz.func141 rfl (by kernel_rfl) (zau (by kernel_rfl)) ?_
 simp -implicitDefEqProofs only [go_sem, Tryz.results141, h15]
 refine drawn (by kernel_rfl) ?_
 simp -implicitDefEqProofs only [go_sem]
 refine zan (HW) (by simp -implicitDefEqProofs only [go_sem]) ?_
 simp -implicitDefEqProofs only [go_sem]
 refine za6 (HSF) (by simp -implicitDefEqProofs only [go_sem]) ?_
 simp -implicitDefEqProofs only [go_sem]
 refine za6 (HQ) (by simp -implicitDefEqProofs only [go_sem]) ?_
 simp -implicitDefEqProofs only [go_sem]
 refine za6 (HZ) (by simp -implicitDefEqProofs only [go_sem, bft, btf, btt, bff, Bool.not_false, Bool.not_true]) ?_
 simp -implicitDefEqProofs only [go_sem, bft, btf, btt, bff, Bool.not_false, Bool.not_true]
 refine ⟨by kernel_rfl, ?_⟩
 refine callR (HMF) (by simp -implicitDefEqProofs only [go_sem]) ?_
 simp -implicitDefEqProofs only [go_sem]
 refine callF (HQ) (by simp -implicitDefEqProofs only [go_sem]) ?_
 simp -implicitDefEqProofs only [go_sem]
 refine callR (HI) (by simp -implicitDefEqProofs only [go_sem]) ?_
 simp -implicitDefEqProofs only [go_sem]
set_option maxHeartbeats 2000000 in
theorem zto (s sq : Sq) (m : Int) (t : Tm) (c : Fm) (ps : List Dv) (hn : t.none = true) (hc : same c zao = true) (hl : s.left.length <= 1048576) (hr : s.right.length <= 1048576) (f : Fm) (hm : zbn s (.mk 1 sq m t c ps) = true) (hf : zb0 s (.mk 1 sq m t c ps) = f) : RC Tryz.prog 141 [sqD s, dvD (.mk 1 sq m t c ps)] [.one (sqS []), bD (f.op == 2 || s.right.any fun g => same f g)] := by
 have HW : FC Tryz.prog 204 [iD 1, iD 1, iD 15] [bD true] := zb3 1 1 15
 have HSF := za9 c zao
 have HQ : FC Tryz.prog 206 [iD 1] [bD false] := za3 1
 have HZ := za4 t
 have hz : fmD zao = .agg [.int .i64 0, .str [], .sl 2 [], .str [], .sl 5 []] := rfl
 rw [hz] at HSF
 rw [hc] at HSF
 rw [hn] at HZ
 have HMF := zbj s (.mk 1 sq m t c ps) (by simp only [Dv.rule]; omega) hl hr
 rw [hm, if_pos rfl, hf] at HMF
 have HC := zaz s.right (same f) 210 [.ptr (fmC f)] fun g _ => qkl f g
 have hq : List.map sqC [] = [] := rfl
 rw [sqS, hq]
 simp only [sqD, zah, dvD, zbo, tmD, zab t, fmD, zaa c, zaa f, List.map_cons, List.map_nil] at HZ HSF HMF HC ⊢
 cases hop : (f.op == 2)
 ·rw [Bool.false_or]
  generalize (s.right.any fun g => same f g) = b at HC ⊢
  refine zbf Tryz.call141 Tryz.func141 rfl (by kernel_rfl) (zau (by kernel_rfl)) ?_
  simp -implicitDefEqProofs only [go_sem, Tryz.results141]
  refine drawn (by kernel_rfl) ?_
  simp -implicitDefEqProofs only [go_sem]
  refine zan (HW) (by simp -implicitDefEqProofs only [go_sem]) ?_
  simp -implicitDefEqProofs only [go_sem]
  refine za6 (HSF) (by simp -implicitDefEqProofs only [go_sem]) ?_
  simp -implicitDefEqProofs only [go_sem]
  refine za6 (HQ) (by simp -implicitDefEqProofs only [go_sem]) ?_
  simp -implicitDefEqProofs only [go_sem]
  refine za6 (HZ) (by simp -implicitDefEqProofs only [go_sem, bft, btf, btt, bff, Bool.not_false, Bool.not_true]) ?_
  simp -implicitDefEqProofs only [go_sem, bft, btf, btt, bff, Bool.not_false, Bool.not_true]
  refine ⟨by kernel_rfl, ?_⟩
  refine callR (HMF) (by simp -implicitDefEqProofs only [go_sem]) ?_
  simp -implicitDefEqProofs only [go_sem]
  refine callF (HQ) (by simp -implicitDefEqProofs only [go_sem]) ?_
  simp -implicitDefEqProofs only [go_sem]
  simp -implicitDefEqProofs only [go_sem, hop]
  refine callF (HC) (by simp -implicitDefEqProofs only [go_sem]) ?_
  simp -implicitDefEqProofs only [go_sem]
 ·rw [Bool.true_or]
  refine zbf Tryz.call141 Tryz.func141 rfl (by kernel_rfl) (zau (by kernel_rfl)) ?_
  simp -implicitDefEqProofs only [go_sem, Tryz.results141]
  refine drawn (by kernel_rfl) ?_
  simp -implicitDefEqProofs only [go_sem]
  refine zan (HW) (by simp -implicitDefEqProofs only [go_sem]) ?_
  simp -implicitDefEqProofs only [go_sem]
  refine za6 (HSF) (by simp -implicitDefEqProofs only [go_sem]) ?_
  simp -implicitDefEqProofs only [go_sem]
  refine za6 (HQ) (by simp -implicitDefEqProofs only [go_sem]) ?_
  simp -implicitDefEqProofs only [go_sem]
  refine za6 (HZ) (by simp -implicitDefEqProofs only [go_sem, bft, btf, btt, bff, Bool.not_false, Bool.not_true]) ?_
  simp -implicitDefEqProofs only [go_sem, bft, btf, btt, bff, Bool.not_false, Bool.not_true]
  refine ⟨by kernel_rfl, ?_⟩
  refine callR (HMF) (by simp -implicitDefEqProofs only [go_sem]) ?_
  simp -implicitDefEqProofs only [go_sem]
  refine callF (HQ) (by simp -implicitDefEqProofs only [go_sem]) ?_
  simp -implicitDefEqProofs only [go_sem]
  simp -implicitDefEqProofs only [go_sem, hop]
set_option maxHeartbeats 2000000 in
theorem ztn (s sq : Sq) (m : Int) (t : Tm) (c : Fm) (ps : List Dv) (hn : t.none = true) (hc : same c zao = true) (hl : s.left.length <= 1048576) (hr : s.right.length <= 1048576) (f : Fm) (hm : zbn s (.mk 2 sq m t c ps) = true) (hf : zb0 s (.mk 2 sq m t c ps) = f) : RC Tryz.prog 141 [sqD s, dvD (.mk 2 sq m t c ps)] [.one (sqS []), bD true] := by
 have HW : FC Tryz.prog 204 [iD 2, iD 1, iD 15] [bD true] := zb3 2 1 15
 have HSF := za9 c zao
 have HQ : FC Tryz.prog 206 [iD 2] [bD false] := za3 2
 have HZ := za4 t
 have hz : fmD zao = .agg [.int .i64 0, .str [], .sl 2 [], .str [], .sl 5 []] := rfl
 rw [hz] at HSF
 rw [hc] at HSF
 rw [hn] at HZ
 have HMF := zbj s (.mk 2 sq m t c ps) (by simp only [Dv.rule]; omega) hl hr
 rw [hm, if_pos rfl, hf] at HMF
 have hq : List.map sqC [] = [] := rfl
 rw [sqS, hq]
 simp only [sqD, zah, dvD, zbo, tmD, zab t, fmD, zaa c, zaa f, List.map_cons, List.map_nil] at HZ HSF HMF ⊢
 refine zbf Tryz.call141 Tryz.func141 rfl (by kernel_rfl) (zau (by kernel_rfl)) ?_
 simp -implicitDefEqProofs only [go_sem, Tryz.results141]
 refine drawn (by kernel_rfl) ?_
 simp -implicitDefEqProofs only [go_sem]
 refine zan (HW) (by simp -implicitDefEqProofs only [go_sem]) ?_
 simp -implicitDefEqProofs only [go_sem]
 refine za6 (HSF) (by simp -implicitDefEqProofs only [go_sem]) ?_
 simp -implicitDefEqProofs only [go_sem]
 refine za6 (HQ) (by simp -implicitDefEqProofs only [go_sem]) ?_
 simp -implicitDefEqProofs only [go_sem]
 refine za6 (HZ) (by simp -implicitDefEqProofs only [go_sem, bft, btf, btt, bff, Bool.not_false, Bool.not_true]) ?_
 simp -implicitDefEqProofs only [go_sem, bft, btf, btt, bff, Bool.not_false, Bool.not_true]
 refine ⟨by kernel_rfl, ?_⟩
 refine callR (HMF) (by simp -implicitDefEqProofs only [go_sem]) ?_
 simp -implicitDefEqProofs only [go_sem]
 refine callF (HQ) (by simp -implicitDefEqProofs only [go_sem]) ?_
 simp -implicitDefEqProofs only [go_sem]
set_option maxHeartbeats 2000000 in
theorem zt1 (s sq : Sq) (m : Int) (t : Tm) (c : Fm) (ps : List Dv) (hn : t.none = true) (hc : same c zao = true) (hl : s.left.length <= 1048576) (hr : s.right.length <= 1048576) (f : Fm) (hm : zbn s (.mk 3 sq m t c ps) = true) (hf : zb0 s (.mk 3 sq m t c ps) = f) (hp : 0 < f.parts.length) : RC Tryz.prog 141 [sqD s, dvD (.mk 3 sq m t c ps)] [.one (sqS [⟨[], [f.parts.getD 0 zao]⟩]), bD true] := by
 have HW : FC Tryz.prog 204 [iD 3, iD 1, iD 15] [bD true] := zb3 3 1 15
 have HSF := za9 c zao
 have HQ : FC Tryz.prog 206 [iD 3] [bD false] := za3 3
 have HZ := za4 t
 have hz : fmD zao = .agg [.int .i64 0, .str [], .sl 2 [], .str [], .sl 5 []] := rfl
 rw [hz] at HSF
 rw [hc] at HSF
 rw [hn] at HZ
 have HMF := zbj s (.mk 3 sq m t c ps) (by simp only [Dv.rule]; omega) hl hr
 rw [hm, if_pos rfl, hf] at HMF
 have H0 : RC Tryz.prog 209 [iD 0, .one (.ptr (fmC f))] [.one (fmS [f.parts.getD 0 zao])] := zg4 f 0 (by omega)
 generalize f.parts.getD 0 zao = p0 at H0 ⊢
 have hq : List.map sqC [⟨[], [p0]⟩] = [[.sl 5 [], .sl 5 [fmC p0]]] := rfl
 rw [sqS, hq]
 simp only [sqD, zah, dvD, zbo, tmD, zab t, fmD, zaa c, zaa f, List.map_cons, List.map_nil] at HZ HSF HMF H0 ⊢
 refine zbf Tryz.call141 Tryz.func141 rfl (by kernel_rfl) (zau (by kernel_rfl)) ?_
 simp -implicitDefEqProofs only [go_sem, Tryz.results141]
 refine drawn (by kernel_rfl) ?_
 simp -implicitDefEqProofs only [go_sem]
 refine zan (HW) (by simp -implicitDefEqProofs only [go_sem]) ?_
 simp -implicitDefEqProofs only [go_sem]
 refine za6 (HSF) (by simp -implicitDefEqProofs only [go_sem]) ?_
 simp -implicitDefEqProofs only [go_sem]
 refine za6 (HQ) (by simp -implicitDefEqProofs only [go_sem]) ?_
 simp -implicitDefEqProofs only [go_sem]
 refine za6 (HZ) (by simp -implicitDefEqProofs only [go_sem, bft, btf, btt, bff, Bool.not_false, Bool.not_true]) ?_
 simp -implicitDefEqProofs only [go_sem, bft, btf, btt, bff, Bool.not_false, Bool.not_true]
 refine ⟨by kernel_rfl, ?_⟩
 refine callR (HMF) (by simp -implicitDefEqProofs only [go_sem]) ?_
 simp -implicitDefEqProofs only [go_sem]
 refine callF (HQ) (by simp -implicitDefEqProofs only [go_sem]) ?_
 simp -implicitDefEqProofs only [go_sem]
 refine frzX 6 rfl rfl ?_
 simp -implicitDefEqProofs only [go_sem]
 refine callR (H0) (by simp -implicitDefEqProofs only [go_sem]) ?_
 simp -implicitDefEqProofs only [go_sem]
 refine zcq (by simp -implicitDefEqProofs only [go_sem]) ?_
 simp -implicitDefEqProofs only [go_sem]
 rfl
set_option maxHeartbeats 2000000 in
theorem zsf (s sq : Sq) (m : Int) (t : Tm) (c : Fm) (ps : List Dv) (hn : t.none = true) (hc : same c zao = true) (hl : s.left.length <= 1048576) (hr : s.right.length <= 1048576) (f : Fm) (hm : zbn s (.mk 4 sq m t c ps) = true) (hf : zb0 s (.mk 4 sq m t c ps) = f) (hp : 0 < f.parts.length) : RC Tryz.prog 141 [sqD s, dvD (.mk 4 sq m t c ps)] [.one (sqS [⟨[f.parts.getD 0 zao], []⟩]), bD true] := by
 have HW : FC Tryz.prog 204 [iD 4, iD 1, iD 15] [bD true] := zb3 4 1 15
 have HSF := za9 c zao
 have HQ : FC Tryz.prog 206 [iD 4] [bD false] := za3 4
 have HZ := za4 t
 have hz : fmD zao = .agg [.int .i64 0, .str [], .sl 2 [], .str [], .sl 5 []] := rfl
 rw [hz] at HSF
 rw [hc] at HSF
 rw [hn] at HZ
 have HMF := zbj s (.mk 4 sq m t c ps) (by simp only [Dv.rule]; omega) hl hr
 rw [hm, if_pos rfl, hf] at HMF
 have H0 : RC Tryz.prog 209 [iD 0, .one (.ptr (fmC f))] [.one (fmS [f.parts.getD 0 zao])] := zg4 f 0 (by omega)
 generalize f.parts.getD 0 zao = p0 at H0 ⊢
 have hq : List.map sqC [⟨[p0], []⟩] = [[.sl 5 [fmC p0], .sl 5 []]] := rfl
 rw [sqS, hq]
 simp only [sqD, zah, dvD, zbo, tmD, zab t, fmD, zaa c, zaa f, List.map_cons, List.map_nil] at HZ HSF HMF H0 ⊢
 refine zbf Tryz.call141 Tryz.func141 rfl (by kernel_rfl) (zau (by kernel_rfl)) ?_
 simp -implicitDefEqProofs only [go_sem, Tryz.results141]
 refine drawn (by kernel_rfl) ?_
 simp -implicitDefEqProofs only [go_sem]
 refine zan (HW) (by simp -implicitDefEqProofs only [go_sem]) ?_
 simp -implicitDefEqProofs only [go_sem]
 refine za6 (HSF) (by simp -implicitDefEqProofs only [go_sem]) ?_
 simp -implicitDefEqProofs only [go_sem]
 refine za6 (HQ) (by simp -implicitDefEqProofs only [go_sem]) ?_
 simp -implicitDefEqProofs only [go_sem]
 refine za6 (HZ) (by simp -implicitDefEqProofs only [go_sem, bft, btf, btt, bff, Bool.not_false, Bool.not_true]) ?_
 simp -implicitDefEqProofs only [go_sem, bft, btf, btt, bff, Bool.not_false, Bool.not_true]
 refine ⟨by kernel_rfl, ?_⟩
 refine callR (HMF) (by simp -implicitDefEqProofs only [go_sem]) ?_
 simp -implicitDefEqProofs only [go_sem]
 refine callF (HQ) (by simp -implicitDefEqProofs only [go_sem]) ?_
 simp -implicitDefEqProofs only [go_sem]
 refine frzX 6 rfl rfl ?_
 simp -implicitDefEqProofs only [go_sem]
 refine callR (H0) (by simp -implicitDefEqProofs only [go_sem]) ?_
 simp -implicitDefEqProofs only [go_sem]
 refine zcq (by simp -implicitDefEqProofs only [go_sem]) ?_
 simp -implicitDefEqProofs only [go_sem]
 rfl
set_option maxHeartbeats 2000000 in
theorem ztt (s sq : Sq) (m : Int) (t : Tm) (c : Fm) (ps : List Dv) (hn : t.none = true) (hc : same c zao = true) (hl : s.left.length <= 1048576) (hr : s.right.length <= 1048576) (f : Fm) (hm : zbn s (.mk 5 sq m t c ps) = true) (hf : zb0 s (.mk 5 sq m t c ps) = f) : RC Tryz.prog 141 [sqD s, dvD (.mk 5 sq m t c ps)] [.one (sqS [⟨f.parts, []⟩]), bD true] := by
 have HW : FC Tryz.prog 204 [iD 5, iD 1, iD 15] [bD true] := zb3 5 1 15
 have HSF := za9 c zao
 have HQ : FC Tryz.prog 206 [iD 5] [bD false] := za3 5
 have HZ := za4 t
 have hz : fmD zao = .agg [.int .i64 0, .str [], .sl 2 [], .str [], .sl 5 []] := rfl
 rw [hz] at HSF
 rw [hc] at HSF
 rw [hn] at HZ
 have HMF := zbj s (.mk 5 sq m t c ps) (by simp only [Dv.rule]; omega) hl hr
 rw [hm, if_pos rfl, hf] at HMF
 have hq : List.map sqC [⟨f.parts, []⟩] = [[.sl 5 (f.parts.map fmC), .sl 5 []]] := rfl
 rw [sqS, hq]
 simp only [sqD, zah, dvD, zbo, tmD, zab t, fmD, zaa c, zaa f, List.map_cons, List.map_nil] at HZ HSF HMF ⊢
 refine zbf Tryz.call141 Tryz.func141 rfl (by kernel_rfl) (zau (by kernel_rfl)) ?_
 simp -implicitDefEqProofs only [go_sem, Tryz.results141]
 refine drawn (by kernel_rfl) ?_
 simp -implicitDefEqProofs only [go_sem]
 refine zan (HW) (by simp -implicitDefEqProofs only [go_sem]) ?_
 simp -implicitDefEqProofs only [go_sem]
 refine za6 (HSF) (by simp -implicitDefEqProofs only [go_sem]) ?_
 simp -implicitDefEqProofs only [go_sem]
 refine za6 (HQ) (by simp -implicitDefEqProofs only [go_sem]) ?_
 simp -implicitDefEqProofs only [go_sem]
 refine za6 (HZ) (by simp -implicitDefEqProofs only [go_sem, bft, btf, btt, bff, Bool.not_false, Bool.not_true]) ?_
 simp -implicitDefEqProofs only [go_sem, bft, btf, btt, bff, Bool.not_false, Bool.not_true]
 refine ⟨by kernel_rfl, ?_⟩
 refine callR (HMF) (by simp -implicitDefEqProofs only [go_sem]) ?_
 simp -implicitDefEqProofs only [go_sem]
 refine callF (HQ) (by simp -implicitDefEqProofs only [go_sem]) ?_
 simp -implicitDefEqProofs only [go_sem]
 refine zcq (by simp -implicitDefEqProofs only [go_sem]) ?_
 simp -implicitDefEqProofs only [go_sem]
set_option maxHeartbeats 2000000 in
theorem zsj (s sq : Sq) (m : Int) (t : Tm) (c : Fm) (ps : List Dv) (hn : t.none = true) (hc : same c zao = true) (hl : s.left.length <= 1048576) (hr : s.right.length <= 1048576) (f : Fm) (hm : zbn s (.mk 6 sq m t c ps) = true) (hf : zb0 s (.mk 6 sq m t c ps) = f) (hp : 1 < f.parts.length) : RC Tryz.prog 141 [sqD s, dvD (.mk 6 sq m t c ps)] [.one (sqS [⟨[], [f.parts.getD 0 zao]⟩, ⟨[], [f.parts.getD 1 zao]⟩]), bD true] := by
 have HW : FC Tryz.prog 204 [iD 6, iD 1, iD 15] [bD true] := zb3 6 1 15
 have HSF := za9 c zao
 have HQ : FC Tryz.prog 206 [iD 6] [bD false] := za3 6
 have HZ := za4 t
 have hz : fmD zao = .agg [.int .i64 0, .str [], .sl 2 [], .str [], .sl 5 []] := rfl
 rw [hz] at HSF
 rw [hc] at HSF
 rw [hn] at HZ
 have HMF := zbj s (.mk 6 sq m t c ps) (by simp only [Dv.rule]; omega) hl hr
 rw [hm, if_pos rfl, hf] at HMF
 have H0 : RC Tryz.prog 209 [iD 0, .one (.ptr (fmC f))] [.one (fmS [f.parts.getD 0 zao])] := zg4 f 0 (by omega)
 have H1 : RC Tryz.prog 209 [iD 1, .one (.ptr (fmC f))] [.one (fmS [f.parts.getD 1 zao])] := zg4 f 1 (by omega)
 generalize f.parts.getD 0 zao = p0 at H0 ⊢
 generalize f.parts.getD 1 zao = p1 at H1 ⊢
 have hq : List.map sqC [⟨[], [p0]⟩, ⟨[], [p1]⟩] = [[.sl 5 [], .sl 5 [fmC p0]], [.sl 5 [], .sl 5 [fmC p1]]] := rfl
 rw [sqS, hq]
 simp only [sqD, zah, dvD, zbo, tmD, zab t, fmD, zaa c, zaa f, List.map_cons, List.map_nil] at HZ HSF HMF H0 H1 ⊢
 refine zbf Tryz.call141 Tryz.func141 rfl (by kernel_rfl) (zau (by kernel_rfl)) ?_
 simp -implicitDefEqProofs only [go_sem, Tryz.results141]
 refine drawn (by kernel_rfl) ?_
 simp -implicitDefEqProofs only [go_sem]
 refine zan (HW) (by simp -implicitDefEqProofs only [go_sem]) ?_
 simp -implicitDefEqProofs only [go_sem]
 refine za6 (HSF) (by simp -implicitDefEqProofs only [go_sem]) ?_
 simp -implicitDefEqProofs only [go_sem]
 refine za6 (HQ) (by simp -implicitDefEqProofs only [go_sem]) ?_
 simp -implicitDefEqProofs only [go_sem]
 refine za6 (HZ) (by simp -implicitDefEqProofs only [go_sem, bft, btf, btt, bff, Bool.not_false, Bool.not_true]) ?_
 simp -implicitDefEqProofs only [go_sem, bft, btf, btt, bff, Bool.not_false, Bool.not_true]
 refine ⟨by kernel_rfl, ?_⟩
 refine callR (HMF) (by simp -implicitDefEqProofs only [go_sem]) ?_
 simp -implicitDefEqProofs only [go_sem]
 refine callF (HQ) (by simp -implicitDefEqProofs only [go_sem]) ?_
 simp -implicitDefEqProofs only [go_sem]
 refine frzX 6 rfl rfl ?_
 simp -implicitDefEqProofs only [go_sem]
 refine callR (H0) (by simp -implicitDefEqProofs only [go_sem]) ?_
 simp -implicitDefEqProofs only [go_sem]
 refine callR (H1) (by simp -implicitDefEqProofs only [go_sem]) ?_
 simp -implicitDefEqProofs only [go_sem]
 refine zcq (by simp -implicitDefEqProofs only [go_sem]) ?_
 simp -implicitDefEqProofs only [go_sem]
 rfl
set_option maxHeartbeats 2000000 in
theorem zsd (s sq : Sq) (m : Int) (t : Tm) (c : Fm) (ps : List Dv) (hn : t.none = true) (hc : same c zao = true) (hl : s.left.length <= 1048576) (hr : s.right.length <= 1048576) (f : Fm) (hm : zbn s (.mk 7 sq m t c ps) = true) (hf : zb0 s (.mk 7 sq m t c ps) = f) (hp : 1 < f.parts.length) : RC Tryz.prog 141 [sqD s, dvD (.mk 7 sq m t c ps)] [.one (sqS [⟨[f.parts.getD 0 zao], []⟩, ⟨[f.parts.getD 1 zao], []⟩]), bD true] := by
 have HW : FC Tryz.prog 204 [iD 7, iD 1, iD 15] [bD true] := zb3 7 1 15
 have HSF := za9 c zao
 have HQ : FC Tryz.prog 206 [iD 7] [bD false] := za3 7
 have HZ := za4 t
 have hz : fmD zao = .agg [.int .i64 0, .str [], .sl 2 [], .str [], .sl 5 []] := rfl
 rw [hz] at HSF
 rw [hc] at HSF
 rw [hn] at HZ
 have HMF := zbj s (.mk 7 sq m t c ps) (by simp only [Dv.rule]; omega) hl hr
 rw [hm, if_pos rfl, hf] at HMF
 have H0 : RC Tryz.prog 209 [iD 0, .one (.ptr (fmC f))] [.one (fmS [f.parts.getD 0 zao])] := zg4 f 0 (by omega)
 have H1 : RC Tryz.prog 209 [iD 1, .one (.ptr (fmC f))] [.one (fmS [f.parts.getD 1 zao])] := zg4 f 1 (by omega)
 generalize f.parts.getD 0 zao = p0 at H0 ⊢
 generalize f.parts.getD 1 zao = p1 at H1 ⊢
 have hq : List.map sqC [⟨[p0], []⟩, ⟨[p1], []⟩] = [[.sl 5 [fmC p0], .sl 5 []], [.sl 5 [fmC p1], .sl 5 []]] := rfl
 rw [sqS, hq]
 simp only [sqD, zah, dvD, zbo, tmD, zab t, fmD, zaa c, zaa f, List.map_cons, List.map_nil] at HZ HSF HMF H0 H1 ⊢
 refine zbf Tryz.call141 Tryz.func141 rfl (by kernel_rfl) (zau (by kernel_rfl)) ?_
 simp -implicitDefEqProofs only [go_sem, Tryz.results141]
 refine drawn (by kernel_rfl) ?_
 simp -implicitDefEqProofs only [go_sem]
 refine zan (HW) (by simp -implicitDefEqProofs only [go_sem]) ?_
 simp -implicitDefEqProofs only [go_sem]
 refine za6 (HSF) (by simp -implicitDefEqProofs only [go_sem]) ?_
 simp -implicitDefEqProofs only [go_sem]
 refine za6 (HQ) (by simp -implicitDefEqProofs only [go_sem]) ?_
 simp -implicitDefEqProofs only [go_sem]
 refine za6 (HZ) (by simp -implicitDefEqProofs only [go_sem, bft, btf, btt, bff, Bool.not_false, Bool.not_true]) ?_
 simp -implicitDefEqProofs only [go_sem, bft, btf, btt, bff, Bool.not_false, Bool.not_true]
 refine ⟨by kernel_rfl, ?_⟩
 refine callR (HMF) (by simp -implicitDefEqProofs only [go_sem]) ?_
 simp -implicitDefEqProofs only [go_sem]
 refine callF (HQ) (by simp -implicitDefEqProofs only [go_sem]) ?_
 simp -implicitDefEqProofs only [go_sem]
 refine frzX 6 rfl rfl ?_
 simp -implicitDefEqProofs only [go_sem]
 refine callR (H0) (by simp -implicitDefEqProofs only [go_sem]) ?_
 simp -implicitDefEqProofs only [go_sem]
 refine callR (H1) (by simp -implicitDefEqProofs only [go_sem]) ?_
 simp -implicitDefEqProofs only [go_sem]
 refine zcq (by simp -implicitDefEqProofs only [go_sem]) ?_
 simp -implicitDefEqProofs only [go_sem]
 rfl
set_option maxHeartbeats 2000000 in
theorem zsh (s sq : Sq) (m : Int) (t : Tm) (c : Fm) (ps : List Dv) (hn : t.none = true) (hc : same c zao = true) (hl : s.left.length <= 1048576) (hr : s.right.length <= 1048576) (f : Fm) (hm : zbn s (.mk 8 sq m t c ps) = true) (hf : zb0 s (.mk 8 sq m t c ps) = f) : RC Tryz.prog 141 [sqD s, dvD (.mk 8 sq m t c ps)] [.one (sqS [⟨[], f.parts⟩]), bD true] := by
 have HW : FC Tryz.prog 204 [iD 8, iD 1, iD 15] [bD true] := zb3 8 1 15
 have HSF := za9 c zao
 have HQ : FC Tryz.prog 206 [iD 8] [bD false] := za3 8
 have HZ := za4 t
 have hz : fmD zao = .agg [.int .i64 0, .str [], .sl 2 [], .str [], .sl 5 []] := rfl
 rw [hz] at HSF
 rw [hc] at HSF
 rw [hn] at HZ
 have HMF := zbj s (.mk 8 sq m t c ps) (by simp only [Dv.rule]; omega) hl hr
 rw [hm, if_pos rfl, hf] at HMF
 have hq : List.map sqC [⟨[], f.parts⟩] = [[.sl 5 [], .sl 5 (f.parts.map fmC)]] := rfl
 rw [sqS, hq]
 simp only [sqD, zah, dvD, zbo, tmD, zab t, fmD, zaa c, zaa f, List.map_cons, List.map_nil] at HZ HSF HMF ⊢
 refine zbf Tryz.call141 Tryz.func141 rfl (by kernel_rfl) (zau (by kernel_rfl)) ?_
 simp -implicitDefEqProofs only [go_sem, Tryz.results141]
 refine drawn (by kernel_rfl) ?_
 simp -implicitDefEqProofs only [go_sem]
 refine zan (HW) (by simp -implicitDefEqProofs only [go_sem]) ?_
 simp -implicitDefEqProofs only [go_sem]
 refine za6 (HSF) (by simp -implicitDefEqProofs only [go_sem]) ?_
 simp -implicitDefEqProofs only [go_sem]
 refine za6 (HQ) (by simp -implicitDefEqProofs only [go_sem]) ?_
 simp -implicitDefEqProofs only [go_sem]
 refine za6 (HZ) (by simp -implicitDefEqProofs only [go_sem, bft, btf, btt, bff, Bool.not_false, Bool.not_true]) ?_
 simp -implicitDefEqProofs only [go_sem, bft, btf, btt, bff, Bool.not_false, Bool.not_true]
 refine ⟨by kernel_rfl, ?_⟩
 refine callR (HMF) (by simp -implicitDefEqProofs only [go_sem]) ?_
 simp -implicitDefEqProofs only [go_sem]
 refine callF (HQ) (by simp -implicitDefEqProofs only [go_sem]) ?_
 simp -implicitDefEqProofs only [go_sem]
 refine zcq (by simp -implicitDefEqProofs only [go_sem]) ?_
 simp -implicitDefEqProofs only [go_sem]
set_option maxHeartbeats 2000000 in
theorem zsm (s sq : Sq) (m : Int) (t : Tm) (c : Fm) (ps : List Dv) (hn : t.none = true) (hc : same c zao = true) (hl : s.left.length <= 1048576) (hr : s.right.length <= 1048576) (f : Fm) (hm : zbn s (.mk 9 sq m t c ps) = true) (hf : zb0 s (.mk 9 sq m t c ps) = f) (hp : 1 < f.parts.length) : RC Tryz.prog 141 [sqD s, dvD (.mk 9 sq m t c ps)] [.one (sqS [⟨[], [f.parts.getD 0 zao]⟩, ⟨[f.parts.getD 1 zao], []⟩]), bD true] := by
 have HW : FC Tryz.prog 204 [iD 9, iD 1, iD 15] [bD true] := zb3 9 1 15
 have HSF := za9 c zao
 have HQ : FC Tryz.prog 206 [iD 9] [bD false] := za3 9
 have HZ := za4 t
 have hz : fmD zao = .agg [.int .i64 0, .str [], .sl 2 [], .str [], .sl 5 []] := rfl
 rw [hz] at HSF
 rw [hc] at HSF
 rw [hn] at HZ
 have HMF := zbj s (.mk 9 sq m t c ps) (by simp only [Dv.rule]; omega) hl hr
 rw [hm, if_pos rfl, hf] at HMF
 have H0 : RC Tryz.prog 209 [iD 0, .one (.ptr (fmC f))] [.one (fmS [f.parts.getD 0 zao])] := zg4 f 0 (by omega)
 have H1 : RC Tryz.prog 209 [iD 1, .one (.ptr (fmC f))] [.one (fmS [f.parts.getD 1 zao])] := zg4 f 1 (by omega)
 generalize f.parts.getD 0 zao = p0 at H0 ⊢
 generalize f.parts.getD 1 zao = p1 at H1 ⊢
 have hq : List.map sqC [⟨[], [p0]⟩, ⟨[p1], []⟩] = [[.sl 5 [], .sl 5 [fmC p0]], [.sl 5 [fmC p1], .sl 5 []]] := rfl
 rw [sqS, hq]
 simp only [sqD, zah, dvD, zbo, tmD, zab t, fmD, zaa c, zaa f, List.map_cons, List.map_nil] at HZ HSF HMF H0 H1 ⊢
 refine zbf Tryz.call141 Tryz.func141 rfl (by kernel_rfl) (zau (by kernel_rfl)) ?_
 simp -implicitDefEqProofs only [go_sem, Tryz.results141]
 refine drawn (by kernel_rfl) ?_
 simp -implicitDefEqProofs only [go_sem]
 refine zan (HW) (by simp -implicitDefEqProofs only [go_sem]) ?_
 simp -implicitDefEqProofs only [go_sem]
 refine za6 (HSF) (by simp -implicitDefEqProofs only [go_sem]) ?_
 simp -implicitDefEqProofs only [go_sem]
 refine za6 (HQ) (by simp -implicitDefEqProofs only [go_sem]) ?_
 simp -implicitDefEqProofs only [go_sem]
 refine za6 (HZ) (by simp -implicitDefEqProofs only [go_sem, bft, btf, btt, bff, Bool.not_false, Bool.not_true]) ?_
 simp -implicitDefEqProofs only [go_sem, bft, btf, btt, bff, Bool.not_false, Bool.not_true]
 refine ⟨by kernel_rfl, ?_⟩
 refine callR (HMF) (by simp -implicitDefEqProofs only [go_sem]) ?_
 simp -implicitDefEqProofs only [go_sem]
 refine callF (HQ) (by simp -implicitDefEqProofs only [go_sem]) ?_
 simp -implicitDefEqProofs only [go_sem]
 refine frzX 6 rfl rfl ?_
 simp -implicitDefEqProofs only [go_sem]
 refine callR (H0) (by simp -implicitDefEqProofs only [go_sem]) ?_
 simp -implicitDefEqProofs only [go_sem]
 refine callR (H1) (by simp -implicitDefEqProofs only [go_sem]) ?_
 simp -implicitDefEqProofs only [go_sem]
 refine zcq (by simp -implicitDefEqProofs only [go_sem]) ?_
 simp -implicitDefEqProofs only [go_sem]
 rfl
set_option maxHeartbeats 2000000 in
theorem zp0 (s sq : Sq) (m : Int) (t : Tm) (c : Fm) (ps : List Dv) (hn : t.none = true) (hc : same c zao = true) (hl : s.left.length <= 1048576) (hr : s.right.length <= 1048576) (f : Fm) (hm : zbn s (.mk 10 sq m t c ps) = true) (hf : zb0 s (.mk 10 sq m t c ps) = f) (hp : 1 < f.parts.length) : RC Tryz.prog 141 [sqD s, dvD (.mk 10 sq m t c ps)] [.one (sqS [⟨[f.parts.getD 0 zao], [f.parts.getD 1 zao]⟩]), bD true] := by
 have HW : FC Tryz.prog 204 [iD 10, iD 1, iD 15] [bD true] := zb3 10 1 15
 have HSF := za9 c zao
 have HQ : FC Tryz.prog 206 [iD 10] [bD false] := za3 10
 have HZ := za4 t
 have hz : fmD zao = .agg [.int .i64 0, .str [], .sl 2 [], .str [], .sl 5 []] := rfl
 rw [hz] at HSF
 rw [hc] at HSF
 rw [hn] at HZ
 have HMF := zbj s (.mk 10 sq m t c ps) (by simp only [Dv.rule]; omega) hl hr
 rw [hm, if_pos rfl, hf] at HMF
 have H0 : RC Tryz.prog 209 [iD 0, .one (.ptr (fmC f))] [.one (fmS [f.parts.getD 0 zao])] := zg4 f 0 (by omega)
 have H1 : RC Tryz.prog 209 [iD 1, .one (.ptr (fmC f))] [.one (fmS [f.parts.getD 1 zao])] := zg4 f 1 (by omega)
 generalize f.parts.getD 0 zao = p0 at H0 ⊢
 generalize f.parts.getD 1 zao = p1 at H1 ⊢
 have hq : List.map sqC [⟨[p0], [p1]⟩] = [[.sl 5 [fmC p0], .sl 5 [fmC p1]]] := rfl
 rw [sqS, hq]
 simp only [sqD, zah, dvD, zbo, tmD, zab t, fmD, zaa c, zaa f, List.map_cons, List.map_nil] at HZ HSF HMF H0 H1 ⊢
 refine zbf Tryz.call141 Tryz.func141 rfl (by kernel_rfl) (zau (by kernel_rfl)) ?_
 simp -implicitDefEqProofs only [go_sem, Tryz.results141]
 refine drawn (by kernel_rfl) ?_
 simp -implicitDefEqProofs only [go_sem]
 refine zan (HW) (by simp -implicitDefEqProofs only [go_sem]) ?_
 simp -implicitDefEqProofs only [go_sem]
 refine za6 (HSF) (by simp -implicitDefEqProofs only [go_sem]) ?_
 simp -implicitDefEqProofs only [go_sem]
 refine za6 (HQ) (by simp -implicitDefEqProofs only [go_sem]) ?_
 simp -implicitDefEqProofs only [go_sem]
 refine za6 (HZ) (by simp -implicitDefEqProofs only [go_sem, bft, btf, btt, bff, Bool.not_false, Bool.not_true]) ?_
 simp -implicitDefEqProofs only [go_sem, bft, btf, btt, bff, Bool.not_false, Bool.not_true]
 refine ⟨by kernel_rfl, ?_⟩
 refine callR (HMF) (by simp -implicitDefEqProofs only [go_sem]) ?_
 simp -implicitDefEqProofs only [go_sem]
 refine callF (HQ) (by simp -implicitDefEqProofs only [go_sem]) ?_
 simp -implicitDefEqProofs only [go_sem]
 refine frzX 6 rfl rfl ?_
 simp -implicitDefEqProofs only [go_sem]
 refine callR (H0) (by simp -implicitDefEqProofs only [go_sem]) ?_
 simp -implicitDefEqProofs only [go_sem]
 refine callR (H1) (by simp -implicitDefEqProofs only [go_sem]) ?_
 simp -implicitDefEqProofs only [go_sem]
 refine zcq (by simp -implicitDefEqProofs only [go_sem]) ?_
 simp -implicitDefEqProofs only [go_sem]
 rfl
end Go.Proofs.YtemnhgmgeijkcaaGreat
namespace Go.Proofs.YtemnhgmgeijkcaaGreat
set_option linter.unusedSimpArgs false
set_option linter.unusedVariables false
set_option linter.unusedSectionVars false
set_option maxRecDepth 4000
open Go.RowKit
variable {P : Program}
theorem qkm {σ : St} {g : Gh} {w : World} {e : Nat} {x : Ev} (he : σ.ev e = none) : ∀ {c : C} {v : Value}, CR σ g w c v -> C.fs e x c = c := fun {c v} hc => by
 have key : ∀ e' n, σ.has e' n -> e' ≠ e := fun e' n ⟨y, hy, _⟩ h => by
  rw [h, he] at hy; cases hy
 cases c with
 | ow e' n =>
  show (if e' = e then (if n = x.gen then C.t (.sl x.sz x.rows) else .any) else .ow e' n) = _
  rw [if_neg (key e' n hc.2)]
 | eo e' s sz i o =>
  obtain ⟨b, n, c, h1, h2, h3, h4⟩ := hc
  show (if e' = e then C.any else .eo e' s sz i o) = _
  rw [if_neg (key e' s h4)]
 | _ => rfl
theorem zuw {σ : St} {g : Gh} {w : World} {e : Nat} {x : Ev} (he : σ.ev e = none) : ∀ {cs : List C} {vs : List Value}, CRs σ g w cs vs -> cs.map (C.fs e x) = cs
 | [], _, _ => rfl
 | c :: cs, _, h => by
  obtain ⟨v, vs', rfl, h1, h2⟩ := h
  rw [List.map_cons, qkm he h1, zuw he h2]
theorem nor_t {σ : St} {g : Gh} {w : World} {e : Nat} {x : Ev} (he : σ.ev e = none) : ∀ {xs : List (Bool × List C)} {vs : List Value}, CRt σ g w xs vs -> xs.map (fun y => (y.1, y.2.map (C.fs e x))) = xs
 | [], _, _ => rfl
 | y :: ys, _, h => by
  obtain ⟨v, vs', rfl, h1, h2⟩ := h
  rw [List.map_cons, nor_t he h2]
  obtain ⟨b, cs⟩ := y
  unfold CRx at h1
  simp only at h1 ⊢
  split at h1
  ·obtain ⟨a, _, h1⟩ := h1
   rw [zuw he h1]
  ·obtain ⟨c, rfl, h1⟩ := h1
   rw [List.map_cons, qkm he h1, List.map_nil]
theorem nor_v {σ : St} {g : Gh} {w : World} {e : Nat} {x : Ev} (he : σ.ev e = none) {y : V} {v : Value} (h : VR σ g w y v) : V.map (C.fs e x) y = y := by
 cases y with
 | one c => exact congrArg V.one (qkm he h)
 | agg cs => obtain ⟨a, _, h⟩ := h; exact congrArg V.agg (zuw he h)
 | tup xs => obtain ⟨vs, _, h⟩ := h; exact congrArg V.tup (nor_t he h)
section
variable {ks : List Fr} {Q : Exit -> St -> Prop} {σ : St} {ops : Array Oper} {os : List Oper} {L : List (List Ky × List Ky)} {d : Nat} {t : TypeId} {ty : TypeId} {ps : String} {af : Array Edge} {len : Nat} {parts : Array (Nat × Operand)} {n : Nat} {rs : List (List C)} {rows : List (List T)}
theorem zur (h : zly P (σ.get P) t len parts = some (n, rs) /\ zt3 σ rs = some rows /\ σ.ev (d * 32) = none) : zak P ⟨some d, .buildSlice t len parts, ty, ps, af, none⟩ σ (σ.put (some d) (.one (.t (.sl n rows)))) := fun n0 N g a w hR hn hdN => by
 refine Oper.wp_mono ?_ (zn4 (P := P) (ty := ty) (ps := ps) (af := af) h n0 N g a w hR hn hdN)
 rintro a' w' ⟨g', r1, r2, r3, r4⟩
 have he := h.2.2
 obtain ⟨g2, s1, s2, s3⟩ := fs_wk (σ := (σ.apd (d * 32) [] ⟨false, n, rows, 0, true⟩).put (some d) (.one (.ow (d * 32) 0))) (e := d * 32) (x := ⟨false, n, rows, 0, true⟩) (zaj _ _ _) rfl rfl n0 N g' a' w' r1
 refine ⟨g2, ?_, r2, s2.trans r3, s3.trans r4⟩
 have e1 : ((σ.apd (d * 32) [] ⟨false, n, rows, 0, true⟩).put (some d) (.one (.ow (d * 32) 0))).fs (d * 32) ⟨false, n, rows, 0, true⟩ = σ.put (some d) (.one (.t (.sl n rows))) := by
  have q1 : fsS (upd σ.sl d (.one (.ow (d * 32) 0))) (d * 32) ⟨false, n, rows, 0, true⟩ = upd σ.sl d (.one (.t (.sl n rows))) := funext fun i => by
   show V.map _ (upd σ.sl d _ i) = _
   by_cases hi : i = d
   ·subst hi
    rw [zaj, zaj]
    show V.one (C.fs _ _ (.ow _ 0)) = _
    simp [C.fs]
   ·rw [zaq _ _ hi, zaq _ _ hi]
    exact nor_v he (hR.slots i)
  have q2 : fsB σ.bx (d * 32) ⟨false, n, rows, 0, true⟩ = σ.bx := funext fun b => by
   show (σ.bx b).map _ = _
   cases hb : σ.bx b with
   | none => rfl
   | some cs =>
    obtain ⟨vs, ty', k1, k2⟩ := hR.boxes b cs hb
    exact congrArg some (zuw he k2)
  have q3 : fsE (upd σ.ev (d * 32) (some ⟨false, n, rows, 0, true⟩)) (d * 32) = σ.ev := funext fun k => by
   show (if k = d * 32 then none else upd σ.ev (d * 32) _ k) = _
   by_cases hk : k = d * 32
   ·rw [if_pos hk, hk, he]
   ·rw [if_neg hk, zaq _ _ hk]
  show St.mk (fsS (upd σ.sl d (.one (.ow (d * 32) 0))) (d * 32) ⟨false, n, rows, 0, true⟩) (fsB σ.bx (d * 32) ⟨false, n, rows, 0, true⟩) (fsE (upd σ.ev (d * 32) (some ⟨false, n, rows, 0, true⟩)) (d * 32)) = _
  rw [q1, q2, q3]
  rfl
 rw [e1] at s1
 exact s1
def slOf : Option (Ev × List (Nat × Ev)) -> T
 | some (x, _) => .sl x.sz x.rows
 | none => .sl 0 []
theorem qjo (h : zax (blS P σ t len parts) fun _ => σ.ev (d * 32) = none) (k : exo P ops os ks Q (σ.put (some d) (.one (.t (slOf (blS P σ t len parts)))))) : exo P ops (⟨some d, .buildSlice t len parts, ty, ps, af, none⟩ :: os) ks Q σ := by
 obtain ⟨⟨x, cons⟩, h1, h2⟩ := zap h
 rw [h1] at k
 unfold blS at h1
 obtain ⟨p, e1, h1⟩ := Option.bind_eq_some_iff.1 h1
 obtain ⟨q, e2, h1⟩ := Option.map_eq_some_iff.1 h1
 simp only [Prod.mk.injEq] at h1
 obtain ⟨rfl, rfl⟩ := h1
 exact zc0 rfl rfl (zur ⟨e1, e2, h2⟩) k
theorem zn8 (h : zax (blS P σ t len parts) fun _ => σ.ev (d * 32) = none)
  (k : exd P ops os (L ++ [(za1 (parts.toList.map (·.2)) ++ (rK (qe7 (zly P (σ.get P) t len parts)) ++ [(2, d * 32)]), dK (some d) ++ eK [])]) ks Q (σ.put (some d) (.one (.t (slOf (blS P σ t len parts)))))) :
  exd P ops (⟨some d, .buildSlice t len parts, ty, ps, af, none⟩ :: os) L ks Q σ := by
 obtain ⟨⟨x, cons⟩, h1, h2⟩ := zap h
 rw [h1] at k
 unfold blS at h1
 obtain ⟨p, e1, h1⟩ := Option.bind_eq_some_iff.1 h1
 obtain ⟨q, e2, h1⟩ := Option.map_eq_some_iff.1 h1
 simp only [Prod.mk.injEq] at h1
 obtain ⟨rfl, rfl⟩ := h1
 rw [e1] at k
 refine zft rfl rfl ?_ k
 have := zgy.of (P := P) (σ := σ) (o := ⟨some d, .buildSlice t len parts, ty, ps, af, none⟩) (l := []) (v := .one (.t (.sl p.1 q))) (R := za1 (parts.toList.map (·.2)) ++ (rK p.2 ++ [(2, d * 32)])) (zbi (zbw _) (zbi (zwx _) rfl)) fun σ1 h1 => ?_
 ·exact this
 ·have e3 : zly P (σ1.get P) t len parts = zly P (σ.get P) t len parts := znl fun t x hx => zb9 (fun k hk => h1 k (by simp [hk])) hx t
  have e4 : zt3 σ1 p.2 = zt3 σ p.2 := zn5 fun k hk => h1 k (by simp [hk])
  exact zur ⟨e3.trans e1, e4.trans e2, (Eq.symm (h1 (2, d * 32) (by simp))).trans h2⟩
end
attribute [go_sem] slOf
end Go.Proofs.YtemnhgmgeijkcaaGreat
namespace Go.Proofs.YtemnhgmgeijkcaaGreat
set_option linter.unusedSimpArgs false
set_option linter.unusedVariables false
set_option linter.unusedSectionVars false
set_option maxRecDepth 4000
open Go.RowKit
theorem ztx (s : Sq) (hs : s.good = true) (d : Dv) (hd : d.wt <= 1048576) : RC Tryz.prog 141 [sqD s, dvD d] [.one (sqS (adR s d).1), bD (adR s d).2] := by
 obtain ⟨l1, l2, _, _⟩ := zg6 hs
 have hW := d.wt_eq
 have hmm := fun h => zf1 (s := s) (d := d) h
 have hop := fun h => qal (s := s) (d := d) h
 obtain ⟨r, sq, m, t, c, ps⟩ := d
 simp only [Dv.rule, Dv.seq, Dv.main, Dv.term, Dv.cut, Dv.parts] at hW hmm hop
 by_cases h15 : r = 15
 ·subst h15
  have h := zns s sq m t c ps (by omega)
  have e : adR s (.mk 15 sq m t c ps) = (if (m == 0 && t.none && c.good) = true then [⟨[], [c]⟩, ⟨[c], []⟩] else [], m == 0 && t.none && c.good) := by
   unfold adR
   rw [if_pos (show (Dv.mk 15 sq m t c ps).rule = 15 from rfl)]
   show (if (m == 0 && t.none && c.good) = true then (([⟨[], [c]⟩, ⟨[c], []⟩] : List Sq), true) else ([], false)) = _
   cases (m == 0 && t.none && c.good) <;> rfl
  rw [e]; exact h
 ·have h15' : (r == 15) = false := by rw [beq_eq_false_iff_ne]; exact h15
  have e0 : adR s (.mk r sq m t c ps) = if (inB r 1 15 && same c zao && (inB r 11 14 == !t.none) && zbn s (.mk r sq m t c ps)) = true then (if inB r 11 14 = true then zhv s (.mk r sq m t c ps) (zb0 s (.mk r sq m t c ps)) else zck s r (zb0 s (.mk r sq m t c ps))) else ([], false) := by
   unfold adR
   rw [if_neg (show ¬ (Dv.mk r sq m t c ps).rule = 15 from h15)]; rfl
  cases hno : (inB r 1 15 && same c zao && (inB r 11 14 == !t.none))
  ·rw [hno, Bool.false_and, if_neg (by simp)] at e0
   rw [e0]
   exact zqb s sq r m t c ps h15' hno
  ·rw [hno, Bool.true_and] at e0
   simp only [Bool.and_eq_true, beq_iff_eq] at hno
   obtain ⟨⟨hin, hc⟩, hqn⟩ := hno
   cases hm : zbn s (.mk r sq m t c ps)
   ·rw [hm, if_neg (by simp)] at e0
    rw [e0]
    exact zl5 s sq r m t c ps h15' hin hc hqn (by omega) (by omega) hm
   ·rw [hm, if_pos rfl] at e0
    rw [e0]
    have hg := ze3 hs r (hmm hm).2.2
    have hop := hop hm
    cases hq : inB r 11 14
    ·rw [if_neg (by simp)]
     rw [hq] at hqn
     have hn : t.none = true := by simpa using hqn.symm
     have hr : r = 1 \/ r = 2 \/ r = 3 \/ r = 4 \/ r = 5 \/ r = 6 \/ r = 7 \/ r = 8 \/ r = 9 \/ r = 10 := by
      unfold inB at hin hq
      simp only [Bool.and_eq_true, decide_eq_true_eq] at hin
      simp only [Bool.and_eq_false_iff, decide_eq_false_iff_not] at hq
      omega
     rcases hr with rfl | rfl | rfl | rfl | rfl | rfl | rfl | rfl | rfl | rfl
     ·exact zto s sq m t c ps hn hc (by omega) (by omega) _ hm rfl
     ·exact ztn s sq m t c ps hn hc (by omega) (by omega) _ hm rfl
     ·obtain ⟨p, hp⟩ := zj8 hg (hop.resolve_left (by decide))
      exact zt1 s sq m t c ps hn hc (by omega) (by omega) _ hm rfl (by rw [hp]; simp)
     ·obtain ⟨p, hp⟩ := zj8 hg (hop.resolve_left (by decide))
      exact zsf s sq m t c ps hn hc (by omega) (by omega) _ hm rfl (by rw [hp]; simp)
     ·exact ztt s sq m t c ps hn hc (by omega) (by omega) _ hm rfl
     ·obtain ⟨p, q, hp⟩ := zc3 hg (Or.inl (hop.resolve_left (by decide)))
      exact zsj s sq m t c ps hn hc (by omega) (by omega) _ hm rfl (by rw [hp]; simp)
     ·obtain ⟨p, q, hp⟩ := zc3 hg (Or.inr (Or.inl (hop.resolve_left (by decide))))
      exact zsd s sq m t c ps hn hc (by omega) (by omega) _ hm rfl (by rw [hp]; simp)
     ·exact zsh s sq m t c ps hn hc (by omega) (by omega) _ hm rfl
     ·obtain ⟨p, q, hp⟩ := zc3 hg (Or.inr (Or.inr (hop.resolve_left (by decide))))
      exact zsm s sq m t c ps hn hc (by omega) (by omega) _ hm rfl (by rw [hp]; simp)
     ·obtain ⟨p, q, hp⟩ := zc3 hg (Or.inr (Or.inr (hop.resolve_left (by decide))))
      exact zp0 s sq m t c ps hn hc (by omega) (by omega) _ hm rfl (by rw [hp]; simp)
    ·rw [if_pos rfl]
     rw [hq] at hqn
     have hn : t.none = false := by simpa using hqn.symm
     have ho : (zb0 s (.mk r sq m t c ps)).op = 8 \/ (zb0 s (.mk r sq m t c ps)).op = 9 := by
      have hr : r = 11 \/ r = 12 \/ r = 13 \/ r = 14 := by
       unfold inB at hq
       simp only [Bool.and_eq_true, decide_eq_true_eq] at hq
       omega
      rcases hr with rfl | rfl | rfl | rfl
      ·exact Or.inl (hop.resolve_left (by decide))
      ·exact Or.inl (hop.resolve_left (by decide))
      ·exact Or.inr (hop.resolve_left (by decide))
      ·exact Or.inr (hop.resolve_left (by decide))
     exact zsv s sq r m t c ps hs (by omega) hn hc hq (by omega) (by omega) _ hm rfl hg ho
theorem zcd (f : Fm) : zb5 [f] = 1 + f.wt := by simp [zb5]
theorem zfm : zb5 [] = 0 := rfl
theorem zvl {f : Fm} : zb5 f.parts <= f.wt := by have := f.wt_eq; unfold zb5; omega
theorem zox (f : Fm) (i : Nat) : (f.parts.getD i zao).wt <= f.wt := by
 by_cases h : i < f.parts.length
 ·rw [zcs h]
  exact zct (List.getElem_mem h)
 ·rw [List.getD_eq_getElem?_getD, List.getElem?_eq_none (by omega)]
  exact Nat.zero_le _
def zmp (x : Sq) : Prop := x.left.length <= 100000 /\ x.right.length <= 100000 /\ zb5 x.left <= 100000 /\ zb5 x.right <= 100000
theorem zf7 {x : Sq} (h1 : zb5 x.left <= 100000) (h2 : zb5 x.right <= 100000) : zmp x := by
 have e1 : zb5 x.left = x.left.length + (x.left.map Fm.wt).sum := rfl
 have e2 : zb5 x.right = x.right.length + (x.right.map Fm.wt).sum := rfl
 exact ⟨by omega, by omega, h1, h2⟩
theorem zvo (s : Sq) (hs : s.good = true) (d : Dv) : ∀ x ∈ (adR s d).1, zmp x := by
 unfold adR
 split
 ·split
  ·rename_i h
   rw [Bool.and_eq_true] at h
   have hw := zc2 h.2
   intro x hx
   simp only [List.mem_cons, List.not_mem_nil, or_false] at hx
   rcases hx with rfl | rfl <;> exact zf7 (by simp only [zcd, zfm]; omega) (by simp only [zcd, zfm]; omega)
  ·intro x hx; cases hx
 ·split
  ·rename_i h
   rw [Bool.and_eq_true] at h
   have hg := ze3 hs d.rule (zf1 h.2).2.2
   have hw := zc2 hg
   generalize zb0 s d = f at hg hw ⊢
   have h0 := zox f 0
   have h1 := zox f 1
   have h2 := zvl (f := f)
   split
   ·unfold zhv
    split
    ·intro x hx; cases hx
    ·split
     ·rename_i h
      have hsg : (sbF f.var d.term (f.parts.getD 0 zao)).1.good = true := by
       unfold sbF at h ⊢
       split at h
       ·rename_i h3
        rw [if_pos h3]
        rw [Bool.and_eq_true] at h3
        exact h3.2
       ·cases h
      have hsw := zc2 hsg
      split
      ·intro x hx
       rw [List.mem_singleton.1 hx]
       exact zf7 (by simp only [zcd]; omega) (by simp only [zfm]; omega)
      ·intro x hx
       rw [List.mem_singleton.1 hx]
       exact zf7 (by simp only [zfm]; omega) (by simp only [zcd]; omega)
     ·intro x hx; cases hx
   ·have key : ∀ x : Sq, ((x.left = [] \/ x.left = [f.parts.getD 0 zao] \/ x.left = [f.parts.getD 1 zao] \/ x.left = f.parts) /\ (x.right = [] \/ x.right = [f.parts.getD 0 zao] \/ x.right = [f.parts.getD 1 zao] \/ x.right = f.parts)) -> zmp x := by
     rintro ⟨l, r⟩ ⟨hl, hr⟩
     simp only at hl hr
     refine zf7 ?_ ?_
     ·rcases hl with rfl | rfl | rfl | rfl
      ·exact Nat.zero_le _
      ·show zb5 [f.parts.getD 0 zao] <= 100000
       rw [zcd]; omega
      ·show zb5 [f.parts.getD 1 zao] <= 100000
       rw [zcd]; omega
      ·show zb5 f.parts <= 100000
       omega
     ·rcases hr with rfl | rfl | rfl | rfl
      ·exact Nat.zero_le _
      ·show zb5 [f.parts.getD 0 zao] <= 100000
       rw [zcd]; omega
      ·show zb5 [f.parts.getD 1 zao] <= 100000
       rw [zcd]; omega
      ·show zb5 f.parts <= 100000
       omega
    unfold zck
    repeat' split
    all_goals (intro x hx; simp only [List.mem_cons, List.not_mem_nil, or_false] at hx)
    all_goals first
     | exact hx.elim
     | (rcases hx with rfl | rfl <;> exact key _ ⟨by simp, by simp⟩)
     | (rw [hx]; exact key _ ⟨by simp, by simp⟩)
  ·intro x hx; cases hx
theorem zrl {s : Sq} (hs : s.good = true) (d : Dv) {x : Sq} (hx : zmp x) : zb5 (zfa s d x).left <= 400000 /\ zb5 (zfa s d x).right <= 400000 := by
 obtain ⟨l1, l2, g1, g2⟩ := zg6 hs
 obtain ⟨_, _, h1, h2⟩ := hx
 have hh : ∀ xs : List Fm, xs.length <= 10 -> (∀ x ∈ xs, x.good = true) -> zb5 xs <= 300000 := fun xs hl hg => by
  have : (xs.map Fm.wt).sum <= 20800 * xs.length := by
   clear hl
   induction xs with
   | nil => exact Nat.le_refl _
   | cons x xs ih =>
    have h1 := ih fun y hy => hg y (by simp [hy])
    have h2 := zc2 (hg x (by simp))
    rw [List.map_cons, List.sum_cons, List.length_cons]; omega
  unfold zb5; omega
 have a1 := Nat.le_trans (zkg (zej s.left (zdk d true))) (hh _ l1 g1)
 have a2 := Nat.le_trans (zkg (zej s.right (zdk d false))) (hh _ l2 g2)
 unfold zfa
 simp only [zwr]
 omega
set_option maxHeartbeats 4000000 in
theorem zxj (s : Sq) (hs : s.good = true) (d : Dv) (hdw : d.wt <= 1048576) : FC Tryz.prog 90 [sqD s, dvD d] [.one (sqS (prR s d).1), bD (prR s d).2] := by
 obtain ⟨l1, l2, g1, g2⟩ := zg6 hs
 have HA := ztx s hs d hdw
 have hsm := zvo s hs d
 have hv : prR s d = if ((adR s d).2 && ((adR s d).1.map (zfa s d)).all Sq.good) = true then ((adR s d).1.map (zfa s d), true) else ([], false) := rfl
 rw [hv]
 have hlen : (adR s d).1.length <= 2 := by
  unfold adR
  split
  ·split <;> simp
  ·split
   ·split
    ·unfold zhv
     repeat' split
     all_goals simp
    ·unfold zck
     repeat' split
     all_goals simp
   ·simp
 have hne : (adR s d).2 = true -> 1 <= d.rule /\ d.rule <= 15 := by
  unfold adR
  split
  ·intro _; omega
  ·split
   ·rename_i h
    intro _
    simp only [Bool.and_eq_true] at h
    have := h.1.1.1
    unfold inB at this
    simpa only [Bool.and_eq_true, decide_eq_true_eq] using this
   ·intro h; cases h
 generalize adR s d = A at HA hsm hlen hne ⊢
 obtain ⟨L, b⟩ := A
 simp only at HA hsm hlen hne ⊢
 cases b
 ·rw [Bool.false_and, if_neg (by simp)]
  simp only [sqD, zah s, dvD, zav d] at HA ⊢
  show FC _ _ _ [.one (.sl 2 []), _]
  refine zag Tryz.call90 Tryz.func90 rfl (by kernel_rfl) (zau (by kernel_rfl)) ?_
  simp -implicitDefEqProofs only [go_sem, Tryz.results90]
  refine callR (HA) (by simp -implicitDefEqProofs only [go_sem]) ?_
  simp -implicitDefEqProofs only [go_sem]
 ·have hr := hne rfl
  have HL := qjr d s.left true hr (by omega)
  have HR := qjr d s.right false hr (by omega)
  rw [Bool.true_and]
  have hd1 := (zej s.left (zdk d true)).length_le
  have hd2 := (zej s.right (zdk d false)).length_le
  have hexl : ∀ x, (zfa s d x).left = ze0 s.left (zdk d true) ++ x.left := fun _ => rfl
  have hexr : ∀ x, (zfa s d x).right = ze0 s.right (zdk d false) ++ x.right := fun _ => rfl
  simp only [sqD, zah s, dvD, zav d] at HA HL HR ⊢
  refine zag Tryz.call90 Tryz.func90 rfl (by kernel_rfl) (zau (by kernel_rfl)) ?_
  simp -implicitDefEqProofs only [go_sem, Tryz.results90]
  refine callR (HA) (by simp -implicitDefEqProofs only [go_sem]) ?_
  simp -implicitDefEqProofs only [go_sem]
  refine zal (by simp -implicitDefEqProofs only [go_sem]) ?_
  simp -implicitDefEqProofs only [go_sem]
  refine zad (fun k : Nat => hd [(2, .one (.bx 2 0)), (3, .one (.bx 3 0)), (8, .one (.ow 640 k)), (21, vT (sqS L)), (22, vI L.length), (23, vI k)] [(2, [.t (fmS s.left), .t (fmS s.right)]), (3, [.t (.int .i64 d.rule), .t (fmS d.seq.left), .t (fmS d.seq.right), .t (.int .i64 d.main), .t (.str d.term.name), .t (tmS d.term.args), .t (.int .i64 d.cut.op), .t (.str d.cut.atom.name), .t (tmS d.cut.atom.args), .t (.str d.cut.var), .t (fmS d.cut.parts), .t (dvS d.parts)])] [(640, ⟨true, 2, ((L.take k).map (zfa s d)).map sqC, k, true⟩)]) (fun k => k <= L.length /\ ∀ j (h : j < L.length), j < k -> (zfa s d L[j]).good = true) (fun k => L.length - k) 0 (zac ?_) ⟨Nat.zero_le _, fun j _ h => absurd h (by omega)⟩ ?_
  ·simp -implicitDefEqProofs only [go_sem]
  ·rintro k ⟨hk, hgd⟩
   by_cases hlt : k < L.length
   ·have hx := hsm _ (List.getElem_mem hlt)
    have hy := zrl hs d hx
    obtain ⟨x1, x2, x3, x4⟩ := hx
    have HC1 := zmo (ze0 s.left (zdk d true)) L[k].left (by omega)
    have HC2 := zmo (ze0 s.right (zdk d false)) L[k].right (by omega)
    have HCp := zor (zfa s d L[k]) (by omega) (by omega)
    have HV := zfs (zfa s d L[k]) (by rw [Sq.wt_eq]; omega)
    simp only [sqD, zah, hexl, hexr] at HCp HV
    have hmin : min k L.length <= 4294967295 := by omega
    cases hgk : (zfa s d L[k]).good
    ·rw [hgk] at HV
     rw [if_neg (show ¬ (L.map (zfa s d)).all Sq.good = true by
      rw [List.all_eq_true]; intro h
      have := h _ (List.mem_map.2 ⟨_, List.getElem_mem hlt, rfl⟩)
      rw [hgk] at this; cases this)]
     simp -implicitDefEqProofs only [go_sem, hlt, zaf, zah L[k]]
     refine drawn (by kernel_rfl) ?_
     simp -implicitDefEqProofs only [go_sem]
     refine zif HL (by simp -implicitDefEqProofs only [go_sem]) ?_
     simp -implicitDefEqProofs only [go_sem]
     refine zn8 (by simp -implicitDefEqProofs only [go_sem]) ?_
     simp -implicitDefEqProofs only [go_sem]
     refine zif HC1 (by simp -implicitDefEqProofs only [go_sem]) ?_
     simp -implicitDefEqProofs only [go_sem]
     refine zif HR (by simp -implicitDefEqProofs only [go_sem]) ?_
     simp -implicitDefEqProofs only [go_sem]
     refine zn8 (by simp -implicitDefEqProofs only [go_sem]) ?_
     simp -implicitDefEqProofs only [go_sem]
     refine zif HC2 (by simp -implicitDefEqProofs only [go_sem]) ?_
     simp -implicitDefEqProofs only [go_sem]
     refine zan (HCp) (by simp -implicitDefEqProofs only [go_sem]) ?_
     simp -implicitDefEqProofs only [go_sem]
     refine ⟨by kernel_rfl, ?_⟩
     refine callF (HV) (by simp -implicitDefEqProofs only [go_sem]) ?_
     simp -implicitDefEqProofs only [go_sem]
    ·rw [hgk] at HV
     simp -implicitDefEqProofs only [go_sem, hlt, zaf, zah L[k]]
     refine drawn (by kernel_rfl) ?_
     simp -implicitDefEqProofs only [go_sem]
     refine zif HL (by simp -implicitDefEqProofs only [go_sem]) ?_
     simp -implicitDefEqProofs only [go_sem]
     refine zn8 (by simp -implicitDefEqProofs only [go_sem]) ?_
     simp -implicitDefEqProofs only [go_sem]
     refine zif HC1 (by simp -implicitDefEqProofs only [go_sem]) ?_
     simp -implicitDefEqProofs only [go_sem]
     refine zif HR (by simp -implicitDefEqProofs only [go_sem]) ?_
     simp -implicitDefEqProofs only [go_sem]
     refine zn8 (by simp -implicitDefEqProofs only [go_sem]) ?_
     simp -implicitDefEqProofs only [go_sem]
     refine zif HC2 (by simp -implicitDefEqProofs only [go_sem]) ?_
     simp -implicitDefEqProofs only [go_sem]
     refine zan (HCp) (by simp -implicitDefEqProofs only [go_sem]) ?_
     simp -implicitDefEqProofs only [go_sem]
     refine ⟨by kernel_rfl, ?_⟩
     refine callF (HV) (by simp -implicitDefEqProofs only [go_sem]) ?_
     simp -implicitDefEqProofs only [go_sem]
     refine zal (by simp -implicitDefEqProofs only [go_sem]) ?_
     simp -implicitDefEqProofs only [go_sem]
     refine apD true (by simp -implicitDefEqProofs only [go_sem, ne_eq, List.length_map, List.length_take, hmin]) ?_
     simp -implicitDefEqProofs only [go_sem, ne_eq, List.length_map, List.length_take, hmin]
     refine ⟨k + 1, ⟨hlt, fun j h1 h2 => ?_⟩, by omega, zac ?_⟩
     ·by_cases e : j = k
      ·subst e; exact hgk
      ·exact hgd j h1 (by omega)
     ·simp -implicitDefEqProofs only [go_sem]
      rw [zas (by omega), List.take_succ_eq_append_getElem hlt, List.map_append, List.map_singleton]
      refine ⟨rfl, ?_⟩
      simp only [Function.comp_apply, zah, hexl, hexr, List.map_append]
   ·have htk : L.take k = L := List.take_of_length_le (by omega)
    rw [if_pos (show (L.map (zfa s d)).all Sq.good = true by
     rw [List.all_eq_true]; intro y hy
     obtain ⟨x, hx, rfl⟩ := List.mem_map.1 hy
     obtain ⟨j, hj, rfl⟩ := List.getElem_of_mem hx
     exact hgd j hj (by omega))]
    simp -implicitDefEqProofs only [go_sem, hlt, htk]
theorem zpo (s : Sq) (hs : s.wt <= 1048576) (d : Dv) (hd : d.wt <= 1048576) : FC Tryz.prog 35 [sqD s, dvD d] [.one (sqS (znt s d).1), bD (znt s d).2] := by
 have HV := zfs s (by omega)
 unfold znt
 cases hg : s.good
 ·rw [hg] at HV
  rw [if_neg (by simp)]
  simp only [sqD, zah s, dvD, zav d] at HV ⊢
  show FC _ _ _ [.one (.sl 2 []), _]
  refine zag Tryz.call35 Tryz.func35 rfl (by kernel_rfl) (zau (by kernel_rfl)) ?_
  simp -implicitDefEqProofs only [go_sem, Tryz.results35]
  refine callF (HV) (by simp -implicitDefEqProofs only [go_sem]) ?_
  simp -implicitDefEqProofs only [go_sem]
 ·rw [hg] at HV
  rw [if_pos rfl]
  have HP := zxj s hg d hd
  generalize prR s d = A at HP ⊢
  obtain ⟨L, b⟩ := A
  simp only [sqD, zah s, dvD, zav d] at HV HP ⊢
  refine zag Tryz.call35 Tryz.func35 rfl (by kernel_rfl) (zau (by kernel_rfl)) ?_
  simp -implicitDefEqProofs only [go_sem, Tryz.results35]
  refine callF (HV) (by simp -implicitDefEqProofs only [go_sem]) ?_
  simp -implicitDefEqProofs only [go_sem]
  refine callF (HP) (by simp -implicitDefEqProofs only [go_sem]) ?_
  simp -implicitDefEqProofs only [go_sem]
end Go.Proofs.YtemnhgmgeijkcaaGreat
namespace Go.Proofs.YtemnhgmgeijkcaaGreat
set_option linter.unusedSimpArgs false
set_option linter.unusedVariables false
set_option linter.unusedSectionVars false
set_option maxRecDepth 4000
open Go.RowKit
theorem qce (s : Sq) (hs : s.good = true) (d : Dv) (hd : d.wt <= 1048576) : FC Tryz.prog 138 [sqD s, dvD d] [.one (sqS (ruS s d).1), bD (ruS s d).2] := by
 have hW := d.wt_eq
 have hE : ruS s d = if ((!inB d.rule 11 14 && !d.term.none) || (!(d.rule == 15) && !same d.cut zao)) = true then ([], false)
  else if d.rule = 15 then ([zbg s (-1) [] (-1) [d.cut], zbg s (-1) [d.cut] (-1) []], d.main == 0 && d.cut.good)
  else if (inB d.rule 1 15 && zbn s d) = true then (if inB d.rule 11 14 = true then qS s d (zb0 s d) else ((zck s d.rule (zb0 s d)).1.map (zfa s d), (zck s d.rule (zb0 s d)).2))
  else ([], false) := rfl
 rw [hE]
 cases hno : ((!inB d.rule 11 14 && !d.term.none) || (!(d.rule == 15) && !same d.cut zao))
 ·rw [if_neg (by simp)]
  rw [Bool.or_eq_false_iff] at hno
  obtain ⟨n1, n2⟩ := hno
  by_cases h15 : d.rule = 15
  ·rw [if_pos h15]
   have hn : d.term.none = true := by rw [h15] at n1; simpa [inB] using n1
   obtain ⟨r, sq, m, t, c, ps⟩ := d
   have h15 : r = 15 := h15
   subst h15
   simp only [Dv.seq, Dv.term, Dv.cut, Dv.parts] at hW
   exact qic s sq hs m t c ps hn (by omega)
  ·rw [if_neg h15]
   have h15' : (d.rule == 15) = false := by rw [beq_eq_false_iff_ne]; exact h15
   have hcz : same d.cut zao = true := by rw [h15'] at n2; simpa using n2
   obtain ⟨r, sq, m, t, c, ps⟩ := d
   simp only [Dv.seq, Dv.term, Dv.cut, Dv.parts] at hW
   cases hq : inB (Dv.mk r sq m t c ps).rule 11 14
   ·have hn : t.none = true := by rw [hq] at n1; simpa [Dv.term] using n1
    exact rule_p s sq r m t c ps hs hq hn h15' hcz _ (by rw [if_neg Bool.false_ne_true]; rfl)
   ·exact rule_q s sq r m t c ps hs hq (by omega) h15' hcz _ (by rw [if_pos rfl]; rfl)
 ·rw [if_pos rfl]
  obtain ⟨r, sq, m, t, c, ps⟩ := d
  exact qkn s sq r m t c ps hno
theorem ze2 {s : Sq} (hs : s.good = true) (l r : Int) {more extra : List Fm} (h1 : zb5 more <= 2000000) (h2 : zb5 extra <= 2000000) : (zbg s l more r extra).wt <= 10000000 := by
 obtain ⟨l1, l2, g1, g2⟩ := zg6 hs
 have hh : ∀ xs : List Fm, xs.length <= 10 -> (∀ x ∈ xs, x.good = true) -> zb5 xs <= 300000 := fun xs hl hg => by
  have : (xs.map Fm.wt).sum <= 20800 * xs.length := by
   clear hl
   induction xs with
   | nil => exact Nat.le_refl _
   | cons x xs ih =>
    have h1 := ih fun y hy => hg y (by simp [hy])
    have h2 := zc2 (hg x (by simp))
    rw [List.map_cons, List.sum_cons, List.length_cons]; omega
  unfold zb5; omega
 have a1 := Nat.le_trans (zkg (zej s.left l)) (hh _ l1 g1)
 have a2 := Nat.le_trans (zkg (zej s.right r)) (hh _ l2 g2)
 rw [Sq.wt_eq]
 unfold zbg
 simp only [zwr]
 omega
theorem zzg {s : Sq} {d : Dv} (hs : s.good = true) (hm : zbn s d = true) : ∀ x ∈ (zck s d.rule (zb0 s d)).1, zmp x := by
 have hg := ze3 hs d.rule (zf1 hm).2.2
 have hw := zc2 hg
 generalize zb0 s d = f at hg hw ⊢
 have h0 := zox f 0
 have h1 := zox f 1
 have h2 := zvl (f := f)
 have key : ∀ x : Sq, ((x.left = [] \/ x.left = [f.parts.getD 0 zao] \/ x.left = [f.parts.getD 1 zao] \/ x.left = f.parts) /\ (x.right = [] \/ x.right = [f.parts.getD 0 zao] \/ x.right = [f.parts.getD 1 zao] \/ x.right = f.parts)) -> zmp x := by
  rintro ⟨l, r⟩ ⟨hl, hr⟩
  simp only at hl hr
  refine zf7 ?_ ?_
  ·rcases hl with rfl | rfl | rfl | rfl
   ·exact Nat.zero_le _
   ·show zb5 [f.parts.getD 0 zao] <= 100000
    rw [zcd]; omega
   ·show zb5 [f.parts.getD 1 zao] <= 100000
    rw [zcd]; omega
   ·show zb5 f.parts <= 100000
    omega
  ·rcases hr with rfl | rfl | rfl | rfl
   ·exact Nat.zero_le _
   ·show zb5 [f.parts.getD 0 zao] <= 100000
    rw [zcd]; omega
   ·show zb5 [f.parts.getD 1 zao] <= 100000
    rw [zcd]; omega
   ·show zb5 f.parts <= 100000
    omega
 unfold zck
 repeat' split
 all_goals (intro x hx; simp only [List.mem_cons, List.not_mem_nil, or_false] at hx)
 all_goals first
  | exact hx.elim
  | (rcases hx with rfl | rfl <;> exact key _ ⟨by simp, by simp⟩)
  | (rw [hx]; exact key _ ⟨by simp, by simp⟩)
theorem qgp {s : Sq} (hs : s.good = true) {d : Dv} (hd : d.wt <= 1048576) : (∀ x ∈ (ruS s d).1, x.wt <= 10000000) /\ (ruS s d).1.length <= 2 := by
 have hW := d.wt_eq
 unfold ruS
 split
 ·exact ⟨fun x hx => (by cases hx), by simp⟩
 ·split
  ·refine ⟨fun x hx => ?_, by simp⟩
   simp only [List.mem_cons, List.not_mem_nil, or_false] at hx
   rcases hx with rfl | rfl
   ·exact ze2 hs _ _ (by rw [zfm]; omega) (by rw [zcd]; omega)
   ·exact ze2 hs _ _ (by rw [zcd]; omega) (by rw [zfm]; omega)
  ·split
   ·rename_i hm
    rw [Bool.and_eq_true] at hm
    split
    ·rename_i hq
     have hg := ze3 hs d.rule (zf1 hm.2).2.2
     have hop := qal hm.2
     have ho : (zb0 s d).op = 8 \/ (zb0 s d).op = 9 := by
      have hr : d.rule = 11 \/ d.rule = 12 \/ d.rule = 13 \/ d.rule = 14 := by
       unfold inB at hq
       simp only [Bool.and_eq_true, decide_eq_true_eq] at hq
       omega
      rcases hr with h | h | h | h <;> rw [h] at hop
      ·exact Or.inl (hop.resolve_left (by decide))
      ·exact Or.inl (hop.resolve_left (by decide))
      ·exact Or.inr (hop.resolve_left (by decide))
      ·exact Or.inr (hop.resolve_left (by decide))
     obtain ⟨hpg, _, _⟩ := zfn hg ho
     unfold qS
     split
     ·rename_i h
      rw [Bool.and_eq_true] at h
      have hw := qi2 (n := (zb0 s d).var) h.1 hpg
      have e1 : zb5 [(zbt (zb0 s d).var d.term ((zb0 s d).parts.getD 0 zao)).1] <= 2000000 := by rw [zcd]; omega
      have e2 : zb5 [] <= 2000000 := by rw [zfm]; omega
      repeat' split
      all_goals first
       | exact ⟨fun x hx => by rw [List.mem_singleton.1 hx]; exact ze2 hs _ _ e1 e2, by simp⟩
       | exact ⟨fun x hx => by rw [List.mem_singleton.1 hx]; exact ze2 hs _ _ e2 e1, by simp⟩
       | exact ⟨fun x hx => (by cases hx), by simp⟩
     ·exact ⟨fun x hx => (by cases hx), by simp⟩
    ·refine ⟨fun x hx => ?_, ?_⟩
     ·obtain ⟨y, hy, rfl⟩ := List.mem_map.1 hx
      obtain ⟨_, _, y1, y2⟩ := zzg hs hm.2 y hy
      exact ze2 hs _ _ (by omega) (by omega)
     ·simp only [List.length_map]
      unfold zck
      repeat' split
      all_goals simp
   ·exact ⟨fun x hx => (by cases hx), by simp⟩
set_option maxHeartbeats 2000000 in
theorem zo5 (s : Sq) (hs : s.good = true) (d : Dv) (hdw : d.wt <= 1048576) : FC Tryz.prog 87 [sqD s, dvD d] [.one (sqS (prS s d).1), bD (prS s d).2] := by
 have HR := qce s hs d hdw
 obtain ⟨hsm, hlen⟩ := qgp hs hdw
 have hv : prS s d = if ((ruS s d).2 && (ruS s d).1.all Sq.good) = true then ((ruS s d).1, true) else ([], false) := rfl
 rw [hv]
 generalize ruS s d = A at HR hsm hlen ⊢
 obtain ⟨L, b⟩ := A
 simp only at HR hsm hlen ⊢
 simp only [sqD, zah s, dvD, zav d] at HR ⊢
 refine zag Tryz.call87 Tryz.func87 rfl (by kernel_rfl) (zau (by kernel_rfl)) ?_
 simp -implicitDefEqProofs only [go_sem, Tryz.results87]
 refine callF (HR) (by simp -implicitDefEqProofs only [go_sem]) ?_
 simp -implicitDefEqProofs only [go_sem]
 refine zad (fun k : Nat => hd [(6, .one (.ow 384 0)), (7, vB (b && (L.take k).all Sq.good)), (8, vI k)] [] [(384, ⟨true, 2, L.map sqC, 0, true⟩)]) (fun k => k <= L.length) (fun k => L.length - k) 0 (zac ?_) (Nat.zero_le _) ?_
 ·simp -implicitDefEqProofs only [go_sem, List.take_zero, List.all_nil, Bool.and_true]
 ·intro k hk
  by_cases hlt : k < L.length
  ·have hs : (L.take (k + 1)).all Sq.good = ((L.take k).all Sq.good && L[k].good) := by
    rw [List.take_succ_eq_append_getElem hlt, List.all_append]; simp
   have HG := zql L[k] (by have := hsm _ (List.getElem_mem hlt); omega)
   simp only [sqD, zah L[k]] at HG
   cases hb : (b && (L.take k).all Sq.good)
   ·simp -implicitDefEqProofs only [go_sem, hlt]
    refine ⟨k + 1, hlt, by omega, zac ?_⟩
    simp -implicitDefEqProofs only [go_sem]
    rw [zas (by omega), hs, <- Bool.and_assoc, hb]
    exact ⟨rfl, rfl⟩
   ·simp -implicitDefEqProofs only [go_sem, hlt, zaf, zah L[k]]
    refine callF (HG) (by simp -implicitDefEqProofs only [go_sem]) ?_
    simp -implicitDefEqProofs only [go_sem]
    refine ⟨k + 1, hlt, by omega, zac ?_⟩
    simp -implicitDefEqProofs only [go_sem]
    rw [zas (by omega), hs, <- Bool.and_assoc, hb]
    exact ⟨rfl, rfl⟩
  ·have htk : L.take k = L := List.take_of_length_le (by omega)
   rw [htk]
   cases hb : (b && L.all Sq.good)
   ·rw [if_neg (by simp)]
    simp -implicitDefEqProofs only [go_sem, hlt]
    refine zal (by simp -implicitDefEqProofs only [go_sem]) ?_
    simp -implicitDefEqProofs only [go_sem]
   ·rw [if_pos rfl]
    simp -implicitDefEqProofs only [go_sem, hlt]
end Go.Proofs.YtemnhgmgeijkcaaGreat
namespace Go.Proofs.YtemnhgmgeijkcaaGreat
set_option linter.unusedSimpArgs false
set_option linter.unusedVariables false
set_option linter.unusedSectionVars false
set_option maxRecDepth 4000
open Go.RowKit
mutual
def zi5 : Dv -> Nat -> Dv × Nat
 | .mk r0 ⟨l0, g0⟩ m0 (.mk n0 s0) (.mk o0 (.mk n1 s1) v0 p0) d0, k => (.mk ((k : Nat) : Int) ⟨(zae l0 (k + 1)).1, (zae g0 (zae l0 (k + 1)).2).1⟩ (((zae g0 (zae l0 (k + 1)).2).2 : Nat) : Int) (.mk (mtx ((zae g0 (zae l0 (k + 1)).2).2 + 1)) (zat s0 (((zae g0 (zae l0 (k + 1)).2).2 + 1) + 1)).1) (.mk (((zat s0 (((zae g0 (zae l0 (k + 1)).2).2 + 1) + 1)).2 : Nat) : Int) (.mk (mtx ((zat s0 (((zae g0 (zae l0 (k + 1)).2).2 + 1) + 1)).2 + 1)) (zat s1 (((zat s0 (((zae g0 (zae l0 (k + 1)).2).2 + 1) + 1)).2 + 1) + 1)).1) (mtx (zat s1 (((zat s0 (((zae g0 (zae l0 (k + 1)).2).2 + 1) + 1)).2 + 1) + 1)).2) (zae p0 ((zat s1 (((zat s0 (((zae g0 (zae l0 (k + 1)).2).2 + 1) + 1)).2 + 1) + 1)).2 + 1)).1) (zdi d0 (zae p0 ((zat s1 (((zat s0 (((zae g0 (zae l0 (k + 1)).2).2 + 1) + 1)).2 + 1) + 1)).2 + 1)).2).1, (zdi d0 (zae p0 ((zat s1 (((zat s0 (((zae g0 (zae l0 (k + 1)).2).2 + 1) + 1)).2 + 1) + 1)).2 + 1)).2).2)
def zdi : List Dv -> Nat -> List Dv × Nat
 | [], k => ([], k)
 | a :: xs, k => ((zi5 a k).1 :: (zdi xs (zi5 a k).2).1, (zdi xs (zi5 a k).2).2)
end
mutual
def zjg : Dv -> Nat
 | .mk r0 ⟨l0, g0⟩ m0 (.mk n0 s0) (.mk o0 (.mk n1 s1) v0 p0) d0 => 1 + 1 + zdy l0 + zdy g0 + 1 + 1 + zed s0 + 1 + 1 + zed s1 + 1 + zdy p0 + zfx d0
def zfx : List Dv -> Nat
 | [] => 0
 | a :: xs => zjg a + zfx xs
end
mutual
theorem qcg : ∀ (a : Dv) (k : Nat), k <= (zi5 a k).2 /\ (zi5 a k).2 <= k + zjg a
 | .mk r0 ⟨l0, g0⟩ m0 (.mk n0 s0) (.mk o0 (.mk n1 s1) v0 p0) d0, k => by have h_l0 := zb2 l0 (k + 1); have h_g0 := zb2 g0 (zae l0 (k + 1)).2; have h_s0 := zcc s0 (((zae g0 (zae l0 (k + 1)).2).2 + 1) + 1); have h_s1 := zcc s1 (((zat s0 (((zae g0 (zae l0 (k + 1)).2).2 + 1) + 1)).2 + 1) + 1); have h_p0 := zb2 p0 ((zat s1 (((zat s0 (((zae g0 (zae l0 (k + 1)).2).2 + 1) + 1)).2 + 1) + 1)).2 + 1); have h_d0 := zkd d0 (zae p0 ((zat s1 (((zat s0 (((zae g0 (zae l0 (k + 1)).2).2 + 1) + 1)).2 + 1) + 1)).2 + 1)).2; simp only [zi5, zjg]; omega
theorem zkd : ∀ (xs : List Dv) (k : Nat), k <= (zdi xs k).2 /\ (zdi xs k).2 <= k + zfx xs
 | [], k => ⟨Nat.le_refl _, Nat.le_refl _⟩
 | a :: xs, k => by have h1 := qcg a k; have h2 := zkd xs (zi5 a k).2; simp only [zdi, zfx]; omega
end
theorem zp7 : ∀ xs : List Dv, xs.length <= zfx xs
  | [] => Nat.le_refl _
  | a :: xs => by have := zp7 xs; have : 1 <= zjg a := by obtain ⟨r0, ⟨l0, g0⟩, m0, ⟨n0, s0⟩, ⟨o0, ⟨n1, s1⟩, v0, p0⟩, d0⟩ := a; simp only [zjg]; omega
                  simp only [List.length_cons, zfx]; omega
theorem zeu (xs : List Dv) (H : ∀ a ∈ xs, ∀ k : Nat, 0 < k -> k + zfx a.parts <= 4611686018427387904 -> IC Tryz.prog 92 [] (.one (dvS a.parts)) [iD k] (.one (dvS (zdi a.parts k).1)) [iD (zdi a.parts k).2]) :
  ∀ k : Nat, 0 < k -> k + zfx xs <= 4611686018427387904 -> IC Tryz.prog 92 [] (.one (dvS xs)) [iD k] (.one (dvS (zdi xs k).1)) [iD (zdi xs k).2] := by
 intro k h0 hk
 refine zuc Tryz.call92 Tryz.func92 rfl (by kernel_rfl) (by simp only [zcx, rd, List.map_cons, List.map_nil, List.nil_append, List.length_cons, List.length_nil, Tryz.ntmps92]; omega) (by simp only [Tryz.ntmps92]; omega) (fun vs => ?_)
 simp -implicitDefEqProofs only [go_sem, Tryz.results92, qcd, zh5, zcx, PI]
 refine zad (fun (x : List Dv × List Dv × Nat) => hd [(0, .one (.ow 0 0)), (1000000, .one (.ow 0 0)), (1, vI x.2.2), (5, vI x.1.length)] [] [(0, ⟨true, 12, x.1.map dvC ++ zek vs x.1.length (x.2.1.map dvC), 0, true⟩)])
  (fun x => (zdi xs k).1 = x.1 ++ (zdi x.2.1 x.2.2).1 /\ (zdi xs k).2 = (zdi x.2.1 x.2.2).2 /\ 0 < x.2.2 /\ x.2.2 + zfx x.2.1 <= 4611686018427387904 /\ x.1.length + x.2.1.length = xs.length /\ ∀ a ∈ x.2.1, a ∈ xs) (fun x => x.2.1.length) ([], xs, k) (zac ?_) ?_ ?_
 ·simp -implicitDefEqProofs only [go_sem]
 ·exact ⟨rfl, rfl, h0, hk, by simp, fun _ h => h⟩
 ·intro ⟨dn, rest, kk⟩ ⟨h1, h2, h3, h4, h6, h5⟩
  simp only at h1 h2 h3 h4 h5 h6
  cases rest with
  | nil =>
   simp only [zdi, List.append_nil] at h1 h2
   simp -implicitDefEqProofs only [go_sem, h1, h2]
  | cons a rest =>
   obtain ⟨r0, ⟨l0, g0⟩, m0, ⟨n0, s0⟩, ⟨o0, ⟨n1, s1⟩, v0, p0⟩, d0⟩ := a
   simp only [zdi, zi5, zfx, zjg] at h1 h2 h4
   have hc_l0 := zb2 l0 (kk + 1)
   have hc_g0 := zb2 g0 (zae l0 (kk + 1)).2
   have hc_s0 := zcc s0 (((zae g0 (zae l0 (kk + 1)).2).2 + 1) + 1)
   have hc_s1 := zcc s1 (((zat s0 (((zae g0 (zae l0 (kk + 1)).2).2 + 1) + 1)).2 + 1) + 1)
   have hc_p0 := zb2 p0 ((zat s1 (((zat s0 (((zae g0 (zae l0 (kk + 1)).2).2 + 1) + 1)).2 + 1) + 1)).2 + 1)
   have hc_d0 := zkd d0 (zae p0 ((zat s1 (((zat s0 (((zae g0 (zae l0 (kk + 1)).2).2 + 1) + 1)).2 + 1) + 1)).2 + 1)).2
   have w0 : IntKind.i64.wrap (((kk : Nat) : Int) + 1) = ((kk + 1 : Nat) : Int) := zas (by omega)
   have w1 : IntKind.i64.wrap ((((zae g0 (zae l0 (kk + 1)).2).2 : Nat) : Int) + 1) = (((zae g0 (zae l0 (kk + 1)).2).2 + 1 : Nat) : Int) := zas (by omega)
   have w2 : IntKind.i64.wrap (((((zae g0 (zae l0 (kk + 1)).2).2 + 1) : Nat) : Int) + 1) = ((((zae g0 (zae l0 (kk + 1)).2).2 + 1) + 1 : Nat) : Int) := zas (by omega)
   have w3 : IntKind.i64.wrap ((((zat s0 (((zae g0 (zae l0 (kk + 1)).2).2 + 1) + 1)).2 : Nat) : Int) + 1) = (((zat s0 (((zae g0 (zae l0 (kk + 1)).2).2 + 1) + 1)).2 + 1 : Nat) : Int) := zas (by omega)
   have w4 : IntKind.i64.wrap (((((zat s0 (((zae g0 (zae l0 (kk + 1)).2).2 + 1) + 1)).2 + 1) : Nat) : Int) + 1) = ((((zat s0 (((zae g0 (zae l0 (kk + 1)).2).2 + 1) + 1)).2 + 1) + 1 : Nat) : Int) := zas (by omega)
   have w5 : IntKind.i64.wrap ((((zat s1 (((zat s0 (((zae g0 (zae l0 (kk + 1)).2).2 + 1) + 1)).2 + 1) + 1)).2 : Nat) : Int) + 1) = (((zat s1 (((zat s0 (((zae g0 (zae l0 (kk + 1)).2).2 + 1) + 1)).2 + 1) + 1)).2 + 1 : Nat) : Int) := zas (by omega)
   have hln := zp7 xs
   rw [List.length_cons] at h6
   have wl : IntKind.i64.wrap ((dn.length : Int) + 1) = ((dn.length + 1 : Nat) : Int) := zas (by omega)
   simp -implicitDefEqProofs only [go_sem, zav (.mk _ _ _ _ _ _), Dv.rule, Dv.seq, Dv.main, Dv.term, Dv.cut, Dv.parts, Fm.op, Fm.atom, Fm.var, Fm.parts, Tm.name, Tm.args]
   refine zdv (by simp -implicitDefEqProofs only [go_sem, implies_true, w0, w1, w2, w3, w4, w5]) ?_
   simp -implicitDefEqProofs only [go_sem, implies_true, w0, w1, w2, w3, w4, w5]
   refine callN (l := [(0, .one (.ow 0 0)), (1000000, .one (.ow 0 0)), (5, vI dn.length), (24, .one (.cv (vs dn.length 1))), (25, vI ((kk + 1) : Nat))]) (bl := []) (el := [(0, ⟨true, 12, dn.map dvC ++ [.int .i64 ((kk : Nat) : Int), .pin (vs dn.length 1) (fmS l0), .pin (vs dn.length 2) (fmS g0), .int .i64 m0, .str n0, .pin (vs dn.length 5) (tmS s0), .int .i64 o0, .str n1, .pin (vs dn.length 8) (tmS s1), .str v0, .pin (vs dn.length 10) (fmS p0), .pin (vs dn.length 11) (dvS d0)] :: zek vs (dn.length + 1) (rest.map dvC), 0, true⟩)]) 0 dn.length 1 (zch l0 (kk + 1) (by omega) (by omega)) (by simp -implicitDefEqProofs only [go_sem, w0, w1, w2, w3, w4, w5, fmS]) rfl rfl rfl (by simp -implicitDefEqProofs only [go_sem, fmS, Dv.rule, Dv.seq, Dv.main, Dv.term, Dv.cut, Dv.parts, Fm.op, Fm.atom, Fm.var, Fm.parts, Tm.name, Tm.args]) rfl ?_
   simp -implicitDefEqProofs only [go_sem, w0, w1, w2, w3, w4, w5, Dv.rule, Dv.seq, Dv.main, Dv.term, Dv.cut, Dv.parts, Fm.op, Fm.atom, Fm.var, Fm.parts, Tm.name, Tm.args]
   refine callN (l := [(0, .one (.ow 0 0)), (1000000, .one (.ow 0 0)), (5, vI dn.length), (32, .one (.cv (vs dn.length 2))), (33, vI ((zae l0 (kk + 1)).2 : Nat))]) (bl := []) (el := [(0, ⟨true, 12, dn.map dvC ++ [.int .i64 ((kk : Nat) : Int), fmS (zae l0 (kk + 1)).1, .pin (vs dn.length 2) (fmS g0), .int .i64 m0, .str n0, .pin (vs dn.length 5) (tmS s0), .int .i64 o0, .str n1, .pin (vs dn.length 8) (tmS s1), .str v0, .pin (vs dn.length 10) (fmS p0), .pin (vs dn.length 11) (dvS d0)] :: zek vs (dn.length + 1) (rest.map dvC), 0, true⟩)]) 0 dn.length 2 (zch g0 (zae l0 (kk + 1)).2 (by omega) (by omega)) (by simp -implicitDefEqProofs only [go_sem, w0, w1, w2, w3, w4, w5, fmS]) rfl rfl rfl (by simp -implicitDefEqProofs only [go_sem, fmS, Dv.rule, Dv.seq, Dv.main, Dv.term, Dv.cut, Dv.parts, Fm.op, Fm.atom, Fm.var, Fm.parts, Tm.name, Tm.args]) rfl ?_
   simp -implicitDefEqProofs only [go_sem, w0, w1, w2, w3, w4, w5, Dv.rule, Dv.seq, Dv.main, Dv.term, Dv.cut, Dv.parts, Fm.op, Fm.atom, Fm.var, Fm.parts, Tm.name, Tm.args]
   refine zdv (by simp -implicitDefEqProofs only [go_sem, implies_true, w0, w1, w2, w3, w4, w5]) ?_
   simp -implicitDefEqProofs only [go_sem, implies_true, w0, w1, w2, w3, w4, w5]
   refine callF (zd9 ((zae g0 (zae l0 (kk + 1)).2).2 + 1) (by omega) (by omega)) (by simp -implicitDefEqProofs only [go_sem, w0, w1, w2, w3, w4, w5]) ?_
   simp -implicitDefEqProofs only [go_sem, w0, w1, w2, w3, w4, w5]
   refine zdv (by simp -implicitDefEqProofs only [go_sem, implies_true, w0, w1, w2, w3, w4, w5]) ?_
   simp -implicitDefEqProofs only [go_sem, implies_true, w0, w1, w2, w3, w4, w5]
   refine callN (l := [(0, .one (.ow 0 0)), (1000000, .one (.ow 0 0)), (5, vI dn.length), (56, .one (.cv (vs dn.length 5))), (57, vI ((((zae g0 (zae l0 (kk + 1)).2).2 + 1) + 1) : Nat))]) (bl := []) (el := [(0, ⟨true, 12, dn.map dvC ++ [.int .i64 ((kk : Nat) : Int), fmS (zae l0 (kk + 1)).1, fmS (zae g0 (zae l0 (kk + 1)).2).1, .int .i64 (((zae g0 (zae l0 (kk + 1)).2).2 : Nat) : Int), .str (mtx ((zae g0 (zae l0 (kk + 1)).2).2 + 1)), .pin (vs dn.length 5) (tmS s0), .int .i64 o0, .str n1, .pin (vs dn.length 8) (tmS s1), .str v0, .pin (vs dn.length 10) (fmS p0), .pin (vs dn.length 11) (dvS d0)] :: zek vs (dn.length + 1) (rest.map dvC), 0, true⟩)]) 0 dn.length 5 (zfq s0 (((zae g0 (zae l0 (kk + 1)).2).2 + 1) + 1) (by omega) (by omega)) (by simp -implicitDefEqProofs only [go_sem, w0, w1, w2, w3, w4, w5, tmS]) rfl rfl rfl (by simp -implicitDefEqProofs only [go_sem, tmS, Dv.rule, Dv.seq, Dv.main, Dv.term, Dv.cut, Dv.parts, Fm.op, Fm.atom, Fm.var, Fm.parts, Tm.name, Tm.args]) rfl ?_
   simp -implicitDefEqProofs only [go_sem, w0, w1, w2, w3, w4, w5, Dv.rule, Dv.seq, Dv.main, Dv.term, Dv.cut, Dv.parts, Fm.op, Fm.atom, Fm.var, Fm.parts, Tm.name, Tm.args]
   refine zdv (by simp -implicitDefEqProofs only [go_sem, implies_true, w0, w1, w2, w3, w4, w5]) ?_
   simp -implicitDefEqProofs only [go_sem, implies_true, w0, w1, w2, w3, w4, w5]
   refine callF (zd9 ((zat s0 (((zae g0 (zae l0 (kk + 1)).2).2 + 1) + 1)).2 + 1) (by omega) (by omega)) (by simp -implicitDefEqProofs only [go_sem, w0, w1, w2, w3, w4, w5]) ?_
   simp -implicitDefEqProofs only [go_sem, w0, w1, w2, w3, w4, w5]
   refine zdv (by simp -implicitDefEqProofs only [go_sem, implies_true, w0, w1, w2, w3, w4, w5]) ?_
   simp -implicitDefEqProofs only [go_sem, implies_true, w0, w1, w2, w3, w4, w5]
   refine callN (l := [(0, .one (.ow 0 0)), (1000000, .one (.ow 0 0)), (5, vI dn.length), (83, .one (.cv (vs dn.length 8))), (84, vI ((((zat s0 (((zae g0 (zae l0 (kk + 1)).2).2 + 1) + 1)).2 + 1) + 1) : Nat))]) (bl := []) (el := [(0, ⟨true, 12, dn.map dvC ++ [.int .i64 ((kk : Nat) : Int), fmS (zae l0 (kk + 1)).1, fmS (zae g0 (zae l0 (kk + 1)).2).1, .int .i64 (((zae g0 (zae l0 (kk + 1)).2).2 : Nat) : Int), .str (mtx ((zae g0 (zae l0 (kk + 1)).2).2 + 1)), tmS (zat s0 (((zae g0 (zae l0 (kk + 1)).2).2 + 1) + 1)).1, .int .i64 (((zat s0 (((zae g0 (zae l0 (kk + 1)).2).2 + 1) + 1)).2 : Nat) : Int), .str (mtx ((zat s0 (((zae g0 (zae l0 (kk + 1)).2).2 + 1) + 1)).2 + 1)), .pin (vs dn.length 8) (tmS s1), .str v0, .pin (vs dn.length 10) (fmS p0), .pin (vs dn.length 11) (dvS d0)] :: zek vs (dn.length + 1) (rest.map dvC), 0, true⟩)]) 0 dn.length 8 (zfq s1 (((zat s0 (((zae g0 (zae l0 (kk + 1)).2).2 + 1) + 1)).2 + 1) + 1) (by omega) (by omega)) (by simp -implicitDefEqProofs only [go_sem, w0, w1, w2, w3, w4, w5, tmS]) rfl rfl rfl (by simp -implicitDefEqProofs only [go_sem, tmS, Dv.rule, Dv.seq, Dv.main, Dv.term, Dv.cut, Dv.parts, Fm.op, Fm.atom, Fm.var, Fm.parts, Tm.name, Tm.args]) rfl ?_
   simp -implicitDefEqProofs only [go_sem, w0, w1, w2, w3, w4, w5, Dv.rule, Dv.seq, Dv.main, Dv.term, Dv.cut, Dv.parts, Fm.op, Fm.atom, Fm.var, Fm.parts, Tm.name, Tm.args]
   refine callF (zd9 (zat s1 (((zat s0 (((zae g0 (zae l0 (kk + 1)).2).2 + 1) + 1)).2 + 1) + 1)).2 (by omega) (by omega)) (by simp -implicitDefEqProofs only [go_sem, w0, w1, w2, w3, w4, w5]) ?_
   simp -implicitDefEqProofs only [go_sem, w0, w1, w2, w3, w4, w5]
   refine zdv (by simp -implicitDefEqProofs only [go_sem, implies_true, w0, w1, w2, w3, w4, w5]) ?_
   simp -implicitDefEqProofs only [go_sem, implies_true, w0, w1, w2, w3, w4, w5]
   refine callN (l := [(0, .one (.ow 0 0)), (1000000, .one (.ow 0 0)), (5, vI dn.length), (100, .one (.cv (vs dn.length 10))), (101, vI (((zat s1 (((zat s0 (((zae g0 (zae l0 (kk + 1)).2).2 + 1) + 1)).2 + 1) + 1)).2 + 1) : Nat))]) (bl := []) (el := [(0, ⟨true, 12, dn.map dvC ++ [.int .i64 ((kk : Nat) : Int), fmS (zae l0 (kk + 1)).1, fmS (zae g0 (zae l0 (kk + 1)).2).1, .int .i64 (((zae g0 (zae l0 (kk + 1)).2).2 : Nat) : Int), .str (mtx ((zae g0 (zae l0 (kk + 1)).2).2 + 1)), tmS (zat s0 (((zae g0 (zae l0 (kk + 1)).2).2 + 1) + 1)).1, .int .i64 (((zat s0 (((zae g0 (zae l0 (kk + 1)).2).2 + 1) + 1)).2 : Nat) : Int), .str (mtx ((zat s0 (((zae g0 (zae l0 (kk + 1)).2).2 + 1) + 1)).2 + 1)), tmS (zat s1 (((zat s0 (((zae g0 (zae l0 (kk + 1)).2).2 + 1) + 1)).2 + 1) + 1)).1, .str (mtx (zat s1 (((zat s0 (((zae g0 (zae l0 (kk + 1)).2).2 + 1) + 1)).2 + 1) + 1)).2), .pin (vs dn.length 10) (fmS p0), .pin (vs dn.length 11) (dvS d0)] :: zek vs (dn.length + 1) (rest.map dvC), 0, true⟩)]) 0 dn.length 10 (zch p0 ((zat s1 (((zat s0 (((zae g0 (zae l0 (kk + 1)).2).2 + 1) + 1)).2 + 1) + 1)).2 + 1) (by omega) (by omega)) (by simp -implicitDefEqProofs only [go_sem, w0, w1, w2, w3, w4, w5, fmS]) rfl rfl rfl (by simp -implicitDefEqProofs only [go_sem, fmS, Dv.rule, Dv.seq, Dv.main, Dv.term, Dv.cut, Dv.parts, Fm.op, Fm.atom, Fm.var, Fm.parts, Tm.name, Tm.args]) rfl ?_
   simp -implicitDefEqProofs only [go_sem, w0, w1, w2, w3, w4, w5, Dv.rule, Dv.seq, Dv.main, Dv.term, Dv.cut, Dv.parts, Fm.op, Fm.atom, Fm.var, Fm.parts, Tm.name, Tm.args]
   refine callN (l := [(0, .one (.ow 0 0)), (1000000, .one (.ow 0 0)), (5, vI dn.length), (107, .one (.cv (vs dn.length 11))), (108, vI ((zae p0 ((zat s1 (((zat s0 (((zae g0 (zae l0 (kk + 1)).2).2 + 1) + 1)).2 + 1) + 1)).2 + 1)).2 : Nat))]) (bl := []) (el := [(0, ⟨true, 12, dn.map dvC ++ [.int .i64 ((kk : Nat) : Int), fmS (zae l0 (kk + 1)).1, fmS (zae g0 (zae l0 (kk + 1)).2).1, .int .i64 (((zae g0 (zae l0 (kk + 1)).2).2 : Nat) : Int), .str (mtx ((zae g0 (zae l0 (kk + 1)).2).2 + 1)), tmS (zat s0 (((zae g0 (zae l0 (kk + 1)).2).2 + 1) + 1)).1, .int .i64 (((zat s0 (((zae g0 (zae l0 (kk + 1)).2).2 + 1) + 1)).2 : Nat) : Int), .str (mtx ((zat s0 (((zae g0 (zae l0 (kk + 1)).2).2 + 1) + 1)).2 + 1)), tmS (zat s1 (((zat s0 (((zae g0 (zae l0 (kk + 1)).2).2 + 1) + 1)).2 + 1) + 1)).1, .str (mtx (zat s1 (((zat s0 (((zae g0 (zae l0 (kk + 1)).2).2 + 1) + 1)).2 + 1) + 1)).2), fmS (zae p0 ((zat s1 (((zat s0 (((zae g0 (zae l0 (kk + 1)).2).2 + 1) + 1)).2 + 1) + 1)).2 + 1)).1, .pin (vs dn.length 11) (dvS d0)] :: zek vs (dn.length + 1) (rest.map dvC), 0, true⟩)]) 0 dn.length 11 (H (.mk r0 ⟨l0, g0⟩ m0 (.mk n0 s0) (.mk o0 (.mk n1 s1) v0 p0) d0) (h5 _ (by simp)) (zae p0 ((zat s1 (((zat s0 (((zae g0 (zae l0 (kk + 1)).2).2 + 1) + 1)).2 + 1) + 1)).2 + 1)).2 (by omega) (by show (zae p0 ((zat s1 (((zat s0 (((zae g0 (zae l0 (kk + 1)).2).2 + 1) + 1)).2 + 1) + 1)).2 + 1)).2 + zfx d0 <= _; omega)) (by simp -implicitDefEqProofs only [go_sem, w0, w1, w2, w3, w4, w5, dvS]) rfl rfl rfl (by simp -implicitDefEqProofs only [go_sem, dvS, Dv.rule, Dv.seq, Dv.main, Dv.term, Dv.cut, Dv.parts, Fm.op, Fm.atom, Fm.var, Fm.parts, Tm.name, Tm.args]) rfl ?_
   simp -implicitDefEqProofs only [go_sem, w0, w1, w2, w3, w4, w5, Dv.rule, Dv.seq, Dv.main, Dv.term, Dv.cut, Dv.parts, Fm.op, Fm.atom, Fm.var, Fm.parts, Tm.name, Tm.args]
   refine ⟨(dn ++ [.mk ((kk : Nat) : Int) ⟨(zae l0 (kk + 1)).1, (zae g0 (zae l0 (kk + 1)).2).1⟩ (((zae g0 (zae l0 (kk + 1)).2).2 : Nat) : Int) (.mk (mtx ((zae g0 (zae l0 (kk + 1)).2).2 + 1)) (zat s0 (((zae g0 (zae l0 (kk + 1)).2).2 + 1) + 1)).1) (.mk (((zat s0 (((zae g0 (zae l0 (kk + 1)).2).2 + 1) + 1)).2 : Nat) : Int) (.mk (mtx ((zat s0 (((zae g0 (zae l0 (kk + 1)).2).2 + 1) + 1)).2 + 1)) (zat s1 (((zat s0 (((zae g0 (zae l0 (kk + 1)).2).2 + 1) + 1)).2 + 1) + 1)).1) (mtx (zat s1 (((zat s0 (((zae g0 (zae l0 (kk + 1)).2).2 + 1) + 1)).2 + 1) + 1)).2) (zae p0 ((zat s1 (((zat s0 (((zae g0 (zae l0 (kk + 1)).2).2 + 1) + 1)).2 + 1) + 1)).2 + 1)).1) (zdi d0 (zae p0 ((zat s1 (((zat s0 (((zae g0 (zae l0 (kk + 1)).2).2 + 1) + 1)).2 + 1) + 1)).2 + 1)).2).1], rest, (zdi d0 (zae p0 ((zat s1 (((zat s0 (((zae g0 (zae l0 (kk + 1)).2).2 + 1) + 1)).2 + 1) + 1)).2 + 1)).2).2), ⟨by simpa using h1, h2, by show 0 < (zdi d0 (zae p0 ((zat s1 (((zat s0 (((zae g0 (zae l0 (kk + 1)).2).2 + 1) + 1)).2 + 1) + 1)).2 + 1)).2).2; omega, by show (zdi d0 (zae p0 ((zat s1 (((zat s0 (((zae g0 (zae l0 (kk + 1)).2).2 + 1) + 1)).2 + 1) + 1)).2 + 1)).2).2 + zfx rest <= _; omega, by simp; omega, fun b hb => h5 b (by simp [hb])⟩, by simp, zac ?_⟩
   simp -implicitDefEqProofs only [go_sem, wl, zav (.mk _ _ _ _ _ _), Dv.rule, Dv.seq, Dv.main, Dv.term, Dv.cut, Dv.parts, Fm.op, Fm.atom, Fm.var, Fm.parts, Tm.name, Tm.args, List.map_append, List.append_assoc]
theorem zix (xs : List Dv) (k : Nat) (h0 : 0 < k) (hk : k + zfx xs <= 4611686018427387904) : IC Tryz.prog 92 [] (.one (dvS xs)) [iD k] (.one (dvS (zdi xs k).1)) [iD (zdi xs k).2] :=
 zeu xs (fun a _ => zdn (P := fun a => ∀ k : Nat, 0 < k -> k + zfx a.parts <= 4611686018427387904 -> IC Tryz.prog 92 [] (.one (dvS a.parts)) [iD k] (.one (dvS (zdi a.parts k).1)) [iD (zdi a.parts k).2]) (fun _ _ _ _ _ ps ih => zeu ps ih) a) k h0 hk
end Go.Proofs.YtemnhgmgeijkcaaGreat
namespace Go.Proofs.YtemnhgmgeijkcaaGreat
set_option linter.unusedSimpArgs false
set_option linter.unusedVariables false
set_option linter.unusedSectionVars false
set_option maxRecDepth 4000
open Go.RowKit
def za2 : Dv -> Nat -> Dv × Nat
 | .mk r ⟨l0, g0⟩ m (.mk n0 s0) (.mk o1 (.mk n1 s1) v1 p1) d0, k =>
  let a := zae l0 k
  let b := zae g0 a.2
  let c := zat s0 b.2
  let d := zat s1 c.2
  let e := zae p1 d.2
  let f := zdi d0 e.2
  (.mk r ⟨a.1, b.1⟩ m (.mk n0 c.1) (.mk o1 (.mk n1 d.1) v1 e.1) f.1, f.2)
def zcy : Dv -> Nat
 | .mk _ ⟨l0, g0⟩ _ (.mk _ s0) (.mk _ (.mk _ s1) _ p1) d0 => zdy l0 + zdy g0 + zed s0 + zed s1 + zdy p1 + zfx d0
theorem zjy : ∀ (a : Dv) (k : Nat), k <= (za2 a k).2 /\ (za2 a k).2 <= k + zcy a
 | .mk r ⟨l0, g0⟩ m (.mk n0 s0) (.mk o1 (.mk n1 s1) v1 p1) d0, k => by
  have h1 := zb2 l0 k
  have h2 := zb2 g0 (zae l0 k).2
  have h3 := zcc s0 (zae g0 (zae l0 k).2).2
  have h4 := zcc s1 (zat s0 (zae g0 (zae l0 k).2).2).2
  have h5 := zb2 p1 (zat s1 (zat s0 (zae g0 (zae l0 k).2).2).2).2
  have h6 := zkd d0 (zae p1 (zat s1 (zat s0 (zae g0 (zae l0 k).2).2).2).2).2
  simp only [za2, zcy]; omega
mutual
theorem qa6 : ∀ a : Dv, zjg a <= 8 + 8 * a.wt
 | .mk r ⟨l, g⟩ m (.mk n s) (.mk o (.mk n1 s1) v p) e => by
  have h1 := zev l
  have h2 := zev g
  have h3 := zfk s
  have h4 := zfk s1
  have h5 := zev p
  have h6 := zod e
  rw [Dv.wt_eq, zjg]; unfold zpd at h6
  simp only [Dv.seq, Dv.term, Dv.cut, Dv.parts]
  rw [Sq.wt_eq, Fm.wt_eq, Tm.wt_eq]
  simp only [Fm.atom, Fm.var, Fm.parts, Tm.name, Tm.args]
  rw [Tm.wt_eq]
  simp only [Tm.name, Tm.args]
  have e1 : zri s = s.length + (s.map Tm.wt).sum := rfl
  have e2 : zri s1 = s1.length + (s1.map Tm.wt).sum := rfl
  have e3 : zb5 p = p.length + (p.map Fm.wt).sum := rfl
  omega
theorem zod : ∀ xs : List Dv, zfx xs <= 8 * zpd xs
 | [] => by simp [zfx]
 | a :: xs => by
  have h1 := qa6 a
  have h2 := zod xs
  unfold zpd at h2 ⊢
  rw [zfx, List.length_cons, List.map_cons, List.sum_cons]; omega
end
theorem zjr (a : Dv) : zcy a <= 8 * a.wt := by
 obtain ⟨r, ⟨l, g⟩, m, ⟨n, s⟩, ⟨o, ⟨n1, s1⟩, v, p⟩, e⟩ := a
 have h1 := zev l
 have h2 := zev g
 have h3 := zfk s
 have h4 := zfk s1
 have h5 := zev p
 have h6 := zod e
 rw [Dv.wt_eq, zcy]; unfold zpd at h6
 simp only [Dv.seq, Dv.term, Dv.cut, Dv.parts]
 rw [Sq.wt_eq, Fm.wt_eq, Tm.wt_eq]
 simp only [Fm.atom, Fm.var, Fm.parts, Tm.name, Tm.args]
 rw [Tm.wt_eq]
 simp only [Tm.name, Tm.args]
 have e1 : zri s = s.length + (s.map Tm.wt).sum := rfl
 have e2 : zri s1 = s1.length + (s1.map Tm.wt).sum := rfl
 have e3 : zb5 p = p.length + (p.map Fm.wt).sum := rfl
 omega
theorem zg7 (d : Dv) (k : Nat) : dvC (za2 d k).1 = [.int .i64 d.rule, .sl 5 ((za2 d k).1.seq.left.map fmC), .sl 5 ((za2 d k).1.seq.right.map fmC), .int .i64 d.main, .str d.term.name, .sl 2 ((za2 d k).1.term.args.map tmC), .int .i64 d.cut.op, .str d.cut.atom.name, .sl 2 ((za2 d k).1.cut.atom.args.map tmC), .str d.cut.var, .sl 5 ((za2 d k).1.cut.parts.map fmC), .sl 12 ((za2 d k).1.parts.map dvC)] := by
 obtain ⟨r, ⟨l, g⟩, m, ⟨n, s⟩, ⟨o, ⟨n1, s1⟩, v, p⟩, e⟩ := d
 rw [zav]; rfl
theorem zjw (a : Dv) (k : Nat) (h0 : 0 < k) (hk : k + zcy a <= 4611686018427387904) : IC Tryz.prog 40 [] (.agg (dvC a)) [iD k] (.agg (dvC (za2 a k).1)) [iD (za2 a k).2] := by
 obtain ⟨r, ⟨l, g⟩, m, ⟨n, s⟩, ⟨o, ⟨n1, s1⟩, v, p⟩, e⟩ := a
 simp only [zcy] at hk
 have h1 := zb2 l k
 have h2 := zb2 g (zae l k).2
 have h3 := zcc s (zae g (zae l k).2).2
 have h4 := zcc s1 (zat s (zae g (zae l k).2).2).2
 have h5 := zb2 p (zat s1 (zat s (zae g (zae l k).2).2).2).2
 have H1 := znv ⟨l, g⟩ k h0 (by simp only [ziv]; omega)
 have H2 := zna (.mk n s) (zae g (zae l k).2).2 (by omega) (by simp only [zg9]; omega)
 have H3 := zoe (.mk o (.mk n1 s1) v p) (zat s (zae g (zae l k).2).2).2 (by omega) (by simp only [zio, zg9]; omega)
 have H4 := zix e (zae p (zat s1 (zat s (zae g (zae l k).2).2).2).2).2 (by omega) (by omega)
 simp only [zah, zaa (.mk _ _ _ _), zav (.mk _ _ _ _ _ _), zab (.mk _ _), Dv.rule, Dv.seq, Dv.main, Dv.term, Dv.cut, Dv.parts, Fm.op, Fm.atom, Fm.var, Fm.parts, Tm.name, Tm.args, za2, zgt, zgn, zb8] at H1 H2 H3 H4 ⊢
 generalize (zae l k).1 = l1 at H1 ⊢
 generalize (zae l k).2 = k1 at H1 H2 H3 H4 ⊢
 generalize (zae g k1).1 = g1 at H1 ⊢
 generalize (zae g k1).2 = k2 at H1 H2 H3 H4 ⊢
 generalize (zat s k2).1 = t1 at H2 ⊢
 generalize (zat s k2).2 = k3 at H2 H3 H4 ⊢
 generalize (zat s1 k3).1 = t2 at H3 ⊢
 generalize (zat s1 k3).2 = k4 at H3 H4 ⊢
 generalize (zae p k4).1 = p1 at H3 ⊢
 generalize (zae p k4).2 = k5 at H3 H4 ⊢
 generalize (zdi e k5).1 = e1 at H4 ⊢
 generalize (zdi e k5).2 = k6 at H4 ⊢
 refine zxh Tryz.call40 Tryz.func40 rfl (by kernel_rfl) (by simp only [zcx, rd, List.map_cons, List.map_nil, List.nil_append, List.length_cons, List.length_nil, Tryz.ntmps40]; omega) (by simp only [Tryz.ntmps40]; omega) ⟨⟨by simp, by simp [T.isPin]⟩, zcu _⟩ trivial ?_
 simp -implicitDefEqProofs only [go_sem, Tryz.results40, zh5, zcx, PI]
 refine zit [1000000, 2, 6, 7] (H1) (by simp -implicitDefEqProofs only [go_sem]) (by simp -implicitDefEqProofs only [go_sem]) (by simp -implicitDefEqProofs only [go_sem]) (by simp -implicitDefEqProofs only [go_sem]) (by simp -implicitDefEqProofs only [go_sem]) rfl ?_
 simp -implicitDefEqProofs only [go_sem]
 refine zit [1000000, 2, 10, 11] (H2) (by simp -implicitDefEqProofs only [go_sem]) (by simp -implicitDefEqProofs only [go_sem]) (by simp -implicitDefEqProofs only [go_sem]) (by simp -implicitDefEqProofs only [go_sem]) (by simp -implicitDefEqProofs only [go_sem]) rfl ?_
 simp -implicitDefEqProofs only [go_sem]
 refine zit [1000000, 2, 14, 15] (H3) (by simp -implicitDefEqProofs only [go_sem]) (by simp -implicitDefEqProofs only [go_sem]) (by simp -implicitDefEqProofs only [go_sem]) (by simp -implicitDefEqProofs only [go_sem]) (by simp -implicitDefEqProofs only [go_sem]) rfl ?_
 simp -implicitDefEqProofs only [go_sem]
 refine zit [1000000, 2, 18, 19] (H4) (by simp -implicitDefEqProofs only [go_sem]) (by simp -implicitDefEqProofs only [go_sem]) (by simp -implicitDefEqProofs only [go_sem]) (by simp -implicitDefEqProofs only [go_sem]) (by simp -implicitDefEqProofs only [go_sem]) rfl ?_
 simp -implicitDefEqProofs only [go_sem]
end Go.Proofs.YtemnhgmgeijkcaaGreat
namespace Go.Proofs.YtemnhgmgeijkcaaGreat
set_option linter.unusedSimpArgs false
set_option linter.unusedVariables false
set_option linter.unusedSectionVars false
set_option maxRecDepth 4000
open Go.RowKit
set_option maxHeartbeats 400000 in
theorem zjv (xs : List Dv) (H : ∀ x ∈ xs, ∀ l : Int, 0 <= l -> l <= 1048576 -> FC Tryz.prog 31 [dvD x, iD l] [iD (szR x.wt l)]) (l : Int) (h0 : 0 <= l) (h1 : l <= 1048576) :
  FC Tryz.prog 85 [.one (dvS xs), iD l] [iD (szR (zpd xs) l)] := by
 refine zc7 (fun hw => ?_) Tryz.call85
 have hl : xs.length <= 9223372036854775807 := by simpa [zfj, wfT] using hw.1.1
 refine zag Tryz.call85 Tryz.func85 rfl (by kernel_rfl) (zau (by kernel_rfl)) ?_
 simp -implicitDefEqProofs only [go_sem, Tryz.results85]
 rw [zbk (by omega) (by omega)]
 have hW : zpd xs = xs.length + (xs.map Dv.wt).sum := rfl
 refine ⟨fun h => ?_, fun h => ?_⟩
 ·rw [zco (by simp at h; omega)]
 ·have hlen : (xs.length : Int) <= l := by simp at h; omega
  refine zad (fun k : Nat => hd [(0, vT (dvS xs)), (1, vI (l - xs.length - zjz Dv.wt xs k)), (5, vI k)] [] []) (fun k => k <= xs.length /\ 0 <= l - xs.length - zjz Dv.wt xs k) (fun k => xs.length - k) 0 (zac ?_) ?_ ?_
  ·simp -implicitDefEqProofs only [go_sem]
   simp [zdx]
  ·simpa [zdx] using hlen
  ·intro k ⟨hk, hp⟩
   by_cases hlt : k < xs.length
   ·have hs := zgh Dv.wt xs k hlt
    have hs2 := zls Dv.wt xs (k + 1)
    simp -implicitDefEqProofs only [go_sem, List.length_map, zaf, hlt, zav, zah, zaa, zab]
    refine callF (H xs[k] (List.getElem_mem hlt) (l - xs.length - zjz Dv.wt xs k) hp (by omega)) (by simp -implicitDefEqProofs only [go_sem, zav, zah, zaa, zab]) ?_
    simp -implicitDefEqProofs only [go_sem, zav, zah, zaa, zab]
    refine ⟨fun h => ?_, fun h => ?_⟩
    ·have := zd2 hp (by simpa using h)
     rw [zco (by omega)]
    ·obtain ⟨h2, h3⟩ := zdq (by simpa using h)
     rw [zas (by omega)]
     exact ⟨k + 1, ⟨hlt, by omega⟩, by omega, zac (by simp -implicitDefEqProofs only [go_sem]; rw [h3]; congr 1; omega)⟩
   ·simp -implicitDefEqProofs only [go_sem, List.length_map, hlt]
    have hall := znw Dv.wt xs k (by omega)
    rw [hall, zki (by omega)]; congr 1; omega
set_option maxHeartbeats 400000 in
theorem zjt (xs : List Dv) (H : ∀ x ∈ xs, FC Tryz.prog 34 [dvD x] [dvD x]) (hs : xs.length <= 1048576) :
  FC Tryz.prog 88 [.one (dvS xs)] [.one (dvS xs)] := by
 refine zc7 (fun hw => ?_) Tryz.call88
 refine zag Tryz.call88 Tryz.func88 rfl (by kernel_rfl) (zau (by kernel_rfl)) ?_
 simp -implicitDefEqProofs only [go_sem, Tryz.results88]
 refine zyg (by simp -implicitDefEqProofs only [go_sem]; omega) ?_
 simp -implicitDefEqProofs only [go_sem]
 refine zad (fun k : Nat => hd [(0, vT (dvS xs)), (3, .one (.ow 224 0)), (4, vI k)] [] [(224, ⟨true, 12, (xs.take k).map dvC ++ List.replicate (xs.length - k) [T.int .i64 0, T.sl 5 [], T.sl 5 [], T.int .i64 0, T.str [], T.sl 2 [], T.int .i64 0, T.str [], T.sl 2 [], T.str [], T.sl 5 [], T.sl 12 []], 0, true⟩)]) (fun k => k <= xs.length) (fun k => xs.length - k) 0 (zac ?_) ?_ ?_
 ·simp -implicitDefEqProofs only [go_sem]
  simp
 ·simp
 ·intro k hk
  by_cases hlt : k < xs.length
  ·have hlen : ((xs.take k).map dvC ++ List.replicate (xs.length - k) [T.int .i64 0, T.sl 5 [], T.sl 5 [], T.int .i64 0, T.str [], T.sl 2 [], T.int .i64 0, T.str [], T.sl 2 [], T.str [], T.sl 5 [], T.sl 12 []]).length = xs.length := by simp; omega
   have hlt2 : k < k + (xs.length - k) := by omega
   simp -implicitDefEqProofs only [go_sem, List.length_map, zaf, hlt, zav, zah, zaa, zab]
   refine callF (H xs[k] (List.getElem_mem hlt)) (by simp -implicitDefEqProofs only [go_sem, zav, zah, zaa, zab, hlen, hlt, List.length_append, List.length_map, List.length_take, List.length_replicate, Nat.min_eq_left hk, hlt2]) ?_
   simp -implicitDefEqProofs only [go_sem, zav, zah, zaa, zab, hlen, hlt, List.length_append, List.length_map, List.length_take, List.length_replicate, Nat.min_eq_left hk, hlt2]
   refine zdv (by simp -implicitDefEqProofs only [go_sem]; simp) ?_
   simp -implicitDefEqProofs only [go_sem]
   rw [zas (by omega)]
   refine ⟨k + 1, by omega, by omega, zac ?_⟩
   simp -implicitDefEqProofs only [go_sem]
   have hf := zgg ((xs.take k).map dvC) xs.length k [T.int .i64 0, T.sl 5 [], T.sl 5 [], T.int .i64 0, T.str [], T.sl 2 [], T.int .i64 0, T.str [], T.sl 2 [], T.str [], T.sl 5 [], T.sl 12 []] (dvC xs[k]) (by simp; omega) hlt (by simp [zav, zah, zaa, zab])
   simp only [zav, zah, zaa, zab] at hf
   rw [hf, List.take_succ_eq_append_getElem hlt, List.map_append, List.map_singleton]
   simp only [zav, zah, zaa, zab]
  ·simp -implicitDefEqProofs only [go_sem, List.length_map, hlt]
   simp [List.take_of_length_le (show xs.length <= k by omega), show xs.length - k = 0 by omega]
set_option maxHeartbeats 400000 in
theorem zjs (xs ys : List Dv) (H : ∀ x ∈ xs, ∀ y, FC Tryz.prog 38 [dvD x, dvD y] [bD (same x y)]) :
  FC Tryz.prog 91 [.one (dvS xs), .one (dvS ys)] [bD (same xs ys)] := by
 refine zc7 (fun hw => ?_) Tryz.call91
 have hl : xs.length <= 9223372036854775807 := by simpa [zfj, wfT] using hw.1.1
 have hl2 : ys.length <= 9223372036854775807 := by simpa [zfj, wfT] using hw.2.1.1
 refine zag Tryz.call91 Tryz.func91 rfl (by kernel_rfl) (zau (by kernel_rfl)) ?_
 simp -implicitDefEqProofs only [go_sem, Tryz.results91]
 refine ⟨fun h => ?_, fun h => ?_⟩
 ·rw [zbv.2 (by rintro rfl; simp at h)]
 ·have hlen : xs.length = ys.length := by simp at h; omega
  refine zad (fun k : Nat => hd [(0, vT (dvS xs)), (1, vT (dvS ys)), (4, vB false), (5, vI k)] [] []) (fun k => k <= xs.length /\ same xs ys = same (xs.drop k) (ys.drop k)) (fun k => xs.length - k) 0 (zac ?_) ?_ ?_
  ·simp -implicitDefEqProofs only [go_sem]
  ·simp
  ·intro k ⟨hk, hr⟩
   by_cases hlt : k < xs.length
   ·have hk2 : k < ys.length := by omega
    simp -implicitDefEqProofs only [go_sem, List.length_map, hlt]
    refine drawn (by kernel_rfl) ?_
    simp -implicitDefEqProofs only [go_sem, List.length_map, zaf, hlt, hk2, zav, zah, zaa, zab]
    refine zan (H xs[k] (List.getElem_mem hlt) ys[k]) (by simp -implicitDefEqProofs only [go_sem, zav, zah, zaa, zab]) ?_
    simp -implicitDefEqProofs only [go_sem, zav, zah, zaa, zab]
    refine ⟨by kernel_rfl, fun h => ?_, fun h => ?_⟩
    ·rw [hr, List.drop_eq_getElem_cons hlt, List.drop_eq_getElem_cons hk2, zbz, show same xs[k] ys[k] = false by simpa using h]; rfl
    ·rw [List.drop_eq_getElem_cons hlt, List.drop_eq_getElem_cons hk2, zbz, show same xs[k] ys[k] = true by simpa using h, Bool.true_and] at hr
     rw [zas (by omega)]
     exact ⟨k + 1, ⟨by omega, hr⟩, by omega, zac (by simp -implicitDefEqProofs only [go_sem])⟩
   ·simp -implicitDefEqProofs only [go_sem, List.length_map, hlt]
    rw [hr, List.drop_of_length_le (by omega), List.drop_of_length_le (by omega), zdt]
set_option maxHeartbeats 400000 in
theorem zk7 (a : Dv) (H : ∀ l : Int, 0 <= l -> l <= 1048576 -> FC Tryz.prog 85 [.one (dvS a.parts), iD l] [iD (szR (zpd a.parts) l)]) (l : Int) (h0 : 0 <= l) (h1 : l <= 1048576) :
  FC Tryz.prog 31 [dvD a, iD l] [iD (szR a.wt l)] := by
 refine zc7 (fun hw => ?_) Tryz.call31
 simp only [dvD, zav, zah, zaa, zab] at hw ⊢
 have hW := a.wt_eq
 have hls : True := by simp [zfj, wfT, zo9] at hw; simp [hw]
 refine zag Tryz.call31 Tryz.func31 rfl (by kernel_rfl) (zau (by kernel_rfl)) ?_
 simp -implicitDefEqProofs only [go_sem, Tryz.results31]
 refine callF (zr6 a.seq l (by omega) (by omega)) (by simp -implicitDefEqProofs only [go_sem, zav, zah, zaa, zab, zah]) ?_
 simp -implicitDefEqProofs only [go_sem, zav, zah, zaa, zab, zah]
 refine ⟨fun h1 => ?_, fun h1 => ?_⟩
 ·have := zd2 (by omega) (show szR a.seq.wt l < 0 by simpa using h1)
  rw [zco (by have hu0 : zpd a.parts = a.parts.length + (a.parts.map Dv.wt).sum := rfl;  omega)]
 obtain ⟨k1, j1⟩ := zdq (show ¬ szR a.seq.wt l < 0 by simpa using h1)
 refine callF (zvf a.term (szR a.seq.wt l) (by omega) (by omega)) (by simp -implicitDefEqProofs only [go_sem, zav, zah, zaa, zab, zab]) ?_
 simp -implicitDefEqProofs only [go_sem, zav, zah, zaa, zab, zab]
 refine ⟨fun h2 => ?_, fun h2 => ?_⟩
 ·have := zd2 (by omega) (show szR a.term.wt (szR a.seq.wt l) < 0 by simpa using h2)
  rw [zco (by have hu0 : zpd a.parts = a.parts.length + (a.parts.map Dv.wt).sum := rfl;  omega)]
 obtain ⟨k2, j2⟩ := zdq (show ¬ szR a.term.wt (szR a.seq.wt l) < 0 by simpa using h2)
 refine callF (zk9 a.cut (szR a.term.wt (szR a.seq.wt l)) (by omega) (by omega)) (by simp -implicitDefEqProofs only [go_sem, zav, zah, zaa, zab, zaa, zab]) ?_
 simp -implicitDefEqProofs only [go_sem, zav, zah, zaa, zab, zaa, zab]
 refine ⟨fun h3 => ?_, fun h3 => ?_⟩
 ·have := zd2 (by omega) (show szR a.cut.wt (szR a.term.wt (szR a.seq.wt l)) < 0 by simpa using h3)
  rw [zco (by have hu0 : zpd a.parts = a.parts.length + (a.parts.map Dv.wt).sum := rfl;  omega)]
 obtain ⟨k3, j3⟩ := zdq (show ¬ szR a.cut.wt (szR a.term.wt (szR a.seq.wt l)) < 0 by simpa using h3)
 refine callF (H (szR a.cut.wt (szR a.term.wt (szR a.seq.wt l))) (by omega) (by omega)) (by simp -implicitDefEqProofs only [go_sem, zav, zah, zaa, zab]) ?_
 simp -implicitDefEqProofs only [go_sem, zav, zah, zaa, zab]
 refine ⟨fun h4 => ?_, fun h4 => ?_⟩
 ·have := zd2 (by omega) (show szR (zpd a.parts) (szR a.cut.wt (szR a.term.wt (szR a.seq.wt l))) < 0 by simpa using h4)
  rw [zco (by have hu0 : zpd a.parts = a.parts.length + (a.parts.map Dv.wt).sum := rfl;  omega)]
 obtain ⟨k4, j4⟩ := zdq (show ¬ szR (zpd a.parts) (szR a.cut.wt (szR a.term.wt (szR a.seq.wt l))) < 0 by simpa using h4)
 rw [show szR a.wt l = l - a.wt from zki (by have hu0 : zpd a.parts = a.parts.length + (a.parts.map Dv.wt).sum := rfl;  omega)]; exact zq7 (by have hu0 : zpd a.parts = a.parts.length + (a.parts.map Dv.wt).sum := rfl;  omega)
set_option maxHeartbeats 400000 in
theorem zlj (a : Dv) (H : FC Tryz.prog 88 [.one (dvS a.parts)] [.one (dvS a.parts)]) (hs : a.wt <= 1048576) : FC Tryz.prog 34 [dvD a] [dvD a] := by
 have hW := a.wt_eq
 simp only [dvD, zav, zah, zaa, zab]
 refine zag Tryz.call34 Tryz.func34 rfl (by kernel_rfl) (zau (by kernel_rfl)) ?_
 simp -implicitDefEqProofs only [go_sem, Tryz.results34]
 refine callF (ztz a.seq (by have hu0 : zpd a.parts = a.parts.length + (a.parts.map Dv.wt).sum := rfl;  omega)) (by simp -implicitDefEqProofs only [go_sem, zav, zah, zaa, zab, zah]) ?_
 simp -implicitDefEqProofs only [go_sem, zav, zah, zaa, zab, zah]
 refine callF (zwa a.term (by have hu0 : zpd a.parts = a.parts.length + (a.parts.map Dv.wt).sum := rfl;  omega)) (by simp -implicitDefEqProofs only [go_sem, zav, zah, zaa, zab, zab]) ?_
 simp -implicitDefEqProofs only [go_sem, zav, zah, zaa, zab, zab]
 refine callF (zli a.cut (by have hu0 : zpd a.parts = a.parts.length + (a.parts.map Dv.wt).sum := rfl;  omega)) (by simp -implicitDefEqProofs only [go_sem, zav, zah, zaa, zab, zaa, zab]) ?_
 simp -implicitDefEqProofs only [go_sem, zav, zah, zaa, zab, zaa, zab]
 refine callF (H) (by simp -implicitDefEqProofs only [go_sem, zav, zah, zaa, zab]) ?_
 simp -implicitDefEqProofs only [go_sem, zav, zah, zaa, zab]
set_option maxHeartbeats 400000 in
theorem zk3 (a b : Dv) (H : FC Tryz.prog 91 [.one (dvS a.parts), .one (dvS b.parts)] [bD (same a.parts b.parts)]) : FC Tryz.prog 38 [dvD a, dvD b] [bD (same a b)] := by
 simp only [dvD, zav, zah, zaa, zab]
 refine zag Tryz.call38 Tryz.func38 rfl (by kernel_rfl) (zau (by kernel_rfl)) ?_
 simp -implicitDefEqProofs only [go_sem, Tryz.results38]
 refine ⟨fun h1 => ?_, fun h1 => ?_⟩
 ·rw [zbv.2 (by rintro rfl; simp [zbe] at h1)]
 refine callF (ztv a.seq b.seq) (by simp -implicitDefEqProofs only [go_sem, zav, zah, zaa, zab, zah]) ?_
 simp -implicitDefEqProofs only [go_sem, zav, zah, zaa, zab, zah]
 refine ⟨fun h2 => ?_, fun h2 => ?_⟩
 ·rw [zbv.2 (by rintro rfl; simp [zbe] at h2)]
 refine ⟨fun h3 => ?_, fun h3 => ?_⟩
 ·rw [zbv.2 (by rintro rfl; simp [zbe] at h3)]
 refine callF (zvq a.term b.term) (by simp -implicitDefEqProofs only [go_sem, zav, zah, zaa, zab, zab]) ?_
 simp -implicitDefEqProofs only [go_sem, zav, zah, zaa, zab, zab]
 refine ⟨fun h4 => ?_, fun h4 => ?_⟩
 ·rw [zbv.2 (by rintro rfl; simp [zbe] at h4)]
 refine callF (zlp a.cut b.cut) (by simp -implicitDefEqProofs only [go_sem, zav, zah, zaa, zab, zaa, zab]) ?_
 simp -implicitDefEqProofs only [go_sem, zav, zah, zaa, zab, zaa, zab]
 refine ⟨fun h5 => ?_, fun h5 => ?_⟩
 ·rw [zbv.2 (by rintro rfl; simp [zbe] at h5)]
 refine callF (H) (by simp -implicitDefEqProofs only [go_sem, zav, zah, zaa, zab]) ?_
 simp -implicitDefEqProofs only [go_sem, zav, zah, zaa, zab]
 refine ⟨fun h6 => ?_, fun h6 => ?_⟩
 ·rw [zbv.2 (by rintro rfl; simp [zbe] at h6)]
 rw [zbs.2 (by cases a; cases b; simp [zbs, Dv.rule, Dv.seq, Dv.main, Dv.term, Dv.cut, Dv.parts] at h1 h2 h3 h4 h5 h6 ⊢; simp [h1, h2, h3, h4, h5, h6])]
theorem zl8 : ∀ a : Dv, ∀ l : Int, 0 <= l -> l <= 1048576 -> FC Tryz.prog 31 [dvD a, iD l] [iD (szR a.wt l)] :=
 zdn fun b0 b1 b2 b3 b4 xs ih l h0 h1 => zk7 (.mk b0 b1 b2 b3 b4 xs) (fun l h0 h1 => zjv xs ih l h0 h1) l h0 h1
theorem zl0 : ∀ a : Dv, a.wt <= 1048576 -> FC Tryz.prog 34 [dvD a] [dvD a] := by
 refine zdn fun b0 b1 b2 b3 b4 xs ih hs => ?_
 have hW := Dv.wt_eq (.mk b0 b1 b2 b3 b4 xs)
 simp only [Dv.rule, Dv.seq, Dv.main, Dv.term, Dv.cut, Dv.parts] at hW
 refine zlj _ (zjt xs (fun x hx => ih x hx ?_) (by omega)) hs
 have := zbu Dv.wt xs x hx
 omega
theorem zl7 : ∀ a b : Dv, FC Tryz.prog 38 [dvD a, dvD b] [bD (same a b)] :=
 zdn fun b0 b1 b2 b3 b4 xs ih b => zk3 (.mk b0 b1 b2 b3 b4 xs) b (zjs xs b.parts ih)
end Go.Proofs.YtemnhgmgeijkcaaGreat
namespace Go.Proofs.YtemnhgmgeijkcaaGreat
set_option linter.unusedSimpArgs false
set_option linter.unusedVariables false
set_option linter.unusedSectionVars false
set_option maxRecDepth 4000
open Go.RowKit
theorem qbl (s : Sq) (d : Dv) : sqsW (znt s d).1 <= 2000000 := by
 unfold znt
 split
 ·rename_i hs
  have hsm := zvo s hs d
  have hlen : (adR s d).1.length <= 2 := by
   unfold adR
   split
   ·split <;> simp
   ·split
    ·split
     ·unfold zhv
      repeat' split
      all_goals simp
     ·unfold zck
      repeat' split
      all_goals simp
    ·simp
  unfold prR
  split
  ·show sqsW ((adR s d).1.map (zfa s d)) <= _
   generalize (adR s d).1 = L at hsm hlen
   have key : ∀ x ∈ L, (zfa s d x).wt <= 800000 := fun x hx => by
    have := zrl hs d (hsm x hx)
    rw [Sq.wt_eq]; omega
   unfold sqsW
   rw [List.length_map]
   match L, hlen, key with
   | [], _, _ => simp
   | [a], _, key =>
    have := key a (by simp)
    simp only [List.map_cons, List.map_nil, List.sum_cons, List.sum_nil, List.length_cons, List.length_nil]; omega
   | [a, b], _, key =>
    have := key a (by simp)
    have := key b (by simp)
    simp only [List.map_cons, List.map_nil, List.sum_cons, List.sum_nil, List.length_cons, List.length_nil]; omega
   | a :: b :: c :: L, h, _ => simp at h
  ·exact Nat.zero_le _
 ·exact Nat.zero_le _
end Go.Proofs.YtemnhgmgeijkcaaGreat
namespace Go.Proofs.YtemnhgmgeijkcaaGreat
set_option linter.unusedSimpArgs false
set_option linter.unusedVariables false
set_option linter.unusedSectionVars false
set_option maxRecDepth 4000
open Go.RowKit
theorem zgc {a x : Dv} (h : x ∈ a.parts) : x.wt <= a.wt := by
 have := a.wt_eq
 have := zbu Dv.wt a.parts x h
 omega
def Dv.nodes : Dv -> Nat := Dv.fold fun _ _ _ _ _ _ rs => 1 + rs.sum
theorem Dv.nodes_eq (a : Dv) : a.nodes = 1 + (a.parts.map Dv.nodes).sum := Dv.fold_eq _ a
theorem zic : ∀ a : Dv, a.nodes <= 1 + a.wt := by
 refine zdn fun r s m t c xs ih => ?_
 rw [Dv.nodes_eq, Dv.wt_eq]
 show 1 + (xs.map Dv.nodes).sum <= 1 + (s.wt + t.wt + c.wt + (xs.length + (xs.map Dv.wt).sum))
 have : (xs.map Dv.nodes).sum <= xs.length + (xs.map Dv.wt).sum := by
  induction xs with
  | nil => simp
  | cons x xs ih2 =>
   have h1 := ih x (by simp)
   have h2 := ih2 fun y hy => ih y (by simp [hy])
   simp only [List.map_cons, List.sum_cons, List.length_cons]
   omega
 omega
def zfw : Dv -> Int := Dv.fold fun _ _ _ _ _ _ rs => szL 60 1 rs
theorem zwk (a : Dv) : zfw a = szL 60 1 (a.parts.map zfw) := Dv.fold_eq _ a
theorem zmq : ∀ a : Dv, 1 <= zfw a /\ zfw a <= a.nodes /\ (zfw a <= 60 -> zfw a = a.nodes) := by
 refine zdn fun r s m t c xs ih => ?_
 rw [zwk, Dv.nodes_eq]
 show 1 <= szL 60 1 (xs.map zfw) /\ szL 60 1 (xs.map zfw) <= ((1 + (xs.map Dv.nodes).sum : Nat) : Int) /\ _
 obtain ⟨k1, k2, k3⟩ := zkc zfw Dv.nodes 60 xs 1 (by omega) ih
 refine ⟨k2, by omega, fun h => ?_⟩
 have := k3 h
 show szL 60 1 (xs.map zfw) = _
 rw [this]; show _ = ((1 + (xs.map Dv.nodes).sum : Nat) : Int); omega
theorem qhk (a : Dv) : decide (zfw a <= 60) = decide (a.nodes <= 60) := by
 obtain ⟨h1, h2, h3⟩ := zmq a
 rw [decide_eq_decide]
 exact ⟨fun h => by have := h3 h; omega, fun h => by omega⟩
set_option maxHeartbeats 400000 in
theorem zqh (a : Dv) (hs : a.wt <= 1099511627776) (H : ∀ x ∈ a.parts, FC Tryz.prog 96 [dvD x] [iD (zfw x)]) : FC Tryz.prog 96 [dvD a] [iD (zfw a)] := by
 have hl : a.parts.length <= 9223372036854775807 := by rw [Dv.wt_eq] at hs; omega
 have hn := zic a
 have hN := a.nodes_eq
 simp only [dvD, zav]
 refine zag Tryz.call96 Tryz.func96 rfl (by kernel_rfl) (zau (by kernel_rfl)) ?_
 simp -implicitDefEqProofs only [go_sem, Tryz.results96]
 refine zad (fun p : Nat × Int => hd [(3, vI p.2), (7, vT (dvS a.parts)), (8, vI a.parts.length), (9, vI p.1)] [] []) (fun p => p.1 <= a.parts.length /\ zfw a = szL 60 p.2 ((a.parts.drop p.1).map zfw) /\ 1 <= p.2 /\ p.2 + qby Dv.nodes a.parts p.1 <= a.nodes) (fun p => a.parts.length - p.1) (0, 1) (zac ?_) ?_ ?_
 ·simp -implicitDefEqProofs only [go_sem]
 ·exact ⟨by simp, by rw [zwk]; rfl, by omega, by rw [zfc]; omega⟩
 ·intro ⟨k, n⟩ ⟨hk, hr, h1, h2⟩
  simp only at hk hr h1 h2
  by_cases hlt : k < a.parts.length
  ·have hd := ziw Dv.nodes a.parts k hlt
   obtain ⟨s1, s2, s3⟩ := zmq a.parts[k]
   rw [List.drop_eq_getElem_cons hlt, List.map_cons, szL] at hr
   simp -implicitDefEqProofs only [go_sem, zaf, hlt, zav]
   refine ⟨fun h => ?_, fun h => ?_⟩
   ·rw [hr, if_pos (by simpa using h)]
   ·refine callF (H a.parts[k] (List.getElem_mem hlt)) (by simp -implicitDefEqProofs only [go_sem, zav]) ?_
    simp -implicitDefEqProofs only [go_sem, zav]
    rw [if_neg (by simpa using h)] at hr
    exact ⟨(k + 1, n + zfw a.parts[k]), ⟨hlt, hr, by simp only; omega, by simp only; omega⟩, by simp only; omega, zac (by simp -implicitDefEqProofs only [go_sem]; rw [zas (by omega), zbk (by omega) (by omega)]; exact ⟨rfl, rfl⟩)⟩
  ·simp -implicitDefEqProofs only [go_sem, hlt]
   rw [hr, List.drop_of_length_le (by omega)]; rfl
theorem zsi : ∀ a : Dv, a.wt <= 1099511627776 -> FC Tryz.prog 96 [dvD a] [iD (zfw a)] :=
 zdn fun r s m t c xs ih hs => zqh (.mk r s m t c xs) hs fun x hx => ih x hx (Nat.le_trans (zgc (a := .mk r s m t c xs) hx) hs)
def zen : Dv -> Int -> Int := Dv.fold fun _ _ _ _ _ _ rs m => mnL m 1 rs
theorem zv8 (a : Dv) (m : Int) : zen a m = mnL m 1 (a.parts.map zen) := congrFun (Dv.fold_eq _ a) m
theorem znc : ∀ (a : Dv) (m : Int), 0 <= m -> 1 <= zen a m /\ zen a m <= a.nodes /\ (zen a m <= m -> zen a m = a.nodes) := by
 refine zdn fun b0 b1 b2 b3 b4 xs ih m hm => ?_
 rw [zv8, Dv.nodes_eq]
 show 1 <= mnL m 1 (xs.map zen) /\ mnL m 1 (xs.map zen) <= ((1 + (xs.map Dv.nodes).sum : Nat) : Int) /\ (mnL m 1 (xs.map zen) <= m -> mnL m 1 (xs.map zen) = ((1 + (xs.map Dv.nodes).sum : Nat) : Int))
 obtain ⟨k1, k2, k3⟩ := zj5 zen Dv.nodes m xs 1 (by omega) ih
 refine ⟨k2, by omega, fun h => ?_⟩
 have := k3 h
 omega
theorem qg9 (a : Dv) (m : Nat) : decide (zen a m <= m) = decide (a.nodes <= m) := by
 obtain ⟨h1, h2, h3⟩ := znc a m (by omega)
 rw [decide_eq_decide]
 exact ⟨fun h => by have := h3 h; omega, fun h => by omega⟩
set_option maxHeartbeats 400000 in
theorem zyf (a : Dv) (hs : a.wt <= 1099511627776) (H : ∀ x ∈ a.parts, ∀ m : Int, 0 <= m -> m <= 1099511627776 -> FC Tryz.prog 94 [dvD x, iD m] [iD (zen x m)]) (m : Int) (h0 : 0 <= m) (h1 : m <= 1099511627776) : FC Tryz.prog 94 [dvD a, iD m] [iD (zen a m)] := by
 have hl : a.parts.length <= 9223372036854775807 := by rw [Dv.wt_eq] at hs; omega
 have hn := zic a
 have hN := a.nodes_eq
 simp only [dvD, zav]
 refine zag Tryz.call94 Tryz.func94 rfl (by kernel_rfl) (zau (by kernel_rfl)) ?_
 simp -implicitDefEqProofs only [go_sem, Tryz.results94]
 refine zad (fun p : Nat × Int => hd [(1, vI m), (2, .one (.bx 2 0)), (5, vI p.2), (6, vI p.1)] [(2, [.t (.int .i64 a.rule), .t (fmS a.seq.left), .t (fmS a.seq.right), .t (.int .i64 a.main), .t (.str a.term.name), .t (tmS a.term.args), .t (.int .i64 a.cut.op), .t (.str a.cut.atom.name), .t (tmS a.cut.atom.args), .t (.str a.cut.var), .t (fmS a.cut.parts), .t (dvS a.parts)])] []) (fun p => p.1 <= a.parts.length /\ zen a m = mnL m p.2 ((a.parts.drop p.1).map zen) /\ 1 <= p.2 /\ p.2 + qby Dv.nodes a.parts p.1 <= a.nodes) (fun p => a.parts.length - p.1) (0, 1) (zac ?_) ?_ ?_
 ·simp -implicitDefEqProofs only [go_sem]
 ·exact ⟨by simp, by rw [zv8]; rfl, by omega, by rw [zfc]; omega⟩
 ·intro ⟨k, n⟩ ⟨hk, hr, h2, h3⟩
  simp only at hk hr h2 h3
  by_cases hlt : k < a.parts.length
  ·have hd := ziw Dv.nodes a.parts k hlt
   rw [List.drop_eq_getElem_cons hlt, List.map_cons, mnL] at hr
   simp -implicitDefEqProofs only [go_sem, zaf, hlt, zav]
   refine ⟨fun h => ?_, fun h => ?_⟩
   ·have hle : n <= m := by simpa using h
    obtain ⟨s1, s2, s3⟩ := znc a.parts[k] (m - n) (by omega)
    rw [zbk (n := m - n) (by omega) (by omega)]
    refine callF (H a.parts[k] (List.getElem_mem hlt) (m - n) (by omega) (by omega)) (by simp -implicitDefEqProofs only [go_sem, zav]) ?_
    simp -implicitDefEqProofs only [go_sem, zav]
    rw [if_pos hle] at hr
    exact ⟨(k + 1, n + zen a.parts[k] (m - n)), ⟨hlt, hr, by simp only; omega, by simp only; omega⟩, by simp only; omega, zac (by simp -implicitDefEqProofs only [go_sem]; rw [zas (by omega), zbk (by omega) (by omega)]; exact ⟨rfl, rfl⟩)⟩
   ·rw [hr, if_neg (by simpa using h)]
  ·simp -implicitDefEqProofs only [go_sem, hlt]
   rw [hr, List.drop_of_length_le (by omega)]; rfl
theorem zp4 : ∀ a : Dv, a.wt <= 1099511627776 -> ∀ m : Int, 0 <= m -> m <= 1099511627776 -> FC Tryz.prog 94 [dvD a, iD m] [iD (zen a m)] :=
 zdn fun b0 b1 b2 b3 b4 xs ih hs => zyf (.mk b0 b1 b2 b3 b4 xs) hs fun x hx => ih x hx (Nat.le_trans (zgc (a := .mk b0 b1 b2 b3 b4 xs) hx) hs)
end Go.Proofs.YtemnhgmgeijkcaaGreat
namespace Go.Proofs.YtemnhgmgeijkcaaGreat
set_option linter.unusedSimpArgs false
set_option linter.unusedVariables false
set_option linter.unusedSectionVars false
set_option maxRecDepth 4000
open Go.RowKit
noncomputable def zzk (s : Sq) (d : Dv) : Bool := (znt s d).2 && same (znt s d).1 (d.parts.map Dv.seq)
def fwL : Nat -> List (List Int × Bool) -> List Int × Bool
 | _, [] => ([], false)
 | i, r :: rs => if r.2 = true then ((i : Int) :: r.1, true) else fwL (i + 1) rs
noncomputable def fwD : Dv -> List Int × Bool := Dv.fold fun r s m t c ps rs => if zzk s (.mk r s m t c ps) = true then fwL 0 rs else ([], true)
theorem zqz (a : Dv) : fwD a = if zzk a.seq a = true then fwL 0 (a.parts.map fwD) else ([], true) := by
 have h := Dv.fold_eq (fun r s m t c ps rs => if zzk s (.mk r s m t c ps) = true then fwL 0 rs else (([] : List Int), true)) a
 rw [Dv.eta] at h
 exact h
set_option maxRecDepth 10000 in
set_option maxHeartbeats 400000 in
theorem zlt (xs : List Sq) (ys : List Dv) (g : FuncId) (caps : List T) (H : ∀ x ∈ xs, ∀ y ∈ ys, FC Tryz.prog g (sqD x :: dvD y :: caps.map .one) [bD (same x y.seq)]) : FC Tryz.prog 215 [.one (sqS xs), .one (dvS ys), .one (.fn g caps)] [bD (same xs (ys.map Dv.seq))] := by
 refine zc7 (fun hw => ?_) Tryz.call215
 have hl : xs.length <= 9223372036854775807 := by simpa [zfj, wfT] using hw.1.1
 have hl2 : ys.length <= 9223372036854775807 := by simpa [zfj, wfT] using hw.2.1.1
 refine zag Tryz.call215 Tryz.func215 rfl (by kernel_rfl) (zau (by kernel_rfl)) ?_
 simp -implicitDefEqProofs only [go_sem, Tryz.results215]
 refine ⟨fun h => ?_, fun h => ?_⟩
 ·rw [zbv.2 (by rintro e; rw [e] at h; simp at h)]
 ·have hlen : xs.length = ys.length := by simp at h; omega
  refine zad (fun k : Nat => hd [(1, vT (dvS ys)), (2, .one (.t (.fn g caps))), (15, vT (sqS xs)), (16, vI xs.length), (17, vI k)] [] []) (fun k => k <= xs.length /\ same xs (ys.map Dv.seq) = same (xs.drop k) ((ys.drop k).map Dv.seq)) (fun k => xs.length - k) 0 (zac ?_) ?_ ?_
  ·simp -implicitDefEqProofs only [go_sem]
  ·simp
  ·intro k ⟨hk, hr⟩
   by_cases hlt : k < xs.length
   ·have hk2 : k < ys.length := by omega
    simp -implicitDefEqProofs only [go_sem, List.length_map, zaf, hlt, hk2, zah, zav, zaa, zab]
    refine callF (H xs[k] (List.getElem_mem hlt) ys[k] (List.getElem_mem hk2)) (by simp -implicitDefEqProofs only [go_sem, zah, zav, zaa, zab]) ?_
    simp -implicitDefEqProofs only [go_sem, zah, zav, zaa, zab]
    rw [List.drop_eq_getElem_cons hlt, List.drop_eq_getElem_cons hk2, List.map_cons, zbz] at hr
    refine ⟨fun h => ?_, fun h => ?_⟩
    ·rw [hr, show same xs[k] ys[k].seq = false by simpa using h]; rfl
    ·rw [show same xs[k] ys[k].seq = true by simpa using h, Bool.true_and] at hr
     rw [zas (by omega)]
     exact ⟨k + 1, ⟨by omega, hr⟩, by omega, zac (by simp -implicitDefEqProofs only [go_sem])⟩
   ·simp -implicitDefEqProofs only [go_sem, List.length_map, hlt]
    rw [hr, List.drop_of_length_le (by omega), List.drop_of_length_le (by omega), List.map_nil, zdt]
end Go.Proofs.YtemnhgmgeijkcaaGreat
namespace Go.Proofs.YtemnhgmgeijkcaaGreat
set_option linter.unusedSimpArgs false
set_option linter.unusedVariables false
set_option linter.unusedSectionVars false
set_option maxRecDepth 4000
open Go.RowKit
theorem zgz (xs ys : List Fm) : FC Tryz.prog 272 [.one (fmS xs), .one (fmS ys)] [bD (same xs ys)] := by
 have H := zet xs ys same 205 [] fun x _ y _ => za9 x y
 rw [zj0 fun x _ y => rfl] at H
 refine zag Tryz.call272 Tryz.func272 rfl (by kernel_rfl) (zau (by kernel_rfl)) ?_
 simp -implicitDefEqProofs only [go_sem, Tryz.results272]
 refine callF (H) (by simp -implicitDefEqProofs only [go_sem]) ?_
 simp -implicitDefEqProofs only [go_sem]
theorem qd7 (a b : Sq) : same a b = (same a.left b.left && same a.right b.right) := by
 obtain ⟨l, r⟩ := a
 obtain ⟨l2, r2⟩ := b
 rw [Bool.eq_iff_iff, Bool.and_eq_true, zbs, zbs, zbs, Sq.mk.injEq]
theorem znn (a b : Sq) : FC Tryz.prog 217 [sqD a, sqD b] [bD (same a b)] := by
 have H1 := zgz a.left b.left
 have H2 := zgz a.right b.right
 rw [qd7]
 simp only [sqD, zah]
 cases h : same a.left b.left
 ·rw [h] at H1
  refine zag Tryz.call217 Tryz.func217 rfl (by kernel_rfl) (zau (by kernel_rfl)) ?_
  simp -implicitDefEqProofs only [go_sem, Tryz.results217]
  refine callF (H1) (by simp -implicitDefEqProofs only [go_sem]) ?_
  simp -implicitDefEqProofs only [go_sem]
 ·rw [h] at H1
  refine zag Tryz.call217 Tryz.func217 rfl (by kernel_rfl) (zau (by kernel_rfl)) ?_
  simp -implicitDefEqProofs only [go_sem, Tryz.results217]
  refine callF (H1) (by simp -implicitDefEqProofs only [go_sem]) ?_
  simp -implicitDefEqProofs only [go_sem]
  refine callF (H2) (by simp -implicitDefEqProofs only [go_sem]) ?_
  simp -implicitDefEqProofs only [go_sem]
theorem zxl (a : Sq) (b : Dv) : FC Tryz.prog 216 [sqD a, dvD b] [bD (same a b.seq)] := by
 have H := znn a b.seq
 simp only [sqD, zah, dvD, zav b] at H ⊢
 refine zag Tryz.call216 Tryz.func216 rfl (by kernel_rfl) (zau (by kernel_rfl)) ?_
 simp -implicitDefEqProofs only [go_sem, Tryz.results216]
 refine callF (H) (by simp -implicitDefEqProofs only [go_sem]) ?_
 simp -implicitDefEqProofs only [go_sem]
theorem qb5 (d : Dv) (hd : d.wt <= 1048576) : FC Tryz.prog 147 [dvD d] [bD (zzk d.seq d)] := by
 have hW := d.wt_eq
 have HP := zpo d.seq (by omega) d hd
 have hv : zzk d.seq d = ((znt d.seq d).2 && same (znt d.seq d).1 (d.parts.map Dv.seq)) := rfl
 rw [hv]
 have HQ := zlt (znt d.seq d).1 d.parts 216 [] fun x _ y _ => zxl x y
 generalize znt d.seq d = A at HP HQ ⊢
 obtain ⟨L, b⟩ := A
 simp only at HP HQ ⊢
 simp only [sqD, zah, dvD, zav d] at HP ⊢
 cases b
 ·rw [Bool.false_and]
  refine zag Tryz.call147 Tryz.func147 rfl (by kernel_rfl) (zau (by kernel_rfl)) ?_
  simp -implicitDefEqProofs only [go_sem, Tryz.results147]
  refine callF (HP) (by simp -implicitDefEqProofs only [go_sem]) ?_
  simp -implicitDefEqProofs only [go_sem]
 ·rw [Bool.true_and]
  refine zag Tryz.call147 Tryz.func147 rfl (by kernel_rfl) (zau (by kernel_rfl)) ?_
  simp -implicitDefEqProofs only [go_sem, Tryz.results147]
  refine callF (HP) (by simp -implicitDefEqProofs only [go_sem]) ?_
  simp -implicitDefEqProofs only [go_sem]
  refine callF (HQ) (by simp -implicitDefEqProofs only [go_sem]) ?_
  simp -implicitDefEqProofs only [go_sem]
end Go.Proofs.YtemnhgmgeijkcaaGreat
namespace Go.Proofs.YtemnhgmgeijkcaaGreat
set_option linter.unusedSimpArgs false
set_option linter.unusedVariables false
set_option linter.unusedSectionVars false
set_option maxRecDepth 4000
open Go.RowKit
theorem qd6 {B : Nat} : ∀ (i : Nat) (rs : List (List Int × Bool)), (∀ r ∈ rs, r.1.length <= B) -> (fwL i rs).1.length <= B + 1
 | _, [], _ => by simp [fwL]
 | i, r :: rs, h => by
  unfold fwL
  split
  ·have := h r (by simp)
   simp only [List.length_cons]; omega
  ·exact qd6 (i + 1) rs fun x hx => h x (by simp [hx])
theorem qip : ∀ (i : Nat) (rs : List (List Int × Bool)), (fwL i rs).2 = false -> (fwL i rs).1 = []
 | _, [], _ => rfl
 | i, r :: rs, h => by
  unfold fwL at h ⊢
  split
  ·rename_i hr
   rw [if_pos hr] at h; cases h
  ·rename_i hr
   rw [if_neg hr] at h
   exact qip (i + 1) rs h
theorem fwD_no (d : Dv) (h : (fwD d).2 = false) : (fwD d).1 = [] := by
 rw [zqz] at h ⊢
 split
 ·rename_i hr
  rw [if_pos hr] at h
  exact qip 0 _ h
 ·rfl
theorem qld : ∀ d : Dv, (fwD d).1.length <= d.nodes := by
 refine zdn fun r s m t c ps ih => ?_
 rw [zqz, Dv.nodes_eq]
 split
 ·show (fwL 0 (ps.map fwD)).1.length <= 1 + (ps.map Dv.nodes).sum
  have := qd6 (B := (ps.map Dv.nodes).sum) 0 (ps.map fwD) fun x hx => by
   obtain ⟨y, hy, rfl⟩ := List.mem_map.1 hx
   have := ih y hy
   have := zbu Dv.nodes ps y hy
   omega
  omega
 ·simp
set_option maxHeartbeats 1000000 in
theorem zoh (a : Dv) (hdw : a.wt <= 1048576) (H : ∀ x ∈ a.parts, FC Tryz.prog 97 [dvD x] [.one (zf0 (fwD x).1), bD (fwD x).2]) : FC Tryz.prog 97 [dvD a] [.one (zf0 (fwD a).1), bD (fwD a).2] := by
 have hW := a.wt_eq
 have HR := qb5 a hdw
 rw [zqz]
 simp only [dvD, zav a] at HR ⊢
 cases hr : zzk a.seq a
 ·rw [hr] at HR
  rw [if_neg (by simp)]
  show FC _ _ _ [.one (.sl 1 []), _]
  refine zag Tryz.call97 Tryz.func97 rfl (by kernel_rfl) (zau (by kernel_rfl)) ?_
  simp -implicitDefEqProofs only [go_sem, Tryz.results97]
  refine callF (HR) (by simp -implicitDefEqProofs only [go_sem]) ?_
  simp -implicitDefEqProofs only [go_sem]
  refine zal (by simp -implicitDefEqProofs only [go_sem]) ?_
  simp -implicitDefEqProofs only [go_sem]
 ·rw [hr] at HR
  rw [if_pos rfl]
  refine zag Tryz.call97 Tryz.func97 rfl (by kernel_rfl) (zau (by kernel_rfl)) ?_
  simp -implicitDefEqProofs only [go_sem, Tryz.results97]
  refine callF (HR) (by simp -implicitDefEqProofs only [go_sem]) ?_
  simp -implicitDefEqProofs only [go_sem]
  refine zad (fun k : Nat => hd [(13, vT (dvS a.parts)), (14, vI a.parts.length), (15, vI k)] [] []) (fun k => k <= a.parts.length /\ fwL 0 (a.parts.map fwD) = fwL k ((a.parts.drop k).map fwD)) (fun k => a.parts.length - k) 0 (zac ?_) ⟨Nat.zero_le _, by rw [List.drop_zero]⟩ ?_
  ·simp -implicitDefEqProofs only [go_sem]
  ·rintro k ⟨hk, hrec⟩
   by_cases hlt : k < a.parts.length
   ·have HC := H a.parts[k] (List.getElem_mem hlt)
    have hx := zgc (a := a) (List.getElem_mem hlt)
    have hlen := qld a.parts[k]
    have hn := zic a.parts[k]
    rw [List.drop_eq_getElem_cons hlt, List.map_cons, fwL] at hrec
    generalize fwD a.parts[k] = B at HC hrec hlen
    obtain ⟨R, b⟩ := B
    simp only at HC hrec hlen
    simp only [dvD, zav a.parts[k]] at HC
    cases b
    ·rw [if_neg (by simp)] at hrec
     simp -implicitDefEqProofs only [go_sem, hlt, zaf, zav a.parts[k]]
     refine callF (HC) (by simp -implicitDefEqProofs only [go_sem]) ?_
     simp -implicitDefEqProofs only [go_sem]
     refine ⟨k + 1, ⟨hlt, hrec⟩, by omega, zac ?_⟩
     simp -implicitDefEqProofs only [go_sem]
     rw [zas (by omega)]
    ·rw [if_pos rfl] at hrec
     rw [hrec]
     have hap : 1 + R.length <= 4294967296 := by omega
     simp -implicitDefEqProofs only [go_sem, hlt, zaf, zav a.parts[k]]
     refine callF (HC) (by simp -implicitDefEqProofs only [go_sem]) ?_
     simp -implicitDefEqProofs only [go_sem]
     refine zal (by simp -implicitDefEqProofs only [go_sem]) ?_
     simp -implicitDefEqProofs only [go_sem]
     refine apD true (by simp -implicitDefEqProofs only [go_sem, ne_eq, List.length_map, List.length_cons, List.length_nil, hap]) ?_
     simp -implicitDefEqProofs only [go_sem, ne_eq, List.length_map, List.length_cons, List.length_nil, hap]
   ·rw [List.drop_of_length_le (by omega)] at hrec
    rw [hrec]
    simp -implicitDefEqProofs only [go_sem, hlt]
    exact ⟨rfl, rfl⟩
theorem zrq : ∀ a : Dv, a.wt <= 1048576 -> FC Tryz.prog 97 [dvD a] [.one (zf0 (fwD a).1), bD (fwD a).2] :=
 zdn fun b0 b1 b2 b3 b4 xs ih hd => zoh (.mk b0 b1 b2 b3 b4 xs) hd fun x hx => ih x hx (Nat.le_trans (zgc (a := .mk b0 b1 b2 b3 b4 xs) hx) hd)
noncomputable def zxu (d : Dv) : List Int × Bool × Bool := if d.nodes <= 60 then ((fwD d).1, (fwD d).2, true) else ([], false, false)
theorem zjx (d : Dv) (hd : d.wt <= 1048576) : FC Tryz.prog 46 [dvD d] [.one (zf0 (zxu d).1), bD (zxu d).2.1, bD (zxu d).2.2] := by
 have HN := zsi d (by omega)
 have HF := zrq d hd
 have hle := qhk d
 rw [decide_eq_decide] at hle
 unfold zxu
 generalize zfw d = n at HN hle
 simp only [dvD, zav d] at HN HF ⊢
 by_cases h : d.nodes <= 60
 ·rw [if_pos h]
  have hn : (n > 60) = False := by simp; have := hle.2 h; omega
  refine zag Tryz.call46 Tryz.func46 rfl (by kernel_rfl) (zau (by kernel_rfl)) ?_
  simp -implicitDefEqProofs only [go_sem, Tryz.results46]
  refine callF (HN) (by simp -implicitDefEqProofs only [go_sem, hn]) ?_
  simp -implicitDefEqProofs only [go_sem, hn]
  refine callF (HF) (by simp -implicitDefEqProofs only [go_sem]) ?_
  simp -implicitDefEqProofs only [go_sem]
 ·rw [if_neg h]
  have hn : (n > 60) = True := by simp; have := fun h2 => h (hle.1 h2); omega
  show FC _ _ _ [.one (.sl 1 []), _, _]
  refine zag Tryz.call46 Tryz.func46 rfl (by kernel_rfl) (zau (by kernel_rfl)) ?_
  simp -implicitDefEqProofs only [go_sem, Tryz.results46]
  refine callF (HN) (by simp -implicitDefEqProofs only [go_sem, hn]) ?_
  simp -implicitDefEqProofs only [go_sem, hn]
noncomputable def zyu (d : Dv) : Bool := (zxu d).2.2 && !(zxu d).2.1
theorem zhc (d : Dv) (hd : d.wt <= 1048576) : FC Tryz.prog 44 [dvD d] [bD (zyu d)] := by
 have HF := zjx d hd
 unfold zyu
 generalize zxu d = A at HF ⊢
 obtain ⟨R, f, b⟩ := A
 simp only [dvD, zav d] at HF ⊢
 cases b
 ·rw [Bool.false_and]
  refine zag Tryz.call44 Tryz.func44 rfl (by kernel_rfl) (zau (by kernel_rfl)) ?_
  simp -implicitDefEqProofs only [go_sem, Tryz.results44]
  refine callF (HF) (by simp -implicitDefEqProofs only [go_sem]) ?_
  simp -implicitDefEqProofs only [go_sem]
 ·rw [Bool.true_and]
  refine zag Tryz.call44 Tryz.func44 rfl (by kernel_rfl) (zau (by kernel_rfl)) ?_
  simp -implicitDefEqProofs only [go_sem, Tryz.results44]
  refine callF (HF) (by simp -implicitDefEqProofs only [go_sem]) ?_
  simp -implicitDefEqProofs only [go_sem]
end Go.Proofs.YtemnhgmgeijkcaaGreat
namespace Go.Proofs.YtemnhgmgeijkcaaGreat
set_option linter.unusedSimpArgs false
set_option linter.unusedVariables false
set_option linter.unusedSectionVars false
set_option maxRecDepth 4000
open Go.RowKit
variable {P : Program}
def CTo (σ : St) (e : Nat) (x : Ev) : C -> T -> Prop
 | .ow e' n, t => e' = e /\ n = x.gen /\ t = .sl x.sz x.rows
 | c, t => CT1 σ c t
def VDo (σ : St) (e : Nat) (x : Ev) : V -> D -> Prop
 | .one c, .one t => CTo σ e x c t
 | .agg cs, .agg ts => zll σ cs ts
 | _, _ => False
def zrw (σ : St) (e : Nat) (x : Ev) : List V -> List D -> Prop
 | [], ds => ds = []
 | v :: vs, ds => ∃ d ds', ds = d :: ds' /\ VDo σ e x v d /\ zrw σ e x vs ds'
theorem CTo_ow (σ : St) (e : Nat) (x : Ev) (e' n : Nat) (t : T) : CTo σ e x (.ow e' n) t = (e' = e /\ n = x.gen /\ t = .sl x.sz x.rows) := rfl
theorem qmm (σ : St) (e : Nat) (x : Ev) (c : C) (t : T) : VDo σ e x (.one c) (.one t) = CTo σ e x c t := rfl
theorem qm2 (σ : St) (e : Nat) (x : Ev) (cs : List C) (ts : List T) : VDo σ e x (.agg cs) (.agg ts) = zll σ cs ts := rfl
theorem qe9 (σ : St) (e : Nat) (x : Ev) (ds : List D) : zrw σ e x [] ds = (ds = []) := rfl
theorem zy5 (σ : St) (e : Nat) (x : Ev) (v : V) (vs : List V) (d : D) (ds : List D) : zrw σ e x (v :: vs) (d :: ds) = (VDo σ e x v d /\ zrw σ e x vs ds) := propext ⟨fun ⟨d', ds', h, h1, h2⟩ => by
 obtain ⟨rfl, rfl⟩ := List.cons.inj h
 exact ⟨h1, h2⟩, fun h => ⟨_, _, rfl, h.1, h.2⟩⟩
theorem zrb {σ : St} {e : Nat} {x : Ev} {c : C} {t : T} (h : ∀ e' n, c ≠ .ow e' n) : CTo σ e x c t = CT1 σ c t := by
 cases c with
 | ow e' n => exact absurd rfl (h e' n)
 | _ => rfl
theorem CTo.loc {σ σ1 : St} {e : Nat} {x : Ev} {c : C} {t : T} (h : CTo σ e x c t) : CTo σ1 e x c t := by
 by_cases hc : ∃ e' n, c = .ow e' n
 ·obtain ⟨e', n, rfl⟩ := hc
  exact h
 ·have hc : ∀ e' n, c ≠ .ow e' n := fun e' n he => hc ⟨e', n, he⟩
  rw [zrb hc] at h ⊢
  exact CT1.loc h
theorem zrw.loc {σ σ1 : St} {e : Nat} {x : Ev} : ∀ {vs : List V} {ds : List D}, zrw σ e x vs ds -> zrw σ1 e x vs ds
 | [], _, h => h
 | v :: vs, _, h => by
  obtain ⟨d, ds', rfl, h1, h2⟩ := h
  refine ⟨d, ds', rfl, ?_, zrw.loc h2⟩
  have h1 : VDo σ e x v d := h1
  cases v with
  | one c =>
   cases d with
   | one t => exact CTo.loc h1
   | agg ts => exact h1.elim
  | agg cs =>
   cases d with
   | one t => exact h1.elim
   | agg ts => exact zll.loc h1
  | tup zs => cases d <;> exact h1.elim
theorem zrw.rep {n0 : Nat -> Prop} {N : Nat} {σ σ' : St} {g : Gh} {a : Act} {w : World} {e : Nat} {x : Ev} (hR : Rel n0 N σ' g a w) (hx : σ'.ev e = some x.off) : ∀ {xs : List V} {ds : List D}, zrw σ e x xs ds -> ∀ {vs : List Value}, VRl σ' g w xs vs -> zbm w (Fix σ' g w) ds vs
 | [], ds, h, vs, hv => by rw [show ds = [] from h]; exact hv
 | y :: xs, ds, h, vs, hv => by
  obtain ⟨d, ds', rfl, h1, h2⟩ := h
  obtain ⟨v, vs', rfl, k1, k2⟩ := hv
  refine ⟨v, vs', rfl, ?_, zrw.rep hR hx h2 k2⟩
  have h1' : VDo σ e x y d := h1
  cases y with
  | one c =>
   cases d with
   | one t =>
    have h1 : CTo σ e x c t := h1'
    have k1 : CR σ' g w c v := k1
    show zaw w (Fix σ' g w) t v
    by_cases hc : ∃ e' n, c = .ow e' n
    ·obtain ⟨e', n, rfl⟩ := hc
     obtain ⟨rfl, rfl, rfl⟩ := h1
     have := (hR.offs _ _ hx rfl).1
     rw [k1.1]
     exact this
    ·have hc : ∀ e' n, c ≠ .ow e' n := fun e' n he => hc ⟨e', n, he⟩
     rw [zrb hc] at h1
     have h3 : CT1 σ' c t := CT1.loc h1
     exact CT1.rep h3 k1
   | agg ts => exact h1'.elim
  | agg cs =>
   cases d with
   | one t => exact h1'.elim
   | agg ts =>
    have h1 : zll σ' cs ts := zll.loc h1'
    obtain ⟨u, rfl, k1⟩ := k1
    exact ⟨u, rfl, zll.rep h1 k1⟩
  | tup zs => cases d <;> exact h1'.elim
theorem zyn {o : Oper} {σ : St} {x : Operand} {asx : Array Operand} {ts : Array TypeId} {f : FuncId} {cvs : List V} {ds res : List D} {e : Nat} {y : Ev} (hy : σ.ev e = some y) (ho : o.op = .call ⟨.value x, asx, ts⟩)
  (h : RC P f ds res) (hc : za0 (σ.get P 0 x) = some (f, cvs)) (hv : zrw σ e y (σ.gets P asx ts ++ cvs) ds) : zak P o σ ((σ.upE [(e, y.off)]).callR o.dst res) := by
 refine zak.pre (frz_wk hy) ?_
 intro n0 N g a w hR hn hdN
 have hey : (σ.frz e y).ev e = some y.off := zaj _ _ _
 obtain ⟨vs, h1, h2⟩ := zdd hR ho (f := f) (cvs := cvs) hc h.1
 unfold Oper.wp
 rw [h1]
 have hargs := (zrw.rep hR hey hv h2).keep (A' := fun b => b < w.heap.size /\ Fix (σ.frz e y) g w b) (fun _ _ => rfl) fun b hb => ⟨hb.2.2.1, hb⟩
 refine (h.2 w vs (Fix (σ.frz e y) g w) hargs).mono ?_
 rintro e2 w' ⟨us, rfl, o1, hb⟩
 have hR' : Rel n0 N (σ.frz e y) g a w' := hR.after hn hb (New.refl (σ.frz e y) g (w.heap.size <= ·) w' hR.slc)
 refine ⟨g, ?_, Bk.of_below hb hn, rfl, rfl⟩
 have hfix : ∀ b, (b < w'.heap.size /\ (Fix (σ.frz e y) g w b \/ w.heap.size <= b)) -> Fix (σ.frz e y) g w' b := fun b hb' => by
  rcases hb'.2 with hf | hf
  ·exact ⟨hf.1, hf.2.1, hb'.1, hf.2.2.2⟩
  ·refine ⟨fun k hk e => by have := hR.lt hk; omega, fun e x hx ho hh => ?_, hb'.1, (hR.anew b (hn.new hf)).1⟩
   have := (hR.evs e x hx ho).lt b (List.mem_of_mem_head? hh)
   omega
 exact hR'.put o.dst (zeb (zbm.vrl (o1.keep (fun _ _ => rfl) hfix)) (fun y hy => by
  obtain ⟨d, _, rfl⟩ := List.mem_map.1 hy
  cases d <;> rfl)) hdN
section
variable {ks : List Fr} {Q : Exit -> St -> Prop} {σ : St} {ops : Array Oper} {os : List Oper} {L : List (List Ky × List Ky)} {ty : TypeId} {ps : String} {af : Array Edge} {x : Operand} {asx : Array Operand} {ts : Array TypeId} {f : FuncId} {ds res : List D}
theorem zze {d : Option Nat} (e : Nat) (h : RC P f ds res) (hp : zax (σ.ev e) fun y => zax (za0 (σ.get P 0 x)) fun p => p.1 = f /\ zrw σ e y (σ.gets P asx ts ++ p.2) ds)
  (k : zax (σ.ev e) fun y => exd P ops os (L ++ [(za1 (x :: asx.toList) ++ [(2, e)], dK d ++ eK [(e, y.off)])]) ks Q ((σ.upE [(e, y.off)]).callR d res)) :
  exd P ops (⟨d, .call ⟨.value x, asx, ts⟩, ty, ps, af, none⟩ :: os) L ks Q σ := by
 obtain ⟨y, hy, hp⟩ := zap hp
 obtain ⟨y', hy', k⟩ := zap k
 rw [hy] at hy'
 cases hy'
 obtain ⟨⟨f', cvs⟩, h1, rfl, h2⟩ := zap hp
 refine zft rfl rfl ?_ k
 have := zgy.of (P := P) (σ := σ) (o := ⟨d, .call ⟨.value x, asx, ts⟩, ty, ps, af, none⟩) (l := [(e, y.off)]) (v := zlw (res.map D.toV)) (R := za1 (x :: asx.toList) ++ [(2, e)]) (zbi (zbw _) rfl) fun σ1 h3 => ?_
 ·exact this
 ·have e1 : σ1.get P 0 x = σ.get P 0 x := zb9 (l := x :: asx.toList) (fun k hk => h3 k (by simp [hk])) (by simp) 0
  have e2 : σ1.gets P asx ts = σ.gets P asx ts := znj ts fun k hk => h3 k (List.mem_append.2 (Or.inl (zee hk)))
  have e3 : σ1.ev e = some y := (Eq.symm (h3 (2, e) (by simp))).trans hy
  have hv : zrw σ1 e y (σ1.gets P asx ts ++ cvs) ds := by rw [e2]; exact zrw.loc h2
  exact zyn e3 rfl h (by rw [e1]; exact h1) hv
end
attribute [go_sem] qe9 zy5 qmm qm2 CTo_ow
end Go.Proofs.YtemnhgmgeijkcaaGreat
namespace Go.Proofs.YtemnhgmgeijkcaaGreat
set_option linter.unusedSimpArgs false
set_option linter.unusedVariables false
set_option linter.unusedSectionVars false
set_option maxRecDepth 4000
open Go.RowKit
theorem zii (xs ys : List Fm) : FC Tryz.prog 271 [.one (fmS xs), .one (fmS ys)] [bD (same xs ys)] := by
 refine zc7 (fun hw => ?_) Tryz.call271
 have hl : xs.length <= 9223372036854775807 := by simpa [zfj, wfT] using hw.1.1
 have hl2 : ys.length <= 9223372036854775807 := by simpa [zfj, wfT] using hw.2.1.1
 refine zag Tryz.call271 Tryz.func271 rfl (by kernel_rfl) (zau (by kernel_rfl)) ?_
 simp -implicitDefEqProofs only [go_sem, Tryz.results271]
 refine ⟨fun h => ?_, fun h => ?_⟩
 ·rw [zbv.2 (by rintro rfl; simp at h)]
 ·have hlen : xs.length = ys.length := by simp at h; omega
  refine zad (fun k : Nat => hd [(0, vT (fmS xs)), (1, vT (fmS ys)), (5, vI k)] [] []) (fun k => k <= xs.length /\ same xs ys = same (xs.drop k) (ys.drop k)) (fun k => xs.length - k) 0 (zac ?_) ?_ ?_
  ·simp -implicitDefEqProofs only [go_sem]
  ·simp
  ·intro k ⟨hk, hr⟩
   by_cases hlt : k < xs.length
   ·have hk2 : k < ys.length := by omega
    have HS := zh8 xs[k] ys[k]
    simp only [fmD, zaa xs[k], zaa ys[k]] at HS
    simp -implicitDefEqProofs only [go_sem, List.length_map, hlt]
    refine drawn (by kernel_rfl) ?_
    simp -implicitDefEqProofs only [go_sem, List.length_map, zaf, hlt, hk2, zaa xs[k], zaa ys[k]]
    refine zan (HS) (by simp -implicitDefEqProofs only [go_sem]) ?_
    simp -implicitDefEqProofs only [go_sem]
    refine ⟨by kernel_rfl, fun h => ?_, fun h => ?_⟩
    ·rw [hr, List.drop_eq_getElem_cons hlt, List.drop_eq_getElem_cons hk2, zbz, show same xs[k] ys[k] = false by simpa using h]; rfl
    ·rw [List.drop_eq_getElem_cons hlt, List.drop_eq_getElem_cons hk2, zbz, show same xs[k] ys[k] = true by simpa using h, Bool.true_and] at hr
     rw [zas (by omega)]
     exact ⟨k + 1, ⟨by omega, hr⟩, by omega, zac (by simp -implicitDefEqProofs only [go_sem])⟩
   ·simp -implicitDefEqProofs only [go_sem, List.length_map, hlt]
    rw [hr, List.drop_of_length_le (by omega), List.drop_of_length_le (by omega), zdt]
theorem zz1 (a b : Sq) : FC Tryz.prog 214 [sqD a, sqD b] [bD (same a b)] := by
 have H1 := zii a.left b.left
 have H2 := zii a.right b.right
 rw [qd7]
 simp only [sqD, zah]
 cases h : same a.left b.left
 ·rw [h] at H1
  refine zag Tryz.call214 Tryz.func214 rfl (by kernel_rfl) (zau (by kernel_rfl)) ?_
  simp -implicitDefEqProofs only [go_sem, Tryz.results214]
  refine callF (H1) (by simp -implicitDefEqProofs only [go_sem]) ?_
  simp -implicitDefEqProofs only [go_sem]
 ·rw [h] at H1
  refine zag Tryz.call214 Tryz.func214 rfl (by kernel_rfl) (zau (by kernel_rfl)) ?_
  simp -implicitDefEqProofs only [go_sem, Tryz.results214]
  refine callF (H1) (by simp -implicitDefEqProofs only [go_sem]) ?_
  simp -implicitDefEqProofs only [go_sem]
  refine callF (H2) (by simp -implicitDefEqProofs only [go_sem]) ?_
  simp -implicitDefEqProofs only [go_sem]
theorem zgj (l : List Int) : flR (l.map fun s => [T.int .i64 s]) = true := qi3 fun r hr => by obtain ⟨s, _, rfl⟩ := List.mem_map.1 hr; rfl
theorem qk2 (xs : List Int) (hl : xs.length <= 4294967296) : FC Tryz.prog 146 [.one (zf0 xs)] [.one (zf0 xs)] := by
 refine zag Tryz.call146 Tryz.func146 rfl (by kernel_rfl) (zau (by kernel_rfl)) ?_
 simp -implicitDefEqProofs only [go_sem, Tryz.results146]
 refine zal (by simp -implicitDefEqProofs only [go_sem]) ?_
 simp -implicitDefEqProofs only [go_sem]
 refine apD true (by simp -implicitDefEqProofs only [go_sem, ne_eq, List.length_map, Nat.zero_add, hl, zgj]) ?_
 simp -implicitDefEqProofs only [go_sem, ne_eq, List.length_map, Nat.zero_add, hl, zgj]
set_option maxHeartbeats 2000000 in
theorem qad (d : Dv) (hdw : d.wt <= 1048576) : FC Tryz.prog 145 [dvD d] [bD (zzk d.seq d)] := by
 have hW := d.wt_eq
 have HG := zql d.seq (by omega)
 have hv : zzk d.seq d = ((znt d.seq d).2 && same (znt d.seq d).1 (d.parts.map Dv.seq)) := rfl
 rw [hv]
 have hsz := qbl d.seq d
 cases hg : d.seq.good
 ·rw [hg] at HG
  have hp : znt d.seq d = ([], false) := by unfold znt; rw [hg]; rfl
  rw [hp]
  simp only [sqD, zah, dvD, zav d] at HG ⊢
  show FC _ _ _ [bD false]
  refine zag Tryz.call145 Tryz.func145 rfl (by kernel_rfl) (zau (by kernel_rfl)) ?_
  simp -implicitDefEqProofs only [go_sem, Tryz.results145]
  refine callF (HG) (by simp -implicitDefEqProofs only [go_sem]) ?_
  simp -implicitDefEqProofs only [go_sem]
 ·rw [hg] at HG
  have hp : znt d.seq d = prR d.seq d := by unfold znt; rw [hg]; rfl
  have HP := zo5 d.seq hg d hdw
  rw [<- qj6 d.seq d hg, <- hp] at HP
  generalize znt d.seq d = A at HP hsz ⊢
  obtain ⟨L, b⟩ := A
  simp only at HP hsz ⊢
  have hll : L.length <= 2000000 := by unfold sqsW at hsz; omega
  simp only [sqD, zah, dvD, zav d] at HG HP ⊢
  cases b
  ·rw [Bool.false_and]
   refine zag Tryz.call145 Tryz.func145 rfl (by kernel_rfl) (zau (by kernel_rfl)) ?_
   simp -implicitDefEqProofs only [go_sem, Tryz.results145]
   refine callF (HG) (by simp -implicitDefEqProofs only [go_sem]) ?_
   simp -implicitDefEqProofs only [go_sem]
   refine callF (HP) (by simp -implicitDefEqProofs only [go_sem]) ?_
   simp -implicitDefEqProofs only [go_sem]
  ·rw [Bool.true_and]
   refine zag Tryz.call145 Tryz.func145 rfl (by kernel_rfl) (zau (by kernel_rfl)) ?_
   simp -implicitDefEqProofs only [go_sem, Tryz.results145]
   refine callF (HG) (by simp -implicitDefEqProofs only [go_sem]) ?_
   simp -implicitDefEqProofs only [go_sem]
   refine callF (HP) (by simp -implicitDefEqProofs only [go_sem]) ?_
   simp -implicitDefEqProofs only [go_sem]
   refine ⟨fun h => ?_, fun h => ?_⟩
   ·rw [zbv.2 (by rintro rfl; simp at h)]
   ·have hlen : L.length = d.parts.length := by simp at h; omega
    refine zad (fun k : Nat => hd [(1, .one (.bx 1 0)), (3, .one (.ow 448 0)), (5, vI k)] [(1, [.t (.int .i64 d.rule), .t (fmS d.seq.left), .t (fmS d.seq.right), .t (.int .i64 d.main), .t (.str d.term.name), .t (tmS d.term.args), .t (.int .i64 d.cut.op), .t (.str d.cut.atom.name), .t (tmS d.cut.atom.args), .t (.str d.cut.var), .t (fmS d.cut.parts), .t (dvS d.parts)])] [(448, ⟨true, 2, L.map sqC, 0, true⟩)]) (fun k => k <= L.length /\ same L (d.parts.map Dv.seq) = same (L.drop k) ((d.parts.drop k).map Dv.seq)) (fun k => L.length - k) 0 (zac ?_) ⟨Nat.zero_le _, by rw [List.drop_zero, List.drop_zero]⟩ ?_
    ·simp -implicitDefEqProofs only [go_sem]
    ·rintro k ⟨hk, hr⟩
     by_cases hlt : k < L.length
     ·have hk2 : k < d.parts.length := by omega
      have HS := zz1 L[k] d.parts[k].seq
      simp only [sqD, zah] at HS
      rw [List.drop_eq_getElem_cons hlt, List.drop_eq_getElem_cons hk2, List.map_cons, zbz] at hr
      simp -implicitDefEqProofs only [go_sem, hlt]
      refine drawn (by kernel_rfl) ?_
      simp -implicitDefEqProofs only [go_sem, zaf, hlt, hk2, zah L[k], zav d.parts[k]]
      refine zan (HS) (by simp -implicitDefEqProofs only [go_sem]) ?_
      simp -implicitDefEqProofs only [go_sem]
      refine ⟨by kernel_rfl, fun h => ?_, fun h => ?_⟩
      ·rw [hr, show same L[k] d.parts[k].seq = false by simpa using h]; rfl
      ·rw [show same L[k] d.parts[k].seq = true by simpa using h, Bool.true_and] at hr
       rw [zas (by omega)]
       exact ⟨k + 1, ⟨hlt, hr⟩, by omega, zac (by simp -implicitDefEqProofs only [go_sem])⟩
     ·rw [List.drop_of_length_le (by omega), List.drop_of_length_le (by omega), List.map_nil, zdt] at hr
      rw [hr]
      simp -implicitDefEqProofs only [go_sem, hlt]
def wrR (p : List Int) (R : List Int × Bool) : List Int := if R.2 = true then p ++ R.1 else []
set_option maxHeartbeats 2000000 in
theorem zst (a : Dv) (hdw : a.wt <= 1048576) (H : ∀ x ∈ a.parts, ∀ p : List Int, p.length + x.nodes <= 4000000 -> RC Tryz.prog 95 [dvD x, .one (zf0 p)] [.one (zf0 (wrR p (fwD x))), bD (fwD x).2]) (p : List Int) (hp : p.length + a.nodes <= 4000000) : RC Tryz.prog 95 [dvD a, .one (zf0 p)] [.one (zf0 (wrR p (fwD a))), bD (fwD a).2] := by
 have hW := a.wt_eq
 have hn := a.nodes_eq
 have HN := qad a hdw
 rw [zqz]
 simp only [dvD, zav a] at HN ⊢
 cases hr : zzk a.seq a
 ·rw [hr] at HN
  rw [if_neg (by simp)]
  show RC _ _ _ [.one (zf0 (p ++ [])), bD true]
  rw [List.append_nil]
  refine zbf Tryz.call95 Tryz.func95 rfl (by kernel_rfl) (zau (by kernel_rfl)) ?_
  simp -implicitDefEqProofs only [go_sem, Tryz.results95]
  refine callF (HN) (by simp -implicitDefEqProofs only [go_sem]) ?_
  simp -implicitDefEqProofs only [go_sem]
 ·rw [hr] at HN
  rw [if_pos rfl]
  have hrec0 : fwL 0 (a.parts.map fwD) = fwL 0 ((a.parts.drop 0).map fwD) := by rw [List.drop_zero]
  generalize fwL 0 (a.parts.map fwD) = X at hrec0 ⊢
  refine zbf Tryz.call95 Tryz.func95 rfl (by kernel_rfl) (zau (by kernel_rfl)) ?_
  simp -implicitDefEqProofs only [go_sem, Tryz.results95]
  refine callF (HN) (by simp -implicitDefEqProofs only [go_sem]) ?_
  simp -implicitDefEqProofs only [go_sem]
  refine zad (fun k : Nat => hd [(1, vT (zf0 p)), (2, .one (.bx 2 0)), (6, vI k)] [(2, [.t (.int .i64 a.rule), .t (fmS a.seq.left), .t (fmS a.seq.right), .t (.int .i64 a.main), .t (.str a.term.name), .t (tmS a.term.args), .t (.int .i64 a.cut.op), .t (.str a.cut.atom.name), .t (tmS a.cut.atom.args), .t (.str a.cut.var), .t (fmS a.cut.parts), .t (dvS a.parts)])] []) (fun k => k <= a.parts.length /\ X = fwL k ((a.parts.drop k).map fwD)) (fun k => a.parts.length - k) 0 (zac ?_) ⟨Nat.zero_le _, hrec0⟩ ?_
  ·simp -implicitDefEqProofs only [go_sem]
  ·rintro k ⟨hk, hrec⟩
   by_cases hlt : k < a.parts.length
   ·have hxn := zbu Dv.nodes a.parts a.parts[k] (List.getElem_mem hlt)
    have hxn1 : 1 <= a.parts[k].nodes := by have := a.parts[k].nodes_eq; omega
    have HO := qk2 p (by omega)
    have HC := H a.parts[k] (List.getElem_mem hlt) (p ++ [(k : Int)]) (by rw [List.length_append]; simp; omega)
    rw [List.drop_eq_getElem_cons hlt, List.map_cons, fwL] at hrec
    generalize fwD a.parts[k] = B at HC hrec
    obtain ⟨R, b⟩ := B
    simp only at HC hrec
    have hap : p.length <= 4294967295 := by omega
    simp only [dvD, zav a.parts[k], wrR, zf0, List.map_append, List.map_cons, List.map_nil] at HC
    cases b
    ·rw [if_neg (by simp)] at hrec
     rw [if_neg (by simp)] at HC
     simp -implicitDefEqProofs only [go_sem, hlt]
     refine drawn (by kernel_rfl) ?_
     simp -implicitDefEqProofs only [go_sem, hlt, zaf, zav a.parts[k]]
     refine zan (HO) (by simp -implicitDefEqProofs only [go_sem]) ?_
     simp -implicitDefEqProofs only [go_sem]
     refine zbp (by simp -implicitDefEqProofs only [go_sem]) ?_
     simp -implicitDefEqProofs only [go_sem]
     refine zpc true (by simp -implicitDefEqProofs only [go_sem, ne_eq, List.length_map, hap]) ?_
     simp -implicitDefEqProofs only [go_sem, ne_eq, List.length_map, hap]
     refine zze 864 HC (by simp -implicitDefEqProofs only [go_sem]) ?_
     simp -implicitDefEqProofs only [go_sem]
     refine ⟨by kernel_rfl, k + 1, ⟨hlt, hrec⟩, by omega, zac ?_⟩
     simp -implicitDefEqProofs only [go_sem]
     rw [zas (by omega)]
    ·rw [if_pos rfl] at hrec
     rw [if_pos rfl] at HC
     have hX : zf0 (wrR p X) = .sl 1 ((p ++ [(k : Int)] ++ R).map fun s => [.int .i64 s]) := by
      rw [hrec]
      show zf0 (p ++ ((k : Int) :: R)) = _
      rw [show p ++ ((k : Int) :: R) = p ++ [(k : Int)] ++ R by simp]
     have hX2 : X.2 = true := by rw [hrec]
     rw [hX, hX2]
     simp only [List.map_append, List.map_cons, List.map_nil]
     simp -implicitDefEqProofs only [go_sem, hlt]
     refine drawn (by kernel_rfl) ?_
     simp -implicitDefEqProofs only [go_sem, hlt, zaf, zav a.parts[k]]
     refine zan (HO) (by simp -implicitDefEqProofs only [go_sem]) ?_
     simp -implicitDefEqProofs only [go_sem]
     refine zbp (by simp -implicitDefEqProofs only [go_sem]) ?_
     simp -implicitDefEqProofs only [go_sem]
     refine zpc true (by simp -implicitDefEqProofs only [go_sem, ne_eq, List.length_map, hap]) ?_
     simp -implicitDefEqProofs only [go_sem, ne_eq, List.length_map, hap]
     refine zze 864 HC (by simp -implicitDefEqProofs only [go_sem]) ?_
     simp -implicitDefEqProofs only [go_sem]
     refine ⟨by kernel_rfl, ?_⟩
     simp only [List.map_append, List.map_cons, List.map_nil]
   ·rw [List.drop_of_length_le (by omega)] at hrec
    have hX : zf0 (wrR p X) = .sl 1 [] := by rw [hrec]; rfl
    have hX2 : X.2 = false := by rw [hrec]; rfl
    rw [hX, hX2]
    simp -implicitDefEqProofs only [go_sem, hlt]
    refine zal (by simp -implicitDefEqProofs only [go_sem]) ?_
    simp -implicitDefEqProofs only [go_sem]
end Go.Proofs.YtemnhgmgeijkcaaGreat
namespace Go.Proofs.YtemnhgmgeijkcaaGreat
set_option linter.unusedSimpArgs false
set_option linter.unusedVariables false
set_option linter.unusedSectionVars false
set_option maxRecDepth 4000
open Go.RowKit
def zl6 : Int -> Nat -> Int × Nat
 | o0, k => (((k : Nat) : Int), (k + 1))
def zhi : List Int -> Nat -> List Int × Nat
 | [], k => ([], k)
 | a :: xs, k => ((zl6 a k).1 :: (zhi xs (zl6 a k).2).1, (zhi xs (zl6 a k).2).2)
def zqs : Int -> Nat
 | _ => 1 + 1
def zp6 : List Int -> Nat
 | [] => 0
 | a :: xs => zqs a + zp6 xs
theorem qgj : ∀ (a : Int) (k : Nat), k <= (zl6 a k).2 /\ (zl6 a k).2 <= k + zqs a
 | o0, k => by simp only [zl6, zqs]; omega
theorem qcj : ∀ (xs : List Int) (k : Nat), k <= (zhi xs k).2 /\ (zhi xs k).2 <= k + zp6 xs
 | [], k => ⟨Nat.le_refl _, Nat.le_refl _⟩
 | a :: xs, k => by have h1 := qgj a k; have h2 := qcj xs (zl6 a k).2; simp only [zhi, zp6]; omega
theorem zol : ∀ xs : List Int, xs.length <= zp6 xs
  | [] => Nat.le_refl _
  | a :: xs => by have := zol xs; have : 1 <= zqs a := by simp only [zqs]; omega
                  simp only [List.length_cons, zp6]; omega
theorem zsk (xs : List Int) :
  ∀ k : Nat, 0 < k -> k + zp6 xs <= 4611686018427387904 -> IC Tryz.prog 28 [] (.one (zf0 xs)) [iD k] (.one (zf0 (zhi xs k).1)) [iD (zhi xs k).2] := by
 intro k h0 hk
 refine zuc Tryz.call28 Tryz.func28 rfl (by kernel_rfl) (by simp only [zcx, rd, List.map_cons, List.map_nil, List.nil_append, List.length_cons, List.length_nil, Tryz.ntmps28]; omega) (by simp only [Tryz.ntmps28]; omega) (fun vs => ?_)
 simp -implicitDefEqProofs only [go_sem, Tryz.results28, qcd, zh5, zcx, PI]
 refine zad (fun (x : List Int × List Int × Nat) => hd [(0, .one (.ow 0 0)), (1000000, .one (.ow 0 0)), (1, vI x.2.2), (5, vI x.1.length)] [] [(0, ⟨true, 1, x.1.map (fun s => [T.int .i64 s]) ++ zek vs x.1.length (x.2.1.map (fun s => [T.int .i64 s])), 0, true⟩)])
  (fun x => (zhi xs k).1 = x.1 ++ (zhi x.2.1 x.2.2).1 /\ (zhi xs k).2 = (zhi x.2.1 x.2.2).2 /\ 0 < x.2.2 /\ x.2.2 + zp6 x.2.1 <= 4611686018427387904 /\ x.1.length + x.2.1.length = xs.length /\ ∀ a ∈ x.2.1, a ∈ xs) (fun x => x.2.1.length) ([], xs, k) (zac ?_) ?_ ?_
 ·simp -implicitDefEqProofs only [go_sem]
 ·exact ⟨rfl, rfl, h0, hk, by simp, fun _ h => h⟩
 ·intro ⟨dn, rest, kk⟩ ⟨h1, h2, h3, h4, h6, h5⟩
  simp only at h1 h2 h3 h4 h5 h6
  cases rest with
  | nil =>
   simp only [zhi, List.append_nil] at h1 h2
   simp -implicitDefEqProofs only [go_sem, h1, h2]
  | cons o0 rest =>
   simp only [zhi, zl6, zp6, zqs] at h1 h2 h4
   have w0 : IntKind.i64.wrap (((kk : Nat) : Int) + 1) = ((kk + 1 : Nat) : Int) := zas (by omega)
   have hln := zol xs
   rw [List.length_cons] at h6
   have wl : IntKind.i64.wrap ((dn.length : Int) + 1) = ((dn.length + 1 : Nat) : Int) := zas (by omega)
   simp -implicitDefEqProofs only [go_sem, List.map_cons]
   refine zdv (by simp -implicitDefEqProofs only [go_sem, implies_true, w0]) ?_
   simp -implicitDefEqProofs only [go_sem, implies_true, w0]
   refine ⟨(dn ++ [((kk : Nat) : Int)], rest, (kk + 1)), ⟨by simpa using h1, h2, by show 0 < (kk + 1); omega, by show (kk + 1) + zp6 rest <= _; omega, by simp; omega, fun b hb => h5 b (by simp [hb])⟩, by simp, zac ?_⟩
   simp -implicitDefEqProofs only [go_sem, wl, List.map_cons, List.map_append, List.append_assoc]
theorem zxz (xs : List Int) (k : Nat) (h0 : 0 < k) (hk : k + zp6 xs <= 4611686018427387904) : IC Tryz.prog 28 [] (.one (zf0 xs)) [iD k] (.one (zf0 (zhi xs k).1)) [iD (zhi xs k).2] := zsk xs k h0 hk
theorem ztd (xs : List Int) :
  ∀ k : Nat, 0 < k -> k + zp6 xs <= 4611686018427387904 -> FC Tryz.prog 29 [.one (zf0 (zhi xs k).1), iD k] [iD (zhi xs k).2] := by
 intro k h0 hk
 refine zag Tryz.call29 Tryz.func29 rfl (by kernel_rfl) (zau (by kernel_rfl)) ?_
 simp -implicitDefEqProofs only [go_sem, Tryz.results29]
 refine zad (fun (x : List Int × List Int × Nat) => hd [(0, vT (.sl 1 (x.1.map (fun s => [T.int .i64 s]) ++ (zhi x.2.1 x.2.2).1.map (fun s => [T.int .i64 s])))), (1, vI x.2.2), (5, vI x.1.length)] [] [])
  (fun x => (zhi xs k).1 = x.1 ++ (zhi x.2.1 x.2.2).1 /\ (zhi xs k).2 = (zhi x.2.1 x.2.2).2 /\ 0 < x.2.2 /\ x.2.2 + zp6 x.2.1 <= 4611686018427387904 /\ x.1.length + x.2.1.length = xs.length /\ ∀ a ∈ x.2.1, a ∈ xs) (fun x => x.2.1.length) ([], xs, k) (zac ?_) ?_ ?_
 ·simp -implicitDefEqProofs only [go_sem]
 ·exact ⟨rfl, rfl, h0, hk, by simp, fun _ h => h⟩
 ·intro ⟨dn, rest, kk⟩ ⟨h1, h2, h3, h4, h6, h5⟩
  simp only at h1 h2 h3 h4 h5 h6
  cases rest with
  | nil =>
   simp only [zhi, List.append_nil] at h1 h2
   simp -implicitDefEqProofs only [go_sem, h2, zhi]
  | cons o0 rest =>
   simp only [zhi, zl6, zp6, zqs] at h1 h2 h4
   have w0 : IntKind.i64.wrap (((kk : Nat) : Int) + 1) = ((kk + 1 : Nat) : Int) := zas (by omega)
   have hln := zol xs
   rw [List.length_cons] at h6
   have wl : IntKind.i64.wrap ((dn.length : Int) + 1) = ((dn.length + 1 : Nat) : Int) := zas (by omega)
   simp -implicitDefEqProofs only [go_sem, zhi, zl6, List.map_cons]
   simp only [bne_self_eq_false]
   simp -implicitDefEqProofs only [go_sem, w0]
   refine ⟨(dn ++ [((kk : Nat) : Int)], rest, (kk + 1)), ⟨by simpa using h1, h2, by show 0 < (kk + 1); omega, by show (kk + 1) + zp6 rest <= _; omega, by simp; omega, fun b hb => h5 b (by simp [hb])⟩, by simp, zac ?_⟩
   simp -implicitDefEqProofs only [go_sem, wl, List.map_cons, List.map_append, List.append_assoc]
theorem zw6 (xs : List Int) (k : Nat) (h0 : 0 < k) (hk : k + zp6 xs <= 4611686018427387904) : FC Tryz.prog 29 [.one (zf0 (zhi xs k).1), iD k] [iD (zhi xs k).2] := ztd xs k h0 hk
theorem qg5 (xs ys : List Int) : FC Tryz.prog 27 [.one (zf0 xs), .one (zf0 ys)] [bD (same xs ys)] := by
 refine zc7 (fun hw => ?_) Tryz.call27
 have hl : xs.length <= 9223372036854775807 := by simpa [zfj, wfT] using hw.1.1
 have hl2 : ys.length <= 9223372036854775807 := by simpa [zfj, wfT] using hw.2.1.1
 refine zag Tryz.call27 Tryz.func27 rfl (by kernel_rfl) (zau (by kernel_rfl)) ?_
 simp -implicitDefEqProofs only [go_sem, Tryz.results27]
 refine ⟨fun h => ?_, fun h => ?_⟩
 ·rw [zbv.2 (by rintro rfl; simp at h)]
 ·have hlen : xs.length = ys.length := by simp at h; omega
  refine zad (fun k : Nat => hd [(0, vT (zf0 xs)), (1, vT (zf0 ys)), (4, vB false), (5, vI k)] [] []) (fun k => k <= xs.length /\ same xs ys = same (xs.drop k) (ys.drop k)) (fun k => xs.length - k) 0 (zac ?_) ?_ ?_
  ·simp -implicitDefEqProofs only [go_sem]
  ·simp
  ·intro k ⟨hk, hr⟩
   by_cases hlt : k < xs.length
   ·have hk2 : k < ys.length := by omega
    simp -implicitDefEqProofs only [go_sem, List.length_map, hlt]
    refine drawn (by kernel_rfl) ?_
    simp -implicitDefEqProofs only [go_sem, List.length_map, zaf, hlt, hk2]
    refine ⟨by kernel_rfl, fun h => ?_, fun h => ?_⟩
    ·rw [hr, List.drop_eq_getElem_cons hlt, List.drop_eq_getElem_cons hk2, zbz, show same xs[k] ys[k] = false from zbv.2 (by simpa using h)]; rfl
    ·rw [List.drop_eq_getElem_cons hlt, List.drop_eq_getElem_cons hk2, zbz, show same xs[k] ys[k] = true from zbs.2 (by simpa using h), Bool.true_and] at hr
     rw [zas (by omega)]
     exact ⟨k + 1, ⟨by omega, hr⟩, by omega, zac (by simp -implicitDefEqProofs only [go_sem])⟩
   ·simp -implicitDefEqProofs only [go_sem, List.length_map, hlt]
    rw [hr, List.drop_of_length_le (by omega), List.drop_of_length_le (by omega), zdt]
theorem qb1 : ∀ xs : List Int, zp6 xs = 2 * xs.length
 | [] => rfl
 | a :: xs => by rw [zp6, qb1 xs, zqs, List.length_cons]; omega
end Go.Proofs.YtemnhgmgeijkcaaGreat
namespace Go.Proofs.YtemnhgmgeijkcaaGreat
set_option linter.unusedSimpArgs false
set_option linter.unusedVariables false
set_option linter.unusedSectionVars false
set_option maxRecDepth 4000
open Go.RowKit
theorem zxr : ∀ a : Dv, a.wt <= 1048576 -> ∀ p : List Int, p.length + a.nodes <= 4000000 -> RC Tryz.prog 95 [dvD a, .one (zf0 p)] [.one (zf0 (wrR p (fwD a))), bD (fwD a).2] :=
 zdn fun b0 b1 b2 b3 b4 xs ih hdw => zst (.mk b0 b1 b2 b3 b4 xs) hdw fun x hx => ih x hx (Nat.le_trans (zgc (a := .mk b0 b1 b2 b3 b4 xs) hx) hdw)
theorem qmo (d : Dv) : wrR [] (fwD d) = (fwD d).1 := by
 unfold wrR
 split
 ·rfl
 ·rename_i h
  rw [fwD_no d (by simpa using h)]
theorem zv0 (d : Dv) (hdw : d.wt <= 1048576) : RC Tryz.prog 95 [dvD d, .one (.sl 1 [])] [.one (zf0 (fwD d).1), bD (fwD d).2] := by
 have h := zxr d hdw [] (by have := zic d; simp only [List.length_nil]; omega)
 rw [qmo] at h
 exact h
theorem qi7 (d : Dv) : (zen d 60 > 60) = ¬ (d.nodes <= 60) := by
 have h := qg9 d 60
 rw [decide_eq_decide] at h
 have h : zen d 60 <= 60 ↔ d.nodes <= 60 := h
 rw [<- h]
 exact propext ⟨fun h1 h2 => by omega, fun h1 => by omega⟩
theorem zrx (d : Dv) (hdw : d.wt <= 1048576) : RC Tryz.prog 45 [dvD d] [.one (zf0 (zxu d).1), bD (zxu d).2.1, bD (zxu d).2.2] := by
 have HN := zp4 d (by omega) 60 (by omega) (by omega)
 have HF := zv0 d hdw
 have hm := qi7 d
 unfold zxu
 generalize zen d 60 = n at HN hm
 simp only [dvD, zav d] at HN HF ⊢
 by_cases h : d.nodes <= 60
 ·rw [if_pos h]
  have hn : (n > 60) = False := by rw [hm]; simp [h]
  refine zbf Tryz.call45 Tryz.func45 rfl (by kernel_rfl) (zau (by kernel_rfl)) ?_
  simp -implicitDefEqProofs only [go_sem, Tryz.results45]
  refine callF (HN) (by simp -implicitDefEqProofs only [go_sem, hn]) ?_
  simp -implicitDefEqProofs only [go_sem, hn]
  refine qjo (by simp -implicitDefEqProofs only [go_sem]) ?_
  simp -implicitDefEqProofs only [go_sem]
  refine callR (HF) (by simp -implicitDefEqProofs only [go_sem]) ?_
  simp -implicitDefEqProofs only [go_sem]
 ·rw [if_neg h]
  have hn : (n > 60) = True := by rw [hm]; simp [h]
  show RC _ _ _ [.one (.sl 1 []), _, _]
  refine zbf Tryz.call45 Tryz.func45 rfl (by kernel_rfl) (zau (by kernel_rfl)) ?_
  simp -implicitDefEqProofs only [go_sem, Tryz.results45]
  refine callF (HN) (by simp -implicitDefEqProofs only [go_sem, hn]) ?_
  simp -implicitDefEqProofs only [go_sem, hn]
  refine zal (by simp -implicitDefEqProofs only [go_sem]) ?_
  simp -implicitDefEqProofs only [go_sem]
theorem zwy (d : Dv) (hdw : d.wt <= 1048576) : FC Tryz.prog 93 [dvD d] [bD (zyu d)] := by
 have HN := zp4 d (by omega) 60 (by omega) (by omega)
 have HF := zv0 d hdw
 have hm := qi7 d
 unfold zyu zxu
 generalize zen d 60 = n at HN hm
 simp only [dvD, zav d] at HN HF ⊢
 by_cases h : d.nodes <= 60
 ·rw [if_pos h]
  have hn : (n > 60) = False := by rw [hm]; simp [h]
  rw [Bool.true_and]
  refine zag Tryz.call93 Tryz.func93 rfl (by kernel_rfl) (zau (by kernel_rfl)) ?_
  simp -implicitDefEqProofs only [go_sem, Tryz.results93]
  refine callF (HN) (by simp -implicitDefEqProofs only [go_sem, hn]) ?_
  simp -implicitDefEqProofs only [go_sem, hn]
  refine qjo (by simp -implicitDefEqProofs only [go_sem]) ?_
  simp -implicitDefEqProofs only [go_sem]
  refine callR (HF) (by simp -implicitDefEqProofs only [go_sem]) ?_
  simp -implicitDefEqProofs only [go_sem]
 ·rw [if_neg h]
  have hn : (n > 60) = True := by rw [hm]; simp [h]
  show FC _ _ _ [bD false]
  refine zag Tryz.call93 Tryz.func93 rfl (by kernel_rfl) (zau (by kernel_rfl)) ?_
  simp -implicitDefEqProofs only [go_sem, Tryz.results93]
  refine callF (HN) (by simp -implicitDefEqProofs only [go_sem, hn]) ?_
  simp -implicitDefEqProofs only [go_sem, hn]
end Go.Proofs.YtemnhgmgeijkcaaGreat
