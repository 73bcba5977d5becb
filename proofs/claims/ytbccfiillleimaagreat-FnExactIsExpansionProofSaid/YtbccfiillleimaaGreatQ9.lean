/-
  FnExactIsExpansionProof returns true for all arguments, and its arguments read afterwards as they read before.
  Conditions: none.
-/
import Derived.Test.YtbccfiillleimaaGreatQ8
import Derived.Test.YtbccfiillleimaaGreatQ7
import Derived.Lib.Walk
import Derived.Lib.SliceRun
import Derived.Lib.AppendZeros
import Derived.Test.YtbccfiillleimaaGreatQ5
import Derived.Test.YtbccfiillleimaaGreatRows
import Derived.Test.YtbccfiillleimaaGreatQ1
import Derived.ProofKit
import Derived.OpenShut
import Derived.ShutString
import Derived.ChangeOld
namespace Go.Proofs.YtbccfiillleimaaGreat
set_option linter.unusedSimpArgs false
set_option linter.unusedVariables false
set_option linter.unusedSectionVars false
set_option maxRecDepth 4000
open Go.RowKit
theorem zh6 {f : Fm} {pos : Bool} (hq : isQ f.op = true) : za0 f pos = ((f.op == 8) == pos) := by unfold za0; rw [hq, Bool.true_and]
theorem zmx (e : Ex) (pos : Bool) {k : Nat} (hlt : k < e.parts.length) : (zjf e pos).take (k + 1) = (zjf e pos).take k ++ [zc2 e.parts[k] (sgn e.form k pos)] := by
 rw [List.take_succ_eq_append_getElem (by rw [zhm]; exact hlt), List.getElem_mapIdx]
theorem zsx {e : Ex} {pos : Bool} (hn : zbg e pos = true) (hf : e.form.forms = true) : ∀ i (hi : i < e.parts.length), e.parts[i].form.forms = true := by
 intro i hi
 rw [zd9] at hn
 cases hq : isQ e.form.op
 ·rw [hq, if_neg (by simp)] at hn
  simp only [Bool.and_eq_true, decide_eq_true_eq] at hn
  have h1 := (zj0 (ps := e.parts) (fun i p => same p.form (e.form.parts.getD i (mkF 0 []))) (fun i p => zbg p (sgn e.form i pos))).1 hn.2 i hi
  have hi2 : i < e.form.parts.length := by omega
  rw [zba.1 h1.1, zb5 hi2]
  rw [Fm.forms_eq, Bool.and_eq_true] at hf
  exact List.all_eq_true.1 hf.2 _ (List.getElem_mem hi2)
 ·rw [hq, if_pos rfl] at hn
  simp only [Bool.and_eq_true, decide_eq_true_eq] at hn
  have h1 := (zj0 (ps := e.parts) (fun i p => zln e.form e.terms i p) (fun i p => zbg p pos)).1 hn.2 i hi
  obtain ⟨q, hp, hqf⟩ := zfx hq hf
  have h2 := h1.1
  unfold zln at h2
  simp only [Bool.and_eq_true] at h2
  rw [zba.1 h2.2]
  refine zge _ _ _ ?_ h2.1.2
  rw [hp]; exact hqf
set_option maxHeartbeats 4000000 in
theorem qmc (e : Ex) (he : e.wt <= 1048576) (pos : Bool) (hn : zbg e pos = true) (H : ∀ p ∈ e.parts, ∀ pos, zbg p pos = true -> FC Tryz.prog 88 [exD p, bD pos] [fmD (zc2 p pos)]) : FC Tryz.prog 88 [exD e, bD pos] [fmD (zc2 e pos)] := by
 have hv := zjw e pos
 have hW := e.wt_eq
 have hfw := e.form.wt_eq
 obtain ⟨hpts, hst1⟩ := zbu hn
 have hLl := zhm e pos
 have HQ := zak e.form.op
 have HCo := zew e.form.atom (by omega)
 have HSt := zid e.form pos
 have hLs := (zh4 e pos hn).2
 have hLk := fun k (hlt : k < e.parts.length) => zmx e pos hlt
 generalize zjf e pos = L at hv hLl hLk hLs
 have hLW : zro L <= 1048576 := by unfold zro; omega
 rw [hv]
 have hR : ∃ R, ze8 e.form L pos = R := ⟨_, rfl⟩
 obtain ⟨R, hR⟩ := hR
 rw [hR]
 simp only [exD, zai, fmD, zab e.form, zab R, tmD, zaa e.form.atom] at HSt HCo ⊢
 refine qji Tryz.call88 Tryz.func88 rfl (by kernel_rfl) (zav (by kernel_rfl)) ?_
 simp -implicitDefEqProofs only [go_sem, Tryz.results88]
 refine zbd (by simp -implicitDefEqProofs only [go_sem]) ?_
 simp -implicitDefEqProofs only [go_sem]
 refine zae (fun k : Nat => hd [(1, vT (.bool pos)), (4, .one (.bx 4 0)), (5, .one (.bx 5 0)), (6, .one (.ow 352 0)), (13, vT (exS e.parts)), (14, vI e.parts.length), (15, vI k)] [(4, [.t (.int .i64 0), .t (.str []), .nl 2, .t (.str []), .nl 5]), (5, [.t (.int .i64 e.form.op), .t (.str e.form.atom.name), .t (tmS e.form.atom.args), .t (.str e.form.var), .t (fmS e.form.parts)])] [(352, ⟨true, 5, (L.take k).map fmC, 0, true⟩)]) (fun k => k <= e.parts.length) (fun k => e.parts.length - k) 0 (zac ?_) (Nat.zero_le _) ?_
 ·simp -implicitDefEqProofs only [go_sem]
 ·intro k hk
  by_cases hlt : k < e.parts.length
  ·have hLk := hLk k hlt
   have HPo := zih e.form k pos
   have hsg : (pos != (e.form.op == 4 || (e.form.op == 7 && ((k : Int) == 0)))) = sgn e.form k pos := rfl
   rw [hsg] at HPo
   have HC := H e.parts[k] (List.getElem_mem hlt) (sgn e.form k pos) (hpts k hlt)
   have hmin : min k L.length + 1 <= 4294967296 := by omega
   have hmin2 : min k L.length <= 4294967295 := by omega
   simp only [fmD, zab e.form, exD, zai e.parts[k], zab (zc2 e.parts[k] (sgn e.form k pos))] at HPo HC
   simp -implicitDefEqProofs only [go_sem, hlt, zad, zai e.parts[k]]
   refine drawn (by kernel_rfl) ?_
   simp -implicitDefEqProofs only [go_sem]
   refine zao (HPo) (by simp -implicitDefEqProofs only [go_sem]) ?_
   simp -implicitDefEqProofs only [go_sem]
   refine zao (HC) (by simp -implicitDefEqProofs only [go_sem]) ?_
   simp -implicitDefEqProofs only [go_sem]
   refine zbj (by simp -implicitDefEqProofs only [go_sem]) ?_
   simp -implicitDefEqProofs only [go_sem]
   refine zfs true (by simp -implicitDefEqProofs only [go_sem, ne_eq, List.length_map, List.length_take, hmin, hmin2]) ?_
   simp -implicitDefEqProofs only [go_sem, ne_eq, List.length_map, List.length_take, hmin, hmin2]
   refine ⟨by kernel_rfl, k + 1, hlt, by omega, zac ?_⟩
   simp -implicitDefEqProofs only [go_sem]
   rw [zap (by omega), hLk, List.map_append, List.map_singleton, zab (zc2 _ _)]
   exact ⟨rfl, rfl⟩
  ·have ht : L.take k = L := List.take_of_length_le (by omega)
   rw [ht]
   cases hq : isQ e.form.op
   ·have hRe : R = .mk e.form.op e.form.atom [] L := by rw [<- hR]; unfold ze8; rw [hq]; rfl
    rw [hq] at HQ
    subst hRe
    simp -implicitDefEqProofs only [go_sem, hlt]
    refine callF (HQ) (by simp -implicitDefEqProofs only [go_sem]) ?_
    simp -implicitDefEqProofs only [go_sem]
    refine drawn (by kernel_rfl) ?_
    simp -implicitDefEqProofs only [go_sem]
    refine zao (HCo) (by simp -implicitDefEqProofs only [go_sem]) ?_
    simp -implicitDefEqProofs only [go_sem]
    exact ⟨by kernel_rfl, Or.inl ⟨rfl, rfl, rfl, rfl, rfl⟩⟩
   ·rw [hq] at HQ
    cases hs : (e.form.op == 8) == pos
    ·rw [hs] at HSt
     cases h9 : e.form.op == 9
     ·have HJ := zm4 5 L (mkF 1 [])
      have hJ : zdu 5 L (mkF 1 []) = R := by rw [<- hR]; unfold ze8; rw [hq, hs, h9]; rfl
      rw [hJ] at HJ
      simp only [fmD, zb7, List.map_nil, zab R] at HJ
      simp -implicitDefEqProofs only [go_sem, hlt]
      refine callF (HQ) (by simp -implicitDefEqProofs only [go_sem]) ?_
      simp -implicitDefEqProofs only [go_sem]
      refine callF (HSt) (by simp -implicitDefEqProofs only [go_sem, h9]) ?_
      simp -implicitDefEqProofs only [go_sem, h9]
      refine zc5 [4] [56, 57] [] (HJ) (by simp -implicitDefEqProofs only [go_sem]) (by simp -implicitDefEqProofs only [go_sem]) (by simp -implicitDefEqProofs only [go_sem]) (by simp -implicitDefEqProofs only [go_sem]) ?_
      simp -implicitDefEqProofs only [go_sem]
     ·have HJ := zm4 6 L (mkF 2 [])
      have hJ : zdu 6 L (mkF 2 []) = R := by rw [<- hR]; unfold ze8; rw [hq, hs, h9]; rfl
      rw [hJ] at HJ
      simp only [fmD, zb7, List.map_nil, zab R] at HJ
      simp -implicitDefEqProofs only [go_sem, hlt]
      refine callF (HQ) (by simp -implicitDefEqProofs only [go_sem]) ?_
      simp -implicitDefEqProofs only [go_sem]
      refine callF (HSt) (by simp -implicitDefEqProofs only [go_sem, h9]) ?_
      simp -implicitDefEqProofs only [go_sem, h9]
      refine zc5 [4] [53, 54] [] (HJ) (by simp -implicitDefEqProofs only [go_sem]) (by simp -implicitDefEqProofs only [go_sem]) (by simp -implicitDefEqProofs only [go_sem]) (by simp -implicitDefEqProofs only [go_sem]) ?_
      simp -implicitDefEqProofs only [go_sem]
    ·have h1 := zen hn (by rw [zh6 hq, hs])
     obtain ⟨x, hx⟩ := List.length_eq_one_iff.1 (hLl.trans h1.2)
     subst hx
     have hJ : x = R := by rw [<- hR]; unfold ze8; rw [hq, hs]; rfl
     subst hJ
     rw [hs] at HSt
     simp -implicitDefEqProofs only [go_sem, hlt, List.map_cons, List.map_nil, zab x]
     refine callF (HQ) (by simp -implicitDefEqProofs only [go_sem]) ?_
     simp -implicitDefEqProofs only [go_sem]
     refine qca 352 (HSt) (by simp -implicitDefEqProofs only [go_sem]) (by simp -implicitDefEqProofs only [go_sem]) fun vs => ?_
     simp -implicitDefEqProofs only [go_sem]
     refine ⟨[(352, 0, 2), (352, 0, 4)], ?_⟩
     simp -implicitDefEqProofs only [go_sem]
theorem deep_c : ∀ e : Ex, e.wt <= 1048576 -> ∀ pos, zbg e pos = true -> FC Tryz.prog 88 [exD e, bD pos] [fmD (zc2 e pos)] :=
 zcd fun f ts ps ih he pos hn => qmc (.mk f ts ps) he pos hn fun p hp pos hn => ih p hp (Nat.le_trans (zcx (a := .mk f ts ps) hp) he) pos hn
set_option maxHeartbeats 4000000 in
theorem zxi (e : Ex) (he : e.wt <= 1048576) (hf : e.form.forms = true) (pos : Bool) (hn : zbg e pos = true) (H : ∀ p ∈ e.parts, p.form.forms = true -> ∀ pos, zbg p pos = true -> FC Tryz.prog 84 [exD p, bD pos] [fmD (zc2 p pos)]) : FC Tryz.prog 84 [exD e, bD pos] [fmD (zc2 e pos)] := by
 have hv := zjw e pos
 have hW := e.wt_eq
 have hfw := e.form.wt_eq
 obtain ⟨hpts, hst1⟩ := zbu hn
 have hLl := zhm e pos
 have hfo := zsx hn hf
 have hnl := zes hn
 have HQ := zd2 e.form
 have HO := zoh e.form (by omega)
 have HSt := zfa e.form pos
 have hse : (isQ e.form.op && ((e.form.op == 8) == pos)) = za0 e.form pos := rfl
 rw [hse] at HSt
 have hLs := (zh4 e pos hn).2
 have hLk := fun k (hlt : k < e.parts.length) => zmx e pos hlt
 generalize zjf e pos = L at hv hLl hLk hLs
 have hLW : zro L <= 1048576 := by unfold zro; omega
 rw [hv]
 have hR : ∃ R, ze8 e.form L pos = R := ⟨_, rfl⟩
 obtain ⟨R, hR⟩ := hR
 rw [hR]
 simp only [exD, zai, fmD, zab e.form, zab R] at HSt HO HQ ⊢
 refine qji Tryz.call84 Tryz.func84 rfl (by kernel_rfl) (zav (by kernel_rfl)) ?_
 simp -implicitDefEqProofs only [go_sem, Tryz.results84]
 refine zbd (by simp -implicitDefEqProofs only [go_sem]) ?_
 simp -implicitDefEqProofs only [go_sem]
 refine zae (fun k : Nat => hd [(1, vT (.bool pos)), (2, .one (.bx 2 0)), (4, .one (.bx 4 0)), (5, .one (.bx 5 0)), (6, .one (.ow 320 0)), (7, vI k)] [(2, [.t (.int .i64 e.form.op), .t (.str e.form.atom.name), .t (tmS e.form.atom.args), .t (.str e.form.var), .t (fmS e.form.parts), .t (tmS e.terms), .t (exS e.parts)]), (4, [.t (.int .i64 0), .t (.str []), .nl 2, .t (.str []), .nl 5]), (5, [.t (.int .i64 e.form.op), .t (.str e.form.atom.name), .t (tmS e.form.atom.args), .t (.str e.form.var), .t (fmS e.form.parts)])] [(320, ⟨true, 5, (L.take k).map fmC, 0, true⟩)]) (fun k => k <= e.parts.length) (fun k => e.parts.length - k) 0 (zac ?_) (Nat.zero_le _) ?_
 ·simp -implicitDefEqProofs only [go_sem]
 ·intro k hk
  by_cases hlt : k < e.parts.length
  ·have hLk := hLk k hlt
   have HPo := zet e.form k pos
   have hsg : (pos != (e.form.op == 4 || (e.form.op == 7 && ((k : Int) == 0)))) = sgn e.form k pos := rfl
   rw [hsg] at HPo
   have HC := H e.parts[k] (List.getElem_mem hlt) (hfo k hlt) (sgn e.form k pos) (hpts k hlt)
   have hmin : min k L.length + 1 <= 4294967296 := by omega
   have hmin2 : min k L.length <= 4294967295 := by omega
   simp only [fmD, zab e.form, exD, zai e.parts[k], zab (zc2 e.parts[k] (sgn e.form k pos))] at HPo HC
   simp -implicitDefEqProofs only [go_sem, hlt, zad, zai e.parts[k]]
   refine drawn (by kernel_rfl) ?_
   simp -implicitDefEqProofs only [go_sem, hlt, zad, zai e.parts[k]]
   refine zao (HPo) (by simp -implicitDefEqProofs only [go_sem]) ?_
   simp -implicitDefEqProofs only [go_sem]
   refine zao (HC) (by simp -implicitDefEqProofs only [go_sem]) ?_
   simp -implicitDefEqProofs only [go_sem]
   refine zbj (by simp -implicitDefEqProofs only [go_sem]) ?_
   simp -implicitDefEqProofs only [go_sem]
   refine zfs true (by simp -implicitDefEqProofs only [go_sem, ne_eq, List.length_map, List.length_take, hmin, hmin2]) ?_
   simp -implicitDefEqProofs only [go_sem, ne_eq, List.length_map, List.length_take, hmin, hmin2]
   refine ⟨by kernel_rfl, k + 1, hlt, by omega, zac ?_⟩
   simp -implicitDefEqProofs only [go_sem]
   rw [zap (by omega), hLk, List.map_append, List.map_singleton, zab (zc2 _ _)]
   exact ⟨rfl, rfl⟩
  ·have ht : L.take k = L := List.take_of_length_le (by omega)
   rw [ht]
   cases hq : isQ e.form.op
   ·rw [hq] at HQ
    have hl := hnl.2 hq
    by_cases h0 : e.form.parts.length = 0
    ·have hLn : L = [] := List.length_eq_zero_iff.1 (by omega)
     subst hLn
     have hRe : R = e.form := by rw [<- hR]; exact zx4 hf h0 pos
     subst hRe
     have h0i : ((e.form.parts.length : Int) == 0) = true := by rw [h0]; rfl
     simp -implicitDefEqProofs only [go_sem, hlt, h0i]
     refine callF (HO) (by simp -implicitDefEqProofs only [go_sem]) ?_
     simp -implicitDefEqProofs only [go_sem]
    ·have hRe : R = mkF e.form.op L := by rw [<- hR]; exact zxj hf h0 hq L pos
     subst hRe
     have h0i : ((e.form.parts.length : Int) == 0) = false := by rw [beq_eq_false_iff_ne]; omega
     simp -implicitDefEqProofs only [go_sem, hlt, h0i]
     refine callF (HQ) (by simp -implicitDefEqProofs only [go_sem]) ?_
     simp -implicitDefEqProofs only [go_sem]
     simp -implicitDefEqProofs only [go_sem, qkm, zvg, zvb, qaq, zrf, List.map_nil]
   ·rw [hq] at HQ
    obtain ⟨q, hp, hqf⟩ := zfx hq hf
    have h0i : ((e.form.parts.length : Int) == 0) = false := by rw [hp]; rfl
    cases hs : za0 e.form pos
    ·rw [hs] at HSt
     have hs' := hs
     rw [zh6 hq] at hs'
     cases h9 : e.form.op == 9
     ·have HJ := zj2 L 5 1 hLW
      have hJ : zdu 5 L (mkF 1 []) = R := by rw [<- hR]; unfold ze8; rw [hq, hs', h9]; rfl
      rw [hJ] at HJ
      simp only [fmD, zab R] at HJ
      simp -implicitDefEqProofs only [go_sem, hlt, h0i]
      refine callF (HQ) (by simp -implicitDefEqProofs only [go_sem]) ?_
      simp -implicitDefEqProofs only [go_sem]
      refine callF (HSt) (by simp -implicitDefEqProofs only [go_sem, h9]) ?_
      simp -implicitDefEqProofs only [go_sem, h9]
      refine callF (HJ) (by simp -implicitDefEqProofs only [go_sem]) ?_
      simp -implicitDefEqProofs only [go_sem]
     ·have HJ := zj2 L 6 2 hLW
      have hJ : zdu 6 L (mkF 2 []) = R := by rw [<- hR]; unfold ze8; rw [hq, hs', h9]; rfl
      rw [hJ] at HJ
      simp only [fmD, zab R] at HJ
      simp -implicitDefEqProofs only [go_sem, hlt, h0i]
      refine callF (HQ) (by simp -implicitDefEqProofs only [go_sem]) ?_
      simp -implicitDefEqProofs only [go_sem]
      refine callF (HSt) (by simp -implicitDefEqProofs only [go_sem, h9]) ?_
      simp -implicitDefEqProofs only [go_sem, h9]
      refine callF (HJ) (by simp -implicitDefEqProofs only [go_sem]) ?_
      simp -implicitDefEqProofs only [go_sem]
    ·have h1 := zen hn hs
     obtain ⟨x, hx⟩ := List.length_eq_one_iff.1 (hLl.trans h1.2)
     subst hx
     have hs' := hs
     rw [zh6 hq] at hs'
     have hJ : x = R := by rw [<- hR]; unfold ze8; rw [hq, hs']; rfl
     subst hJ
     rw [hs] at HSt
     simp -implicitDefEqProofs only [go_sem, hlt, h0i, List.map_cons, List.map_nil, zab x]
     refine callF (HQ) (by simp -implicitDefEqProofs only [go_sem]) ?_
     simp -implicitDefEqProofs only [go_sem]
     refine qca 320 (HSt) (by simp -implicitDefEqProofs only [go_sem]) (by simp -implicitDefEqProofs only [go_sem]) fun vs => ?_
     simp -implicitDefEqProofs only [go_sem]
     refine ⟨[(320, 0, 2), (320, 0, 4)], ?_⟩
     simp -implicitDefEqProofs only [go_sem]
theorem qco : ∀ e : Ex, e.wt <= 1048576 -> e.form.forms = true -> ∀ pos, zbg e pos = true -> FC Tryz.prog 84 [exD e, bD pos] [fmD (zc2 e pos)] :=
 zcd fun f ts ps ih he hf pos hn => zxi (.mk f ts ps) he hf pos hn fun p hp hpf pos hn => ih p hp (Nat.le_trans (zcx (a := .mk f ts ps) hp) he) hpf pos hn
noncomputable def zq3 (e : Ex) (pos : Bool) : Fm := if (zc7 e pos && (zc2 e pos).good) = true then zc2 e pos else mkF 0 []
theorem zdi {e : Ex} {pos : Bool} (h : zc7 e pos = true) : e.form.good = true /\ zbg e pos = true /\ e.nodes <= 60 := by
 unfold zc7 at h
 simp only [Bool.and_eq_true, decide_eq_true_eq] at h
 exact ⟨h.1.1.1, h.1.2, h.1.1.2⟩
theorem zuo (e : Ex) (pos : Bool) : (zq3 e pos).wt <= e.wt := by
 unfold zq3
 split
 ·rename_i h
  rw [Bool.and_eq_true] at h
  exact (zh4 e pos (zdi h.1).2.1).1
 ·rw [qai]; omega
set_option maxHeartbeats 1000000 in
theorem zif (e : Ex) (he : e.wt <= 1048576) (pos : Bool) : FC Tryz.prog 34 [exD e, bD pos] [fmD (zq3 e pos), bD (zc7 e pos && (zc2 e pos).good)] := by
 have HI := zhr e he pos
 rw [qg5] at HI
 unfold zq3
 cases h : zc7 e pos
 ·rw [h] at HI
  rw [Bool.false_and, if_neg (by simp)]
  simp only [exD, zai, fmD, zb7, List.map_nil] at HI ⊢
  refine zaj Tryz.call34 Tryz.func34 rfl (by kernel_rfl) (zav (by kernel_rfl)) ?_
  simp -implicitDefEqProofs only [go_sem, Tryz.results34]
  refine callF (HI) (by simp -implicitDefEqProofs only [go_sem]) ?_
  simp -implicitDefEqProofs only [go_sem]
 ·rw [h] at HI
  obtain ⟨hg, hn, -⟩ := zdi h
  have HD := deep_c e he pos hn
  have hw := (zh4 e pos hn).1
  generalize zc2 e pos = R at HD hw ⊢
  have HF := zj9 R (by omega)
  rw [Bool.true_and]
  generalize R.good = G at HF ⊢
  generalize (if G = true then R else mkF 0 []) = C at HF ⊢
  simp only [exD, zai, fmD, zab R, zab C] at HI HD HF ⊢
  refine zcv Tryz.call34 Tryz.func34 rfl (by kernel_rfl) (zav (by kernel_rfl)) ?_
  simp -implicitDefEqProofs only [go_sem, Tryz.results34]
  refine callF (HI) (by simp -implicitDefEqProofs only [go_sem]) ?_
  simp -implicitDefEqProofs only [go_sem]
  refine callF (HD) (by simp -implicitDefEqProofs only [go_sem]) ?_
  simp -implicitDefEqProofs only [go_sem]
  refine zc5 [4, 5] [13] [] (HF) (by simp -implicitDefEqProofs only [go_sem]) (by simp -implicitDefEqProofs only [go_sem]) (by simp -implicitDefEqProofs only [go_sem]) (by simp -implicitDefEqProofs only [go_sem]) ?_
  simp -implicitDefEqProofs only [go_sem]
set_option maxHeartbeats 1000000 in
theorem zir (e : Ex) (he : e.wt <= 1048576) (pos : Bool) : FC Tryz.prog 32 [exD e, bD pos] [fmD (zq3 e pos), bD (zc7 e pos && (zc2 e pos).good)] := by
 have HI := zpx e he pos
 unfold zq3
 cases h : zc7 e pos
 ·rw [h] at HI
  rw [Bool.false_and, if_neg (by simp)]
  simp only [exD, zai, fmD, zb7, List.map_nil] at HI ⊢
  refine zaj Tryz.call32 Tryz.func32 rfl (by kernel_rfl) (zav (by kernel_rfl)) ?_
  simp -implicitDefEqProofs only [go_sem, Tryz.results32]
  refine callF (HI) (by simp -implicitDefEqProofs only [go_sem]) ?_
  simp -implicitDefEqProofs only [go_sem]
 ·rw [h] at HI
  obtain ⟨hg, hn, -⟩ := zdi h
  have HD := qco e he (zdt hg) pos hn
  have hw := (zh4 e pos hn).1
  generalize zc2 e pos = R at HD hw ⊢
  have HG := zt8 R (by omega)
  rw [Bool.true_and]
  cases hG : R.good
  ·rw [hG] at HG
   rw [if_neg (by simp)]
   simp only [exD, zai, fmD, zb7, List.map_nil, zab R] at HI HD HG ⊢
   refine zaj Tryz.call32 Tryz.func32 rfl (by kernel_rfl) (zav (by kernel_rfl)) ?_
   simp -implicitDefEqProofs only [go_sem, Tryz.results32]
   refine callF (HI) (by simp -implicitDefEqProofs only [go_sem]) ?_
   simp -implicitDefEqProofs only [go_sem]
   refine callF (HD) (by simp -implicitDefEqProofs only [go_sem]) ?_
   simp -implicitDefEqProofs only [go_sem]
   refine callF (HG) (by simp -implicitDefEqProofs only [go_sem]) ?_
   simp -implicitDefEqProofs only [go_sem]
  ·rw [hG] at HG
   rw [if_pos rfl]
   simp only [exD, zai, fmD, zab R] at HI HD HG ⊢
   refine zaj Tryz.call32 Tryz.func32 rfl (by kernel_rfl) (zav (by kernel_rfl)) ?_
   simp -implicitDefEqProofs only [go_sem, Tryz.results32]
   refine callF (HI) (by simp -implicitDefEqProofs only [go_sem]) ?_
   simp -implicitDefEqProofs only [go_sem]
   refine callF (HD) (by simp -implicitDefEqProofs only [go_sem]) ?_
   simp -implicitDefEqProofs only [go_sem]
   refine callF (HG) (by simp -implicitDefEqProofs only [go_sem]) ?_
   simp -implicitDefEqProofs only [go_sem]
end Go.Proofs.YtbccfiillleimaaGreat
namespace Go.Proofs.YtbccfiillleimaaGreat
set_option linter.unusedSimpArgs false
set_option linter.unusedVariables false
set_option linter.unusedSectionVars false
set_option maxRecDepth 4000
open Go.RowKit
variable {P : Program}
attribute [go_sem] zjc
end Go.Proofs.YtbccfiillleimaaGreat
namespace Go.Proofs.YtbccfiillleimaaGreat
set_option linter.unusedSimpArgs false
set_option linter.unusedVariables false
set_option linter.unusedSectionVars false
set_option maxRecDepth 4000
open Go.RowKit
set_option maxRecDepth 100000 in
theorem qc7 (n : Nat) (hn : n <= 1099511627776) : FC Tryz.prog 245 [.one (.pin (.slice none 0 0) (.sl 1 [])), iD n] [.one (.sl 1 [])] := by
 refine ⟨Tryz.call245, fun w vs fp tp hv hnd => ?_⟩
 obtain ⟨v1, _, rfl, h1, hv⟩ := hv
 obtain ⟨v2, _, rfl, h2, hv⟩ := hv
 obtain ⟨rfl, rfl, rfl⟩ := hv
 have e1 : v1 = .slice none 0 0 := by
  have h : zaq w (fun b => b < w.heap.size /\ ¬b ∈ []) (.pin (.slice none 0 0) (.sl 1 [])) v1 := h1
  unfold zaq at h; exact h.1
 have e2 : v2 = .int .i64 n := by
  have h : zaq w (fun b => b < w.heap.size /\ ¬b ∈ []) (.int .i64 n) v2 := h2
  unfold zaq at h; exact h.1
 clear h1 h2
 subst e1 e2
 obtain ⟨i, hi, hz, hs, hby⟩ : ∃ i, Tryz.prog.info? 9 = some i /\ i.zero = some (.string ⟨#[]⟩) /\ i.size = 1 /\ i.bytes = 16 := ⟨_, rfl, rfl, rfl, rfl⟩
 have g1 : ¬ ((n : Int) < 0) := by omega
 have g2 : wrap64 ((0 : Int) - 0) = 0 := by unfold wrap64; omega
 have g3 : wrap64 ((n : Int) - 0) = n := by unfold wrap64; omega
 by_cases h0 : n = 0
 ·subst h0
  go_enter Tryz.func245, Tryz.ntmps245
  go_wp2
  go_ret
  refine ⟨[.slice none 0 0], rfl, [], ⟨_, _, [], [], [], _, [], rfl, rfl, rfl, ⟨?_, rfl⟩, rfl, rfl, rfl⟩, List.nodup_nil, by simp, Bk.refl _ _⟩
  unfold zax
  exact ⟨none, 0, rfl, Nat.le_refl _, by simp, Or.inl ⟨rfl, rfl, rfl, rfl⟩⟩
 ·have g4 : (n : Int) > 0 := by omega
  have hrz := fun ty => Lib.run_append_nil_zeros (P := Tryz.prog) w 70 3 ty 9 i (.string ⟨#[]⟩) .i64 .i64 Tryz.underlying70 Tryz.underlying3 hi hz n (by omega) (by omega) (by omega) (by rw [hby]; omega)
  go_enter Tryz.func245, Tryz.ntmps245
  go_wp2_with (at_builtin; refine Lib.wpList_append_run _ rfl _ _ _ _ rfl _ _ rfl rfl _ _ (hrz _) ?_)
  go_ret
  have hge := grownCap_ge w n 0 9
  have hle := grownCap_le_maxLen w n 0 9 (by unfold maxLen; omega)
  generalize grownCap w n 0 9 = G at hge hle ⊢
  refine ⟨[.slice (some ⟨w.heap.size, 0, none⟩) 0 G], rfl, [w.heap.size], ⟨_, _, [], [w.heap.size], [], _, [], rfl, rfl, rfl, ⟨?_, rfl⟩, rfl, rfl, rfl⟩, by simp, by simp, ⟨rfl, rfl, rfl, ?_, fun k hk => ?_⟩⟩
  ·unfold zax
   refine ⟨_, G, rfl, Nat.zero_le _, by unfold maxLen at hle; omega, Or.inr ⟨w.heap.size, Builtin.zeroCells #[.string ⟨#[]⟩] n ++ Builtin.zeroCells #[.string ⟨#[]⟩] (G - n), 9, [], rfl, rfl, ?_, ?_, by unfold zal; rfl⟩⟩
   ·show (w.heap.push _)[w.heap.size]? = _
    simp
   ·simp [size_zeroCells]; omega
  ·show w.heap.size <= (w.heap.push _).size
   rw [Array.size_push]; omega
  ·show (w.heap.push _)[k]? = _
   have hk : k < w.heap.size := by simpa using hk
   rw [Array.getElem?_push_lt hk, Array.getElem?_eq_getElem hk]
variable {P : Program}
def VDn (σ : St) : List V -> List D -> Prop
 | [], ds => ds = []
 | v :: vs, ds => ∃ d ds', ds = d :: ds' /\ (VD σ v d \/ ∃ s sz, v = .one (.nl s) /\ d = .one (.pin (.slice none 0 0) (.sl sz []))) /\ VDn σ vs ds'
theorem VD.rep1 {n0 : Nat -> Prop} {N : Nat} {σ : St} {g : Gh} {a : Act} {w : World} (hR : Rel n0 N σ g a w) {x : V} {d : D} (h : VD σ x d) {v : Value} (hv : VR σ g w x v) : zyn w (· < w.heap.size) d v := by
 have : VDs σ [x] [d] := ⟨d, [], rfl, h, rfl⟩
 obtain ⟨_, _, e, h1, _⟩ := VDs.rep hR this (vs := [v]) ⟨v, [], rfl, hv, rfl⟩
 cases e
 exact h1
theorem VDn.rep {n0 : Nat -> Prop} {N : Nat} {σ : St} {g : Gh} {a : Act} {w : World} (hR : Rel n0 N σ g a w) : ∀ {xs : List V} {ds : List D}, VDn σ xs ds -> ∀ {vs : List Value}, VRl σ g w xs vs -> zbn w (· < w.heap.size) ds vs
 | [], ds, h, vs, hv => by rw [show ds = [] from h]; exact hv
 | x :: xs, ds, h, vs, hv => by
  obtain ⟨d, ds', rfl, h1, h2⟩ := h
  obtain ⟨v, vs', rfl, k1, k2⟩ := hv
  refine ⟨v, vs', rfl, ?_, VDn.rep hR h2 k2⟩
  rcases h1 with h1 | ⟨s, sz, rfl, rfl⟩
  ·exact VD.rep1 hR h1 k1
  ·have k1 : v = .slice none 0 0 := k1
   subst k1
   show zaq _ _ (.pin _ _) _
   unfold zaq
   refine ⟨rfl, ?_⟩
   unfold zaq
   exact ⟨none, 0, rfl, Nat.le_refl _, by simp, Or.inl rfl⟩
theorem zw9 {o : Oper} {σ : St} {x : Operand} {asx : Array Operand} {ts : Array TypeId} {f : FuncId} {cvs : List V} {d : Nat} {ds res : List D} (ho : o.op = .call ⟨.value x, asx, ts⟩) (hd : o.dst = some d)
  (h : FC P f ds res) (hc : zau (σ.get P 0 x) = some (f, cvs)) (hv : VDn σ (σ.gets P asx ts ++ cvs) ds) (hf : zgw d 0 (za4 res) σ.ev) : zag P o σ (σ.callF d res) := by
 intro n0 N g a w hR hn hdN
 obtain ⟨vs, h1, h2⟩ := zc0 hR ho hc h.1
 unfold Oper.wp
 rw [h1]
 refine (h.use (VDn.rep hR hv h2)).mono ?_
 rintro e w' ⟨us, fp, rfl, o1, o2, o3, hb⟩
 obtain ⟨g', k1, k2, k3⟩ := New.cells (σ := σ) (g := g) (NB := (w.heap.size <= ·)) (w' := w') d (za4 res) _ fp 0 σ.ev g [] (New.refl _ _ _ _ hR.slc) (fun e h1 h2 => absurd h1 h2) hf o1.cells o2 (fun b hb' => ⟨o3 b hb', by simp⟩)
 have hR' := hR.after hn hb k1
 refine ⟨g', ?_, Bk.of_below hb hn, k1.A0, k1.R0⟩
 have hp := hR'.put (some d) (x := zly (zx5 d 0 res)) (v := zbz us) (zd5 (zkr d 0 o1 (k3 _ _ rfl)) (zho d res 0)) (fun i hi => by cases hi; exact hdN d hd)
 rw [hd]
 exact hp
section
variable {ks : List Fr} {Q : Exit -> St -> Prop} {σ : St} {ops : Array Oper} {os : List Oper} {ty : TypeId} {ps : String} {af : Array Edge}
theorem callFn {d : Nat} {x : Operand} {asx : Array Operand} {ts : Array TypeId} {f : FuncId} {ds res : List D} (h : FC P f ds res) (hp : zas (zau (σ.get P 0 x)) fun p => p.1 = f /\ VDn σ (σ.gets P asx ts ++ p.2) ds /\ zgw d 0 (za4 res) σ.ev)
  (k : exo P ops os ks Q (σ.callF d res)) : exo P ops (⟨some d, .call ⟨.value x, asx, ts⟩, ty, ps, af, none⟩ :: os) ks Q σ := by
 obtain ⟨⟨f', cvs⟩, h1, rfl, h2, h3⟩ := zan hp
 exact zcr rfl rfl (zw9 rfl rfl h h1 h2 h3) k
end
theorem vdn_nl (σ : St) (s sz : Nat) (vs : List V) (ds : List D) : VDn σ (.one (.nl s) :: vs) (.one (.pin (.slice none 0 0) (.sl sz [])) :: ds) = VDn σ vs ds := propext ⟨fun h => by
 obtain ⟨d, ds', e, _, h⟩ := h
 obtain ⟨rfl, rfl⟩ := List.cons.inj e
 exact h, fun h => ⟨_, _, rfl, Or.inr ⟨_, _, rfl, rfl⟩, h⟩⟩
theorem vdn_t (σ : St) (t : T) (vs : List V) (ds : List D) : VDn σ (.one (.t t) :: vs) (.one t :: ds) = VDn σ vs ds := propext ⟨fun h => by
 obtain ⟨d, ds', e, _, h⟩ := h
 obtain ⟨rfl, rfl⟩ := List.cons.inj e
 exact h, fun h => ⟨_, _, rfl, Or.inl rfl, h⟩⟩
theorem qmu (σ : St) : VDn σ [] [] = True := by unfold VDn; simp
def cLen (A B : List Str) : Nat -> Nat
 | 0 => 0
 | 1 => A.length
 | _ => A.length + B.length
def cRow (A B : List Str) : Nat -> List Str
 | 0 => []
 | 1 => A
 | _ => A ++ B
theorem qjp (A B : List Str) : cLen A B 0 = 0 := rfl
theorem qkl (A B : List Str) : cLen A B 1 = A.length := rfl
theorem qjn (A B : List Str) : cLen A B 2 = A.length + B.length := rfl
theorem qke (A B : List Str) : cRow A B 0 = [] := rfl
theorem qkf (A B : List Str) : cRow A B 1 = A := rfl
theorem qj9 (A B : List Str) : cRow A B 2 = A ++ B := rfl
set_option maxHeartbeats 1000000 in
theorem ztd (A B : List Str) (hA : A.length + B.length <= 4194304) : FC Tryz.prog 204 [.one (.sl 1 [[zbq A], [zbq B]])] [.one (zbq (A ++ B))] := by
 have hG := qc7 (A.length + B.length) (by omega)
 have w1 : IntKind.i64.wrap ((A.length : Int) + (B.length : Int)) = ((A.length + B.length : Nat) : Int) := by rw [zbh (by omega) (by omega)]; omega
 have w0 : IntKind.i64.wrap (0 + (A.length : Int)) = ((A.length : Nat) : Int) := by rw [zbh (by omega) (by omega)]; omega
 have u1 : IntKind.i64.wrap 1 = 1 := rfl
 have u2 : IntKind.i64.wrap 2 = 2 := rfl
 have ha1 : A.length <= 4294967296 := by omega
 have ha2 : A.length + B.length <= 4294967296 := by omega
 refine zaj Tryz.call204 Tryz.func204 rfl (by kernel_rfl) (zav (by kernel_rfl)) ?_
 simp -implicitDefEqProofs only [go_sem, Tryz.results204]
 refine zae (fun k : Nat => hd [(0, vT (.sl 1 [[zbq A], [zbq B]])), (3, vI (cLen A B k)), (9, vT (.sl 1 [[zbq A], [zbq B]])), (10, vI 2), (11, vI k)] [] []) (fun k => k <= 2) (fun k => 2 - k) 0 (zac ?_) (Nat.zero_le _) ?_
 ·simp -implicitDefEqProofs only [go_sem, qjp]
 ·intro k hk
  rcases (by omega : k = 0 \/ k = 1 \/ k = 2) with rfl | rfl | rfl
  ·simp -implicitDefEqProofs only [go_sem, qjp, w0]
   refine ⟨1, by omega, by omega, zac ?_⟩
   simp -implicitDefEqProofs only [go_sem, qkl, u1]
  ·simp -implicitDefEqProofs only [go_sem, qkl, w1]
   refine ⟨2, by omega, by omega, zac ?_⟩
   simp -implicitDefEqProofs only [go_sem, qjn, u2]
  ·simp -implicitDefEqProofs only [go_sem, qjn]
   refine callFn hG (by simp -implicitDefEqProofs only [go_sem, vdn_nl, vdn_t, qmu]) ?_
   simp -implicitDefEqProofs only [go_sem]
   refine zae (fun k : Nat => hd [(6, .one (.ow 768 0)), (25, vT (.sl 1 [[zbq A], [zbq B]])), (26, vI 2), (27, vI k)] [] [(768, ⟨true, 1, (cRow A B k).map fun s => [.str s], 0, true⟩)]) (fun k => k <= 2) (fun k => 2 - k) 0 (zac ?_) (Nat.zero_le _) ?_
   ·simp -implicitDefEqProofs only [go_sem, qke, List.map_nil]
   ·intro k hk
    rcases (by omega : k = 0 \/ k = 1 \/ k = 2) with rfl | rfl | rfl
    ·simp -implicitDefEqProofs only [go_sem, qke, List.map_nil]
     refine apD true (by simp -implicitDefEqProofs only [go_sem, ne_eq, List.length_map, ha1, Nat.zero_add, zaz]) ?_
     simp -implicitDefEqProofs only [go_sem, ne_eq, List.length_map, ha1, Nat.zero_add, zaz]
     refine ⟨1, by omega, by omega, zac ?_⟩
     simp -implicitDefEqProofs only [go_sem, qkf, u1]
    ·simp -implicitDefEqProofs only [go_sem, qkf]
     refine apD true (by simp -implicitDefEqProofs only [go_sem, ne_eq, List.length_map, ha2, zaz]) ?_
     simp -implicitDefEqProofs only [go_sem, ne_eq, List.length_map, ha2, zaz]
     refine ⟨2, by omega, by omega, zac ?_⟩
     simp -implicitDefEqProofs only [go_sem, qj9, u2, List.map_append]
    ·simp -implicitDefEqProofs only [go_sem, qj9]
end Go.Proofs.YtbccfiillleimaaGreat
namespace Go.Proofs.YtbccfiillleimaaGreat
set_option linter.unusedSimpArgs false
set_option linter.unusedVariables false
set_option linter.unusedSectionVars false
set_option maxRecDepth 4000
open Go.RowKit
section
variable {P : Program}
theorem ct0_A {n0 : Nat -> Prop} {N : Nat} {σ : St} {g : Gh} {a : Act} {w : World} (hR : Rel n0 N σ g a w) {c : C} {t : T} (h : CT0 σ c t) {v : Value} (hv : CR σ g w c v) : zaq w (fun b => b < w.heap.size /\ g.A0 b) t v := by
 have hF : ∀ b, Fix σ g w b -> b < w.heap.size /\ g.A0 b := fun b hb => ⟨hb.2.2.1, hb.2.2.2⟩
 have hFr : ∀ b, zcn σ g w b -> b < w.heap.size /\ g.A0 b := fun b hb => hF b hb.1
 cases c with
 | t x =>
  have h : x = t := h
  subst h
  exact zaq.keep (fun _ _ => rfl) hF x v hv
 | rn x =>
  have h : x = t := h
  subst h
  exact zaq.keep (fun _ _ => rfl) hFr x v hv
 | nl s =>
  cases t with
  | sl sz rows =>
   have h : rows = [] := h
   subst h
   have hv : v = .slice none 0 0 := hv
   subst hv
   unfold zaq
   exact ⟨none, 0, rfl, Nat.le_refl _, by simp, Or.inl rfl⟩
  | _ => exact h.elim
 | ow e n =>
  cases t with
  | sl sz rows =>
   obtain ⟨d, o, he⟩ := h
   obtain ⟨rfl, -⟩ := hv
   cases o
   ·exact zaq.keep (fun _ _ => rfl) hF _ _ (hR.offs e _ he rfl).1
   ·have hOn : σ.On e := ⟨_, he, rfl⟩
    have hlt : ∀ b ∈ g.φ e, b < w.heap.size := (hR.evs e _ he rfl).lt
    obtain ⟨ao, cap, e1, e2, e3, e4⟩ := hR.evs e _ he rfl
    unfold zaq
    refine ⟨ao, cap, e1, e2, e3, ?_⟩
    rcases e4 with ⟨_, _, e4, _⟩ | ⟨b, cells, ty, fps, k1, k2, k3, k4, k5⟩
    ·exact Or.inl e4
    ·have hA : ∀ b' ∈ g.φ e, b' < w.heap.size /\ g.A0 b' := fun b' hb' => ⟨hlt b' hb', (hR.ebase e hOn b' hb').1⟩
     refine Or.inr ⟨b, 0, k1, hA b (by rw [k2]; simp), ?_⟩
     split at k5
     ·exact zal.rep b cells ty k3 0 sz rows fps k5 fun b' hb' => hA b' (by rw [k2]; simp [hb'])
     ·exact zar.keep (fun _ _ => rfl) hF b rfl 0 sz rows k5.2
  | _ => exact h.elim
 | el cs o =>
  cases t with
  | ptr cs' =>
   obtain ⟨rfl, rfl⟩ := h
   obtain ⟨b, q, h1, h2, h3⟩ := hv
   unfold zaq
   exact ⟨b, q, h1, hF b h2, zbc.keep (fun _ _ => rfl) hF b rfl q cs h3⟩
  | _ => exact h.elim
 | er cs o =>
  cases t with
  | ptr cs' =>
   obtain ⟨rfl, rfl⟩ := h
   obtain ⟨b, q, h1, h2, h3⟩ := hv
   unfold zaq
   exact ⟨b, q, h1, hFr b h2, zbc.keep (fun _ _ => rfl) hFr b rfl q cs h3⟩
  | _ => exact h.elim
 | _ => cases t <;> exact h.elim
theorem qi3 {n0 : Nat -> Prop} {N : Nat} {σ : St} {g : Gh} {a : Act} {w : World} (hR : Rel n0 N σ g a w) : ∀ {cs : List C} {ts : List T}, zrd σ cs ts -> ∀ {vs : List Value}, CRs σ g w cs vs -> zaf w (fun b => b < w.heap.size /\ g.A0 b) ts vs
 | [], ts, h, vs, hv => by rw [show ts = [] from h]; unfold zaf; exact hv
 | c :: cs, ts, h, vs, hv => by
  obtain ⟨t, ts', rfl, h1, h2⟩ := h
  obtain ⟨v, vs', rfl, k1, k2⟩ := hv
  unfold zaf
  exact ⟨v, vs', rfl, ct0_A hR h1 k1, qi3 hR h2 k2⟩
def RVe (σ : St) : List V -> List D -> Prop
 | [], [] => True
 | .one c :: vs, .one t :: ds => CT0 σ c t /\ RVe σ vs ds
 | .agg cs :: vs, .agg ts :: ds => zrd σ cs ts /\ RVe σ vs ds
 | _, _ => False
theorem RVe.rep {n0 : Nat -> Prop} {N : Nat} {σ : St} {g : Gh} {a : Act} {w : World} (hR : Rel n0 N σ g a w) : ∀ {vs : List V} {ds : List D}, RVe σ vs ds -> ∀ {us : List Value}, VRl σ g w vs us -> zbn w (fun b => b < w.heap.size /\ g.A0 b) ds us
 | [], [], _, us, hv => hv
 | .one c :: vs, .one t :: ds, h, us, hv => by
  obtain ⟨u, us', rfl, k1, k2⟩ := hv
  exact ⟨u, us', rfl, ct0_A hR h.1 k1, RVe.rep hR h.2 k2⟩
 | .agg cs :: vs, .agg ts :: ds, h, us, hv => by
  obtain ⟨u, us', rfl, ⟨q, rfl, k1⟩, k2⟩ := hv
  exact ⟨_, us', rfl, ⟨q, rfl, qi3 hR h.1 k1⟩, RVe.rep hR h.2 k2⟩
 | [], _ :: _, h, _, _ => h.elim
 | .one _ :: _, [], h, _, _ => h.elim
 | .one _ :: _, .agg _ :: _, h, _, _ => h.elim
 | .agg _ :: _, [], h, _, _ => h.elim
 | .agg _ :: _, .one _ :: _, h, _, _ => h.elim
 | .tup _ :: _, [], h, _, _ => h.elim
 | .tup _ :: _, _ :: _, h, _, _ => h.elim
def PRe (P : Program) (rs : List ResultVar) (res : List D) (e : Exit) (σ : St) : Prop := match e with
 | .normal => zas (zbx P σ rs) fun vs => RVe σ vs res
 | .ret => zas (zbx P σ rs) fun vs => RVe σ vs res
 | _ => False
theorem zmm {f : FuncId} {fn : Func} {c : Code} {args res : List D} (hc : za8 P f) (hf : P.funcs[f]? = some fn) (hb : fn.body = some c) (hd : zbv fn.ntmps c = true) (hN : (rd args).length <= fn.ntmps)
  (h : ex P c [] (PRe P fn.results.toList res) (zds (rd args))) : RC P f args res := by
 refine ⟨hc, fun w vs A hv => ?_⟩
 refine calls_of_wp hf hb ?_
 have hg : ∀ (ds : List D) (vs : List Value), zbn w (fun b => b < w.heap.size /\ A b) ds vs -> zaw w (fun b => b < w.heap.size /\ A b /\ b ∉ ([] : List Nat)) (rd ds) vs [] [] := by
  intro ds
  induction ds with
  | nil => intro vs h; exact ⟨h, rfl, rfl⟩
  | cons d ds ih =>
   rintro vs ⟨v, vs', rfl, h1, h2⟩
   refine ⟨v, vs', rfl, ?_, ih _ h2⟩
   cases d with
   | one t => exact zaq.keep (fun _ _ => rfl) (fun b hb => ⟨hb.1, hb.2, by simp⟩) t _ h1
   | agg ts => obtain ⟨a, h0, h1⟩ := h1; exact ⟨a, h0, zaf.keep (fun _ _ => rfl) (fun b hb => ⟨hb.1, hb.2, by simp⟩) ts a h1⟩
 obtain ⟨g, hg, hR⟩ := Rel.start (A := A) (A0 := fun b => A b \/ w.heap.size <= b) (R0 := RP.of fun _ => True) (N := fn.ntmps) (hg _ _ hv) List.nodup_nil (zdo args) hN (fun _ hb => Or.inl hb) (fun b hb => by simp at hb) (fun b hb => ⟨Or.inr (by
  refine Nat.le_of_not_lt fun hlt => hb ⟨hlt, by simp⟩), trivial⟩)
 refine wp_mono (zbs (w0 := w) c (zds (rd args)) _ hd h g _ w hR (fun k hk => hk.1) (Bk.refl _ _) hg) fun e a' w' hq => ?_
 obtain ⟨σ', g', h1, h2, h3, h4, h5⟩ := hq
 have key : zas (zbx P σ' fn.results.toList) (fun vs => RVe σ' vs res) -> ∃ v, (results fn a'.tmps).run P w' = .ok v w' /\ ∃ us, Ending.returned v = .returned (zbz us) /\ zbn w' (fun b => b < w'.heap.size /\ (A b \/ w.heap.size <= b)) res us /\ Below w.heap.size w w' := fun hk => by
  unfold zas at hk
  split at hk
  ·rename_i vs hvs
   obtain ⟨us, r1, r2⟩ := zca h2 fn hvs
   refine ⟨_, r1, us, rfl, (RVe.rep h2 hk r2).keep (fun _ _ => rfl) fun b hb => ⟨hb.1, ?_⟩, h4.os, h4.tape, h4.output, h4.size, fun k hk => h4.block k ⟨hk, by simp⟩⟩
   have := hb.2
   simp only [Prod.mk.injEq] at h5
   rw [h5.1] at this
   exact this
  ·exact hk.elim
 cases e with
 | normal => exact ⟨h2.defers, key h1⟩
 | ret => exact ⟨h2.defers, key h1⟩
 | exit _ => exact h1.elim
 | goto _ => exact h1.elim
 | panic _ => exact h1.elim
 | outgrown => exact h1.elim
attribute [go_sem] PRe RVe
end
abbrev egC (x : Eg) : List T := [.str x.1, .sl 1 (x.2.map fun s => [.str s])]
abbrev egS (xs : List Eg) : T := .sl 2 (xs.map egC)
abbrev eigL (e : Ex) (pos : Bool) (ab : List Str) : List (List Eg) := e.parts.mapIdx fun i p =>
 if za0 e.form pos = true then ((e.terms.getD i Tm.zero).name, ab) :: zlr p (sgn e.form i pos) ab else zlr p (sgn e.form i pos) (if isQ e.form.op = true then ab ++ za5 [] (voI (e.terms.getD i Tm.zero)) else ab)
abbrev qjh (p : Ex) (pos : Bool) (ab : List Str) : Prop := RC Tryz.prog 156 [exD p, bD pos, .one (zbq ab)] [.one (egS (zlr p pos ab))]
end Go.Proofs.YtbccfiillleimaaGreat
namespace Go.Proofs.YtbccfiillleimaaGreat
set_option linter.unusedSimpArgs false
set_option linter.unusedVariables false
set_option linter.unusedSectionVars false
set_option maxRecDepth 4000
open Go.RowKit
theorem zz7 (e : Ex) (pos : Bool) (ab : List Str) {k : Nat} (hlt : k < e.parts.length) : (eigL e pos ab).take (k + 1) = (eigL e pos ab).take k ++ [if za0 e.form pos = true then ((e.terms.getD k Tm.zero).name, ab) :: zlr e.parts[k] (sgn e.form k pos) ab else zlr e.parts[k] (sgn e.form k pos) (if isQ e.form.op = true then ab ++ za5 [] (voI (e.terms.getD k Tm.zero)) else ab)] := by
 rw [List.take_succ_eq_append_getElem (by simpa using hlt), List.getElem_mapIdx]
theorem zuw (e : Ex) (pos : Bool) (ab : List Str) (h : zbg e pos = true) : (zlr e pos ab).length <= e.nodes := by
 have h1 := congrArg List.length (zm9 e pos ab h)
 rw [List.length_map] at h1
 rw [h1]
 exact zgr e pos
theorem zh7 {α : Type} (L : List (List α)) (k : Nat) : (L.take k).flatten.length <= L.flatten.length := by
 have := congrArg (fun l => l.flatten.length) (List.take_append_drop k L)
 simp only [List.flatten_append, List.length_append] at this
 omega
theorem zpa {α β : Type} (f : α -> List β) (w : α -> Nat) : ∀ (l : List α), (∀ x ∈ l, (f x).length <= w x) -> (l.map f).flatten.length <= (l.map w).sum
 | [], _ => by simp
 | a :: l, h => by
  have h1 := h a (by simp)
  have h2 := zpa f w l fun x hx => h x (by simp [hx])
  simp only [List.map_cons, List.flatten_cons, List.length_append, List.sum_cons]
  omega
theorem qdm {α : Type} (w : α -> Nat) : ∀ xs : List α, (xs.map fun x => 1 + w x).sum = xs.length + (xs.map w).sum
 | [] => rfl
 | a :: l => by rw [List.map_cons, List.sum_cons, qdm w l, List.length_cons, List.map_cons, List.sum_cons]; omega
theorem qaw : ∀ a : Tm, (voI a).length <= 1 + a.wt := zbp fun n xs ih => by
 rw [zuv]
 split
 ·simp only [List.length_cons, List.length_nil]; omega
 ·have h1 := zpa voI (fun x => 1 + x.wt) xs ih
  have h2 := qdm Tm.wt xs
  have h3 := Tm.wt_eq (.mk n xs)
  simp only [Tm.name, Tm.args] at h3 ⊢
  omega
set_option maxHeartbeats 4000000 in
theorem qcr (e : Ex) (he : e.wt <= 1048576) (pos : Bool) (hn : zbg e pos = true) (ab : List Str) (hab : ab.length + e.wt <= 2097152) (H : ∀ p ∈ e.parts, ∀ pos ab, zbg p pos = true -> ab.length + p.wt <= 2097152 -> qjh p pos ab) : qjh e pos ab := by
 have hv : zlr e pos ab = (eigL e pos ab).flatten := ztr e pos ab
 have hW := e.wt_eq
 have hen := zd3 e
 have hTW : zfr e.terms = e.terms.length + (e.terms.map Tm.wt).sum := rfl
 have hln := zuw e pos ab hn
 have hpts := (zbu hn).1
 have hTP := (zes hn).1
 have hg := ze6 hn
 have HQ := zak e.form.op
 have HSt := zid e.form pos
 have hLl : (eigL e pos ab).length = e.parts.length := by simp
 have hLk := fun k (hlt : k < e.parts.length) => zz7 e pos ab hlt
 have hgrow := zh7 (eigL e pos ab)
 unfold qjh
 rw [hv]
 rw [hv] at hln
 generalize eigL e pos ab = L at hv hLl hLk hgrow hln ⊢
 simp only [exD, zai e, fmD, zab e.form] at HSt ⊢
 refine zmm Tryz.call156 Tryz.func156 rfl (by kernel_rfl) (zav (by kernel_rfl)) ?_
 simp -implicitDefEqProofs only [go_sem, Tryz.results156]
 refine zis (by simp -implicitDefEqProofs only [go_sem]) ?_
 simp -implicitDefEqProofs only [go_sem]
 refine zae (fun k : Nat => hd [(1, vT (.bool pos)), (2, vT (zbq ab)), (3, .one (.bx 3 0)), (7, .one (.ow 384 0)), (8, .one (.bx 8 0)), (16, vT (exS e.parts)), (17, vI e.parts.length), (18, vI k)] [(3, [.t (.int .i64 e.form.op), .t (.str e.form.atom.name), .t (tmS e.form.atom.args), .t (.str e.form.var), .t (fmS e.form.parts), .t (tmS e.terms), .t (exS e.parts)]), (8, [.t (.int .i64 e.form.op), .t (.str e.form.atom.name), .t (tmS e.form.atom.args), .t (.str e.form.var), .t (fmS e.form.parts)])] [(384, ⟨false, 2, (L.take k).flatten.map egC, 0, true⟩)]) (fun k => k <= e.parts.length) (fun k => e.parts.length - k) 0 (zac ?_) (Nat.zero_le _) ?_
 ·simp -implicitDefEqProofs only [go_sem]
 ·intro k hk
  by_cases hlt : k < e.parts.length
  ·have hLk := hLk k hlt
   have hgk := hgrow (k + 1)
   have hpk := za6 Ex.wt e.parts e.parts[k] (List.getElem_mem hlt)
   have HPo := zih e.form k pos
   have hsg : (pos != (e.form.op == 4 || (e.form.op == 7 && ((k : Int) == 0)))) = sgn e.form k pos := rfl
   rw [hsg] at HPo
   simp only [fmD, zab e.form] at HPo
   generalize hDn : (L.take k).flatten = dn at hgk ⊢
   cases hq : isQ e.form.op
   ·have hst : za0 e.form pos = false := by unfold za0; rw [hq]; rfl
    rw [hst, hq, if_neg (by simp), if_neg (by simp)] at hLk
    rw [hLk, List.flatten_append, List.length_append, List.flatten_singleton, hDn] at hgk
    rw [hq] at HQ
    have HC := H e.parts[k] (List.getElem_mem hlt) (sgn e.form k pos) ab (hpts k hlt) (by omega)
    unfold qjh at HC
    generalize hEi : zlr e.parts[k] (sgn e.form k pos) ab = ei at HC hLk hgk
    have ha1 : dn.length + ei.length <= 4294967296 := by omega
    simp only [exD, zai e.parts[k]] at HC
    simp -implicitDefEqProofs only [go_sem, hlt, zad, zai e.parts[k]]
    refine callF (HQ) (by simp -implicitDefEqProofs only [go_sem]) ?_
    simp -implicitDefEqProofs only [go_sem]
    refine drawn (by kernel_rfl) ?_
    simp -implicitDefEqProofs only [go_sem]
    refine zao (HPo) (by simp -implicitDefEqProofs only [go_sem]) ?_
    simp -implicitDefEqProofs only [go_sem]
    refine zu0 HC (by simp -implicitDefEqProofs only [go_sem]) ?_
    simp -implicitDefEqProofs only [go_sem]
    refine zfs false (by simp -implicitDefEqProofs only [go_sem, ne_eq, List.length_map, ha1]) ?_
    simp -implicitDefEqProofs only [go_sem, ne_eq, List.length_map, ha1]
    refine ⟨by kernel_rfl, k + 1, hlt, by omega, zac ?_⟩
    simp -implicitDefEqProofs only [go_sem]
    rw [zap (by omega), hLk, List.flatten_append, List.flatten_singleton, hDn, List.map_append]
    exact ⟨rfl, rfl⟩
   ·rw [hq] at HQ
    have hkt : k < e.terms.length := by have := hTP hq; omega
    have hTk := za6 Tm.wt e.terms e.terms[k] (List.getElem_mem hkt)
    have hgd := hg hq k hkt
    rw [zb5 hkt] at hgd hLk
    rw [<- zh6 hq] at HSt
    cases hst : za0 e.form pos
    ·rw [hst] at HSt
     rw [hst, hq, if_neg (by simp), if_pos rfl] at hLk
     rw [hLk, List.flatten_append, List.length_append, List.flatten_singleton, hDn] at hgk
     have hvl := qaw e.terms[k]
     have hpl := zcm (voI e.terms[k]) []
     simp only [List.length_nil] at hpl
     have HV := zj4 e.terms[k] (zgn _ (zgt hgd)).2 (by omega) (by omega)
     generalize hVs : za5 [] (voI e.terms[k]) = vs at HV hLk hpl hgk
     have HCc := ztd ab vs (by omega)
     have HC := H e.parts[k] (List.getElem_mem hlt) (sgn e.form k pos) (ab ++ vs) (hpts k hlt) (by rw [List.length_append]; omega)
     unfold qjh at HC
     generalize hEi : zlr e.parts[k] (sgn e.form k pos) (ab ++ vs) = ei at HC hLk hgk
     have ha1 : dn.length + ei.length <= 4294967296 := by omega
     simp only [exD, zai e.parts[k], tmD, zaa e.terms[k]] at HC HV
     simp -implicitDefEqProofs only [go_sem, hlt, zad, zai e.parts[k]]
     refine callF (HQ) (by simp -implicitDefEqProofs only [go_sem]) ?_
     simp -implicitDefEqProofs only [go_sem]
     refine callF (HSt) (by simp -implicitDefEqProofs only [go_sem, hkt, zad, zaa e.terms[k]]) ?_
     simp -implicitDefEqProofs only [go_sem, hkt, zad, zaa e.terms[k]]
     refine callF (HV) (by simp -implicitDefEqProofs only [go_sem]) ?_
     simp -implicitDefEqProofs only [go_sem]
     refine frzO 1504 rfl rfl ?_
     simp -implicitDefEqProofs only [go_sem]
     refine zis (by simp -implicitDefEqProofs only [go_sem]) ?_
     simp -implicitDefEqProofs only [go_sem]
     refine callF (HCc) (by simp -implicitDefEqProofs only [go_sem]) ?_
     simp -implicitDefEqProofs only [go_sem]
     refine frzD 1568 ?_
     simp -implicitDefEqProofs only [go_sem]
     refine drawn (by kernel_rfl) ?_
     simp -implicitDefEqProofs only [go_sem]
     refine zao (HPo) (by simp -implicitDefEqProofs only [go_sem]) ?_
     simp -implicitDefEqProofs only [go_sem]
     refine zu0 HC (by simp -implicitDefEqProofs only [go_sem]) ?_
     simp -implicitDefEqProofs only [go_sem]
     refine zfs false (by simp -implicitDefEqProofs only [go_sem, ne_eq, List.length_map, ha1]) ?_
     simp -implicitDefEqProofs only [go_sem, ne_eq, List.length_map, ha1]
     refine ⟨by kernel_rfl, k + 1, hlt, by omega, zac ?_⟩
     simp -implicitDefEqProofs only [go_sem]
     rw [zap (by omega), hLk, List.flatten_append, List.flatten_singleton, hDn, List.map_append]
     exact ⟨rfl, rfl⟩
    ·rw [hst] at HSt
     rw [hst, if_pos rfl] at hLk
     rw [hLk, List.flatten_append, List.length_append, List.flatten_singleton, hDn, List.length_cons] at hgk
     have HC := H e.parts[k] (List.getElem_mem hlt) (sgn e.form k pos) ab (hpts k hlt) (by omega)
     unfold qjh at HC
     generalize hEi : zlr e.parts[k] (sgn e.form k pos) ab = ei at HC hLk hgk
     have ha1 : dn.length + 1 + ei.length <= 4294967296 := by omega
     have ha2 : dn.length <= 4294967295 := by omega
     simp only [exD, zai e.parts[k]] at HC
     simp -implicitDefEqProofs only [go_sem, hlt, zad, zai e.parts[k]]
     refine callF (HQ) (by simp -implicitDefEqProofs only [go_sem]) ?_
     simp -implicitDefEqProofs only [go_sem]
     refine callF (HSt) (by simp -implicitDefEqProofs only [go_sem, hkt, zad, zaa e.terms[k]]) ?_
     simp -implicitDefEqProofs only [go_sem, hkt, zad, zaa e.terms[k]]
     refine zis (by simp -implicitDefEqProofs only [go_sem]) ?_
     simp -implicitDefEqProofs only [go_sem]
     refine apD false (by simp -implicitDefEqProofs only [go_sem, ne_eq, List.length_map, ha2]) ?_
     simp -implicitDefEqProofs only [go_sem, ne_eq, List.length_map, ha2]
     refine drawn (by kernel_rfl) ?_
     simp -implicitDefEqProofs only [go_sem]
     refine zao (HPo) (by simp -implicitDefEqProofs only [go_sem]) ?_
     simp -implicitDefEqProofs only [go_sem]
     refine zu0 HC (by simp -implicitDefEqProofs only [go_sem]) ?_
     simp -implicitDefEqProofs only [go_sem]
     refine zfs false (by simp -implicitDefEqProofs only [go_sem, ne_eq, List.length_map, List.length_append, List.length_cons, List.length_nil, ha1]) ?_
     simp -implicitDefEqProofs only [go_sem, ne_eq, List.length_map, List.length_append, List.length_cons, List.length_nil, ha1]
     refine ⟨by kernel_rfl, k + 1, hlt, by omega, zac ?_⟩
     simp -implicitDefEqProofs only [go_sem]
     rw [zap (by omega), hLk, List.flatten_append, List.flatten_singleton, hDn, List.map_append, List.map_cons]
     simp only [List.append_assoc, List.cons_append, List.nil_append]
     exact ⟨trivial, trivial⟩
  ·have ht : L.take k = L := List.take_of_length_le (by omega)
   simp -implicitDefEqProofs only [go_sem, hlt, ht]
end Go.Proofs.YtbccfiillleimaaGreat
namespace Go.Proofs.YtbccfiillleimaaGreat
set_option linter.unusedSimpArgs false
set_option linter.unusedVariables false
set_option linter.unusedSectionVars false
set_option maxRecDepth 4000
open Go.RowKit
theorem qfb : ∀ e : Ex, e.wt <= 1048576 -> ∀ pos ab, zbg e pos = true -> ab.length + e.wt <= 2097152 -> qjh e pos ab :=
 zcd fun f ts ps ih he pos ab hn hab => qcr (.mk f ts ps) he pos hn ab hab fun p hp pos ab hn hab => ih p hp (Nat.le_trans (zcx (a := .mk f ts ps) hp) he) pos ab hn hab
theorem zo0 (xs : List Eg) (p : Eg -> Bool) (g : FuncId) (caps : List T) (H : ∀ x ∈ xs, FC Tryz.prog g (.agg (egC x) :: caps.map .one) [bD (p x)]) : FC Tryz.prog 157 [.one (egS xs), .one (.fn g caps)] [iD (zfd xs p)] := by
 refine zc1 (fun hw => ?_) Tryz.call157
 have hl : xs.length <= 9223372036854775807 := by simpa [zfq, wfT] using hw.1.1
 refine zaj Tryz.call157 Tryz.func157 rfl (by kernel_rfl) (zav (by kernel_rfl)) ?_
 simp -implicitDefEqProofs only [go_sem, Tryz.results157]
 refine zae (fun k : Nat => hd [(0, vT (egS xs)), (1, vT (.fn g caps)), (7, vI xs.length), (8, vI k)] [] []) (fun k => k <= xs.length /\ ∀ x ∈ xs.take k, p x = false) (fun k => xs.length - k) 0 (zac ?_) ?_ ?_
 ·simp -implicitDefEqProofs only [go_sem]
 ·simp
 ·intro k ⟨hk, hr⟩
  by_cases hlt : k < xs.length
  ·simp -implicitDefEqProofs only [go_sem, zad, hlt, ne_eq]
   refine callF (H xs[k] (List.getElem_mem hlt)) (by simp -implicitDefEqProofs only [go_sem, ne_eq]) ?_
   simp -implicitDefEqProofs only [go_sem, ne_eq]
   refine ⟨fun h => ?_, fun h => ⟨k + 1, ⟨hlt, zb8 hlt hr h⟩, by omega, zac (by simp -implicitDefEqProofs only [go_sem]; rw [zap (by omega)])⟩⟩
   rw [zc6 hlt hr h]
  ·simp -implicitDefEqProofs only [go_sem, hlt]
   rw [List.take_of_length_le (by omega)] at hr
   rw [zdz hr]
theorem zjk (xs : List Eg) (p : Eg -> Bool) (g : FuncId) (caps : List T) (H : ∀ x ∈ xs, FC Tryz.prog g (.agg (egC x) :: caps.map .one) [bD (p x)]) : FC Tryz.prog 159 [.one (egS xs), .one (.fn g caps)] [bD (xs.any p)] := by
 refine zaj Tryz.call159 Tryz.func159 rfl (by kernel_rfl) (zav (by kernel_rfl)) ?_
 simp -implicitDefEqProofs only [go_sem, Tryz.results159]
 refine callF (zo0 xs p g caps H) (by simp -implicitDefEqProofs only [go_sem]) ?_
 simp -implicitDefEqProofs only [go_sem]
 rw [zhh]
theorem cl2_c (x y : Eg) (out : List Str) : FC Tryz.prog 160 [.agg (egC y), .one (.ptr (egC x)), .one (.ptr [zbq out])] [bD (x.2.contains y.1 && !out.contains y.1)] := by
 have H1 := zbk x.2 y.1
 have H2 := zbk out y.1
 cases h1 : x.2.contains y.1
 ·rw [h1] at H1
  refine zaj Tryz.call160 Tryz.func160 rfl (by kernel_rfl) (zav (by kernel_rfl)) ?_
  simp -implicitDefEqProofs only [go_sem, Tryz.results160]
  refine callF (H1) (by simp -implicitDefEqProofs only [go_sem]) ?_
  simp -implicitDefEqProofs only [go_sem]
 ·rw [h1] at H1
  refine zaj Tryz.call160 Tryz.func160 rfl (by kernel_rfl) (zav (by kernel_rfl)) ?_
  simp -implicitDefEqProofs only [go_sem, Tryz.results160]
  refine callF (H1) (by simp -implicitDefEqProofs only [go_sem]) ?_
  simp -implicitDefEqProofs only [go_sem]
  refine callF (H2) (by simp -implicitDefEqProofs only [go_sem]) ?_
  simp -implicitDefEqProofs only [go_sem]
abbrev arB (list : List Eg) (out : List Str) : Bxs := [[(true, zbq out)], [(false, egS list)]]
theorem cl1_c (list : List Eg) (out : List Str) (x : Eg) : PC Tryz.prog 158 (arB list out) [.d false (.agg (egC x)), .p 0, .p 1] (arB list out) [(true, bD (zwg list out x))] := by
 have H1 := zbk out x.1
 have H2 := zjk list (fun y => x.2.contains y.1 && !out.contains y.1) 160 [.ptr (egC x), .ptr [zbq out]] fun y _ => cl2_c x y out
 unfold zwg
 generalize (list.any fun y => x.2.contains y.1 && !out.contains y.1) = r at H2 ⊢
 cases h1 : out.contains x.1
 ·rw [h1] at H1
  refine zku Tryz.call158 Tryz.func158 rfl (by kernel_rfl) (by simp only [List.length_cons, List.length_nil, Tryz.ntmps158]; omega) (by simp only [Tryz.ntmps158]; omega) rfl rfl (by simp [zbm, T.isPin, AF.ds, bxA]) (by simp [gFS, T.fs, T.flat, AF.ds, bxA]) rfl ?_
  simp -implicitDefEqProofs only [go_sem, Tryz.results158]
  refine callF (H1) (by simp -implicitDefEqProofs only [go_sem]) ?_
  simp -implicitDefEqProofs only [go_sem]
  refine callF (H2) (by simp -implicitDefEqProofs only [go_sem]) ?_
  simp -implicitDefEqProofs only [go_sem]
 ·rw [h1] at H1
  refine zku Tryz.call158 Tryz.func158 rfl (by kernel_rfl) (by simp only [List.length_cons, List.length_nil, Tryz.ntmps158]; omega) (by simp only [Tryz.ntmps158]; omega) rfl rfl (by simp [zbm, T.isPin, AF.ds, bxA]) (by simp [gFS, T.fs, T.flat, AF.ds, bxA]) rfl ?_
  simp -implicitDefEqProofs only [go_sem, Tryz.results158]
  refine callF (H1) (by simp -implicitDefEqProofs only [go_sem]) ?_
  simp -implicitDefEqProofs only [go_sem]
theorem idxB_c (list : List Eg) (out : List Str) (hl : list.length <= 1048577) : PC Tryz.prog 157 (arB list out) [.d false (.one (egS list)), .fn 158 [0, 1]] (arB list out) [(true, iD (zfd list (zwg list out)))] := by
 refine zku Tryz.call157 Tryz.func157 rfl (by kernel_rfl) (by simp only [List.length_cons, List.length_nil, Tryz.ntmps157]; omega) (by simp only [Tryz.ntmps157]; omega) rfl rfl (by simp [zbm, T.isPin, AF.ds, bxA]) (by simp [gFS, T.fs, T.flat, AF.ds, bxA]) rfl ?_
 simp -implicitDefEqProofs only [go_sem, Tryz.results157]
 refine zae (fun k : Nat => hd [(0, .one (.rn (egS list))), (1, .one (.fn 158 [1000000, 1000001])), (7, vI list.length), (8, vI k), (1000000, .one (.bx 1000000 0)), (1000001, .one (.bx 1000001 0))] [(1000000, [.ow 32 0]), (1000001, [.rn (egS list)])] [(32, ⟨true, 1, out.map fun s => [.str s], 0, true⟩)]) (fun k => k <= list.length /\ ∀ x ∈ list.take k, zwg list out x = false) (fun k => list.length - k) 0 (zac ?_) ?_ ?_
 ·simp -implicitDefEqProofs only [go_sem]
 ·simp
 ·intro k ⟨hk, hr⟩
  by_cases hlt : k < list.length
  ·have HC := cl1_c list out list[k]
   simp -implicitDefEqProofs only [go_sem, zad, hlt]
   refine zvu [0, 1, 5, 7, 8, 11, 1000000, 1000001] [15] [1000000, 1000001] [] (HC) (by decide) rfl (by simp -implicitDefEqProofs only [go_sem]) (by simp -implicitDefEqProofs only [go_sem]) (by simp -implicitDefEqProofs only [go_sem]) (by simp -implicitDefEqProofs only [go_sem]) ?_
   simp -implicitDefEqProofs only [go_sem]
   refine ⟨fun h => Or.inl (by rw [zc6 hlt hr h]), fun h => ⟨k + 1, ⟨hlt, zb8 hlt hr h⟩, by omega, zcz 32 513 ?_⟩⟩
   simp -implicitDefEqProofs only [go_sem]
   rw [zap (by omega)]
  ·simp -implicitDefEqProofs only [go_sem, hlt]
   rw [List.take_of_length_le (by omega)] at hr
   rw [zdz hr]
   exact Or.inl rfl
def qj2 (L : List Eg) : Nat -> List Str -> List Str × Bool
 | 0, out => (out, true)
 | n + 1, out => if 0 <= zfd L (zwg L out) then qj2 L n (out ++ [(L.getD (zfd L (zwg L out)).toNat ([], [])).1]) else (out, false)
theorem qa0 {α : Type} {xs : List α} {p : α -> Bool} (h : 0 <= zfd xs p) : (zfd xs p).toNat < xs.length /\ zfd xs p = ((zfd xs p).toNat : Nat) := by
 unfold zfd at h ⊢
 split at h
 ·rename_i ha
  have h2 : xs.findIdx p < xs.length := List.findIdx_lt_length.2 (List.any_eq_true.1 ha)
  rw [if_pos ha]
  simp only [Int.toNat_natCast]
  exact ⟨h2, trivial⟩
 ·omega
noncomputable def arI (e : Ex) (pos : Bool) : List Str × Bool := qj2 (zlr e pos []) (zlr e pos []).length []
set_option maxHeartbeats 2000000 in
theorem qcf (e : Ex) (he : e.wt <= 1048576) (pos : Bool) (hn : zbg e pos = true) : FC Tryz.prog 96 [exD e, bD pos] [.one (zbq (arI e pos).1), bD (arI e pos).2] := by
 have HE := qfb e he pos [] hn (by simp; omega)
 have hl := zuw e pos [] hn
 have hen := zd3 e
 have hv : arI e pos = qj2 (zlr e pos []) (zlr e pos []).length [] := rfl
 unfold qjh at HE
 generalize zlr e pos [] = list at HE hl hv
 generalize arI e pos = R at hv ⊢
 rw [show zbq [] = .sl 1 [] from rfl] at HE
 simp only [exD, zai e] at HE ⊢
 refine zcv Tryz.call96 Tryz.func96 rfl (by kernel_rfl) (zav (by kernel_rfl)) ?_
 simp -implicitDefEqProofs only [go_sem, Tryz.results96]
 refine zur (HE) (by simp -implicitDefEqProofs only [go_sem]) ?_
 simp -implicitDefEqProofs only [go_sem]
 refine zbd (by simp -implicitDefEqProofs only [go_sem]) ?_
 simp -implicitDefEqProofs only [go_sem]
 refine zae (fun out : List Str => hd [(4, .one (.nl 1)), (5, vT (.bool false)), (6, .one (.bx 6 0)), (7, .one (.bx 7 0))] [(6, [.rn (egS list)]), (7, [.ow 384 0])] [(384, ⟨true, 1, out.map fun s => [.str s], 0, true⟩)]) (fun out => out.length <= list.length /\ qj2 list (list.length - out.length) out = R) (fun out => list.length - out.length) [] (zac ?_) ⟨Nat.zero_le _, hv.symm⟩ ?_
 ·simp -implicitDefEqProofs only [go_sem]
 ·intro out ⟨ho, hr⟩
  by_cases hlt : out.length < list.length
  ·have hI := idxB_c list out (by omega)
   obtain ⟨n, hn2⟩ : ∃ n, list.length - out.length = n + 1 := ⟨list.length - out.length - 1, by omega⟩
   rw [hn2] at hr
   unfold qj2 at hr
   have hil := fun h => qa0 (xs := list) (p := zwg list out) h
   generalize zfd list (zwg list out) = x at hI hr hil
   by_cases h0 : 0 <= x
   ·obtain ⟨h1, h2⟩ := hil h0
    obtain ⟨j, hj⟩ : ∃ j, x.toNat = j := ⟨_, rfl⟩
    rw [hj] at h1 h2
    rw [if_pos h0, hj, zb5 h1] at hr
    subst h2
    have ha : out.length <= 4294967295 := by omega
    simp -implicitDefEqProofs only [go_sem, hlt]
    refine zvu [4, 5, 6, 7] [18, 19] [7, 6] [] (hI) (by decide) rfl (by simp -implicitDefEqProofs only [go_sem]) (by simp -implicitDefEqProofs only [go_sem]) (by simp -implicitDefEqProofs only [go_sem]) (by simp -implicitDefEqProofs only [go_sem]) ?_
    simp -implicitDefEqProofs only [go_sem]
    refine drawn (by kernel_rfl) ?_
    simp -implicitDefEqProofs only [go_sem, h1, zad]
    refine zbj (by simp -implicitDefEqProofs only [go_sem]) ?_
    simp -implicitDefEqProofs only [go_sem]
    refine zfs true (by simp -implicitDefEqProofs only [go_sem, ne_eq, List.length_map, ha]) ?_
    simp -implicitDefEqProofs only [go_sem, ne_eq, List.length_map, ha]
    refine ⟨by kernel_rfl, out ++ [list[j].1], ⟨by rw [List.length_append]; simp; omega, by rw [<- hr]; congr 1; rw [List.length_append]; simp; omega⟩, by rw [List.length_append]; simp; omega, zcz 384 641 ?_⟩
    simp -implicitDefEqProofs only [go_sem]
    rw [List.map_append, List.map_singleton]
   ·have hx0 : (x < 0) = True := by simp; omega
    rw [if_neg h0] at hr
    subst hr
    simp -implicitDefEqProofs only [go_sem, hlt]
    refine zvu [4, 5, 6, 7] [18, 19] [7, 6] [] (hI) (by decide) rfl (by simp -implicitDefEqProofs only [go_sem, hx0]) (by simp -implicitDefEqProofs only [go_sem, hx0]) (by simp -implicitDefEqProofs only [go_sem, hx0]) (by simp -implicitDefEqProofs only [go_sem, hx0]) ?_
    simp -implicitDefEqProofs only [go_sem, hx0]
  ·have h0 : list.length - out.length = 0 := by omega
   rw [h0] at hr
   unfold qj2 at hr
   subst hr
   simp -implicitDefEqProofs only [go_sem, hlt]
end Go.Proofs.YtbccfiillleimaaGreat
namespace Go.Proofs.YtbccfiillleimaaGreat
set_option linter.unusedSimpArgs false
set_option linter.unusedVariables false
set_option linter.unusedSectionVars false
set_option maxRecDepth 4000
open Go.RowKit
theorem zt6 : ∀ f : Fm, (atF f).length <= f.nodes := zbr fun o a v ps ih => by
 rw [zi1, Fm.nodes_eq]
 split
 ·simp
 ·have := zpa atF Fm.nodes ps ih
  simp only [Fm.parts]
  omega
theorem zot (f : Fm) {k : Nat} (hlt : k < f.parts.length) : ((f.parts.map atF).take (k + 1)).flatten = ((f.parts.map atF).take k).flatten ++ atF f.parts[k] := by
 rw [List.take_succ_eq_append_getElem (by simpa using hlt), List.getElem_map, List.flatten_append, List.flatten_singleton]
theorem zxz (f : Fm) (hw : f.wt <= 1048576) (H : ∀ p ∈ f.parts, RC Tryz.prog 196 [fmD p] [.one (tmS (atF p))]) : RC Tryz.prog 196 [fmD f] [.one (tmS (atF f))] := by
 have hv := zi1 f
 have hl := zt6 f
 have hn := zd6 f
 have hW := f.wt_eq
 simp only [fmD, zab f]
 cases h3 : f.op == 3
 ·rw [h3, if_neg (by simp)] at hv
  rw [hv] at hl ⊢
  refine zmm Tryz.call196 Tryz.func196 rfl (by kernel_rfl) (zav (by kernel_rfl)) ?_
  simp -implicitDefEqProofs only [go_sem, Tryz.results196]
  simp -implicitDefEqProofs only [go_sem, h3]
  refine zis (by simp -implicitDefEqProofs only [go_sem]) ?_
  simp -implicitDefEqProofs only [go_sem]
  refine zae (fun k : Nat => hd [(3, .one (.ow 384 0)), (14, vT (fmS f.parts)), (15, vI f.parts.length), (16, vI k)] [] [(384, ⟨false, 2, ((f.parts.map atF).take k).flatten.map tmC, 0, true⟩)]) (fun k => k <= f.parts.length) (fun k => f.parts.length - k) 0 (zac ?_) (Nat.zero_le _) ?_
  ·simp -implicitDefEqProofs only [go_sem]
  ·intro k hk
   by_cases hlt : k < f.parts.length
   ·have hT := zot f hlt
    have hg := zh7 (f.parts.map atF) (k + 1)
    rw [hT, List.length_append] at hg
    have HC := H f.parts[k] (List.getElem_mem hlt)
    simp only [fmD, zab f.parts[k]] at HC
    generalize ((f.parts.map atF).take k).flatten = dn at hT hg ⊢
    generalize atF f.parts[k] = ap at HC hT hg
    have ha1 : dn.length + ap.length <= 4294967296 := by omega
    simp -implicitDefEqProofs only [go_sem, hlt, zad, zab f.parts[k]]
    refine callR (HC) (by simp -implicitDefEqProofs only [go_sem]) ?_
    simp -implicitDefEqProofs only [go_sem]
    refine apD false (by simp -implicitDefEqProofs only [go_sem, ne_eq, List.length_map, ha1]) ?_
    simp -implicitDefEqProofs only [go_sem, ne_eq, List.length_map, ha1]
    refine ⟨k + 1, hlt, by omega, zac ?_⟩
    simp -implicitDefEqProofs only [go_sem]
    rw [zap (by omega), hT, List.map_append]
    exact ⟨rfl, rfl⟩
   ·have ht : (f.parts.map atF).take k = f.parts.map atF := List.take_of_length_le (by simpa using hlt)
    simp -implicitDefEqProofs only [go_sem, hlt, ht]
 ·rw [h3, if_pos rfl] at hv
  rw [hv]
  refine zmm Tryz.call196 Tryz.func196 rfl (by kernel_rfl) (zav (by kernel_rfl)) ?_
  simp -implicitDefEqProofs only [go_sem, Tryz.results196]
  simp -implicitDefEqProofs only [go_sem, h3]
  refine zis (by simp -implicitDefEqProofs only [go_sem, zaa]) ?_
  simp -implicitDefEqProofs only [go_sem, zaa]
theorem qav : ∀ f : Fm, f.wt <= 1048576 -> RC Tryz.prog 196 [fmD f] [.one (tmS (atF f))] :=
 zbr fun o a v ps ih hw => zxz (.mk o a v ps) hw fun x hx => ih x hx (Nat.le_trans (zby (a := .mk o a v ps) hx) hw)
theorem zyr (a t : Tm) : FC Tryz.prog 241 [tmD a, .one (.ptr (tmC t))] [bD (same a t)] := by
 have H := zfy a t
 simp only [tmD, zaa] at H ⊢
 refine zaj Tryz.call241 Tryz.func241 rfl (by kernel_rfl) (zav (by kernel_rfl)) ?_
 simp -implicitDefEqProofs only [go_sem, Tryz.results241]
 refine callF (H) (by simp -implicitDefEqProofs only [go_sem]) ?_
 simp -implicitDefEqProofs only [go_sem]
theorem qb6 (ys : List Tm) (t : Tm) (hw : t.wt <= 1048576) (hs : ys.length <= 1048577) : GC Tryz.prog 197 [(true, .one (tmS ys)), (false, tmD t)] [.one (tmS (zo1 ys t))] := by
 have HF := zec ys (fun a => same a t) 241 [.ptr (tmC t)] fun x _ => zyr x t
 have HC := zew t hw
 have hv : zo1 ys t = if (ys.any fun a => same a t) = true then ys else ys ++ [t] := rfl
 have ha : ys.length <= 4294967295 := by omega
 simp only [tmD, zaa t] at HF HC ⊢
 generalize (ys.any fun a => same a t) = b at HF hv
 refine zql Tryz.call197 Tryz.func197 rfl (by kernel_rfl) (by simp only [List.length_cons, List.length_nil, Tryz.ntmps197]; omega) (by simp [zbm, T.isPin]) ?_
 simp -implicitDefEqProofs only [go_sem, Tryz.results197]
 refine callF (HF) (by simp -implicitDefEqProofs only [go_sem]) ?_
 simp -implicitDefEqProofs only [go_sem]
 refine ⟨fun h => ?_, fun h => ?_⟩
 ·rw [hv, if_pos (by simpa using h)]
  exact Or.inl rfl
 ·rw [hv, if_neg (by simpa using h)]
  refine callF (HC) (by simp -implicitDefEqProofs only [go_sem]) ?_
  simp -implicitDefEqProofs only [go_sem]
  refine zbd (by simp -implicitDefEqProofs only [go_sem]) ?_
  simp -implicitDefEqProofs only [go_sem]
  refine apD true (by simp -implicitDefEqProofs only [go_sem, ne_eq, List.length_map, ha]) ?_
  simp -implicitDefEqProofs only [go_sem, ne_eq, List.length_map, ha]
  exact Or.inl (by simp [tmS, zaa t])
theorem zqf : ∀ (ts ys : List Tm), (ts.foldl zo1 ys).length <= ys.length + ts.length
 | [], ys => by simp
 | t :: ts, ys => by
  have h1 := zqf ts (zo1 ys t)
  have h2 : (zo1 ys t).length <= ys.length + 1 := by unfold zo1; split <;> simp
  rw [List.foldl_cons, List.length_cons]; omega
theorem atF_wt : ∀ (f : Fm), ∀ t ∈ atF f, t.wt <= f.wt := zbr fun o a v ps ih t ht => by
 have hW := (Fm.mk o a v ps).wt_eq
 rw [zi1] at ht
 simp only [Fm.atom, Fm.var, Fm.parts] at hW
 by_cases h3 : ((Fm.mk o a v ps).op == 3) = true
 ·rw [if_pos h3, List.mem_singleton] at ht
  rw [ht]
  show a.wt <= _
  omega
 ·rw [if_neg h3] at ht
  obtain ⟨l, hl, hx⟩ := List.mem_flatten.1 ht
  obtain ⟨p, hp, rfl⟩ := List.mem_map.1 hl
  have := ih p hp t hx
  have := za6 Fm.wt ps p hp
  omega
theorem zjm (f : Fm) (hw : f.wt <= 1048576) : FC Tryz.prog 133 [fmD f] [.one (tmS (qhj f))] := by
 have HA := qav f hw
 have hl := zt6 f
 have hn := zd6 f
 have ht := atF_wt f
 have hv : qhj f = (atF f).foldl zo1 [] := rfl
 rw [hv]
 generalize atF f = L at HA hl ht ⊢
 simp only [fmD, zab f] at HA ⊢
 refine zcv Tryz.call133 Tryz.func133 rfl (by kernel_rfl) (zav (by kernel_rfl)) ?_
 simp -implicitDefEqProofs only [go_sem, Tryz.results133]
 refine zbd (by simp -implicitDefEqProofs only [go_sem]) ?_
 simp -implicitDefEqProofs only [go_sem]
 refine zur (HA) (by simp -implicitDefEqProofs only [go_sem]) ?_
 simp -implicitDefEqProofs only [go_sem]
 refine zae (fun k : Nat => hd [(3, .one (.ow 192 0)), (8, .one (.rn (tmS L))), (9, vI L.length), (10, vI k)] [] [(192, ⟨true, 2, ((L.take k).foldl zo1 []).map tmC, 0, true⟩)]) (fun k => k <= L.length) (fun k => L.length - k) 0 (zac ?_) (Nat.zero_le _) ?_
 ·simp -implicitDefEqProofs only [go_sem]
  rfl
 ·intro k hk
  by_cases hlt : k < L.length
  ·have hlen := zqf (L.take k) []
   have hT : (L.take (k + 1)).foldl zo1 [] = zo1 ((L.take k).foldl zo1 []) L[k] := by
    rw [List.take_succ_eq_append_getElem hlt, List.foldl_append]; rfl
   rw [List.length_take, List.length_nil] at hlen
   have HC := qb6 ((L.take k).foldl zo1 []) L[k] (Nat.le_trans (ht _ (List.getElem_mem hlt)) hw) (by omega)
   rw [<- hT] at HC
   simp only [tmD, zaa L[k]] at HC
   simp -implicitDefEqProofs only [go_sem, hlt, zad, zaa L[k]]
   refine zc5 [8, 9, 10] [14, 15] [] (HC) (by simp -implicitDefEqProofs only [go_sem]) (by simp -implicitDefEqProofs only [go_sem]) (by simp -implicitDefEqProofs only [go_sem]) (by simp -implicitDefEqProofs only [go_sem]) ?_
   simp -implicitDefEqProofs only [go_sem]
   refine ⟨k + 1, hlt, by omega, zcz 192 512 ?_⟩
   simp -implicitDefEqProofs only [go_sem]
   rw [zap (by omega)]
  ·have ht : L.take k = L := List.take_of_length_le (by omega)
   simp -implicitDefEqProofs only [go_sem, hlt, ht]
end Go.Proofs.YtbccfiillleimaaGreat
namespace Go.Proofs.YtbccfiillleimaaGreat
set_option linter.unusedSimpArgs false
set_option linter.unusedVariables false
set_option linter.unusedSectionVars false
set_option maxRecDepth 4000
open Go.RowKit
noncomputable def bv (m : Nat) (l : List Tm) : Tm -> Bool := fun t => m.testBit (ixT l t)
theorem ql1 (n : Nat) (h : n < 4096) : IntKind.i64.wrap ((BitVec.ofInt 64 (n : Int) &&& BitVec.ofInt 64 1).toNat : Int) = ((n % 2 : Nat) : Int) := by
 have h1 : (BitVec.ofInt 64 (n : Int) &&& BitVec.ofInt 64 1).toNat = n % 2 := by
  rw [BitVec.toNat_and, show (BitVec.ofInt 64 (1 : Int)).toNat = 1 from rfl, Nat.and_one_is_mod]
  rw [show BitVec.ofInt 64 (n : Int) = BitVec.ofNat 64 n from BitVec.ofInt_natCast 64 n, BitVec.toNat_ofNat]
  omega
 rw [h1]
 exact zbh (by omega) (by omega)
theorem qnh (m i : Nat) : ((m : Int).fdiv ((2 : Int) ^ i)) = ((m >>> i : Nat) : Int) := by
 rw [Nat.shiftRight_eq_div_pow, Int.fdiv_eq_ediv_of_nonneg _ (Int.le_of_lt (Int.pow_pos (by decide)))]
 simp
theorem bit_is (m i : Nat) : ((((m >>> i) % 2 : Nat) : Int) == 1) = m.testBit i := by
 rw [Nat.testBit, Nat.one_and_eq_mod_two, Bool.eq_iff_iff, beq_iff_eq, bne_iff_ne]
 generalize m >>> i = x
 omega
theorem znv (m i : Nat) (hm : m < 4096) (hi : i < 12) : (-9223372036854775808 <= (m : Int).fdiv ((2 : Int) ^ min i 64) /\ (m : Int).fdiv ((2 : Int) ^ min i 64) <= 9223372036854775807) /\ (IntKind.i64.wrap ((BitVec.ofInt 64 ((m : Int).fdiv ((2 : Int) ^ min i 64)) &&& BitVec.ofInt 64 1).toNat : Int) == 1) = m.testBit i := by
 have h64 : min i 64 = i := by omega
 have hle : m >>> i <= m := by rw [Nat.shiftRight_eq_div_pow]; exact Nat.div_le_self _ _
 rw [h64, qnh, ql1 _ (by omega), bit_is]
 generalize m >>> i = x at hle
 exact ⟨by omega, rfl⟩
theorem zxp (l : List Tm) (hl : l.length <= 12) (m : Nat) (hm : m < 4096) (f : Fm) (hf : f.forms = true) (hp : zcw f = true) (ha : ∀ t ∈ atF f, t ∈ l) (H : ∀ p ∈ f.parts, FC Tryz.prog 134 [fmD p, .one (tmS l), iD m] [bD (evF p (bv m l))]) : FC Tryz.prog 134 [fmD f, .one (tmS l), iD m] [bD (evF f (bv m l))] := by
 rcases zj6 hf with ⟨h1, h2⟩ | ⟨p, rfl, _⟩ | ⟨o, p, q, ho, rfl, _⟩ | ⟨o, v, p, ho, rfl, _⟩
 ·obtain ⟨o, a, v, ps⟩ := f
  simp only [Fm.op, Fm.parts] at h1 h2
  subst h1
  rcases h2 with rfl | rfl | rfl
  ·rw [zfj]
   simp only [fmD, zcu, Fm.op]
   refine zaj Tryz.call134 Tryz.func134 rfl (by kernel_rfl) (zav (by kernel_rfl)) ?_
   simp -implicitDefEqProofs only [go_sem, Tryz.results134]
  ·rw [zfj]
   simp only [fmD, zcu, Fm.op]
   refine zaj Tryz.call134 Tryz.func134 rfl (by kernel_rfl) (zav (by kernel_rfl)) ?_
   simp -implicitDefEqProofs only [go_sem, Tryz.results134]
  ·have hal : a ∈ l := ha a (by rw [zi1]; simp [Fm.op, Fm.atom])
   obtain ⟨hi, _, hx⟩ := qeo hal
   have HX := zh5 l a
   have hv : evF (.mk 3 a v []) (bv m l) = m.testBit (ixT l a) := by rw [zfj]; rfl
   rw [hx] at HX
   rw [hv]
   generalize ixT l a = i at hi HX
   simp only [tmD, zaa a] at HX
   simp only [fmD, zcu, Fm.op]
   refine zaj Tryz.call134 Tryz.func134 rfl (by kernel_rfl) (zav (by kernel_rfl)) ?_
   simp -implicitDefEqProofs only [go_sem, Tryz.results134]
   refine callF (HX) (by simp -implicitDefEqProofs only [go_sem]) ?_
   simp -implicitDefEqProofs only [go_sem]
   exact ⟨(znv m i hm (by omega)).1, congrArg T.bool (znv m i hm (by omega)).2⟩
 ·have HP := H p (by simp [mkF, Fm.parts])
  have hv : evF (mkF 4 [p]) (bv m l) = !(evF p (bv m l)) := by rw [zfj]; rfl
  rw [hv]
  generalize evF p (bv m l) = r at HP ⊢
  simp only [fmD, zab p] at HP
  simp only [fmD]
  rw [show fmC (mkF 4 [p]) = [.int .i64 4, .str [], .sl 2 [], .str [], .sl 5 [fmC p]] from zb7 4 [p], zab p]
  refine zaj Tryz.call134 Tryz.func134 rfl (by kernel_rfl) (zav (by kernel_rfl)) ?_
  simp -implicitDefEqProofs only [go_sem, Tryz.results134]
  refine callF (HP) (by simp -implicitDefEqProofs only [go_sem]) ?_
  simp -implicitDefEqProofs only [go_sem]
 ·have HP := H p (by simp [mkF, Fm.parts])
  have HQ := H q (by simp [mkF, Fm.parts])
  have hv : evF (mkF o [p, q]) (bv m l) = if (o == 5) = true then evF p (bv m l) && evF q (bv m l) else if (o == 6) = true then evF p (bv m l) || evF q (bv m l) else !(evF p (bv m l)) || evF q (bv m l) := by
   rw [zfj]
   rcases ho with rfl | rfl | rfl <;> rfl
  rw [hv]
  generalize evF p (bv m l) = r at HP ⊢
  generalize evF q (bv m l) = r2 at HQ ⊢
  simp only [fmD, zab p, zab q] at HP HQ
  simp only [fmD]
  rw [show fmC (mkF o [p, q]) = [.int .i64 o, .str [], .sl 2 [], .str [], .sl 5 [fmC p, fmC q]] from zb7 o [p, q], zab p, zab q]
  rcases ho with rfl | rfl | rfl
  ·cases r
   ·refine zaj Tryz.call134 Tryz.func134 rfl (by kernel_rfl) (zav (by kernel_rfl)) ?_
    simp -implicitDefEqProofs only [go_sem, Tryz.results134]
    refine callF (HP) (by simp -implicitDefEqProofs only [go_sem]) ?_
    simp -implicitDefEqProofs only [go_sem]
   ·refine zaj Tryz.call134 Tryz.func134 rfl (by kernel_rfl) (zav (by kernel_rfl)) ?_
    simp -implicitDefEqProofs only [go_sem, Tryz.results134]
    refine callF (HP) (by simp -implicitDefEqProofs only [go_sem]) ?_
    simp -implicitDefEqProofs only [go_sem]
    refine callF (HQ) (by simp -implicitDefEqProofs only [go_sem]) ?_
    simp -implicitDefEqProofs only [go_sem]
  ·cases r
   ·refine zaj Tryz.call134 Tryz.func134 rfl (by kernel_rfl) (zav (by kernel_rfl)) ?_
    simp -implicitDefEqProofs only [go_sem, Tryz.results134]
    refine callF (HP) (by simp -implicitDefEqProofs only [go_sem]) ?_
    simp -implicitDefEqProofs only [go_sem]
    refine callF (HQ) (by simp -implicitDefEqProofs only [go_sem]) ?_
    simp -implicitDefEqProofs only [go_sem]
    rfl
   ·refine zaj Tryz.call134 Tryz.func134 rfl (by kernel_rfl) (zav (by kernel_rfl)) ?_
    simp -implicitDefEqProofs only [go_sem, Tryz.results134]
    refine callF (HP) (by simp -implicitDefEqProofs only [go_sem]) ?_
    simp -implicitDefEqProofs only [go_sem]
    rfl
  ·cases r
   ·refine zaj Tryz.call134 Tryz.func134 rfl (by kernel_rfl) (zav (by kernel_rfl)) ?_
    simp -implicitDefEqProofs only [go_sem, Tryz.results134]
    refine callF (HP) (by simp -implicitDefEqProofs only [go_sem]) ?_
    simp -implicitDefEqProofs only [go_sem]
    rfl
   ·refine zaj Tryz.call134 Tryz.func134 rfl (by kernel_rfl) (zav (by kernel_rfl)) ?_
    simp -implicitDefEqProofs only [go_sem, Tryz.results134]
    refine callF (HP) (by simp -implicitDefEqProofs only [go_sem]) ?_
    simp -implicitDefEqProofs only [go_sem]
    refine callF (HQ) (by simp -implicitDefEqProofs only [go_sem]) ?_
    simp -implicitDefEqProofs only [go_sem]
    rfl
 ·exfalso
  rw [zek] at hp
  rcases ho with rfl | rfl <;> simp [Fm.op] at hp
theorem zkc {f : Fm} (hf : f.forms = true) : ∀ p ∈ f.parts, p.forms = true := by
 rw [Fm.forms_eq, Bool.and_eq_true] at hf
 exact List.all_eq_true.1 hf.2
theorem zld {f : Fm} (hf : zcw f = true) : ∀ p ∈ f.parts, zcw p = true := by
 rw [zek, Bool.and_eq_true] at hf
 exact List.all_eq_true.1 hf.2
theorem zpo {f : Fm} (hf : f.forms = true) {p : Fm} (hp : p ∈ f.parts) {t : Tm} (ht : t ∈ atF p) : t ∈ atF f := by
 rw [zi1]
 split
 ·rename_i h3
  have := zmg (znk hf) h3
  rw [List.length_eq_zero_iff.1 this] at hp
  cases hp
 ·exact List.mem_flatten.2 ⟨_, List.mem_map_of_mem hp, ht⟩
theorem qe1 (l : List Tm) (hl : l.length <= 12) (m : Nat) (hm : m < 4096) : ∀ f : Fm, f.forms = true -> zcw f = true -> (∀ t ∈ atF f, t ∈ l) -> FC Tryz.prog 134 [fmD f, .one (tmS l), iD m] [bD (evF f (bv m l))] :=
 zbr fun o a v ps ih hf hp ha => zxp l hl m hm (.mk o a v ps) hf hp ha fun p hm => ih p hm (zkc hf p hm) (zld hp p hm) fun t ht => ha t (zpo hf hm ht)
theorem zp9 (f : Fm) (hw : f.wt <= 1048576) (hf : f.forms = true) (hp : zcw f = true) : FC Tryz.prog 78 [fmD f] [bD (qdc f).1, bD (qdc f).2] := by
 have HD := zjm f hw
 have hall := fun t => qgp (f := f) (t := t)
 have hv : qdc f = if (qhj f).length <= 12 then (dec (zra f), true) else (false, false) := rfl
 rw [hv]
 generalize qhj f = L at HD hall ⊢
 have HT := fun (m : Nat) (hm : m < 4096) (hl : L.length <= 12) => qe1 L hl m hm f hf hp hall
 have hbits := zri hall
 simp only [fmD, zab f] at HD HT ⊢
 by_cases hl : L.length <= 12
 ·have h12 : ((12 : Int) < (L.length : Int)) = False := by simp; omega
  have hle : 2 ^ L.length <= 2 ^ 12 := Nat.pow_le_pow_right (by omega) hl
  have hpow : IntKind.i64.wrap (1 * 2 ^ min L.length 64) = ((2 ^ L.length : Nat) : Int) := by
   rw [show min L.length 64 = L.length by omega, Int.one_mul, show (2 : Int) ^ L.length = ((2 ^ L.length : Nat) : Int) by simp]
   generalize 2 ^ L.length = N at hle ⊢
   exact zbh (by omega) (by omega)
  rw [if_pos hl]
  refine zaj Tryz.call78 Tryz.func78 rfl (by kernel_rfl) (zav (by kernel_rfl)) ?_
  simp -implicitDefEqProofs only [go_sem, Tryz.results78]
  refine callF (HD) (by simp -implicitDefEqProofs only [go_sem]) ?_
  simp -implicitDefEqProofs only [go_sem]
  simp -implicitDefEqProofs only [go_sem, h12, hpow]
  generalize 2 ^ L.length = N at hle hbits ⊢
  refine zae (fun k : Nat => hd [(1, .one (.bx 1 0)), (4, .one (.ow 224 0)), (13, vI N), (14, vI k)] [(1, [.t (.int .i64 f.op), .t (.str f.atom.name), .t (tmS f.atom.args), .t (.str f.var), .t (fmS f.parts)])] [(224, ⟨true, 2, L.map tmC, 0, true⟩)]) (fun k => k <= N /\ ∀ m, m < k -> evF f (bv m L) = true) (fun k => N - k) 0 (zac ?_) ⟨Nat.zero_le _, fun m h => by omega⟩ ?_
  ·simp -implicitDefEqProofs only [go_sem]
  ·intro k ⟨hk, hr⟩
   by_cases hlt : k < N
   ·have HC := HT k (by omega) hl
    simp -implicitDefEqProofs only [go_sem, hlt]
    refine callF (HC) (by simp -implicitDefEqProofs only [go_sem]) ?_
    simp -implicitDefEqProofs only [go_sem]
    refine ⟨fun h => ?_, fun h => ?_⟩
    ·have : dec (zra f) = false := by
      rw [<- Bool.not_eq_true, zcs, <- hbits]
      intro h2
      have h3 : evF f (bv k L) = true := h2 k hlt
      rw [h3] at h
      simp at h
     rw [this]
    ·refine ⟨k + 1, ⟨hlt, fun m hm => ?_⟩, by omega, zac ?_⟩
     ·by_cases e : m = k
      ·subst e; simpa using h
      ·exact hr m (by omega)
     ·simp -implicitDefEqProofs only [go_sem]
      rw [zap (by omega)]
   ·simp -implicitDefEqProofs only [go_sem, hlt]
    have : dec (zra f) = true := zcs.2 (hbits.1 fun m hm => hr m (by omega))
    rw [this]
 ·have h12 : ((12 : Int) < (L.length : Int)) = True := by simp; omega
  rw [if_neg hl]
  refine zaj Tryz.call78 Tryz.func78 rfl (by kernel_rfl) (zav (by kernel_rfl)) ?_
  simp -implicitDefEqProofs only [go_sem, Tryz.results78]
  refine callF (HD) (by simp -implicitDefEqProofs only [go_sem, h12]) ?_
  simp -implicitDefEqProofs only [go_sem, h12]
end Go.Proofs.YtbccfiillleimaaGreat
namespace Go.Proofs.YtbccfiillleimaaGreat
set_option linter.unusedSimpArgs false
set_option linter.unusedVariables false
set_option linter.unusedSectionVars false
set_option maxRecDepth 4000
open Go.RowKit
variable {P : Program}
section
variable {ks : List Fr} {Q : Exit -> St -> Prop} {σ : St} {ops : Array Oper} {os : List Oper} {L : List (List Ky × List Ky)} {d : Nat} {t : TypeId} {ty : TypeId} {ps : String} {af : Array Edge} {len : Nat} {parts : Array (Nat × Operand)}
theorem zjq (h : zas (blS P σ t len parts) fun _ => σ.ev (d * 32) = none)
  (k : exd P ops os (L ++ [(zat (parts.toList.map (·.2)) ++ (rK (qmy (zpe P (σ.get P) t len parts)) ++ [(2, d * 32)]), dK (some d) ++ eK (blK d (blS P σ t len parts)))]) ks Q ((σ.bl d (blS P σ t len parts)).put (some d) (.one (.ow (d * 32) 0)))) :
  exd P ops (⟨some d, .buildSlice t len parts, ty, ps, af, none⟩ :: os) L ks Q σ := by
 obtain ⟨⟨x, cons⟩, h1, h2⟩ := zan h
 rw [h1] at k
 unfold blS at h1
 obtain ⟨p, e1, h1⟩ := Option.bind_eq_some_iff.1 h1
 obtain ⟨q, e2, h1⟩ := Option.map_eq_some_iff.1 h1
 simp only [Prod.mk.injEq] at h1
 obtain ⟨rfl, rfl⟩ := h1
 rw [e1] at k
 exact qne ⟨e1, e2, h2⟩ k
end
end Go.Proofs.YtbccfiillleimaaGreat
namespace Go.Proofs.YtbccfiillleimaaGreat
set_option linter.unusedSimpArgs false
set_option linter.unusedVariables false
set_option linter.unusedSectionVars false
set_option maxRecDepth 4000
open Go.RowKit
theorem qhx (a b : Str) : FC Tryz.prog 262 [sD a, sD b] [iD (zph a b)] := by
 have hv : zph a b = if Op.bytesLess a b = true then -1 else if (a == b) = true then 0 else 1 := rfl
 rw [hv]
 cases h1 : Op.bytesLess a b <;> cases h2 : (a == b)
 all_goals
  refine zaj Tryz.call262 Tryz.func262 rfl (by kernel_rfl) (zav (by kernel_rfl)) ?_
  simp -implicitDefEqProofs only [go_sem, Tryz.results262, h1, h2]
  try simp
theorem zwz (a b : Tm) : zhd a b = if (za2 a.name && !za2 b.name) = true then -1 else if (za2 b.name && !za2 a.name) = true then 1 else if (a.name == b.name) = false then zph a.name b.name
  else if a.args.length < b.args.length then -1 else if b.args.length < a.args.length then 1 else zie a.args b.args := by
 rw [zs3]
 unfold hdT qlw
 generalize za2 a.name = x
 generalize za2 b.name = y
 by_cases hn : a.name = b.name
 ·have h0 : zph a.name b.name = 0 := zlf.2 hn
  rw [h0, hn]
  unfold cmpN
  by_cases h1 : a.args.length < b.args.length
  ·cases x <;> cases y <;> simp [orE, h1]
  ·by_cases h2 : b.args.length < a.args.length
   ·cases x <;> cases y <;> simp [orE, h1, h2]
   ·cases x <;> cases y <;> simp [orE, h1, h2]
 ·have h0 : zph a.name b.name ≠ 0 := fun h => hn (zlf.1 h)
  have hb : (a.name == b.name) = false := by simpa using hn
  cases x <;> cases y <;> simp [orE, h0, hb]
set_option maxHeartbeats 1000000 in
theorem zpi (a b : Tm) (H : ∀ x ∈ a.args, ∀ y, FC Tryz.prog 240 [tmD x, tmD y] [iD (zhd x y)]) : FC Tryz.prog 240 [tmD a, tmD b] [iD (zhd a b)] := by
 refine zc1 (fun hw => ?_) Tryz.call240
 simp only [tmD, zaa] at hw ⊢
 have hl : a.args.length <= 9223372036854775807 := by simp [zfq, wfT, zpd] at hw; exact hw.1.2.1
 have hv := zwz a b
 have HV1 := zf5 a.name
 have HV2 := zf5 b.name
 have HT := qhx a.name b.name
 by_cases hxy : za2 a.name = za2 b.name
 ·rw [hxy] at HV1 hv
  rw [Bool.and_not_self, if_neg (by simp), if_neg (by simp)] at hv
  generalize za2 b.name = x at HV1 HV2
  cases x
  all_goals
   cases hn : (a.name == b.name)
   ·rw [hn, if_pos rfl] at hv
    rw [hv]
    have hn' : (a.name != b.name) = true := by simp [bne, hn]
    generalize zph a.name b.name = r at HT
    refine zaj Tryz.call240 Tryz.func240 rfl (by kernel_rfl) (zav (by kernel_rfl)) ?_
    simp -implicitDefEqProofs only [go_sem, Tryz.results240]
    refine drawn (by kernel_rfl) ?_
    simp -implicitDefEqProofs only [go_sem]
    refine zao (HV1) (by simp -implicitDefEqProofs only [go_sem]) ?_
    simp -implicitDefEqProofs only [go_sem]
    refine zao (HV2) (by simp -implicitDefEqProofs only [go_sem]) ?_
    simp -implicitDefEqProofs only [go_sem]
    refine ⟨by kernel_rfl, ?_⟩
    simp -implicitDefEqProofs only [go_sem, hn, hn']
    refine callF (HT) (by simp -implicitDefEqProofs only [go_sem]) ?_
    simp -implicitDefEqProofs only [go_sem]
   ·rw [hn, if_neg (by simp)] at hv
    have hn' : (a.name != b.name) = false := by simp [bne, hn]
    refine zaj Tryz.call240 Tryz.func240 rfl (by kernel_rfl) (zav (by kernel_rfl)) ?_
    simp -implicitDefEqProofs only [go_sem, Tryz.results240]
    refine drawn (by kernel_rfl) ?_
    simp -implicitDefEqProofs only [go_sem]
    refine zao (HV1) (by simp -implicitDefEqProofs only [go_sem]) ?_
    simp -implicitDefEqProofs only [go_sem]
    refine zao (HV2) (by simp -implicitDefEqProofs only [go_sem]) ?_
    simp -implicitDefEqProofs only [go_sem]
    refine ⟨by kernel_rfl, ?_⟩
    simp -implicitDefEqProofs only [go_sem, hn, hn']
    refine ⟨fun h1 => ?_, fun h1 => ⟨fun h2 => ?_, fun h2 => ?_⟩⟩
    ·rw [hv, if_pos (by simpa using h1)]
    ·rw [hv, if_neg (by simpa using h1), if_pos (by simpa using h2)]
    ·rw [if_neg (by simpa using h1), if_neg (by simpa using h2)] at hv
     have hlen : a.args.length = b.args.length := by simp at h1 h2; omega
     refine zae (fun k : Nat => hd [(2, .one (.bx 2 0)), (3, .one (.bx 3 0)), (7, vI k)] [(2, [.t (.str a.name), .t (tmS a.args)]), (3, [.t (.str b.name), .t (tmS b.args)])] []) (fun k => k <= a.args.length /\ zhd a b = zie (a.args.drop k) (b.args.drop k)) (fun k => a.args.length - k) 0 (zac ?_) ⟨Nat.zero_le _, by simpa using hv⟩ ?_
     ·simp -implicitDefEqProofs only [go_sem]
     ·intro k ⟨hk, hr⟩
      by_cases hlt : k < a.args.length
      ·have hk2 : k < b.args.length := by omega
       have HC := H a.args[k] (List.getElem_mem hlt) b.args[k]
       rw [List.drop_eq_getElem_cons hlt, List.drop_eq_getElem_cons hk2, zie] at hr
       generalize zhd a.args[k] b.args[k] = c at HC hr
       simp only [tmD, zaa a.args[k], zaa b.args[k]] at HC
       simp -implicitDefEqProofs only [go_sem, hlt]
       refine drawn (by kernel_rfl) ?_
       simp -implicitDefEqProofs only [go_sem, hlt, hk2, zad, zaa a.args[k], zaa b.args[k]]
       refine zao (HC) (by simp -implicitDefEqProofs only [go_sem]) ?_
       simp -implicitDefEqProofs only [go_sem]
       refine ⟨by kernel_rfl, fun h => ?_, fun h => ?_⟩
       ·have : c ≠ 0 := by simpa using h
        unfold orE at hr
        rw [if_neg this] at hr
        rw [hr]
       ·have : c = 0 := by simpa using h
        unfold orE at hr
        rw [if_pos this] at hr
        refine ⟨k + 1, ⟨hlt, hr⟩, by omega, zac ?_⟩
        simp -implicitDefEqProofs only [go_sem]
        rw [zap (by omega)]
      ·rw [List.drop_of_length_le (by omega), List.drop_of_length_le (by omega), zie] at hr
       rw [hr]
       simp -implicitDefEqProofs only [go_sem, hlt]
 ·have e : za2 b.name = !za2 a.name := by revert hxy; cases za2 a.name <;> cases za2 b.name <;> simp
  rw [e] at HV2 hv
  generalize za2 a.name = x at HV1 HV2 hv
  cases x
  all_goals
   simp only [Bool.not_true, Bool.not_false, Bool.and_self, Bool.and_false, Bool.and_true, Bool.false_and, Bool.true_and, if_true, if_false, reduceCtorEq] at HV2 hv
   rw [hv]
   refine zaj Tryz.call240 Tryz.func240 rfl (by kernel_rfl) (zav (by kernel_rfl)) ?_
   simp -implicitDefEqProofs only [go_sem, Tryz.results240]
   refine drawn (by kernel_rfl) ?_
   simp -implicitDefEqProofs only [go_sem]
   refine zao (HV1) (by simp -implicitDefEqProofs only [go_sem]) ?_
   simp -implicitDefEqProofs only [go_sem]
   refine zao (HV2) (by simp -implicitDefEqProofs only [go_sem]) ?_
   simp -implicitDefEqProofs only [go_sem]
   kernel_rfl
theorem zsb : ∀ a b : Tm, FC Tryz.prog 240 [tmD a, tmD b] [iD (zhd a b)] := zbp fun n xs ih b => zpi (.mk n xs) b ih
end Go.Proofs.YtbccfiillleimaaGreat
namespace Go.Proofs.YtbccfiillleimaaGreat
set_option linter.unusedSimpArgs false
set_option linter.unusedVariables false
set_option linter.unusedSectionVars false
set_option maxRecDepth 4000
open Go.RowKit
theorem qcy {l : List Tm} {t : Tm} {k : Nat} (hk : k <= l.length) (h1 : ∀ x ∈ l.take k, ltT x t = true) (h2 : ∀ h : k < l.length, ltT l[k] t = false) : zk1 l t = if dec ((l.drop k).head? = some t) = true then l else l.take k ++ [t] ++ l.drop k := by
 obtain ⟨e1, e2⟩ := zcf (p := fun x => ltT x t) hk h1 h2
 unfold zk1
 rw [e1, e2]
set_option maxHeartbeats 2000000 in
theorem qfe (l : List Tm) (t : Tm) (hl : l.length <= 2147483648) : RC Tryz.prog 195 [.one (tmS l), tmD t] [.one (tmS (zk1 l t))] := by
 simp only [tmD, zaa t]
 refine zmm Tryz.call195 Tryz.func195 rfl (by kernel_rfl) (zav (by kernel_rfl)) ?_
 simp -implicitDefEqProofs only [go_sem, Tryz.results195]
 refine zae (fun k : Nat => hd [(0, vT (tmS l)), (3, .one (.bx 3 0)), (5, vI k)] [(3, [.t (.str t.name), .t (tmS t.args)])] []) (fun k => k <= l.length /\ ∀ x ∈ l.take k, ltT x t = true) (fun k => l.length - k) 0 (zac ?_) ⟨Nat.zero_le _, by simp⟩ ?_
 ·simp -implicitDefEqProofs only [go_sem]
 ·intro k ⟨hk, hr⟩
  have hm1 : min k l.length <= 4294967296 := by omega
  have hm2 : min k l.length <= 4294967295 := by omega
  have hm3 : min k l.length + 1 + (l.length - k) <= 4294967296 := by omega
  by_cases hlt : k < l.length
  ·have HC := zsb l[k] t
   have HS := znl l[k] t
   have hnx : ltT l[k] t = true -> ∀ x ∈ l.take (k + 1), ltT x t = true := fun hb x hx => by
    rw [List.take_succ_eq_append_getElem hlt] at hx
    rcases List.mem_append.1 hx with hx | hx
    ·exact hr x hx
    ·rw [List.mem_singleton.1 hx, hb]
   simp only [tmD, zaa l[k], zaa t] at HC HS
   have hcd : decide (zhd l[k] t < 0) = ltT l[k] t := rfl
   generalize zhd l[k] t = c at HC hcd
   simp -implicitDefEqProofs only [go_sem, hlt]
   refine drawn (by kernel_rfl) ?_
   simp -implicitDefEqProofs only [go_sem, hlt, zad, zaa l[k]]
   refine za7 (HC) (by simp -implicitDefEqProofs only [go_sem]) ?_
   simp -implicitDefEqProofs only [go_sem]
   refine ⟨by kernel_rfl, fun h => ?_, fun h => ?_⟩
   ·refine ⟨k + 1, ⟨hlt, hnx (by rw [<- hcd]; exact h)⟩, by omega, zac ?_⟩
    simp -implicitDefEqProofs only [go_sem]
    rw [zap (by omega)]
   ·rw [h] at hcd
    have hp := qcy hk hr fun _ => hcd.symm
    have hh : (l.drop k).head? = some l[k] := by rw [List.head?_drop, List.getElem?_eq_getElem hlt]
    refine drawn (by kernel_rfl) ?_
    simp -implicitDefEqProofs only [go_sem, hlt, zad, zaa l[k]]
    refine za7 (HS) (by simp -implicitDefEqProofs only [go_sem]) ?_
    simp -implicitDefEqProofs only [go_sem]
    refine ⟨by kernel_rfl, fun h2 => ?_, fun h2 => ?_⟩
    ·rw [hp, if_pos (by rw [hh, zcs, zba.1 h2])]
    ·rw [if_neg (by rw [hh, zcs]; intro e; rw [Option.some.inj e, zb1] at h2; cases h2)] at hp
     refine drawn (by kernel_rfl) ?_
     simp -implicitDefEqProofs only [go_sem, hk]
     refine zjq (by simp -implicitDefEqProofs only [go_sem, hk]) ?_
     simp -implicitDefEqProofs only [go_sem, hk]
     refine zfs false (by simp -implicitDefEqProofs only [go_sem, hk, ne_eq, Nat.zero_add, hm1, hm2, hm3, zch, List.length_drop, List.length_take, List.length_append, List.length_map]) ?_
     simp -implicitDefEqProofs only [go_sem, hk, ne_eq, Nat.zero_add, hm1, hm2, hm3, zch, List.length_drop, List.length_take, List.length_append, List.length_map]
     refine zjq (by simp -implicitDefEqProofs only [go_sem, hk]) ?_
     simp -implicitDefEqProofs only [go_sem, hk]
     refine zfs false (by simp -implicitDefEqProofs only [go_sem, hk, ne_eq, Nat.zero_add, hm1, hm2, hm3, zch, List.length_drop, List.length_take, List.length_append, List.length_map]) ?_
     simp -implicitDefEqProofs only [go_sem, hk, ne_eq, Nat.zero_add, hm1, hm2, hm3, zch, List.length_drop, List.length_take, List.length_append, List.length_map]
     refine zfs false (by simp -implicitDefEqProofs only [go_sem, hk, ne_eq, Nat.zero_add, hm1, hm2, hm3, zch, List.length_drop, List.length_take, List.length_append, List.length_map]) ?_
     simp -implicitDefEqProofs only [go_sem, hk, ne_eq, Nat.zero_add, hm1, hm2, hm3, zch, List.length_drop, List.length_take, List.length_append, List.length_map]
     refine ⟨by kernel_rfl, ?_⟩
     rw [hp, List.map_append, List.map_append, List.map_take, List.map_drop, List.map_singleton, zaa t]
  ·have hp := qcy hk hr fun h => absurd h hlt
   rw [if_neg (by rw [List.drop_of_length_le (by omega), zcs]; simp)] at hp
   simp -implicitDefEqProofs only [go_sem, hlt]
   refine drawn (by kernel_rfl) ?_
   simp -implicitDefEqProofs only [go_sem, hlt]
   refine ⟨by kernel_rfl, ?_⟩
   refine drawn (by kernel_rfl) ?_
   simp -implicitDefEqProofs only [go_sem, hlt]
   refine ⟨by kernel_rfl, ?_⟩
   refine drawn (by kernel_rfl) ?_
   simp -implicitDefEqProofs only [go_sem, hk]
   refine zjq (by simp -implicitDefEqProofs only [go_sem, hk]) ?_
   simp -implicitDefEqProofs only [go_sem, hk]
   refine zfs false (by simp -implicitDefEqProofs only [go_sem, hk, ne_eq, Nat.zero_add, hm1, hm2, hm3, zch, List.length_drop, List.length_take, List.length_append, List.length_map]) ?_
   simp -implicitDefEqProofs only [go_sem, hk, ne_eq, Nat.zero_add, hm1, hm2, hm3, zch, List.length_drop, List.length_take, List.length_append, List.length_map]
   refine zjq (by simp -implicitDefEqProofs only [go_sem, hk]) ?_
   simp -implicitDefEqProofs only [go_sem, hk]
   refine zfs false (by simp -implicitDefEqProofs only [go_sem, hk, ne_eq, Nat.zero_add, hm1, hm2, hm3, zch, List.length_drop, List.length_take, List.length_append, List.length_map]) ?_
   simp -implicitDefEqProofs only [go_sem, hk, ne_eq, Nat.zero_add, hm1, hm2, hm3, zch, List.length_drop, List.length_take, List.length_append, List.length_map]
   refine zfs false (by simp -implicitDefEqProofs only [go_sem, hk, ne_eq, Nat.zero_add, hm1, hm2, hm3, zch, List.length_drop, List.length_take, List.length_append, List.length_map]) ?_
   simp -implicitDefEqProofs only [go_sem, hk, ne_eq, Nat.zero_add, hm1, hm2, hm3, zch, List.length_drop, List.length_take, List.length_append, List.length_map]
   refine ⟨by kernel_rfl, ?_⟩
   rw [hp, List.map_append, List.map_append, List.map_take, List.map_drop, List.map_singleton, zaa t]
end Go.Proofs.YtbccfiillleimaaGreat
namespace Go.Proofs.YtbccfiillleimaaGreat
set_option linter.unusedSimpArgs false
set_option linter.unusedVariables false
set_option linter.unusedSectionVars false
set_option maxRecDepth 4000
open Go.RowKit
theorem zrt : ∀ (ts ys : List Tm), (ts.foldl zk1 ys).length <= ys.length + ts.length
 | [], ys => by simp
 | t :: ts, ys => by
  have h1 := zrt ts (zk1 ys t)
  have h2 : (zk1 ys t).length <= ys.length + 1 := by
   unfold zk1
   split
   ·omega
   ·conv => rhs; rw [<- List.takeWhile_append_dropWhile (p := fun x => ltT x t) (l := ys)]
    simp only [List.length_append, List.length_cons, List.length_nil]
    omega
  rw [List.foldl_cons, List.length_cons]; omega
theorem zzf (f : Fm) (ys : List Tm) {k : Nat} (hlt : k < f.parts.length) : ((f.parts.map atF).take (k + 1)).flatten.foldl zk1 ys = (atF f.parts[k]).foldl zk1 (((f.parts.map atF).take k).flatten.foldl zk1 ys) := by
 rw [zot f hlt, List.foldl_append]
theorem zxy (f : Fm) (H : ∀ p ∈ f.parts, ∀ ys : List Tm, ys.length + (atF p).length <= 1073741824 -> RC Tryz.prog 131 [.one (tmS ys), fmD p] [.one (tmS ((atF p).foldl zk1 ys))]) (ys : List Tm) (hs : ys.length + (atF f).length <= 1073741824) (hw : f.wt <= 1048576) : RC Tryz.prog 131 [.one (tmS ys), fmD f] [.one (tmS ((atF f).foldl zk1 ys))] := by
 have hv := zi1 f
 have hW := f.wt_eq
 simp only [fmD, zab f]
 cases h3 : f.op == 3
 ·rw [h3, if_neg (by simp)] at hv
  rw [hv] at hs ⊢
  refine zmm Tryz.call131 Tryz.func131 rfl (by kernel_rfl) (zav (by kernel_rfl)) ?_
  simp -implicitDefEqProofs only [go_sem, Tryz.results131]
  simp -implicitDefEqProofs only [go_sem, h3]
  refine zae (fun k : Nat => hd [(0, vT (tmS (((f.parts.map atF).take k).flatten.foldl zk1 ys))), (3, .one (.bx 3 0)), (5, vI k)] [(3, [.t (.int .i64 f.op), .t (.str f.atom.name), .t (tmS f.atom.args), .t (.str f.var), .t (fmS f.parts)])] []) (fun k => k <= f.parts.length) (fun k => f.parts.length - k) 0 (zac ?_) (Nat.zero_le _) ?_
  ·simp -implicitDefEqProofs only [go_sem]
   rfl
  ·intro k hk
   by_cases hlt : k < f.parts.length
   ·have hT := zzf f ys hlt
    have hg := zh7 (f.parts.map atF) (k + 1)
    rw [zot f hlt, List.length_append] at hg
    have hl := zrt ((f.parts.map atF).take k).flatten ys
    have HC := H f.parts[k] (List.getElem_mem hlt) (((f.parts.map atF).take k).flatten.foldl zk1 ys) (by omega)
    rw [<- hT] at HC
    simp only [fmD, zab f.parts[k]] at HC
    simp -implicitDefEqProofs only [go_sem, hlt, zad, zab f.parts[k]]
    refine callR (HC) (by simp -implicitDefEqProofs only [go_sem]) ?_
    simp -implicitDefEqProofs only [go_sem]
    refine ⟨k + 1, hlt, by omega, zac ?_⟩
    simp -implicitDefEqProofs only [go_sem]
    rw [zap (by omega)]
   ·have ht : (f.parts.map atF).take k = f.parts.map atF := List.take_of_length_le (by simpa using hlt)
    simp -implicitDefEqProofs only [go_sem, hlt, ht]
 ·rw [h3, if_pos rfl] at hv
  rw [hv] at hs ⊢
  have HP := qfe ys f.atom (by omega)
  simp only [tmD, zaa f.atom] at HP
  refine zmm Tryz.call131 Tryz.func131 rfl (by kernel_rfl) (zav (by kernel_rfl)) ?_
  simp -implicitDefEqProofs only [go_sem, Tryz.results131]
  simp -implicitDefEqProofs only [go_sem, h3]
  refine callR (HP) (by simp -implicitDefEqProofs only [go_sem]) ?_
  simp -implicitDefEqProofs only [go_sem]
  rfl
theorem qbl : ∀ f : Fm, f.wt <= 1048576 -> ∀ ys : List Tm, ys.length + (atF f).length <= 1073741824 -> RC Tryz.prog 131 [.one (tmS ys), fmD f] [.one (tmS ((atF f).foldl zk1 ys))] :=
 zbr fun o a v ps ih hw ys hs => zxy (.mk o a v ps) (fun x hx ys hs => ih x hx (Nat.le_trans (zby (a := .mk o a v ps) hx) hw) ys hs) ys hs hw
theorem zuq {n : Nat} (h : n < 4096) : IntKind.u64.wrap (n : Int) = n := by
 unfold IntKind.wrap
 simp [IntKind.bits, IntKind.signed]
 omega
theorem zr9 (l : List Tm) (hl : l.length <= 12) (m : Nat) (hm : m < 4096) (f : Fm) (hf : f.forms = true) (hp : zcw f = true) (ha : ∀ t ∈ atF f, t ∈ l) (H : ∀ p ∈ f.parts, FC Tryz.prog 132 [fmD p, .one (tmS l), iD m] [bD (evF p (bv m l))]) : FC Tryz.prog 132 [fmD f, .one (tmS l), iD m] [bD (evF f (bv m l))] := by
 rcases zj6 hf with ⟨h1, h2⟩ | ⟨p, rfl, _⟩ | ⟨o, p, q, ho, rfl, _⟩ | ⟨o, v, p, ho, rfl, _⟩
 ·obtain ⟨o, a, v, ps⟩ := f
  simp only [Fm.op, Fm.parts] at h1 h2
  subst h1
  rcases h2 with rfl | rfl | rfl
  ·rw [zfj]
   simp only [fmD, zcu, Fm.op]
   refine zaj Tryz.call132 Tryz.func132 rfl (by kernel_rfl) (zav (by kernel_rfl)) ?_
   simp -implicitDefEqProofs only [go_sem, Tryz.results132]
  ·rw [zfj]
   simp only [fmD, zcu, Fm.op]
   refine zaj Tryz.call132 Tryz.func132 rfl (by kernel_rfl) (zav (by kernel_rfl)) ?_
   simp -implicitDefEqProofs only [go_sem, Tryz.results132]
  ·have hal : a ∈ l := ha a (by rw [zi1]; simp [Fm.op, Fm.atom])
   obtain ⟨hi, _, hx⟩ := qeo hal
   have HX := zig l a
   have hv : evF (.mk 3 a v []) (bv m l) = m.testBit (ixT l a) := by rw [zfj]; rfl
   rw [hx] at HX
   rw [hv]
   generalize ixT l a = i at hi HX
   have hu := zuq (show i < 4096 by omega)
   simp only [tmD, zaa a] at HX
   simp only [fmD, zcu, Fm.op]
   refine zaj Tryz.call132 Tryz.func132 rfl (by kernel_rfl) (zav (by kernel_rfl)) ?_
   simp -implicitDefEqProofs only [go_sem, Tryz.results132]
   refine callF (HX) (by simp -implicitDefEqProofs only [go_sem, hu]) ?_
   simp -implicitDefEqProofs only [go_sem, hu]
   exact ⟨(znv m i hm (by omega)).1, congrArg T.bool (znv m i hm (by omega)).2⟩
 ·have HP := H p (by simp [mkF, Fm.parts])
  have hv : evF (mkF 4 [p]) (bv m l) = !(evF p (bv m l)) := by rw [zfj]; rfl
  rw [hv]
  generalize evF p (bv m l) = r at HP ⊢
  simp only [fmD, zab p] at HP
  simp only [fmD]
  rw [show fmC (mkF 4 [p]) = [.int .i64 4, .str [], .sl 2 [], .str [], .sl 5 [fmC p]] from zb7 4 [p], zab p]
  refine zaj Tryz.call132 Tryz.func132 rfl (by kernel_rfl) (zav (by kernel_rfl)) ?_
  simp -implicitDefEqProofs only [go_sem, Tryz.results132]
  refine callF (HP) (by simp -implicitDefEqProofs only [go_sem]) ?_
  simp -implicitDefEqProofs only [go_sem]
 ·have HP := H p (by simp [mkF, Fm.parts])
  have HQ := H q (by simp [mkF, Fm.parts])
  have hv : evF (mkF o [p, q]) (bv m l) = if (o == 5) = true then evF p (bv m l) && evF q (bv m l) else if (o == 6) = true then evF p (bv m l) || evF q (bv m l) else !(evF p (bv m l)) || evF q (bv m l) := by
   rw [zfj]
   rcases ho with rfl | rfl | rfl <;> rfl
  rw [hv]
  generalize evF p (bv m l) = r at HP ⊢
  generalize evF q (bv m l) = r2 at HQ ⊢
  simp only [fmD, zab p, zab q] at HP HQ
  simp only [fmD]
  rw [show fmC (mkF o [p, q]) = [.int .i64 o, .str [], .sl 2 [], .str [], .sl 5 [fmC p, fmC q]] from zb7 o [p, q], zab p, zab q]
  rcases ho with rfl | rfl | rfl
  ·cases r
   ·refine zaj Tryz.call132 Tryz.func132 rfl (by kernel_rfl) (zav (by kernel_rfl)) ?_
    simp -implicitDefEqProofs only [go_sem, Tryz.results132]
    refine callF (HP) (by simp -implicitDefEqProofs only [go_sem]) ?_
    simp -implicitDefEqProofs only [go_sem]
   ·refine zaj Tryz.call132 Tryz.func132 rfl (by kernel_rfl) (zav (by kernel_rfl)) ?_
    simp -implicitDefEqProofs only [go_sem, Tryz.results132]
    refine callF (HP) (by simp -implicitDefEqProofs only [go_sem]) ?_
    simp -implicitDefEqProofs only [go_sem]
    refine callF (HQ) (by simp -implicitDefEqProofs only [go_sem]) ?_
    simp -implicitDefEqProofs only [go_sem]
  ·cases r
   ·refine zaj Tryz.call132 Tryz.func132 rfl (by kernel_rfl) (zav (by kernel_rfl)) ?_
    simp -implicitDefEqProofs only [go_sem, Tryz.results132]
    refine callF (HP) (by simp -implicitDefEqProofs only [go_sem]) ?_
    simp -implicitDefEqProofs only [go_sem]
    refine callF (HQ) (by simp -implicitDefEqProofs only [go_sem]) ?_
    simp -implicitDefEqProofs only [go_sem]
    rfl
   ·refine zaj Tryz.call132 Tryz.func132 rfl (by kernel_rfl) (zav (by kernel_rfl)) ?_
    simp -implicitDefEqProofs only [go_sem, Tryz.results132]
    refine callF (HP) (by simp -implicitDefEqProofs only [go_sem]) ?_
    simp -implicitDefEqProofs only [go_sem]
    rfl
  ·cases r
   ·refine zaj Tryz.call132 Tryz.func132 rfl (by kernel_rfl) (zav (by kernel_rfl)) ?_
    simp -implicitDefEqProofs only [go_sem, Tryz.results132]
    refine callF (HP) (by simp -implicitDefEqProofs only [go_sem]) ?_
    simp -implicitDefEqProofs only [go_sem]
    rfl
   ·refine zaj Tryz.call132 Tryz.func132 rfl (by kernel_rfl) (zav (by kernel_rfl)) ?_
    simp -implicitDefEqProofs only [go_sem, Tryz.results132]
    refine callF (HP) (by simp -implicitDefEqProofs only [go_sem]) ?_
    simp -implicitDefEqProofs only [go_sem]
    refine callF (HQ) (by simp -implicitDefEqProofs only [go_sem]) ?_
    simp -implicitDefEqProofs only [go_sem]
    rfl
 ·exfalso
  rw [zek] at hp
  rcases ho with rfl | rfl <;> simp [Fm.op] at hp
theorem zxx (l : List Tm) (hl : l.length <= 12) (m : Nat) (hm : m < 4096) : ∀ f : Fm, f.forms = true -> zcw f = true -> (∀ t ∈ atF f, t ∈ l) -> FC Tryz.prog 132 [fmD f, .one (tmS l), iD m] [bD (evF f (bv m l))] :=
 zbr fun o a v ps ih hf hp ha => zr9 l hl m hm (.mk o a v ps) hf hp ha fun p hm => ih p hm (zkc hf p hm) (zld hp p hm) fun t ht => ha t (zpo hf hm ht)
theorem zsp (f : Fm) (hw : f.wt <= 1048576) (hf : f.forms = true) (hp : zcw f = true) : FC Tryz.prog 77 [fmD f] [bD (qdc f).1, bD (qdc f).2] := by
 have hfn := zd6 f
 have hfl := zt6 f
 have HD := qbl f hw [] (by simp only [List.length_nil]; omega)
 have hall := fun t => qgw (f := f) (t := t)
 have hv : qdc f = if (qk7 f).length <= 12 then (dec (zra f), true) else (false, false) := by unfold qdc; rw [qkr]
 rw [hv]
 rw [show (atF f).foldl zk1 [] = qk7 f from rfl, show tmS [] = .sl 2 [] from rfl] at HD
 generalize qk7 f = L at HD hall ⊢
 have HT := fun (m : Nat) (hm : m < 4096) (hl : L.length <= 12) => zxx L hl m hm f hf hp hall
 have hbits := zri hall
 simp only [fmD, zab f] at HD HT ⊢
 by_cases hl : L.length <= 12
 ·have h12 : ((12 : Int) < (L.length : Int)) = False := by simp; omega
  have hle : 2 ^ L.length <= 2 ^ 12 := Nat.pow_le_pow_right (by omega) hl
  have hu := zuq (show L.length < 4096 by omega)
  have hpow : IntKind.i64.wrap (1 * 2 ^ min L.length 64) = ((2 ^ L.length : Nat) : Int) := by
   rw [show min L.length 64 = L.length by omega, Int.one_mul, show (2 : Int) ^ L.length = ((2 ^ L.length : Nat) : Int) by simp]
   generalize 2 ^ L.length = N at hle ⊢
   exact zbh (by omega) (by omega)
  rw [if_pos hl]
  refine zcv Tryz.call77 Tryz.func77 rfl (by kernel_rfl) (zav (by kernel_rfl)) ?_
  simp -implicitDefEqProofs only [go_sem, Tryz.results77]
  refine zbd (by simp -implicitDefEqProofs only [go_sem]) ?_
  simp -implicitDefEqProofs only [go_sem]
  refine frzO 192 rfl rfl ?_
  simp -implicitDefEqProofs only [go_sem]
  refine zur (HD) (by simp -implicitDefEqProofs only [go_sem]) ?_
  simp -implicitDefEqProofs only [go_sem]
  simp -implicitDefEqProofs only [go_sem, h12]
  have hpow' := hpow
  generalize 2 ^ L.length = N at hle hbits hpow hpow'
  refine zae (fun k : Nat => hd [(1, .one (.bx 1 0)), (4, .one (.rn (tmS L))), (5, vI k)] [(1, [.t (.int .i64 f.op), .t (.str f.atom.name), .rn (tmS f.atom.args), .t (.str f.var), .rn (fmS f.parts)])] []) (fun k => k <= N /\ ∀ m, m < k -> evF f (bv m L) = true) (fun k => N - k) 0 (zac ?_) ⟨Nat.zero_le _, fun m h => by omega⟩ ?_
  ·simp -implicitDefEqProofs only [go_sem]
  ·intro k ⟨hk, hr⟩
   by_cases hlt : k < N
   ·have HC := HT k (by omega) hl
    simp -implicitDefEqProofs only [go_sem, hlt, hu, hpow]
    refine callF (HC) (by simp -implicitDefEqProofs only [go_sem]) ?_
    simp -implicitDefEqProofs only [go_sem]
    refine ⟨fun h => ?_, fun h => ?_⟩
    ·have : dec (zra f) = false := by
      rw [<- Bool.not_eq_true, zcs, <- hbits]
      intro h2
      have h3 : evF f (bv k L) = true := h2 k hlt
      rw [h3] at h
      simp at h
     rw [this]
     exact Or.inl rfl
    ·refine ⟨k + 1, ⟨hlt, fun m hm => ?_⟩, by omega, zac ?_⟩
     ·by_cases e : m = k
      ·subst e; simpa using h
      ·exact hr m (by omega)
     ·simp -implicitDefEqProofs only [go_sem]
      rw [zap (by omega)]
   ·simp -implicitDefEqProofs only [go_sem, hlt, hu, hpow]
    have : dec (zra f) = true := zcs.2 (hbits.1 fun m hm => hr m (by omega))
    rw [this]
    exact Or.inl rfl
 ·have h12 : ((12 : Int) < (L.length : Int)) = True := by simp; omega
  rw [if_neg hl]
  refine zcv Tryz.call77 Tryz.func77 rfl (by kernel_rfl) (zav (by kernel_rfl)) ?_
  simp -implicitDefEqProofs only [go_sem, Tryz.results77]
  refine zbd (by simp -implicitDefEqProofs only [go_sem]) ?_
  simp -implicitDefEqProofs only [go_sem]
  refine frzO 192 rfl rfl ?_
  simp -implicitDefEqProofs only [go_sem]
  refine zur (HD) (by simp -implicitDefEqProofs only [go_sem, h12]) ?_
  simp -implicitDefEqProofs only [go_sem, h12]
end Go.Proofs.YtbccfiillleimaaGreat
namespace Go.Proofs.YtbccfiillleimaaGreat
set_option linter.unusedSimpArgs false
set_option linter.unusedVariables false
set_option linter.unusedSectionVars false
set_option maxRecDepth 4000
open Go.RowKit
abbrev prC (x : Str × Str) : List T := [.str x.1, .str x.2]
abbrev prS (xs : List (Str × Str)) : T := .sl 2 (xs.map prC)
abbrev prL (e : Ex) (pos : Bool) (ab : List Str) : List (List (Str × Str)) := e.parts.mapIdx fun i p => zgy p (sgn e.form i pos) (if (isQ e.form.op && !za0 e.form pos) = true then za5 ab (voS (e.terms.getD i Tm.zero)) else ab)
theorem qgl (e : Ex) (pos : Bool) (ab : List Str) {k : Nat} (hlt : k < e.parts.length) : (prL e pos ab).take (k + 1) = (prL e pos ab).take k ++ [zgy e.parts[k] (sgn e.form k pos) (if (isQ e.form.op && !za0 e.form pos) = true then za5 ab (voS (e.terms.getD k Tm.zero)) else ab)] := by
 rw [List.take_succ_eq_append_getElem (by simpa using hlt), List.getElem_mapIdx]
theorem zwn {t : Tm} (h : t.good = true) : (voS t).length <= 1 + t.wt := by
 rw [<- (zgn _ (zgt h)).1]
 exact qaw t
theorem qag (C : Nat) : ∀ l : List Ex, ((l.map Ex.nodes).sum) * C = (l.map fun p => p.nodes * C).sum
 | [] => by simp
 | p :: l => by rw [List.map_cons, List.sum_cons, Nat.add_mul, qag C l, List.map_cons, List.sum_cons]
theorem zqs {α : Type} (w : Ex -> Nat) : ∀ (ps : List Ex) (g : Nat -> Ex -> List α), (∀ i (hi : i < ps.length), (g i ps[i]).length <= w ps[i]) -> (ps.mapIdx g).flatten.length <= (ps.map w).sum
 | [], _, _ => by simp
 | p :: ps, g, H => by
  rw [List.mapIdx_cons, List.flatten_cons, List.length_append, List.map_cons, List.sum_cons]
  have h0 := H 0 (by simp)
  have h1 := zqs w ps (fun i => g (i + 1)) fun i hi => by
   have := H (i + 1) (by simpa using hi)
   simpa using this
  simp only [List.getElem_cons_zero] at h0
  omega
theorem zqr : ∀ (e : Ex) (pos : Bool) (ab : List Str), zbg e pos = true -> (zgy e pos ab).length <= e.nodes * (ab.length + e.wt) := zcd fun f ts ps ih pos ab hn => by
 generalize he : Ex.mk f ts ps = e at hn ⊢
 have hps : ps = e.parts := by rw [<- he]; rfl
 rw [hps] at ih
 clear hps he
 have hW := e.wt_eq
 have hTW : zfr e.terms = e.terms.length + (e.terms.map Tm.wt).sum := rfl
 have hpts := (zbu hn).1
 have hTP := (zes hn).1
 have hg := ze6 hn
 rw [zpc, e.nodes_eq, List.length_append, Nat.add_mul, Nat.one_mul, qag]
 have h1 : (if za0 e.form pos = true then ab.map fun x => (x, (e.terms.getD 0 Tm.zero).name) else []).length <= ab.length + e.wt := by
  split
  ·rw [List.length_map]; omega
  ·simp
 have h2 := zqs (fun p => p.nodes * (ab.length + e.wt)) e.parts (fun i p => zgy p (sgn e.form i pos) (if (isQ e.form.op && !za0 e.form pos) = true then za5 ab (voS (e.terms.getD i Tm.zero)) else ab)) fun i hi => by
  refine Nat.le_trans (ih e.parts[i] (List.getElem_mem hi) _ _ (hpts i hi)) (Nat.mul_le_mul_left _ ?_)
  have hpk := za6 Ex.wt e.parts e.parts[i] (List.getElem_mem hi)
  split
  ·rename_i hw
   rw [Bool.and_eq_true] at hw
   have hkt : i < e.terms.length := by have := hTP hw.1; omega
   have hTk := za6 Tm.wt e.terms e.terms[i] (List.getElem_mem hkt)
   have hgd := hg hw.1 i hkt
   rw [zb5 hkt] at hgd ⊢
   have := zwn hgd
   have := zcm (voS e.terms[i]) ab
   omega
  ·omega
 omega
end Go.Proofs.YtbccfiillleimaaGreat
namespace Go.Proofs.YtbccfiillleimaaGreat
set_option linter.unusedSimpArgs false
set_option linter.unusedVariables false
set_option linter.unusedSectionVars false
set_option maxRecDepth 4000
open Go.RowKit
theorem zwl {e p : Ex} (h : p ∈ e.parts) : p.nodes + 1 <= e.nodes := by
 have := e.nodes_eq
 have := za6 Ex.nodes e.parts p h
 omega
abbrev prP (p : Ex) (pos : Bool) (ab : List Str) : Prop := FC Tryz.prog 98 [exD p, bD pos, .one (zbq ab)] [.one (prS (zgy p pos ab))]
set_option maxHeartbeats 8000000 in
theorem zti (e : Ex) (he : e.wt <= 1048576) (pos : Bool) (hn : zbg e pos = true) (ab : List Str) (h60 : e.nodes <= 60) (hab : ab.length + e.wt <= 2097152) (H : ∀ p ∈ e.parts, ∀ pos ab, zbg p pos = true -> p.nodes <= 60 -> ab.length + p.wt <= 2097152 -> prP p pos ab) : prP e pos ab := by
 have hv := zpc e pos ab
 have hW := e.wt_eq
 have hTW : zfr e.terms = e.terms.length + (e.terms.map Tm.wt).sum := rfl
 have hln := zqr e pos ab hn
 have hmul : e.nodes * (ab.length + e.wt) <= 60 * 2097152 := Nat.mul_le_mul h60 hab
 have hpts := (zbu hn).1
 have hTP := (zes hn).1
 have hg := ze6 hn
 have HQ := zd2 e.form
 have HSt := zfa e.form pos
 have hse : (isQ e.form.op && ((e.form.op == 8) == pos)) = za0 e.form pos := rfl
 rw [hse] at HSt
 have hLl : (prL e pos ab).length = e.parts.length := by simp
 have hLk := fun k (hlt : k < e.parts.length) => qgl e pos ab hlt
 have hgrow := zh7 (prL e pos ab)
 have hv : zgy e pos ab = (if za0 e.form pos = true then ab.map fun x => (x, (e.terms.getD 0 Tm.zero).name) else []) ++ (prL e pos ab).flatten := hv
 unfold prP
 rw [hv]
 rw [hv, List.length_append] at hln
 generalize prL e pos ab = L at hv hLl hLk hgrow hln ⊢
 simp only [exD, zai e, fmD, zab e.form] at HQ HSt ⊢
 cases hst : za0 e.form pos
 ·rw [hst] at HSt hln
  simp only [Bool.false_eq_true, if_false, List.length_nil, List.nil_append] at hln ⊢
  refine zcv Tryz.call98 Tryz.func98 rfl (by kernel_rfl) (zav (by kernel_rfl)) ?_
  simp -implicitDefEqProofs only [go_sem, Tryz.results98]
  refine zbd (by simp -implicitDefEqProofs only [go_sem]) ?_
  simp -implicitDefEqProofs only [go_sem]
  refine callF (HSt) (by simp -implicitDefEqProofs only [go_sem]) ?_
  simp -implicitDefEqProofs only [go_sem]
  refine zae (fun k : Nat => hd [(1, vT (.bool pos)), (2, .one (.rn (zbq ab))), (3, .one (.bx 3 0)), (7, .one (.ow 384 0)), (8, vT (.bool false)), (10, vI k)] [(3, [.t (.int .i64 e.form.op), .t (.str e.form.atom.name), .rn (tmS e.form.atom.args), .t (.str e.form.var), .rn (fmS e.form.parts), .rn (tmS e.terms), .rn (exS e.parts)])] [(384, ⟨true, 2, ((L.take k).flatten).map prC, 0, true⟩)]) (fun k => k <= e.parts.length) (fun k => e.parts.length - k) 0 (zac ?_) (Nat.zero_le _) ?_
  ·simp -implicitDefEqProofs only [go_sem, List.take_zero, List.flatten_nil, List.append_nil]
  ·intro k hk
   by_cases hlt : k < e.parts.length
   ·have hLk := hLk k hlt
    have hgk := hgrow (k + 1)
    have hpk := za6 Ex.wt e.parts e.parts[k] (List.getElem_mem hlt)
    have hnk := zwl (List.getElem_mem hlt)
    have HPo := zet e.form k pos
    have hsg : (pos != (e.form.op == 4 || (e.form.op == 7 && ((k : Int) == 0)))) = sgn e.form k pos := rfl
    rw [hsg] at HPo
    simp only [fmD, zab e.form] at HPo
    generalize hDn : (L.take k).flatten = dn at hgk ⊢
    cases hq : isQ e.form.op
    ·rw [hq, Bool.false_and, if_neg (by simp)] at hLk
     rw [hLk, List.flatten_append, List.length_append, List.flatten_singleton, hDn] at hgk
     rw [hq] at HQ
     have HC := H e.parts[k] (List.getElem_mem hlt) (sgn e.form k pos) ab (hpts k hlt) (by omega) (by omega)
     unfold prP at HC
     generalize hEi : zgy e.parts[k] (sgn e.form k pos) ab = ei at HC hLk hgk
     have ha1 : dn.length + ei.length <= 4294967296 := by omega
     simp only [exD, zai e.parts[k]] at HC
     simp -implicitDefEqProofs only [go_sem, hlt]
     refine callF (HQ) (by simp -implicitDefEqProofs only [go_sem]) ?_
     simp -implicitDefEqProofs only [go_sem]
     refine drawn (by kernel_rfl) ?_
     simp -implicitDefEqProofs only [go_sem, hlt, zad, zai e.parts[k]]
     refine zao (HPo) (by simp -implicitDefEqProofs only [go_sem]) ?_
     simp -implicitDefEqProofs only [go_sem]
     refine zao (HC) (by simp -implicitDefEqProofs only [go_sem]) ?_
     simp -implicitDefEqProofs only [go_sem]
     refine zfs true (by simp -implicitDefEqProofs only [go_sem, ne_eq, List.length_map, List.length_append, ha1]) ?_
     simp -implicitDefEqProofs only [go_sem, ne_eq, List.length_map, List.length_append, ha1]
     refine ⟨by kernel_rfl, k + 1, hlt, by omega, zac ?_⟩
     simp -implicitDefEqProofs only [go_sem]
     rw [zap (by omega), hLk, List.flatten_append, List.flatten_singleton, hDn]
     simp only [List.map_append, List.append_assoc]
     exact ⟨trivial, trivial⟩
    ·rw [hq] at HQ
     rw [hst, hq, Bool.true_and, Bool.not_false, if_pos rfl] at hLk
     have hkt : k < e.terms.length := by have := hTP hq; omega
     have hTk := za6 Tm.wt e.terms e.terms[k] (List.getElem_mem hkt)
     have hgd := hg hq k hkt
     rw [zb5 hkt] at hgd hLk
     rw [hLk, List.flatten_append, List.length_append, List.flatten_singleton, hDn] at hgk
     have hvl := zwn hgd
     have hpl := zcm (voS e.terms[k]) ab
     have HV := zuy e.terms[k] (by omega) ab (by omega)
     have HC := H e.parts[k] (List.getElem_mem hlt) (sgn e.form k pos) (za5 ab (voS e.terms[k])) (hpts k hlt) (by omega) (by omega)
     unfold prP at HC
     generalize hVs : za5 ab (voS e.terms[k]) = vs at HV HC hLk hpl hgk
     generalize hEi : zgy e.parts[k] (sgn e.form k pos) vs = ei at HC hLk hgk
     have ha1 : dn.length + ei.length <= 4294967296 := by omega
     have ha0 : ab.length <= 4294967296 := by omega
     simp only [exD, zai e.parts[k], tmD, zaa e.terms[k]] at HC HV
     simp -implicitDefEqProofs only [go_sem, hlt]
     refine callF (HQ) (by simp -implicitDefEqProofs only [go_sem]) ?_
     simp -implicitDefEqProofs only [go_sem]
     refine drawnT 8 (by kernel_rfl) (by kernel_rfl) ?_
     simp -implicitDefEqProofs only [go_sem]
     refine zbj (by simp -implicitDefEqProofs only [go_sem]) ?_
     simp -implicitDefEqProofs only [go_sem]
     refine zfs true (by simp -implicitDefEqProofs only [go_sem, ne_eq, List.length_map, ha0, Nat.zero_add, zaz]) ?_
     simp -implicitDefEqProofs only [go_sem, ne_eq, List.length_map, ha0, Nat.zero_add, zaz]
     simp -implicitDefEqProofs only [go_sem, hkt, zad, zaa e.terms[k]]
     refine ⟨by kernel_rfl, ?_⟩
     refine zc5 [1, 2, 3, 7, 8, 10] [54, 59] [] (HV) (by simp -implicitDefEqProofs only [go_sem]) (by simp -implicitDefEqProofs only [go_sem]) (by simp -implicitDefEqProofs only [go_sem]) (by simp -implicitDefEqProofs only [go_sem]) ?_
     simp -implicitDefEqProofs only [go_sem]
     refine drawn (by kernel_rfl) ?_
     simp -implicitDefEqProofs only [go_sem, hlt, zad, zai e.parts[k]]
     refine zao (HPo) (by simp -implicitDefEqProofs only [go_sem]) ?_
     simp -implicitDefEqProofs only [go_sem]
     refine zao (HC) (by simp -implicitDefEqProofs only [go_sem]) ?_
     simp -implicitDefEqProofs only [go_sem]
     refine zfs true (by simp -implicitDefEqProofs only [go_sem, ne_eq, List.length_map, List.length_append, ha1]) ?_
     simp -implicitDefEqProofs only [go_sem, ne_eq, List.length_map, List.length_append, ha1]
     refine ⟨by kernel_rfl, k + 1, hlt, by omega, zac ?_⟩
     simp -implicitDefEqProofs only [go_sem]
     rw [zap (by omega), hLk, List.flatten_append, List.flatten_singleton, hDn]
     simp only [List.map_append, List.append_assoc]
     exact ⟨trivial, trivial⟩
   ·have ht : L.take k = L := List.take_of_length_le (by omega)
    rw [ht]
    simp -implicitDefEqProofs only [go_sem, hlt]
 ·have hq : isQ e.form.op = true := by unfold za0 at hst; rw [Bool.and_eq_true] at hst; exact hst.1
  rw [hst] at HSt hln
  obtain ⟨ta, pa⟩ := zen hn hst
  have ht0 : 0 < e.terms.length := by omega
  have ht0i : (0 < (e.terms.length : Int)) = True := by rw [ta]; simp
  rw [zb5 ht0] at hln ⊢
  simp only [if_true, List.length_map] at hln ⊢
  generalize hnm : e.terms[0].name = nm at hln ⊢
  refine zcv Tryz.call98 Tryz.func98 rfl (by kernel_rfl) (zav (by kernel_rfl)) ?_
  simp -implicitDefEqProofs only [go_sem, Tryz.results98]
  refine zbd (by simp -implicitDefEqProofs only [go_sem]) ?_
  simp -implicitDefEqProofs only [go_sem]
  refine callF (HSt) (by simp -implicitDefEqProofs only [go_sem]) ?_
  simp -implicitDefEqProofs only [go_sem]
  refine zae (fun i : Nat => hd [(1, vT (.bool pos)), (2, .one (.rn (zbq ab))), (3, .one (.bx 3 0)), (7, .one (.ow 384 0)), (8, vT (.bool true)), (9, vI i)] [(3, [.t (.int .i64 e.form.op), .t (.str e.form.atom.name), .rn (tmS e.form.atom.args), .t (.str e.form.var), .rn (fmS e.form.parts), .rn (tmS e.terms), .rn (exS e.parts)])] [(384, ⟨true, 2, ((ab.take i).map fun x => (x, nm)).map prC, 0, true⟩)]) (fun i => i <= ab.length) (fun i => ab.length - i) 0 (zac ?_) (Nat.zero_le _) ?_
  ·simp -implicitDefEqProofs only [go_sem]
  ·intro i hi
   by_cases hil : i < ab.length
   ·have hmin : min i ab.length <= 4294967295 := by omega
    simp -implicitDefEqProofs only [go_sem, hil]
    refine drawn (by kernel_rfl) ?_
    simp -implicitDefEqProofs only [go_sem, hil, ht0i, ht0, zad, zaa e.terms[0], hnm]
    refine zbj (by simp -implicitDefEqProofs only [go_sem]) ?_
    simp -implicitDefEqProofs only [go_sem]
    refine zfs true (by simp -implicitDefEqProofs only [go_sem, ne_eq, List.length_map, List.length_take, hmin]) ?_
    simp -implicitDefEqProofs only [go_sem, ne_eq, List.length_map, List.length_take, hmin]
    refine ⟨by kernel_rfl, i + 1, hil, by omega, zac ?_⟩
    simp -implicitDefEqProofs only [go_sem]
    rw [zap (by omega), List.take_succ_eq_append_getElem hil]
    simp only [List.map_append, List.map_cons, List.map_nil]
    exact ⟨trivial, rfl⟩
   ·have hta : ab.take i = ab := List.take_of_length_le (by omega)
    rw [hta]
    simp -implicitDefEqProofs only [go_sem, hil]
    refine zae (fun k : Nat => hd [(1, vT (.bool pos)), (2, .one (.rn (zbq ab))), (3, .one (.bx 3 0)), (7, .one (.ow 384 0)), (8, vT (.bool true)), (10, vI k)] [(3, [.t (.int .i64 e.form.op), .t (.str e.form.atom.name), .rn (tmS e.form.atom.args), .t (.str e.form.var), .rn (fmS e.form.parts), .rn (tmS e.terms), .rn (exS e.parts)])] [(384, ⟨true, 2, ((ab.map fun x => (x, nm)) ++ (L.take k).flatten).map prC, 0, true⟩)]) (fun k => k <= e.parts.length) (fun k => e.parts.length - k) 0 (zac ?_) (Nat.zero_le _) ?_
    ·simp -implicitDefEqProofs only [go_sem, List.take_zero, List.flatten_nil, List.append_nil]
    ·intro k hk
     by_cases hlt : k < e.parts.length
     ·have hLk := hLk k hlt
      have hgk := hgrow (k + 1)
      have hpk := za6 Ex.wt e.parts e.parts[k] (List.getElem_mem hlt)
      have hnk := zwl (List.getElem_mem hlt)
      have HPo := zet e.form k pos
      have hsg : (pos != (e.form.op == 4 || (e.form.op == 7 && ((k : Int) == 0)))) = sgn e.form k pos := rfl
      rw [hsg] at HPo
      simp only [fmD, zab e.form] at HPo
      generalize hDn : (L.take k).flatten = dn at hgk ⊢
      rw [hst, Bool.not_true, Bool.and_false, if_neg (by simp)] at hLk
      rw [hLk, List.flatten_append, List.length_append, List.flatten_singleton, hDn] at hgk
      rw [hq] at HQ
      have HC := H e.parts[k] (List.getElem_mem hlt) (sgn e.form k pos) ab (hpts k hlt) (by omega) (by omega)
      unfold prP at HC
      generalize hEi : zgy e.parts[k] (sgn e.form k pos) ab = ei at HC hLk hgk
      have ha1 : ab.length + dn.length + ei.length <= 4294967296 := by omega
      simp only [exD, zai e.parts[k]] at HC
      simp -implicitDefEqProofs only [go_sem, hlt]
      refine callF (HQ) (by simp -implicitDefEqProofs only [go_sem]) ?_
      simp -implicitDefEqProofs only [go_sem]
      refine drawn (by kernel_rfl) ?_
      simp -implicitDefEqProofs only [go_sem, hlt, zad, zai e.parts[k]]
      refine zao (HPo) (by simp -implicitDefEqProofs only [go_sem]) ?_
      simp -implicitDefEqProofs only [go_sem]
      refine zao (HC) (by simp -implicitDefEqProofs only [go_sem]) ?_
      simp -implicitDefEqProofs only [go_sem]
      refine zfs true (by simp -implicitDefEqProofs only [go_sem, ne_eq, List.length_map, List.length_append, ha1]) ?_
      simp -implicitDefEqProofs only [go_sem, ne_eq, List.length_map, List.length_append, ha1]
      refine ⟨by kernel_rfl, k + 1, hlt, by omega, zac ?_⟩
      simp -implicitDefEqProofs only [go_sem]
      rw [zap (by omega), hLk, List.flatten_append, List.flatten_singleton, hDn]
      simp only [List.map_append, List.append_assoc]
      exact ⟨trivial, trivial⟩
     ·have ht : L.take k = L := List.take_of_length_le (by omega)
      rw [ht]
      simp -implicitDefEqProofs only [go_sem, hlt]
theorem zyd : ∀ e : Ex, e.wt <= 1048576 -> ∀ pos ab, zbg e pos = true -> e.nodes <= 60 -> ab.length + e.wt <= 2097152 -> prP e pos ab :=
 zcd fun f ts ps ih he pos ab hn h60 hab => zti (.mk f ts ps) he pos hn ab h60 hab fun p hp pos ab hn h60 hab => ih p hp (Nat.le_trans (zcx (a := .mk f ts ps) hp) he) pos ab hn h60 hab
end Go.Proofs.YtbccfiillleimaaGreat
namespace Go.Proofs.YtbccfiillleimaaGreat
set_option linter.unusedSimpArgs false
set_option linter.unusedVariables false
set_option linter.unusedSectionVars false
set_option maxRecDepth 4000
open Go.RowKit
theorem zzl : ∀ (e : Ex) (pos : Bool), zbg e pos = true -> ∀ n ∈ za9 e pos, n ≠ [] := zcd fun f ts ps ih pos hn n hm => by
 have hp := (zbu hn).1
 rw [zgb] at hm
 have eF : (Ex.mk f ts ps).form = f := rfl
 have eT : (Ex.mk f ts ps).terms = ts := rfl
 have eP : (Ex.mk f ts ps).parts = ps := rfl
 simp only [eF, eT, eP] at hm hp
 rcases List.mem_append.1 hm with hm | hm
 ·split at hm
  ·rename_i hs
   have hq : isQ f.op = true := by unfold za0 at hs; rw [Bool.and_eq_true] at hs; exact hs.1
   rw [zd9, eF, hq, if_pos rfl, hs] at hn
   simp only [eT, Bool.and_eq_true, Bool.not_true, Bool.false_or] at hn
   rw [List.mem_singleton] at hm
   rintro rfl
   have h := hn.1.2.2
   rw [<- hm] at h
   exact absurd h (by decide)
  ·cases hm
 ·obtain ⟨l, hl, hx⟩ := List.mem_flatten.1 hm
  obtain ⟨i, hi, rfl⟩ := List.getElem_of_mem hl
  have hi' : i < ps.length := by rw [List.length_mapIdx] at hi; exact hi
  rw [List.getElem_mapIdx] at hx
  exact ih ps[i] (List.getElem_mem hi') _ (hp i hi') n hx
def qi8 (N : List Str) (Pr : List (Str × Str)) : Nat -> List Str -> List Str × Bool
 | 0, out => (out, true)
 | n + 1, out => if 0 <= zfd N (qe8 N Pr out) then qi8 N Pr n (out ++ [N.getD (zfd N (qe8 N Pr out)).toNat []]) else (out, false)
def cndS (N out : List Str) (n : Str) (p : Str × Str) : Bool := p.2 == n && N.contains p.1 && !out.contains p.1
def arS (e : Ex) (pos : Bool) : List Str × Bool := qi8 (za9 e pos) (zgy e pos []) (za9 e pos).length []
set_option maxHeartbeats 8000000 in
theorem zjj (e : Ex) (he : e.wt <= 1048576) (pos : Bool) : FC Tryz.prog 42 [exD e, bD pos] [.one (zbq (if zc7 e pos = true then (arS e pos).1 else [])), bD (zc7 e pos && (arS e pos).2), bD (zc7 e pos)] := by
 have HI := zpx e he pos
 cases h : zc7 e pos
 ·rw [h] at HI
  rw [if_neg (by simp), Bool.false_and]
  show FC _ _ _ [.one (.sl 1 []), _, _]
  simp only [exD, zai e] at HI ⊢
  refine zaj Tryz.call42 Tryz.func42 rfl (by kernel_rfl) (zav (by kernel_rfl)) ?_
  simp -implicitDefEqProofs only [go_sem, Tryz.results42]
  refine callF (HI) (by simp -implicitDefEqProofs only [go_sem]) ?_
  simp -implicitDefEqProofs only [go_sem]
  refine zbd (by simp -implicitDefEqProofs only [go_sem]) ?_
  simp -implicitDefEqProofs only [go_sem]
 ·rw [h] at HI
  obtain ⟨hg, hn, h60⟩ := zdi h
  have HN := zmf e he pos hn
  have HP := zyd e he pos [] hn h60 (by simp; omega)
  have hnl := zgr e pos
  have hpl := zqr e pos [] hn
  have hmul : e.nodes * (([] : List Str).length + e.wt) <= 60 * 2097152 := Nat.mul_le_mul h60 (by simp; omega)
  have hne := zzl e pos hn
  have hv : arS e pos = qi8 (za9 e pos) (zgy e pos []) (za9 e pos).length [] := rfl
  unfold prP at HP
  generalize za9 e pos = N at HN hnl hne hv
  generalize zgy e pos [] = Pr at HP hpl hv
  rw [if_pos rfl, Bool.true_and]
  generalize arS e pos = R at hv ⊢
  rw [show zbq [] = .sl 1 [] from rfl] at HP
  simp only [exD, zai e] at HI HN HP ⊢
  refine zcv Tryz.call42 Tryz.func42 rfl (by kernel_rfl) (zav (by kernel_rfl)) ?_
  simp -implicitDefEqProofs only [go_sem, Tryz.results42]
  refine callF (HI) (by simp -implicitDefEqProofs only [go_sem]) ?_
  simp -implicitDefEqProofs only [go_sem]
  refine zkl (HN) (by simp -implicitDefEqProofs only [go_sem]) ?_
  simp -implicitDefEqProofs only [go_sem]
  refine zbd (by simp -implicitDefEqProofs only [go_sem]) ?_
  simp -implicitDefEqProofs only [go_sem]
  refine zkl (HP) (by simp -implicitDefEqProofs only [go_sem]) ?_
  simp -implicitDefEqProofs only [go_sem]
  refine zbd (by simp -implicitDefEqProofs only [go_sem]) ?_
  simp -implicitDefEqProofs only [go_sem]
  refine zae (fun out : List Str => hd [(4, .one (.nl 1)), (5, vT (.bool false)), (6, vT (.bool false)), (7, .one (.rn (zbq N))), (8, .one (.rn (prS Pr))), (9, .one (.ow 832 0))] [] [(832, ⟨true, 1, out.map fun s => [.str s], 0, true⟩)]) (fun out => out.length <= N.length /\ qi8 N Pr (N.length - out.length) out = R) (fun out => N.length - out.length) [] (zac ?_) ⟨Nat.zero_le _, hv.symm⟩ ?_
  ·simp -implicitDefEqProofs only [go_sem]
  ·intro out ⟨ho, hr⟩
   by_cases hlt : out.length < N.length
   ·have ha : out.length <= 4294967295 := by omega
    have nilb : (([] : Str) == []) = true := rfl
    obtain ⟨n0, hn0⟩ : ∃ n, N.length - out.length = n + 1 := ⟨N.length - out.length - 1, by omega⟩
    rw [hn0] at hr
    unfold qi8 at hr
    simp -implicitDefEqProofs only [go_sem, hlt]
    refine zae (fun x : Nat × Str => hd [(4, .one (.nl 1)), (5, vT (.bool false)), (6, vT (.bool false)), (7, .one (.rn (zbq N))), (8, .one (.rn (prS Pr))), (9, .one (.ow 832 0)), (10, vT (.str x.2)), (11, vI x.1)] [] [(832, ⟨true, 1, out.map fun s => [.str s], 0, true⟩)]) (fun x => x.1 <= N.length /\ ((x.2 = [] /\ ∀ n ∈ N.take x.1, qe8 N Pr out n = false) \/ (x.2 ≠ [] /\ ∃ j, ∃ h : j < N.length, zfd N (qe8 N Pr out) = (j : Nat) /\ x.2 = N[j]))) (fun x => N.length - x.1) (0, []) (zac ?_) ⟨Nat.zero_le _, Or.inl ⟨rfl, by simp⟩⟩ ?_
    ·simp -implicitDefEqProofs only [go_sem]
    ·rintro ⟨i, nx⟩ ⟨hi, hx⟩
     simp only at hi hx
     rcases hx with ⟨rfl, hno⟩ | ⟨hnx, j, hj, hidx, rfl⟩
     ·by_cases hil : i < N.length
      ·have HIn := zi0 out N[i]
       generalize hnm : N[i] = nm at HIn
       simp -implicitDefEqProofs only [go_sem, hil, zad, nilb, hnm]
       refine callF (HIn) (by simp -implicitDefEqProofs only [go_sem]) ?_
       simp -implicitDefEqProofs only [go_sem]
       refine zae (fun x : Nat × Bool => hd [(4, .one (.nl 1)), (5, vT (.bool false)), (6, vT (.bool false)), (7, .one (.rn (zbq N))), (8, .one (.rn (prS Pr))), (9, .one (.ow 832 0)), (10, vT (.str [])), (11, vI i), (12, vT (.bool x.2)), (13, vI x.1)] [] [(832, ⟨true, 1, out.map fun s => [.str s], 0, true⟩)]) (fun x => x.1 <= Pr.length /\ x.2 = (!out.contains nm && !((Pr.take x.1).any (cndS N out nm)))) (fun x => Pr.length - x.1) (0, !out.contains nm) (zac ?_) ⟨Nat.zero_le _, by simp⟩ ?_
       ·simp -implicitDefEqProofs only [go_sem]
       ·rintro ⟨k, rd⟩ ⟨hk, hrd⟩
        simp only at hk hrd
        by_cases hkl : k < Pr.length
        ·have HA := zi0 N Pr[k].1
         have HB := zi0 out Pr[k].1
         have hnx : ((Pr.take (k + 1)).any (cndS N out nm)) = ((Pr.take k).any (cndS N out nm) || cndS N out nm Pr[k]) := by
          rw [List.take_succ_eq_append_getElem hkl, List.any_append]; simp
         have hcd : cndS N out nm Pr[k] = (Pr[k].2 == nm && N.contains Pr[k].1 && !out.contains Pr[k].1) := rfl
         cases c1 : (Pr[k].2 == nm)
         ·rw [c1, Bool.false_and, Bool.false_and] at hcd
          simp -implicitDefEqProofs only [go_sem, hkl]
          refine drawn (by kernel_rfl) ?_
          simp -implicitDefEqProofs only [go_sem, hkl, hil, zad, hnm, c1]
          refine ⟨by kernel_rfl, (k + 1, rd), ⟨hkl, by rw [hnx, hcd]; simpa using hrd⟩, by simp only; omega, zac ?_⟩
          simp -implicitDefEqProofs only [go_sem]
          rw [zap (by omega)]
         ·rw [c1, Bool.true_and] at hcd
          cases c2 : N.contains Pr[k].1
          ·rw [c2, Bool.false_and] at hcd
           rw [c2] at HA
           simp -implicitDefEqProofs only [go_sem, hkl]
           refine drawn (by kernel_rfl) ?_
           simp -implicitDefEqProofs only [go_sem, hkl, hil, zad, hnm, c1]
           refine za7 (HA) (by simp -implicitDefEqProofs only [go_sem]) ?_
           simp -implicitDefEqProofs only [go_sem]
           refine ⟨by kernel_rfl, (k + 1, rd), ⟨hkl, by rw [hnx, hcd]; simpa using hrd⟩, by simp only; omega, zac ?_⟩
           simp -implicitDefEqProofs only [go_sem]
           rw [zap (by omega)]
          ·rw [c2, Bool.true_and] at hcd
           rw [c2] at HA
           cases c3 : out.contains Pr[k].1
           ·rw [c3] at HB hcd
            simp -implicitDefEqProofs only [go_sem, hkl]
            refine drawn (by kernel_rfl) ?_
            simp -implicitDefEqProofs only [go_sem, hkl, hil, zad, hnm, c1]
            refine za7 (HA) (by simp -implicitDefEqProofs only [go_sem]) ?_
            simp -implicitDefEqProofs only [go_sem]
            simp -implicitDefEqProofs only [go_sem, hkl, zad]
            refine za7 (HB) (by simp -implicitDefEqProofs only [go_sem]) ?_
            simp -implicitDefEqProofs only [go_sem]
            refine ⟨by kernel_rfl, (k + 1, false), ⟨hkl, by rw [hnx, hcd]; simp⟩, by simp only; omega, zac ?_⟩
            simp -implicitDefEqProofs only [go_sem]
            rw [zap (by omega)]
           ·rw [c3] at HB hcd
            simp -implicitDefEqProofs only [go_sem, hkl]
            refine drawn (by kernel_rfl) ?_
            simp -implicitDefEqProofs only [go_sem, hkl, hil, zad, hnm, c1]
            refine za7 (HA) (by simp -implicitDefEqProofs only [go_sem]) ?_
            simp -implicitDefEqProofs only [go_sem]
            simp -implicitDefEqProofs only [go_sem, hkl, zad]
            refine za7 (HB) (by simp -implicitDefEqProofs only [go_sem]) ?_
            simp -implicitDefEqProofs only [go_sem]
            refine ⟨by kernel_rfl, (k + 1, rd), ⟨hkl, by rw [hnx, hcd]; simpa using hrd⟩, by simp only; omega, zac ?_⟩
            simp -implicitDefEqProofs only [go_sem]
            rw [zap (by omega)]
        ·rw [List.take_of_length_le (by omega)] at hrd
         have hrd : rd = qe8 N Pr out nm := hrd
         simp -implicitDefEqProofs only [go_sem, hkl, hil, zad, hnm]
         refine ⟨fun hrt => ?_, fun hrf => ?_⟩
         ·refine ⟨(i + 1, nm), ⟨hil, Or.inr ⟨hnm ▸ hne _ (List.getElem_mem hil), i, hil, zc6 hil hno (by rw [hnm, <- hrd]; exact hrt), hnm.symm⟩⟩, by simp only; omega, zac ?_⟩
          simp -implicitDefEqProofs only [go_sem]
          rw [zap (by omega)]
         ·refine ⟨(i + 1, []), ⟨hil, Or.inl ⟨rfl, zb8 hil hno (by rw [hnm, <- hrd]; exact hrf)⟩⟩, by simp only; omega, zac ?_⟩
          simp -implicitDefEqProofs only [go_sem]
          rw [zap (by omega)]
      ·have hid : zfd N (qe8 N Pr out) = -1 := by
        rw [List.take_of_length_le (by omega)] at hno
        exact zdz hno
       rw [hid, if_neg (by omega)] at hr
       subst hr
       simp -implicitDefEqProofs only [go_sem, hil, nilb]
     ·have hnxb : (N[j] == ([] : Str)) = false := by simpa using hnx
      rw [hidx, if_pos (by omega), Int.toNat_natCast, zb5 hj] at hr
      simp -implicitDefEqProofs only [go_sem, hnxb]
      refine ⟨fun _ => ?_, fun _ => ?_⟩
      all_goals
       refine zbd (by simp -implicitDefEqProofs only [go_sem]) ?_
       simp -implicitDefEqProofs only [go_sem]
       refine apD true (by simp -implicitDefEqProofs only [go_sem, ne_eq, List.length_map, ha]) ?_
       simp -implicitDefEqProofs only [go_sem, ne_eq, List.length_map, ha]
       refine ⟨out ++ [N[j]], ⟨by rw [List.length_append]; simp; omega, by rw [<- hr]; congr 1; rw [List.length_append]; simp; omega⟩, by rw [List.length_append]; simp; omega, zac ?_⟩
       simp -implicitDefEqProofs only [go_sem]
       rw [List.map_append, List.map_singleton]
   ·have h0 : N.length - out.length = 0 := by omega
    rw [h0] at hr
    unfold qi8 at hr
    subst hr
    simp -implicitDefEqProofs only [go_sem, hlt]
end Go.Proofs.YtbccfiillleimaaGreat
namespace Go.Proofs.YtbccfiillleimaaGreat
set_option linter.unusedSimpArgs false
set_option linter.unusedVariables false
set_option linter.unusedSectionVars false
set_option maxRecDepth 4000
open Go.RowKit
theorem zxb {α : Type} {xs : List α} {p q : α -> Bool} (h : ∀ x ∈ xs, p x = q x) : zfd xs p = zfd xs q := by
 have h1 : xs.any p = xs.any q := by
  induction xs with
  | nil => rfl
  | cons a l ih => rw [List.any_cons, List.any_cons, h a (by simp), ih fun x hx => h x (by simp [hx])]
 have h2 : xs.findIdx p = xs.findIdx q := by
  clear h1
  induction xs with
  | nil => rfl
  | cons a l ih => rw [List.findIdx_cons, List.findIdx_cons, h a (by simp), ih fun x hx => h x (by simp [hx])]
 unfold zfd
 rw [h1, h2]
theorem qfh {α β : Type} (f : α -> β) (xs : List α) (p : β -> Bool) : zfd (xs.map f) p = zfd xs fun x => p (f x) := by
 have h2 : (xs.map f).findIdx p = xs.findIdx fun x => p (f x) := by
  induction xs with
  | nil => rfl
  | cons a l ih => rw [List.map_cons, List.findIdx_cons, List.findIdx_cons, ih]
 unfold zfd
 rw [List.any_map, h2]
 rfl
theorem zu1 {L : List Eg} {N : List Str} {Pr : List (Str × Str)} (hN : L.map Prod.fst = N) (h : ∀ out, ∀ z ∈ L, zwg L out z = qe8 N Pr out z.1) : ∀ n out, qj2 L n out = qi8 N Pr n out
 | 0, _ => rfl
 | n + 1, out => by
  have e : zfd L (zwg L out) = zfd N (qe8 N Pr out) := by
   rw [<- hN, qfh, hN]
   exact zxb fun z hz => h out z hz
  unfold qj2 qi8
  rw [<- e]
  by_cases h0 : 0 <= zfd L (zwg L out)
  ·rw [if_pos h0, if_pos h0, zu1 hN h n]
   obtain ⟨h1, _⟩ := qa0 h0
   have h2 : (zfd L (zwg L out)).toNat < N.length := by rw [<- hN, List.length_map]; exact h1
   rw [zb5 h1, zb5 h2]
   simp only [<- hN, List.getElem_map]
  ·rw [if_neg h0, if_neg h0]
theorem qnd {e : Ex} {pos : Bool} (h : zc7 e pos = true) : arI e pos = arS e pos := by
 obtain ⟨_, hn, _⟩ := zdi h
 have hN := zm9 e pos [] hn
 have hd : (za9 e pos).Nodup := by
  unfold zc7 at h
  rw [Bool.and_eq_true] at h
  exact (zcs.1 h.2).1
 have hP := qd9 e pos [] [] hn fun x => Iff.rfl
 unfold arI arS
 rw [zu1 hN fun out z hz => qgg hN hd hP out hz]
 congr 1
 rw [<- hN, List.length_map]
end Go.Proofs.YtbccfiillleimaaGreat
namespace Go.Proofs.YtbccfiillleimaaGreat
set_option linter.unusedSimpArgs false
set_option linter.unusedVariables false
set_option linter.unusedSectionVars false
set_option maxRecDepth 4000
open Go.RowKit
theorem zil {o : Int} (ho : o = 5 \/ o = 6) {z : Fm} (hz : zcw z = true) : ∀ {L : List Fm}, (∀ x ∈ L, zcw x = true) -> zcw (zdu o L z) = true
 | [], _ => hz
 | [x], h => h x (by simp)
 | x :: y :: xs, h => by
  rw [zgl o x (by simp) z, zek]
  have h1 := h x (by simp)
  have h2 := zil ho hz (L := y :: xs) fun w hw => h w (List.mem_cons_of_mem _ hw)
  show (!((o == 8) || (o == 9)) && [x, zdu o (y :: xs) z].all zcw) = true
  rcases ho with rfl | rfl <;> simp [h1, h2]
theorem zs1 (f : Fm) (pos : Bool) {L : List Fm} (h : ∀ x ∈ L, zcw x = true) : zcw (ze8 f L pos) = true := by
 have h0 : ∀ o : Int, (o == 8 || o == 9) = false -> zcw (mkF o []) = true := fun o ho => by
  rw [zek]
  show (!((o == 8) || (o == 9)) && [].all zcw) = true
  rw [ho]; rfl
 unfold ze8
 split
 ·split
  ·rw [List.getD_eq_getElem?_getD]
   cases hg : L[0]? with
   | none => exact h0 0 rfl
   | some x => exact h x (List.mem_of_getElem? hg)
  ·split
   ·exact zil (Or.inr rfl) (h0 2 rfl) h
   ·exact zil (Or.inl rfl) (h0 1 rfl) h
 ·rename_i hq
  rw [zek]
  show (!((f.op == 8) || (f.op == 9)) && L.all zcw) = true
  rw [List.all_eq_true.2 h, Bool.and_true]
  simpa [isQ] using hq
theorem zkj : ∀ (e : Ex) (pos : Bool), zcw (zc2 e pos) = true := zcd fun f ts ps ih pos => by
 rw [zjw]
 refine zs1 _ _ fun x hx => ?_
 obtain ⟨i, hi, rfl⟩ := List.getElem_of_mem hx
 rw [List.getElem_mapIdx]
 exact ih _ (List.getElem_mem _) _
noncomputable def zse (e : Ex) : Bool := zc7 e true && (zc2 e true).good && (qdc (zc2 e true)).2
noncomputable def prfR (e : Ex) : Bool := zse e && ((qdc (zc2 e true)).1 && (arS e true).2)
set_option maxHeartbeats 1000000 in
theorem zfm (e : Ex) (he : e.wt <= 1048576) : FC Tryz.prog 41 [exD e] [bD (prfR e), bD (zse e)] := by
 have HD := zif e he true
 have hdw := zuo e true
 unfold prfR zse
 unfold zq3 at HD hdw
 cases h : zc7 e true && (zc2 e true).good
 ·rw [h, if_neg (by simp)] at HD
  rw [Bool.false_and, Bool.false_and]
  simp only [exD, zai e, fmD, zb7, List.map_nil] at HD ⊢
  refine zaj Tryz.call41 Tryz.func41 rfl (by kernel_rfl) (zav (by kernel_rfl)) ?_
  simp -implicitDefEqProofs only [go_sem, Tryz.results41]
  refine callF (HD) (by simp -implicitDefEqProofs only [go_sem]) ?_
  simp -implicitDefEqProofs only [go_sem]
 ·rw [h, if_pos rfl] at HD hdw
  rw [Bool.and_eq_true] at h
  have HA := zp9 (zc2 e true) (by omega) (zdt h.2) (zkj e true)
  have HR := qcf e he true (zdi h.1).2.1
  rw [qnd h.1] at HR
  rw [Bool.true_and]
  generalize zc2 e true = R at HD HA ⊢
  generalize qdc R = A at HA ⊢
  generalize arS e true = B at HR ⊢
  obtain ⟨A1, A2⟩ := A
  simp only at HA ⊢
  simp only [exD, zai e, fmD, zab R] at HD HA HR ⊢
  cases A2
  ·rw [Bool.false_and]
   refine zaj Tryz.call41 Tryz.func41 rfl (by kernel_rfl) (zav (by kernel_rfl)) ?_
   simp -implicitDefEqProofs only [go_sem, Tryz.results41]
   refine callF (HD) (by simp -implicitDefEqProofs only [go_sem]) ?_
   simp -implicitDefEqProofs only [go_sem]
   refine callF (HA) (by simp -implicitDefEqProofs only [go_sem]) ?_
   simp -implicitDefEqProofs only [go_sem]
  ·rw [Bool.true_and]
   cases A1
   all_goals
    refine zaj Tryz.call41 Tryz.func41 rfl (by kernel_rfl) (zav (by kernel_rfl)) ?_
    simp -implicitDefEqProofs only [go_sem, Tryz.results41]
    refine callF (HD) (by simp -implicitDefEqProofs only [go_sem]) ?_
    simp -implicitDefEqProofs only [go_sem]
    refine callF (HA) (by simp -implicitDefEqProofs only [go_sem]) ?_
    simp -implicitDefEqProofs only [go_sem]
    refine callF (HR) (by simp -implicitDefEqProofs only [go_sem]) ?_
    simp -implicitDefEqProofs only [go_sem]
    try rfl
set_option maxHeartbeats 1000000 in
theorem zwy (e : Ex) (he : e.wt <= 1048576) : FC Tryz.prog 95 [exD e] [bD (prfR e), bD (zse e)] := by
 have HD := zir e he true
 have hdw := zuo e true
 unfold prfR zse
 unfold zq3 at HD hdw
 cases h : zc7 e true && (zc2 e true).good
 ·rw [h, if_neg (by simp)] at HD
  rw [Bool.false_and, Bool.false_and]
  simp only [exD, zai e, fmD, zb7, List.map_nil] at HD ⊢
  refine zaj Tryz.call95 Tryz.func95 rfl (by kernel_rfl) (zav (by kernel_rfl)) ?_
  simp -implicitDefEqProofs only [go_sem, Tryz.results95]
  refine callF (HD) (by simp -implicitDefEqProofs only [go_sem]) ?_
  simp -implicitDefEqProofs only [go_sem]
 ·rw [h, if_pos rfl] at HD hdw
  rw [Bool.and_eq_true] at h
  have HA := zsp (zc2 e true) (by omega) (zdt h.2) (zkj e true)
  have HR := zjj e he true
  rw [h.1, if_pos rfl, Bool.true_and] at HR
  rw [Bool.true_and]
  generalize zc2 e true = R at HD HA ⊢
  generalize qdc R = A at HA ⊢
  generalize arS e true = B at HR ⊢
  obtain ⟨A1, A2⟩ := A
  simp only at HA ⊢
  simp only [exD, zai e, fmD, zab R] at HD HA HR ⊢
  cases A2
  ·rw [Bool.false_and]
   refine zaj Tryz.call95 Tryz.func95 rfl (by kernel_rfl) (zav (by kernel_rfl)) ?_
   simp -implicitDefEqProofs only [go_sem, Tryz.results95]
   refine callF (HD) (by simp -implicitDefEqProofs only [go_sem]) ?_
   simp -implicitDefEqProofs only [go_sem]
   refine callF (HA) (by simp -implicitDefEqProofs only [go_sem]) ?_
   simp -implicitDefEqProofs only [go_sem]
  ·rw [Bool.true_and]
   cases A1
   all_goals
    refine zaj Tryz.call95 Tryz.func95 rfl (by kernel_rfl) (zav (by kernel_rfl)) ?_
    simp -implicitDefEqProofs only [go_sem, Tryz.results95]
    refine callF (HD) (by simp -implicitDefEqProofs only [go_sem]) ?_
    simp -implicitDefEqProofs only [go_sem]
    refine callF (HA) (by simp -implicitDefEqProofs only [go_sem]) ?_
    simp -implicitDefEqProofs only [go_sem]
    refine callF (HR) (by simp -implicitDefEqProofs only [go_sem]) ?_
    simp -implicitDefEqProofs only [go_sem]
    try rfl
theorem zfo (e : Ex) (he : e.wt <= 1048576) : FC Tryz.prog 40 [exD e] [bD (prfR e), bD (zse e)] := by
 have HC := zwy e he
 simp only [exD, zai e] at HC ⊢
 refine zaj Tryz.call40 Tryz.func40 rfl (by kernel_rfl) (zav (by kernel_rfl)) ?_
 simp -implicitDefEqProofs only [go_sem, Tryz.results40]
 refine callF (HC) (by simp -implicitDefEqProofs only [go_sem]) ?_
 simp -implicitDefEqProofs only [go_sem]
theorem zfu (e : Ex) : FC Tryz.prog 8 [exD e] [bD true] := by
 have HZ := zo6 e 1048576 (by omega) (by omega)
 simp only [exD, zai e] at HZ ⊢
 refine zcv Tryz.call8 Tryz.func8 rfl (by kernel_rfl) (zav (by kernel_rfl)) ?_
 simp -implicitDefEqProofs only [go_sem, Tryz.results8]
 refine callF (HZ) (by simp -implicitDefEqProofs only [go_sem]) ?_
 simp -implicitDefEqProofs only [go_sem]
 refine ⟨fun h => trivial, fun h => ?_⟩
 have hw : e.wt <= 1048576 := by have := (zei (by simpa using h)).1; omega
 have HS := zfo e hw
 have HI := zfm e hw
 have HT := zop e hw
 have HE := zoj e e
 generalize prfR e = R1 at HS HI
 generalize zse e = R2 at HS HI
 simp only [exD, zai e] at HS HI HT HE
 have n1 : ∀ b : Bool, (!(b == b)) = false := by decide
 have n2 : ∀ b : Bool, (b != b) = false := by decide
 refine callF (HT) (by simp -implicitDefEqProofs only [go_sem]) ?_
 simp -implicitDefEqProofs only [go_sem]
 refine callF (HS) (by simp -implicitDefEqProofs only [go_sem]) ?_
 simp -implicitDefEqProofs only [go_sem]
 refine callF (HT) (by simp -implicitDefEqProofs only [go_sem]) ?_
 simp -implicitDefEqProofs only [go_sem]
 refine callF (HI) (by simp -implicitDefEqProofs only [go_sem, n1, n2]) ?_
 simp -implicitDefEqProofs only [go_sem, n1, n2]
 refine drawn (by kernel_rfl) ?_
 simp -implicitDefEqProofs only [go_sem]
 refine zao (HT) (by simp -implicitDefEqProofs only [go_sem]) ?_
 simp -implicitDefEqProofs only [go_sem]
 refine zao (HE) (by simp -implicitDefEqProofs only [go_sem]) ?_
 simp -implicitDefEqProofs only [go_sem]
 refine ⟨by kernel_rfl, fun h => ?_, fun _ => ?_⟩
 ·simp [zb1] at h
 ·trivial
end Go.Proofs.YtbccfiillleimaaGreat
namespace Go.Proofs.YtbccfiillleimaaGreat
set_option linter.unusedSimpArgs false
set_option linter.unusedVariables false
set_option linter.unusedSectionVars false
set_option maxRecDepth 4000
open Go.ChangeShapes Go.WideShapes Go.ChangeAt Go.RowKit
theorem qas : ownKnob Tryz.prog.godebug = none := by kernel_rfl
theorem zof : laidOutB Tryz.prog = true := by kernel_rfl
def zii (t : TypeId) : Bool := t == 3 || t == 9 || t == 24 || t == 22 || t == 27 || t == 25 || t == 56 || t == 54
theorem zng : ∀ t, zii t = true -> qei Tryz.prog zii t = true := by
 intro t h
 simp only [zii, Bool.or_eq_true, beq_iff_eq] at h
 rcases h with ((((((rfl | rfl) | rfl) | rfl) | rfl) | rfl) | rfl) | rfl <;> kernel_rfl
set_option maxRecDepth 100000 in
theorem zrl (os : Os) (started : os.Started) (H : Type) (enc : TypeId × Value -> H) :
  ReturnsInHanded {} Tryz.checked os 8 .any (Rows.fnExactIsExpansionProofSpec.pre6 enc Tryz.prog Tryz.f8 Rows.fnExactIsExpansionProofRow.domain false)
   (Rows.fnExactIsExpansionProofSpec.post enc Tryz.prog Tryz.f8 false true false false) := by
 refine returnsInHanded_of_change (C := Tryz.checked) qas started (by kernel_rfl) Tryz.func8
  (ChangeSpec.witness6 (enc := enc) (C := Tryz.checked) false ⟨#[], #[.agg #[.int .i64 0, .string .empty, .slice none 0 0, .string .empty, .slice none 0 0, .slice none 0 0, .slice none 0 0]], []⟩ 8 (by kernel_rfl) (by kernel_rfl) (by kernel_rfl) (by kernel_rfl)) ?_
 intro W base args ds gs before hval0 hW hcnd _
 have hval : ∀ (j : Nat) t v, Tryz.f8.params[j]? = some t -> args[j]? = some v -> Value.okWide Tryz.prog W .any base t v := hval0
 have hW' := hW
 obtain ⟨p, q, hA0, hV, rfl, hfz, hnd⟩ := hW
 have hA : DataW.TrodAll enc Tryz.prog W 0 (fun _ => true) true Tryz.f8.params.toList args.toList ds p := hA0
 rw [Tryz.params8] at hA hval
 obtain ⟨v0, vs0, d0, ds0, p0, q0, hargs, rfl, rfl, h0, r0⟩ := trodAll_cons hA
 obtain ⟨rfl, rfl, rfl⟩ := trodAll_nil r0
 obtain rfl : args = #[v0] := by cases args; simp_all
 obtain ⟨rfl, rfl⟩ := trodVars_none hV
 have k0 := h0
 have lt0 : ∀ x ∈ p0, x.block < W.heap.size := by obtain ⟨m, hm⟩ := k0; exact DataW.trod_lt m _ _ _ hm
 obtain ⟨cs0, rfl, _⟩ := okWide_struct Tryz.underlying56 (hval 0 56 v0 rfl rfl)
 obtain ⟨s0, hs0⟩ : ∃ s : Ex, zyn W (· < W.heap.size) (exD s) (.agg cs0) := by
  obtain ⟨m, hm⟩ := h0
  obtain ⟨d, hr, hs⟩ := zs7 zng m _ _ _ (by rfl) hm
  obtain ⟨s, e⟩ := zqg _ hs
  exact ⟨s, cs0.toList, rfl, e ▸ hr⟩
 have hs : zbn W (· < W.heap.size) [exD s0] [.agg cs0] := ⟨_, _, rfl, hs0, rfl⟩
 clear hA0 hval0
 refine ((zfu s0).use (vs := [.agg cs0]) hs).mono fun e W' ⟨us, fp, he, ho, _, _, bel⟩ => ?_
 obtain ⟨u, us', f1, f2, rfl, _, ⟨rfl, _⟩, hu⟩ := ho
 obtain ⟨rfl, _⟩ := hu
 subst he
 exact ⟨_, rfl, _, _, _, [], _, [], hW', trodAll_mk1 (shut_bool Tryz.underlying4 _),
  (trodAll_cons_mk (Below.trod zof (by kernel_rfl) (of_decide_eq_true (by kernel_rfl)) k0 bel lt0) trodAll_mk0), rfl, bel.frame _, fun h => by cases h⟩
theorem qif : (Rows.fnExactIsExpansionProofRow.wf (OpenSpec.ofChange Rows.fnExactIsExpansionProofSpec)) = true := by kernel_rfl
theorem qio : (laidOutB Tryz.checked.prog) = true := by kernel_rfl
theorem qis : (mapsRowed Tryz.checked.prog) = true := by kernel_rfl
theorem qiv : (Tryz.f8.params.all (Tryz.checked.prog.readableRec ·)) = true := by kernel_rfl
theorem qgh : (namedTie Tryz.checked.prog Rows.fnExactIsExpansionProofRow.named Rows.fnExactIsExpansionProofSpec.vars) = true := by kernel_rfl
theorem qhw : ((Rows.fnExactIsExpansionProofRow.stops == [])) = true := by kernel_rfl
theorem qgf : ((Tryz.checked.prog.stops == [])) = true := by kernel_rfl
theorem qfj : ((Rows.fnExactIsExpansionProofRow.knobs == [])) = true := by kernel_rfl
theorem qgd : ((Tryz.checked.prog.stopKnobs == [])) = true := by kernel_rfl
theorem qg6 : ((Rows.fnExactIsExpansionProofRow.inPlace == Tryz.checked.prog.inPlace 8)) = true := by kernel_rfl
theorem qbp : ((Rows.fnExactIsExpansionProofRow.unfollowed == Tryz.checked.prog.unfollowed 8)) = true := by kernel_rfl
theorem qbq : ((Rows.fnExactIsExpansionProofRow.recurses == Tryz.checked.prog.recurses 8)) = true := by kernel_rfl
theorem qdy : ((Rows.fnExactIsExpansionProofRow.named == Tryz.checked.prog.varsNamed 8)) = true := by kernel_rfl
theorem zy7 : ((Rows.fnExactIsExpansionProofRow.maps == (Tryz.f8.params.toList ++ Rows.fnExactIsExpansionProofSpec.plain.varTypes Tryz.checked.prog).any (Tryz.checked.prog.mapsRec ·))) = true := by kernel_rfl
theorem qbb : ((Rows.fnExactIsExpansionProofRow.ifaces == (Tryz.f8.params.toList ++ Rows.fnExactIsExpansionProofSpec.plain.varTypes Tryz.checked.prog).any (Tryz.checked.prog.ifacesRec ·))) = true := by kernel_rfl
theorem zy3 : ((Rows.fnExactIsExpansionProofRow.mapsOut == Tryz.checked.prog.mapsAmong Tryz.f8.resultTypes.toList)) = true := by kernel_rfl
theorem qaz : ((Rows.fnExactIsExpansionProofRow.loops == (Tryz.f8.params.toList ++ Rows.fnExactIsExpansionProofSpec.plain.varTypes Tryz.checked.prog).any (Tryz.checked.prog.loopsFrom ·))) = true := by kernel_rfl
theorem zzw : ((Rows.fnExactIsExpansionProofRow.wideKeys == (Tryz.f8.params.toList ++ Rows.fnExactIsExpansionProofSpec.plain.varTypes Tryz.checked.prog ++ Tryz.f8.resultTypes.toList).any (Tryz.checked.prog.wideKeysFrom ·))) = true := by kernel_rfl
theorem zy8 : (Rows.fnExactIsExpansionProofSpec.vars.all (Tryz.checked.prog.varReadable ·)) = true := by kernel_rfl
theorem qa5 : (Tryz.f8.resultTypes.all (fun t => Tryz.checked.prog.readableRec t && decide (t < Tryz.checked.prog.types.size))) = true := by kernel_rfl
theorem qea : ((Rows.fnExactIsExpansionProofRow.ifacesOut == Tryz.f8.resultTypes.toList.any (Tryz.checked.prog.ifacesRec ·))) = true := by kernel_rfl
theorem qa9 : ((Rows.fnExactIsExpansionProofRow.loopsOut == Tryz.f8.resultTypes.toList.any (Tryz.checked.prog.loopsFrom ·))) = true := by kernel_rfl
theorem qeh : ((Rows.fnExactIsExpansionProofRow.plainKeys == Tryz.checked.prog.plainKeys)) = true := by kernel_rfl
theorem qcz : (Rows.fnExactIsExpansionProofRow.shortTexts.isNone) = true := by kernel_rfl
theorem qad : (Tryz.checked.prog.stopsHeard) = true := by kernel_rfl
theorem zzk : (Tryz.checked.prog.mayEnter) = true := by kernel_rfl
theorem qc9 : ((Rows.fnExactIsExpansionProofRow.lifted == Tryz.checked.prog.liftsFinal)) = true := by kernel_rfl
theorem qed : ((Tryz.checked.prog.make == some Rows.fnExactIsExpansionProofRow.make)) = true := by kernel_rfl
theorem qeg : ((Rows.fnExactIsExpansionProofRow.kinds == (if Rows.fnExactIsExpansionProofRow.domain.isEmpty then [] else Tryz.f8.params.toList.map fun t => match Tryz.checked.prog.underlying t with | some (.int k) => some k | _ => none))) = true := by kernel_rfl
theorem qa7 : ((Rows.fnExactIsExpansionProofRow.pinned == Rows.fnExactIsExpansionProofRow.pinnedBy)) = true := by kernel_rfl
theorem qc8 : ((Rows.fnExactIsExpansionProofRow.veiled == (Tryz.f8.params.toList ++ Rows.fnExactIsExpansionProofSpec.plain.varTypes Tryz.checked.prog ++ Tryz.f8.resultTypes.toList).any (Tryz.checked.prog.veiledRec ·))) = true := by kernel_rfl
theorem qdl : (Rows.fnExactIsExpansionProofRow.veiledFits Tryz.checked.prog Tryz.f8.params.toList (Tryz.f8.params.toList ++ Rows.fnExactIsExpansionProofSpec.plain.varTypes Tryz.checked.prog ++ Tryz.f8.resultTypes.toList)) = true := by kernel_rfl
theorem zrs : joinedFacts Tryz.checked.prog 8 Tryz.f8 Rows.fnExactIsExpansionProofSpec Rows.fnExactIsExpansionProofRow = true := by
 unfold joinedFacts
 simp only [Bool.and_eq_true]
 exact ⟨⟨⟨⟨⟨⟨⟨⟨⟨⟨⟨⟨⟨⟨⟨⟨⟨⟨⟨⟨⟨⟨⟨⟨⟨⟨⟨⟨⟨⟨⟨qif, qio⟩, qis⟩, qiv⟩, qgh⟩, qhw⟩, qgf⟩, qfj⟩, qgd⟩, qg6⟩, qbp⟩, qbq⟩, qdy⟩, zy7⟩, qbb⟩, zy3⟩, qaz⟩, zzw⟩, zy8⟩, qa5⟩, qea⟩, qa9⟩, qeh⟩, qcz⟩, qad⟩, zzk⟩, qc9⟩, qed⟩, qeg⟩, qa7⟩, qc8⟩, qdl⟩
theorem isExpansionProof_holds : Rows.FnExactIsExpansionProofSaid :=
 OpenClaim.holds_of_wide 8 Tryz.f8 rfl rfl rfl rfl rfl rfl rfl ⟨rfl, rfl, rfl, rfl, rfl⟩ rfl rfl rfl rfl rfl (by kernel_rfl) Tryz.func8 zrs
  (of_decide_eq_true (by kernel_rfl)) (by unfold Func.isWrapper; rw [if_neg (of_decide_eq_false (by kernel_rfl))]; exact ⟨rfl, rfl⟩)
  (fun os started H enc _ => zrl os started H enc)
#print axioms isExpansionProof_holds
end Go.Proofs.YtbccfiillleimaaGreat
