/-
  FnExactMergeExpansions returns true for all arguments, and its arguments read afterwards as they read before.
  Conditions: none.
-/
import Derived.Test.YtbccfiillleimaaGreatQ8
import Derived.Test.YtbccfiillleimaaGreatQ5
import Derived.Test.YtbccfiillleimaaGreatQ7
import Derived.Test.YtbccfiillleimaaGreatRows
import Derived.Test.YtbccfiillleimaaGreatQ1
import Derived.Test.YtbccfiillleimaaGreatQ4
import Derived.ProofKit
import Derived.OpenShut
import Derived.ShutString
import Derived.ChangeOld
namespace Go.Proofs.YtbccfiillleimaaGreat
set_option linter.unusedSimpArgs false
set_option linter.unusedVariables false
set_option linter.unusedSectionVars false
set_option maxRecDepth 4000
open Go.RowKit
theorem exC_zero : exC Ex.zero = [.int .i64 0, .str [], .sl 2 [], .str [], .sl 5 [], .sl 2 [], .sl 7 []] := by rw [exC_eq]; rfl
theorem setRw_map {α : Type} (f : α → List T) (xs : List α) (i : Nat) (r : α) (hi : i < xs.length) (hl : (f r).length = (f xs[i]).length) : setRw (xs.map f) i 0 (f r) = (xs.set i r).map f := by
 unfold setRw setR
 rw [List.getD_eq_getElem?_getD, List.getElem?_map, List.getElem?_eq_getElem hi]
 simp only [Option.map_some, Option.getD_some, List.take_zero, List.nil_append, Nat.zero_add, hl, List.drop_length, List.append_nil]
 rw [List.map_set]
noncomputable def mrgI (a b : Ex) (pos : Bool) : Ex × Bool := if (mrg a b pos).2 = true then mrg a b pos else (Ex.zero, false)
abbrev mgP (p b : Ex) (pos : Bool) : Prop := FC Tryz.prog 111 [exD p, exD b, bD pos] [exD (mrgI p b pos).1, bD (mrgI p b pos).2]
set_option maxHeartbeats 8000000 in
theorem merge_of (a : Ex) (ha : a.wt ≤ 1048576) (H : ∀ p ∈ a.parts, ∀ b : Ex, b.wt ≤ 1048576 → ∀ pos, nodeS p pos = true → nodeS b pos = true → p.form = b.form → mgP p b pos) (b : Ex) (hb : b.wt ≤ 1048576) (pos : Bool) (hna : nodeS a pos = true) (hnb : nodeS b pos = true) (hf : a.form = b.form) : mgP a b pos := by
 have hv := mrg_eq a b pos
 have hWa := a.wt_eq
 have hWb := b.wt_eq
 have hTa : tmsW a.terms = a.terms.length + (a.terms.map Tm.wt).sum := rfl
 have hTb : tmsW b.terms = b.terms.length + (b.terms.map Tm.wt).sum := rfl
 have hL1l := mrg1_len a b pos
 have hL2l := mrg2_len a b pos
 have hL1k : ∀ k (h : k < a.parts.length), (mrg1 a b pos)[k]'(by rw [hL1l]; exact h) = mrg a.parts[k] (b.parts.getD k Ex.zero) (sgn a.form k pos) := fun k h => by simp only [List.getElem_mapIdx]
 have hL2k : ∀ k (h : k < a.parts.length), (mrg2 a b pos)[k]'(by rw [hL2l]; exact h) = if 0 ≤ kx a.terms b.terms k then mrg a.parts[k] (b.parts.getD (kx a.terms b.terms k).toNat Ex.zero) pos else (a.parts[k], true) := fun k h => by simp only [List.getElem_mapIdx]
 have hpe := pkM_end (a := a) (b := b) (pos := pos)
 have HO := copyExpansion_c a ha
 have HQ := isQuantifier_c a.form.op
 have HSt := isStrong_c a.form pos
 have hse : isQ a.form.op = true → ((a.form.op == 8) == pos) = strongE a.form pos := fun h => (strongE_q h).symm
 have HEq := equalFuncTerm_c a.terms b.terms same 169 [] fun x _ y _ => equalTerms_c x y
 rw [eqL_same fun _ _ _ => rfl] at HEq
 have hpa := (nodeS_parts hna).1
 have hpb := (nodeS_parts hnb).1
 unfold mgP mrgI
 rw [hv]
 generalize hL1 : mrg1 a b pos = L1 at hL1l hL1k ⊢
 generalize hL2 : mrg2 a b pos = L2 at hL2l hL2k hpe ⊢
 have hRR : ∃ R, (if (mrgJ a.form a.terms b pos L1 L2).2 = true then mrgJ a.form a.terms b pos L1 L2 else (Ex.zero, false)) = R := ⟨_, rfl⟩
 obtain ⟨R, hR⟩ := hRR
 rw [hR]
 simp only [exD, exC_eq a, exC_eq b, exC_eq R.1, fmD, fmC_eq a.form] at HO HSt ⊢
 have hnwq : isQ a.form.op = false → ¬ (isQ a.form.op && !strongE a.form pos) = true := fun h => by rw [h]; simp
 have hnws : strongE a.form pos = true → ¬ (isQ a.form.op && !strongE a.form pos) = true := fun h => by rw [h]; simp
 cases hq : isQ a.form.op
 ·-- no quantifier
  have hnw := hnwq hq
  have ht0 : a.terms.length = 0 := by
   rw [nodeS_eq, hq, if_neg (by simp)] at hna
   simp only [Bool.and_eq_true, decide_eq_true_eq] at hna
   exact hna.1.1
  have hu0 : b.terms.length = 0 := by
   rw [nodeS_eq, ← hf, hq, if_neg (by simp)] at hnb
   simp only [Bool.and_eq_true, decide_eq_true_eq] at hnb
   exact hnb.1.1
  have htn : a.terms = [] := List.length_eq_zero_iff.1 ht0
  have hun : b.terms = [] := List.length_eq_zero_iff.1 hu0
  have hsm : ¬ (!decide (a.terms.length = 0) && !same (a.terms.getD 0 Tm.zero) (b.terms.getD 0 Tm.zero)) = true := by rw [ht0]; simp
  obtain ⟨hpl, hfm⟩ := node_pair hna hnb hf hq
  have htk1 : a.terms.take 1 = a.terms := by rw [htn]; rfl
  rw [show same a.terms b.terms = true from same_iff.2 (by rw [htn, hun])] at HEq
  rw [hq] at HQ
  refine FC_of Tryz.call111 Tryz.func111 rfl (by kernel_rfl) (by simp only [rd, List.map_cons, List.map_nil, List.length_cons, List.length_nil, Tryz.ntmps111]; omega) ?_
  simp -implicitDefEqProofs only [go_sem, Tryz.results111]
  refine callF (HO) (by simp -implicitDefEqProofs only [go_sem]) ?_
  simp -implicitDefEqProofs only [go_sem]
  refine callF (HQ) (by simp -implicitDefEqProofs only [go_sem]) ?_
  simp -implicitDefEqProofs only [go_sem]
  refine callF (HEq) (by simp -implicitDefEqProofs only [go_sem]) ?_
  simp -implicitDefEqProofs only [go_sem]
  refine loop_rule (fun k : Nat => hd [(2, vT (.bool pos)), (3, .one (.bx 3 0)), (4, .one (.bx 4 0)), (6, .one (.bx 6 0)), (7, vT (.bool false)), (8, .one (.bx 8 0)), (9, .one (.bx 9 0)), (97, vT (exS a.parts)), (98, vI a.parts.length), (99, vI k)] [(3, [.t (.int .i64 a.form.op), .t (.str a.form.atom.name), .t (tmS a.form.atom.args), .t (.str a.form.var), .t (fmS a.form.parts), .t (tmS a.terms), .t (exS a.parts)]), (4, [.t (.int .i64 b.form.op), .t (.str b.form.atom.name), .t (tmS b.form.atom.args), .t (.str b.form.var), .t (fmS b.form.parts), .t (tmS b.terms), .t (exS b.parts)]), (6, [.t (.int .i64 0), .t (.str []), .nl 2, .t (.str []), .nl 5, .nl 2, .nl 7]), (8, [.t (.int .i64 a.form.op), .t (.str a.form.atom.name), .t (tmS a.form.atom.args), .t (.str a.form.var), .t (fmS a.form.parts)]), (9, [.t (.int .i64 a.form.op), .t (.str a.form.atom.name), .ow 706 0, .t (.str a.form.var), .ow 708 0, .ow 709 0, .ow 710 0])]
   [(706, ⟨true, 2, a.form.atom.args.map tmC, 0, true⟩), (708, ⟨true, 5, a.form.parts.map fmC, 0, true⟩), (709, ⟨true, 2, a.terms.map tmC, 0, true⟩), (710, ⟨true, 7, ((L1.take k).map fun q => exC q.1) ++ (a.parts.drop k).map exC, 0, true⟩)]) (fun k => k ≤ a.parts.length ∧ ∀ j (_ : j < k) (h : j < L1.length), L1[j].2 = true) (fun k => a.parts.length - k) 0 (weak_hd ?_) ⟨Nat.zero_le _, fun j h => absurd h (by omega)⟩ ?_
  ·simp -implicitDefEqProofs only [go_sem, List.take_zero, List.drop_zero, List.map_nil, List.nil_append]
  ·rintro k ⟨hk, hal⟩
   by_cases hlt : k < a.parts.length
   ·have hkb : k < b.parts.length := by omega
    have hkL : k < L1.length := by omega
    have hfk := hfm k hlt hkb
    have hwa := mem_sum Ex.wt a.parts a.parts[k] (List.getElem_mem hlt)
    have hwb := mem_sum Ex.wt b.parts b.parts[k] (List.getElem_mem hkb)
    have HPo := polarity_c a.form k pos
    have hsg : (pos != (a.form.op == 4 || (a.form.op == 7 && ((k : Int) == 0)))) = sgn a.form k pos := rfl
    rw [hsg] at HPo
    have HC := H a.parts[k] (List.getElem_mem hlt) b.parts[k] (by omega) (sgn a.form k pos) (hpa k hlt) (by rw [hf]; exact hpb k hkb) hfk
    have hRk := hL1k k hlt
    rw [getD_eq hkb] at hRk
    unfold mgP mrgI at HC
    rw [← hRk] at HC
    have htk : L1.take (k + 1) = L1.take k ++ [L1[k]] := List.take_succ_eq_append_getElem hkL
    have hdk : a.parts.drop k = a.parts[k] :: a.parts.drop (k + 1) := List.drop_eq_getElem_cons hlt
    generalize hq : L1[k] = q at HC htk hRk
    have hAl : ((L1.take k).map fun q => exC q.1).length = k := by rw [List.length_map, List.length_take]; omega
    simp only [fmD, fmC_eq a.form] at HPo
    cases hq2 : q.2
    ·rw [hq2, if_neg (by simp)] at HC
     simp only [exD, exC_eq a.parts[k], exC_eq b.parts[k], exC_zero] at HC
     have hRe : R = (Ex.zero, false) := by
      rw [← hR, if_neg]
      unfold mrgJ
      rw [if_neg hnw, if_neg hsm, all_bad (fun q : Ex × Bool => q.2) L1 hkL (by rw [hq]; exact hq2)]
      simp
     subst hRe
     simp -implicitDefEqProofs only [go_sem, hlt, getD_at, exC_eq a.parts[k]]
     refine drawn (by kernel_rfl) ?_
     simp -implicitDefEqProofs only [go_sem, hkb, getD_at, exC_eq b.parts[k]]
     refine dCallF (HPo) (by simp -implicitDefEqProofs only [go_sem]) ?_
     simp -implicitDefEqProofs only [go_sem]
     refine dCallF (HC) (by simp -implicitDefEqProofs only [go_sem]) ?_
     simp -implicitDefEqProofs only [go_sem]
     refine ⟨by kernel_rfl, ?_⟩
     exact ⟨rfl, rfl, rfl, rfl, rfl, rfl, rfl⟩
    ·rw [hq2, if_pos rfl] at HC
     simp only [exD, exC_eq a.parts[k], exC_eq b.parts[k], exC_eq q.1, hq2] at HC
     rw [hdk]
     simp -implicitDefEqProofs only [go_sem, hlt, getD_at, exC_eq a.parts[k]]
     refine drawn (by kernel_rfl) ?_
     simp -implicitDefEqProofs only [go_sem, hkb, getD_at, exC_eq b.parts[k]]
     refine dCallF (HPo) (by simp -implicitDefEqProofs only [go_sem]) ?_
     simp -implicitDefEqProofs only [go_sem]
     refine dCallF (HC) (by simp -implicitDefEqProofs only [go_sem]) ?_
     simp -implicitDefEqProofs only [go_sem]
     refine ⟨by kernel_rfl, ?_⟩
     refine ⟨by rw [List.length_take, List.length_drop]; omega, ?_⟩
     refine storeD (by simp -implicitDefEqProofs only [go_sem, hAl]; simp) ?_
     simp -implicitDefEqProofs only [go_sem, hAl]
     refine ⟨k + 1, ⟨hlt, step_all hal (hk := hkL) (by rw [hq]; exact hq2)⟩, by omega, weak_hd ?_⟩
     simp -implicitDefEqProofs only [go_sem]
     rw [wrap_s (by omega), htk, List.map_append, List.map_singleton, exC_eq q.1, List.append_assoc]
     exact ⟨rfl, rfl⟩
   ·have ht : L1.take k = L1 := List.take_of_length_le (by omega)
    have hd0 : a.parts.drop k = [] := List.drop_of_length_le (by omega)
    obtain ⟨w1, w2⟩ := tw_all (fun q : Ex × Bool => q.2) L1 fun j h => hal j (by omega) h
    have hRe : R = (.mk a.form a.terms (L1.map fun q => q.1), true) := by
     rw [← hR]; unfold mrgJ
     rw [if_neg hnw, if_neg hsm, w1, w2, htk1, if_pos rfl]
    subst hRe
    rw [ht, hd0]
    simp -implicitDefEqProofs only [go_sem, hlt, List.map_nil, List.append_nil]
    exact ⟨rfl, rfl, rfl, rfl, rfl, rfl, by simp only [Ex.parts, List.map_map]; rfl⟩
 ·have hse := hse hq
  rw [hse] at HSt
  rw [hq] at HQ
  cases hs : strongE a.form pos
  ·-- weak
   rw [hs] at HSt
   have hw : (isQ a.form.op && !strongE a.form pos) = true := by rw [hq, hs]; rfl
   have hla := (nodeS_len hna).1 hq
   have hlb := (nodeS_len hnb).1 (hf ▸ hq)
   have hda := nodeS_once hna hq
   have hdb := nodeS_once hnb (hf ▸ hq)
   refine FC_of Tryz.call111 Tryz.func111 rfl (by kernel_rfl) (by simp only [rd, List.map_cons, List.map_nil, List.length_cons, List.length_nil, Tryz.ntmps111]; omega) ?_
   simp -implicitDefEqProofs only [go_sem, Tryz.results111]
   refine callF (HO) (by simp -implicitDefEqProofs only [go_sem]) ?_
   simp -implicitDefEqProofs only [go_sem]
   refine callF (HQ) (by simp -implicitDefEqProofs only [go_sem]) ?_
   simp -implicitDefEqProofs only [go_sem]
   refine callF (HSt) (by simp -implicitDefEqProofs only [go_sem]) ?_
   simp -implicitDefEqProofs only [go_sem]
   refine loop_rule (fun k : Nat => hd [(2, vT (.bool pos)), (3, .one (.bx 3 0)), (4, .one (.bx 4 0)), (6, .one (.bx 6 0)), (7, vT (.bool false)), (8, .one (.bx 8 0)), (9, .one (.bx 9 0)), (33, vT (tmS b.terms)), (34, vI b.terms.length), (35, vI k)] [(3, [.t (.int .i64 a.form.op), .t (.str a.form.atom.name), .t (tmS a.form.atom.args), .t (.str a.form.var), .t (fmS a.form.parts), .t (tmS a.terms), .t (exS a.parts)]), (4, [.t (.int .i64 b.form.op), .t (.str b.form.atom.name), .t (tmS b.form.atom.args), .t (.str b.form.var), .t (fmS b.form.parts), .t (tmS b.terms), .t (exS b.parts)]), (6, [.t (.int .i64 0), .t (.str []), .nl 2, .t (.str []), .nl 5, .nl 2, .nl 7]), (8, [.t (.int .i64 a.form.op), .t (.str a.form.atom.name), .t (tmS a.form.atom.args), .t (.str a.form.var), .t (fmS a.form.parts)]), (9, [.t (.int .i64 a.form.op), .t (.str a.form.atom.name), .ow 706 0, .t (.str a.form.var), .ow 708 0, .ow 709 0, .ow 710 0])]
    [(706, ⟨true, 2, a.form.atom.args.map tmC, 0, true⟩), (708, ⟨true, 5, a.form.parts.map fmC, 0, true⟩), (709, ⟨true, 2, (tkM a b k).map tmC, 0, true⟩), (710, ⟨true, 7, (pkM a b pos k).map exC, 0, true⟩)]) (fun k => k ≤ b.terms.length ∧ ∀ i (h : i < L2.length), 0 ≤ kx a.terms b.terms i → kx a.terms b.terms i < (k : Int) → L2[i].2 = true) (fun k => b.terms.length - k) 0 (weak_hd ?_) ⟨Nat.zero_le _, fun i h h1 h2 => absurd h2 (by omega)⟩ ?_
   ·simp -implicitDefEqProofs only [go_sem, tkM_zero, pkM_zero]
   ·rintro k ⟨hk, hal⟩
    by_cases hlt : k < b.terms.length
    ·have hkp : k < b.parts.length := by omega
     have hTk := mem_sum Tm.wt b.terms b.terms[k] (List.getElem_mem hlt)
     have hwk := mem_sum Ex.wt b.parts b.parts[k] (List.getElem_mem hkp)
     have HTk := copyTerm_c b.terms[k] (by omega)
     have HOk := copyExpansion_c b.parts[k] (by omega)
     have HIx := indexOfAtom_c (tkM a b k) b.terms[k]
     have hrl := rstK_len a.terms b.terms k
     have htl : (tkM a b k).length = a.terms.length + (rstK a.terms b.terms k).length := by unfold tkM; simp
     have hpl := pkM_len a b pos k
     simp only [exD, exC_eq b.parts[k], tmD, tmC_eq b.terms[k]] at HTk HOk HIx
     by_cases hm : b.terms[k] ∈ a.terms
     ·obtain ⟨i, hi, e⟩ := List.mem_iff_getElem.1 hm
      rw [tkM_idx hda hlt hi e] at HIx
      have hip : i < a.parts.length := by omega
      have hiL : i < L2.length := by omega
      have hiP : i < (pkM a b pos k).length := by omega
      have hat : (pkM a b pos k)[i]'hiP = a.parts[i] := pkM_at (pos := pos) hdb hla hlt hi e
      have hwi := mem_sum Ex.wt a.parts a.parts[i] (List.getElem_mem hip)
      have hpi := hpa i hip
      have hpk := hpb k hkp
      rw [sgn_q hq] at hpi
      rw [sgn_q (hf ▸ hq)] at hpk
      have HC := H a.parts[i] (List.getElem_mem hip) b.parts[k] (by omega) pos hpi hpk (node_term hna hnb hf hq hip hkp (by rw [getD_eq hi, getD_eq hlt, e]))
      have hqi := hL2k i hip
      rw [kx_at hdb hlt hi e, if_pos (by omega), Int.toNat_natCast, getD_eq hkp] at hqi
      have htn := tkM_old hlt hm
      have hpn := pkM_old (pos := pos) hda hdb hla hlb hlt hi e
      unfold mgP mrgI at HC
      rw [← hqi] at HC hpn
      generalize tkM a b k = T at HIx htl htn ⊢
      obtain ⟨P, hP⟩ : ∃ P, pkM a b pos k = P := ⟨_, rfl⟩
      have hiP : i < P.length := hP ▸ hiP
      have hat : P[i]'hiP = a.parts[i] := by subst hP; exact hat
      rw [hP] at hpl hpn ⊢
      generalize hqq : L2[i] = q at HC hqi hpn
      cases hq2 : q.2
      ·rw [hq2, if_neg (by simp)] at HC
       simp only [exD, exC_eq a.parts[i], exC_eq b.parts[k], exC_zero] at HC
       have hRe : R = (Ex.zero, false) := by
        rw [← hR, if_neg]
        unfold mrgJ
        rw [if_pos hw, if_neg (by rw [all_bad (fun q : Ex × Bool => q.2) L2 hiL (by rw [hqq]; exact hq2)]; simp)]
        simp
       subst hRe
       simp -implicitDefEqProofs only [go_sem, hlt, getD_at, tmC_eq b.terms[k]]
       refine callF (HIx) (by simp -implicitDefEqProofs only [go_sem]) ?_
       simp -implicitDefEqProofs only [go_sem]
       refine drawn (by kernel_rfl) ?_
       simp -implicitDefEqProofs only [go_sem, hiP, getD_at, hat, exC_eq a.parts[i], hkp, exC_eq b.parts[k]]
       refine dCallF (HC) (by simp -implicitDefEqProofs only [go_sem]) ?_
       simp -implicitDefEqProofs only [go_sem]
       refine ⟨by kernel_rfl, ?_⟩
       exact ⟨rfl, rfl, rfl, rfl, rfl, rfl, rfl⟩
      ·rw [hq2, if_pos rfl] at HC
       simp only [exD, exC_eq a.parts[i], exC_eq b.parts[k], exC_eq q.1, hq2] at HC
       have hst := setRw_map exC P i q.1 hiP (by rw [exC_eq, exC_eq]; rfl)
       rw [exC_eq q.1] at hst
       simp -implicitDefEqProofs only [go_sem, hlt, getD_at, tmC_eq b.terms[k]]
       refine callF (HIx) (by simp -implicitDefEqProofs only [go_sem]) ?_
       simp -implicitDefEqProofs only [go_sem]
       refine drawn (by kernel_rfl) ?_
       simp -implicitDefEqProofs only [go_sem, hiP, getD_at, hat, exC_eq a.parts[i], hkp, exC_eq b.parts[k]]
       refine dCallF (HC) (by simp -implicitDefEqProofs only [go_sem]) ?_
       simp -implicitDefEqProofs only [go_sem]
       refine ⟨by kernel_rfl, ?_⟩
       trace_state
       refine ⟨hiP, ?_⟩
       refine storeD (by simp -implicitDefEqProofs only [go_sem, hiP, List.length_map]; simp) ?_
       simp -implicitDefEqProofs only [go_sem, hiP, List.length_map, hst]
       refine ⟨k + 1, ⟨hlt, fun j hj h0 h1 => ?_⟩, by omega, weak_hd ?_⟩
       ·by_cases hjk : kx a.terms b.terms j = (k : Int)
        ·obtain ⟨_, e3⟩ := kx_is (by omega : j < a.terms.length) hjk
         have := nodup_inj hda hi (by omega : j < a.terms.length) (e.trans e3)
         subst this
         rw [hqq]; exact hq2
        ·exact hal j hj h0 (by omega)
       ·simp -implicitDefEqProofs only [go_sem]
        rw [wrap_s (by omega), htn, hpn]
        exact ⟨rfl, rfl, rfl⟩
     ·have hany := tkM_any hdb hlt hm
      have htn := tkM_new hlt hm
      have hpn := pkM_new (pos := pos) hla hlb hlt hm
      rw [← idxP_any, decide_eq_false_iff_not] at hany
      generalize (idxP (tkM a b k) fun x => same x b.terms[k]) = x at HIx hany
      have hx0 : (x < 0) = True := by simp; omega
      have hm1 : (tkM a b k).length ≤ 4294967295 := by omega
      have hm2 : (tkM a b k).length + 1 ≤ 4294967296 := by omega
      have hm3 : (pkM a b pos k).length ≤ 4294967295 := by omega
      have hm4 : (pkM a b pos k).length + 1 ≤ 4294967296 := by omega
      generalize tkM a b k = T at HIx hm1 hm2 htn ⊢
      generalize pkM a b pos k = P at hm3 hm4 hpn ⊢
      simp -implicitDefEqProofs only [go_sem, hlt, getD_at, tmC_eq b.terms[k]]
      refine callF (HIx) (by simp -implicitDefEqProofs only [go_sem, hx0]) ?_
      simp -implicitDefEqProofs only [go_sem, hx0]
      refine drawn (by kernel_rfl) ?_
      simp -implicitDefEqProofs only [go_sem]
      refine dCallF (HTk) (by simp -implicitDefEqProofs only [go_sem]) ?_
      simp -implicitDefEqProofs only [go_sem]
      refine dBuildDc (by simp -implicitDefEqProofs only [go_sem]) ?_
      simp -implicitDefEqProofs only [go_sem]
      refine dApD true (by simp -implicitDefEqProofs only [go_sem, ne_eq, List.length_map, hm1, hm2]) ?_
      simp -implicitDefEqProofs only [go_sem, ne_eq, List.length_map, hm1, hm2]
      refine ⟨by kernel_rfl, ?_⟩
      refine drawn (by kernel_rfl) ?_
      simp -implicitDefEqProofs only [go_sem, hkp, getD_at, exC_eq b.parts[k]]
      refine dCallF (HOk) (by simp -implicitDefEqProofs only [go_sem]) ?_
      simp -implicitDefEqProofs only [go_sem]
      refine dBuildDc (by simp -implicitDefEqProofs only [go_sem]) ?_
      simp -implicitDefEqProofs only [go_sem]
      refine dApD true (by simp -implicitDefEqProofs only [go_sem, ne_eq, List.length_map, hm3, hm4]) ?_
      simp -implicitDefEqProofs only [go_sem, ne_eq, List.length_map, hm3, hm4]
      refine ⟨by kernel_rfl, k + 1, ⟨hlt, fun j hj h0 h1 => hal j hj h0 ?_⟩, by omega, weak_hd ?_⟩
      ·have hne : kx a.terms b.terms j ≠ (k : Int) := fun e2 => by
        obtain ⟨_, e3⟩ := kx_is (by omega : j < a.terms.length) e2
        exact hm (e3 ▸ List.getElem_mem _)
       omega
      ·simp -implicitDefEqProofs only [go_sem]
       rw [wrap_s (by omega), htn, hpn, List.map_append, List.map_append, List.map_singleton, List.map_singleton, exC_eq b.parts[k], tmC_eq b.terms[k]]
       exact ⟨rfl, rfl, rfl⟩
    ·have hk2 : k = b.terms.length := by omega
     subst hk2
     have hall : ∀ j (h : j < L2.length), L2[j].2 = true := fun j h => by
      by_cases h0 : 0 ≤ kx a.terms b.terms j
      ·obtain ⟨h1, _⟩ := kx_pos (by omega : j < a.terms.length) h0
       exact hal j h h0 (by omega)
      ·rw [hL2k j (by omega), if_neg h0]
     obtain ⟨w1, w2⟩ := tw_all (fun q : Ex × Bool => q.2) L2 hall
     have hRe : R = (.mk a.form (tkM a b b.terms.length) (pkM a b pos b.terms.length), true) := by
      rw [← hR]; unfold mrgJ
      rw [if_pos hw, if_pos w2, if_pos rfl, hpe hla]
      rfl
     subst hRe
     simp -implicitDefEqProofs only [go_sem, hlt]
     exact ⟨rfl, rfl, rfl, rfl, rfl, rfl, rfl⟩
  ·-- strong
   have hnw := hnws hs
   rw [hs] at HSt
   obtain ⟨ta, pa⟩ := strong_one hna hs
   obtain ⟨tb, pb⟩ := strong_one hnb (by rw [← hf]; exact hs)
   obtain ⟨t, hta⟩ := List.length_eq_one_iff.1 ta
   obtain ⟨u, htb⟩ := List.length_eq_one_iff.1 tb
   have hga : a.terms.getD 0 Tm.zero = t := by rw [hta]; rfl
   have hgb : b.terms.getD 0 Tm.zero = u := by rw [htb]; rfl
   have hsame : same a.terms b.terms = same t u := by rw [hta, htb, same_cons, same_nil, Bool.and_true]
   rw [hsame] at HEq
   cases hsm0 : same t u
   ·rw [hsm0] at HEq
    have hRe : R = (Ex.zero, false) := by
     rw [← hR, if_neg]
     unfold mrgJ
     rw [if_neg hnw, hga, hgb, hsm0, if_pos (by rw [ta]; rfl)]
     simp
    subst hRe
    refine FC_of Tryz.call111 Tryz.func111 rfl (by kernel_rfl) (by simp only [rd, List.map_cons, List.map_nil, List.length_cons, List.length_nil, Tryz.ntmps111]; omega) ?_
    simp -implicitDefEqProofs only [go_sem, Tryz.results111]
    refine callF (HO) (by simp -implicitDefEqProofs only [go_sem]) ?_
    simp -implicitDefEqProofs only [go_sem]
    refine callF (HQ) (by simp -implicitDefEqProofs only [go_sem]) ?_
    simp -implicitDefEqProofs only [go_sem]
    refine callF (HSt) (by simp -implicitDefEqProofs only [go_sem]) ?_
    simp -implicitDefEqProofs only [go_sem]
    refine callF (HEq) (by simp -implicitDefEqProofs only [go_sem]) ?_
    simp -implicitDefEqProofs only [go_sem]
    exact ⟨rfl, rfl, rfl, rfl, rfl, rfl, rfl⟩
   ·rw [hsm0] at HEq
    have hsm : ¬ (!decide (a.terms.length = 0) && !same (a.terms.getD 0 Tm.zero) (b.terms.getD 0 Tm.zero)) = true := by rw [hga, hgb, hsm0]; simp
    have hpl : a.parts.length = b.parts.length := by omega
    have hfm : ∀ i (h1 : i < a.parts.length) (h2 : i < b.parts.length), a.parts[i].form = b.parts[i].form := fun i h1 h2 => by
     obtain rfl : i = 0 := by omega
     exact node_term hna hnb hf hq h1 h2 (by rw [hga, hgb]; exact same_iff.1 hsm0)
    have htk1 : a.terms.take 1 = a.terms := List.take_of_length_le (by omega)
    refine FC_of Tryz.call111 Tryz.func111 rfl (by kernel_rfl) (by simp only [rd, List.map_cons, List.map_nil, List.length_cons, List.length_nil, Tryz.ntmps111]; omega) ?_
    simp -implicitDefEqProofs only [go_sem, Tryz.results111]
    refine callF (HO) (by simp -implicitDefEqProofs only [go_sem]) ?_
    simp -implicitDefEqProofs only [go_sem]
    refine callF (HQ) (by simp -implicitDefEqProofs only [go_sem]) ?_
    simp -implicitDefEqProofs only [go_sem]
    refine callF (HSt) (by simp -implicitDefEqProofs only [go_sem]) ?_
    simp -implicitDefEqProofs only [go_sem]
    refine callF (HEq) (by simp -implicitDefEqProofs only [go_sem]) ?_
    simp -implicitDefEqProofs only [go_sem]
    refine loop_rule (fun k : Nat => hd [(2, vT (.bool pos)), (3, .one (.bx 3 0)), (4, .one (.bx 4 0)), (6, .one (.bx 6 0)), (7, vT (.bool false)), (8, .one (.bx 8 0)), (9, .one (.bx 9 0)), (97, vT (exS a.parts)), (98, vI a.parts.length), (99, vI k)] [(3, [.t (.int .i64 a.form.op), .t (.str a.form.atom.name), .t (tmS a.form.atom.args), .t (.str a.form.var), .t (fmS a.form.parts), .t (tmS a.terms), .t (exS a.parts)]), (4, [.t (.int .i64 b.form.op), .t (.str b.form.atom.name), .t (tmS b.form.atom.args), .t (.str b.form.var), .t (fmS b.form.parts), .t (tmS b.terms), .t (exS b.parts)]), (6, [.t (.int .i64 0), .t (.str []), .nl 2, .t (.str []), .nl 5, .nl 2, .nl 7]), (8, [.t (.int .i64 a.form.op), .t (.str a.form.atom.name), .t (tmS a.form.atom.args), .t (.str a.form.var), .t (fmS a.form.parts)]), (9, [.t (.int .i64 a.form.op), .t (.str a.form.atom.name), .ow 706 0, .t (.str a.form.var), .ow 708 0, .ow 709 0, .ow 710 0])]
     [(706, ⟨true, 2, a.form.atom.args.map tmC, 0, true⟩), (708, ⟨true, 5, a.form.parts.map fmC, 0, true⟩), (709, ⟨true, 2, a.terms.map tmC, 0, true⟩), (710, ⟨true, 7, ((L1.take k).map fun q => exC q.1) ++ (a.parts.drop k).map exC, 0, true⟩)]) (fun k => k ≤ a.parts.length ∧ ∀ j (_ : j < k) (h : j < L1.length), L1[j].2 = true) (fun k => a.parts.length - k) 0 (weak_hd ?_) ⟨Nat.zero_le _, fun j h => absurd h (by omega)⟩ ?_
    ·simp -implicitDefEqProofs only [go_sem, List.take_zero, List.drop_zero, List.map_nil, List.nil_append]
    ·rintro k ⟨hk, hal⟩
     by_cases hlt : k < a.parts.length
     ·have hkb : k < b.parts.length := by omega
      have hkL : k < L1.length := by omega
      have hfk := hfm k hlt hkb
      have hwa := mem_sum Ex.wt a.parts a.parts[k] (List.getElem_mem hlt)
      have hwb := mem_sum Ex.wt b.parts b.parts[k] (List.getElem_mem hkb)
      have HPo := polarity_c a.form k pos
      have hsg : (pos != (a.form.op == 4 || (a.form.op == 7 && ((k : Int) == 0)))) = sgn a.form k pos := rfl
      rw [hsg] at HPo
      have HC := H a.parts[k] (List.getElem_mem hlt) b.parts[k] (by omega) (sgn a.form k pos) (hpa k hlt) (by rw [hf]; exact hpb k hkb) hfk
      have hRk := hL1k k hlt
      rw [getD_eq hkb] at hRk
      unfold mgP mrgI at HC
      rw [← hRk] at HC
      have htk : L1.take (k + 1) = L1.take k ++ [L1[k]] := List.take_succ_eq_append_getElem hkL
      have hdk : a.parts.drop k = a.parts[k] :: a.parts.drop (k + 1) := List.drop_eq_getElem_cons hlt
      generalize hq : L1[k] = q at HC htk hRk
      have hAl : ((L1.take k).map fun q => exC q.1).length = k := by rw [List.length_map, List.length_take]; omega
      simp only [fmD, fmC_eq a.form] at HPo
      cases hq2 : q.2
      ·rw [hq2, if_neg (by simp)] at HC
       simp only [exD, exC_eq a.parts[k], exC_eq b.parts[k], exC_zero] at HC
       have hRe : R = (Ex.zero, false) := by
        rw [← hR, if_neg]
        unfold mrgJ
        rw [if_neg hnw, if_neg hsm, all_bad (fun q : Ex × Bool => q.2) L1 hkL (by rw [hq]; exact hq2)]
        simp
       subst hRe
       simp -implicitDefEqProofs only [go_sem, hlt, getD_at, exC_eq a.parts[k]]
       refine drawn (by kernel_rfl) ?_
       simp -implicitDefEqProofs only [go_sem, hkb, getD_at, exC_eq b.parts[k]]
       refine dCallF (HPo) (by simp -implicitDefEqProofs only [go_sem]) ?_
       simp -implicitDefEqProofs only [go_sem]
       refine dCallF (HC) (by simp -implicitDefEqProofs only [go_sem]) ?_
       simp -implicitDefEqProofs only [go_sem]
       refine ⟨by kernel_rfl, ?_⟩
       exact ⟨rfl, rfl, rfl, rfl, rfl, rfl, rfl⟩
      ·rw [hq2, if_pos rfl] at HC
       simp only [exD, exC_eq a.parts[k], exC_eq b.parts[k], exC_eq q.1, hq2] at HC
       rw [hdk]
       simp -implicitDefEqProofs only [go_sem, hlt, getD_at, exC_eq a.parts[k]]
       refine drawn (by kernel_rfl) ?_
       simp -implicitDefEqProofs only [go_sem, hkb, getD_at, exC_eq b.parts[k]]
       refine dCallF (HPo) (by simp -implicitDefEqProofs only [go_sem]) ?_
       simp -implicitDefEqProofs only [go_sem]
       refine dCallF (HC) (by simp -implicitDefEqProofs only [go_sem]) ?_
       simp -implicitDefEqProofs only [go_sem]
       refine ⟨by kernel_rfl, ?_⟩
       refine ⟨by rw [List.length_take, List.length_drop]; omega, ?_⟩
       refine storeD (by simp -implicitDefEqProofs only [go_sem, hAl]; simp) ?_
       simp -implicitDefEqProofs only [go_sem, hAl]
       refine ⟨k + 1, ⟨hlt, step_all hal (hk := hkL) (by rw [hq]; exact hq2)⟩, by omega, weak_hd ?_⟩
       simp -implicitDefEqProofs only [go_sem]
       rw [wrap_s (by omega), htk, List.map_append, List.map_singleton, exC_eq q.1, List.append_assoc]
       exact ⟨rfl, rfl⟩
     ·have ht : L1.take k = L1 := List.take_of_length_le (by omega)
      have hd0 : a.parts.drop k = [] := List.drop_of_length_le (by omega)
      obtain ⟨w1, w2⟩ := tw_all (fun q : Ex × Bool => q.2) L1 fun j h => hal j (by omega) h
      have hRe : R = (.mk a.form a.terms (L1.map fun q => q.1), true) := by
       rw [← hR]; unfold mrgJ
       rw [if_neg hnw, if_neg hsm, w1, w2, htk1, if_pos rfl]
      subst hRe
      rw [ht, hd0]
      simp -implicitDefEqProofs only [go_sem, hlt, List.map_nil, List.append_nil]
      exact ⟨rfl, rfl, rfl, rfl, rfl, rfl, by simp only [Ex.parts, List.map_map]; rfl⟩
theorem merge_c : ∀ a : Ex, a.wt ≤ 1048576 → ∀ b : Ex, b.wt ≤ 1048576 → ∀ pos, nodeS a pos = true → nodeS b pos = true → a.form = b.form → mgP a b pos :=
 ex_ind fun f ts ps ih ha b hb pos hna hnb hf => merge_of (.mk f ts ps) ha (fun p hp b hb pos hna hnb hf => ih p hp (Nat.le_trans (eparts_wt (a := .mk f ts ps) hp) ha) b hb pos hna hnb hf) b hb pos hna hnb hf
end Go.Proofs.YtbccfiillleimaaGreat
namespace Go.Proofs.YtbccfiillleimaaGreat
set_option linter.unusedSimpArgs false
set_option linter.unusedVariables false
set_option linter.unusedSectionVars false
set_option maxRecDepth 4000
open Go.RowKit
mutual
def mk1Exs : Ex → Nat → Ex × Nat
 | .mk (.mk o0 (.mk n0 s0) v0 p0) t0 e0, k => (.mk (.mk ((k : Nat) : Int) (.mk (mtx (k + 1)) (mkTms s0 ((k + 1) + 1)).1) (mtx (mkTms s0 ((k + 1) + 1)).2) (mkFms p0 ((mkTms s0 ((k + 1) + 1)).2 + 1)).1) (mkTms t0 (mkFms p0 ((mkTms s0 ((k + 1) + 1)).2 + 1)).2).1 (mkExs e0 (mkTms t0 (mkFms p0 ((mkTms s0 ((k + 1) + 1)).2 + 1)).2).2).1, (mkExs e0 (mkTms t0 (mkFms p0 ((mkTms s0 ((k + 1) + 1)).2 + 1)).2).2).2)
def mkExs : List Ex → Nat → List Ex × Nat
 | [], k => ([], k)
 | a :: xs, k => ((mk1Exs a k).1 :: (mkExs xs (mk1Exs a k).2).1, (mkExs xs (mk1Exs a k).2).2)
end
mutual
def ct1Exs : Ex → Nat
 | .mk (.mk o0 (.mk n0 s0) v0 p0) t0 e0 => 1 + 1 + 1 + ctTms s0 + 1 + ctFms p0 + ctTms t0 + ctExs e0
def ctExs : List Ex → Nat
 | [] => 0
 | a :: xs => ct1Exs a + ctExs xs
end
mutual
theorem mk1Exs_ct : ∀ (a : Ex) (k : Nat), k ≤ (mk1Exs a k).2 ∧ (mk1Exs a k).2 ≤ k + ct1Exs a
 | .mk (.mk o0 (.mk n0 s0) v0 p0) t0 e0, k => by have h_s0 := mkTms_ct s0 ((k + 1) + 1); have h_p0 := mkFms_ct p0 ((mkTms s0 ((k + 1) + 1)).2 + 1); have h_t0 := mkTms_ct t0 (mkFms p0 ((mkTms s0 ((k + 1) + 1)).2 + 1)).2; have h_e0 := mkExs_ct e0 (mkTms t0 (mkFms p0 ((mkTms s0 ((k + 1) + 1)).2 + 1)).2).2; simp only [mk1Exs, ct1Exs]; omega
theorem mkExs_ct : ∀ (xs : List Ex) (k : Nat), k ≤ (mkExs xs k).2 ∧ (mkExs xs k).2 ≤ k + ctExs xs
 | [], k => ⟨Nat.le_refl _, Nat.le_refl _⟩
 | a :: xs, k => by have h1 := mk1Exs_ct a k; have h2 := mkExs_ct xs (mk1Exs a k).2; simp only [mkExs, ctExs]; omega
end
theorem ctExs_len : ∀ xs : List Ex, xs.length ≤ ctExs xs
  | [] => Nat.le_refl _
  | a :: xs => by have := ctExs_len xs; have : 1 ≤ ct1Exs a := by obtain ⟨⟨o0, ⟨n0, s0⟩, v0, p0⟩, t0, e0⟩ := a; simp only [ct1Exs]; omega
                  simp only [List.length_cons, ctExs]; omega
theorem markExpansionS_of (xs : List Ex) (H : ∀ a ∈ xs, ∀ k : Nat, 0 < k → k + ctExs a.parts ≤ 4611686018427387904 → IC Tryz.prog 90 [] (.one (exS a.parts)) [iD k] (.one (exS (mkExs a.parts k).1)) [iD (mkExs a.parts k).2]) :
  ∀ k : Nat, 0 < k → k + ctExs xs ≤ 4611686018427387904 → IC Tryz.prog 90 [] (.one (exS xs)) [iD k] (.one (exS (mkExs xs k).1)) [iD (mkExs xs k).2] := by
 intro k h0 hk
 refine IC_ofP Tryz.call90 Tryz.func90 rfl (by kernel_rfl) (by simp only [argsI, rd, List.map_cons, List.map_nil, List.nil_append, List.length_cons, List.length_nil, Tryz.ntmps90]; omega) (by simp only [Tryz.ntmps90]; omega) (fun vs => ?_)
 simp -implicitDefEqProofs only [go_sem, Tryz.results90, initP, initI, argsI, PI]
 refine loop_rule (fun (x : List Ex × List Ex × Nat) => hd [(0, .one (.ow 0 0)), (1000000, .one (.ow 0 0)), (1, vI x.2.2), (5, vI x.1.length)] [] [(0, ⟨true, 7, x.1.map exC ++ pinRs vs x.1.length (x.2.1.map exC), 0, true⟩)])
  (fun x => (mkExs xs k).1 = x.1 ++ (mkExs x.2.1 x.2.2).1 ∧ (mkExs xs k).2 = (mkExs x.2.1 x.2.2).2 ∧ 0 < x.2.2 ∧ x.2.2 + ctExs x.2.1 ≤ 4611686018427387904 ∧ x.1.length + x.2.1.length = xs.length ∧ ∀ a ∈ x.2.1, a ∈ xs) (fun x => x.2.1.length) ([], xs, k) (weak_hd ?_) ?_ ?_
 ·simp -implicitDefEqProofs only [go_sem]
 ·exact ⟨rfl, rfl, h0, hk, by simp, fun _ h => h⟩
 ·intro ⟨dn, rest, kk⟩ ⟨h1, h2, h3, h4, h6, h5⟩
  simp only at h1 h2 h3 h4 h5 h6
  cases rest with
  | nil =>
   simp only [mkExs, List.append_nil] at h1 h2
   simp -implicitDefEqProofs only [go_sem, h1, h2]
  | cons a rest =>
   obtain ⟨⟨o0, ⟨n0, s0⟩, v0, p0⟩, t0, e0⟩ := a
   simp only [mkExs, mk1Exs, ctExs, ct1Exs] at h1 h2 h4
   have hc_s0 := mkTms_ct s0 ((kk + 1) + 1)
   have hc_p0 := mkFms_ct p0 ((mkTms s0 ((kk + 1) + 1)).2 + 1)
   have hc_t0 := mkTms_ct t0 (mkFms p0 ((mkTms s0 ((kk + 1) + 1)).2 + 1)).2
   have hc_e0 := mkExs_ct e0 (mkTms t0 (mkFms p0 ((mkTms s0 ((kk + 1) + 1)).2 + 1)).2).2
   have w0 : IntKind.i64.wrap (((kk : Nat) : Int) + 1) = ((kk + 1 : Nat) : Int) := wrap_s (by omega)
   have w1 : IntKind.i64.wrap ((((kk + 1) : Nat) : Int) + 1) = (((kk + 1) + 1 : Nat) : Int) := wrap_s (by omega)
   have w2 : IntKind.i64.wrap ((((mkTms s0 ((kk + 1) + 1)).2 : Nat) : Int) + 1) = (((mkTms s0 ((kk + 1) + 1)).2 + 1 : Nat) : Int) := wrap_s (by omega)
   have hln := ctExs_len xs
   rw [List.length_cons] at h6
   have wl : IntKind.i64.wrap ((dn.length : Int) + 1) = ((dn.length + 1 : Nat) : Int) := wrap_s (by omega)
   simp -implicitDefEqProofs only [go_sem, exC_eq (.mk _ _ _), Ex.form, Ex.terms, Ex.parts, Fm.op, Fm.atom, Fm.var, Fm.parts, Tm.name, Tm.args]
   refine storeD (by simp -implicitDefEqProofs only [go_sem, implies_true, w0, w1, w2]) ?_
   simp -implicitDefEqProofs only [go_sem, implies_true, w0, w1, w2]
   refine callF (markText_c (kk + 1) (by omega) (by omega)) (by simp -implicitDefEqProofs only [go_sem, w0, w1, w2]) ?_
   simp -implicitDefEqProofs only [go_sem, w0, w1, w2]
   refine storeD (by simp -implicitDefEqProofs only [go_sem, implies_true, w0, w1, w2]) ?_
   simp -implicitDefEqProofs only [go_sem, implies_true, w0, w1, w2]
   refine callN (l := [(0, .one (.ow 0 0)), (1000000, .one (.ow 0 0)), (5, vI dn.length), (36, .one (.cv (vs dn.length 2))), (37, vI (((kk + 1) + 1) : Nat))]) (bl := []) (el := [(0, ⟨true, 7, dn.map exC ++ [.int .i64 ((kk : Nat) : Int), .str (mtx (kk + 1)), .pin (vs dn.length 2) (tmS s0), .str v0, .pin (vs dn.length 4) (fmS p0), .pin (vs dn.length 5) (tmS t0), .pin (vs dn.length 6) (exS e0)] :: pinRs vs (dn.length + 1) (rest.map exC), 0, true⟩)]) 0 dn.length 2 (markTermS_c s0 ((kk + 1) + 1) (by omega) (by omega)) (by simp -implicitDefEqProofs only [go_sem, w0, w1, w2, tmS]) rfl rfl rfl (by simp -implicitDefEqProofs only [go_sem, tmS, Ex.form, Ex.terms, Ex.parts, Fm.op, Fm.atom, Fm.var, Fm.parts, Tm.name, Tm.args]) rfl ?_
   simp -implicitDefEqProofs only [go_sem, w0, w1, w2, Ex.form, Ex.terms, Ex.parts, Fm.op, Fm.atom, Fm.var, Fm.parts, Tm.name, Tm.args]
   refine callF (markText_c (mkTms s0 ((kk + 1) + 1)).2 (by omega) (by omega)) (by simp -implicitDefEqProofs only [go_sem, w0, w1, w2]) ?_
   simp -implicitDefEqProofs only [go_sem, w0, w1, w2]
   refine storeD (by simp -implicitDefEqProofs only [go_sem, implies_true, w0, w1, w2]) ?_
   simp -implicitDefEqProofs only [go_sem, implies_true, w0, w1, w2]
   refine callN (l := [(0, .one (.ow 0 0)), (1000000, .one (.ow 0 0)), (5, vI dn.length), (53, .one (.cv (vs dn.length 4))), (54, vI (((mkTms s0 ((kk + 1) + 1)).2 + 1) : Nat))]) (bl := []) (el := [(0, ⟨true, 7, dn.map exC ++ [.int .i64 ((kk : Nat) : Int), .str (mtx (kk + 1)), tmS (mkTms s0 ((kk + 1) + 1)).1, .str (mtx (mkTms s0 ((kk + 1) + 1)).2), .pin (vs dn.length 4) (fmS p0), .pin (vs dn.length 5) (tmS t0), .pin (vs dn.length 6) (exS e0)] :: pinRs vs (dn.length + 1) (rest.map exC), 0, true⟩)]) 0 dn.length 4 (markFormulaS_c p0 ((mkTms s0 ((kk + 1) + 1)).2 + 1) (by omega) (by omega)) (by simp -implicitDefEqProofs only [go_sem, w0, w1, w2, fmS]) rfl rfl rfl (by simp -implicitDefEqProofs only [go_sem, fmS, Ex.form, Ex.terms, Ex.parts, Fm.op, Fm.atom, Fm.var, Fm.parts, Tm.name, Tm.args]) rfl ?_
   simp -implicitDefEqProofs only [go_sem, w0, w1, w2, Ex.form, Ex.terms, Ex.parts, Fm.op, Fm.atom, Fm.var, Fm.parts, Tm.name, Tm.args]
   refine callN (l := [(0, .one (.ow 0 0)), (1000000, .one (.ow 0 0)), (5, vI dn.length), (60, .one (.cv (vs dn.length 5))), (61, vI ((mkFms p0 ((mkTms s0 ((kk + 1) + 1)).2 + 1)).2 : Nat))]) (bl := []) (el := [(0, ⟨true, 7, dn.map exC ++ [.int .i64 ((kk : Nat) : Int), .str (mtx (kk + 1)), tmS (mkTms s0 ((kk + 1) + 1)).1, .str (mtx (mkTms s0 ((kk + 1) + 1)).2), fmS (mkFms p0 ((mkTms s0 ((kk + 1) + 1)).2 + 1)).1, .pin (vs dn.length 5) (tmS t0), .pin (vs dn.length 6) (exS e0)] :: pinRs vs (dn.length + 1) (rest.map exC), 0, true⟩)]) 0 dn.length 5 (markTermS_c t0 (mkFms p0 ((mkTms s0 ((kk + 1) + 1)).2 + 1)).2 (by omega) (by omega)) (by simp -implicitDefEqProofs only [go_sem, w0, w1, w2, tmS]) rfl rfl rfl (by simp -implicitDefEqProofs only [go_sem, tmS, Ex.form, Ex.terms, Ex.parts, Fm.op, Fm.atom, Fm.var, Fm.parts, Tm.name, Tm.args]) rfl ?_
   simp -implicitDefEqProofs only [go_sem, w0, w1, w2, Ex.form, Ex.terms, Ex.parts, Fm.op, Fm.atom, Fm.var, Fm.parts, Tm.name, Tm.args]
   refine callN (l := [(0, .one (.ow 0 0)), (1000000, .one (.ow 0 0)), (5, vI dn.length), (67, .one (.cv (vs dn.length 6))), (68, vI ((mkTms t0 (mkFms p0 ((mkTms s0 ((kk + 1) + 1)).2 + 1)).2).2 : Nat))]) (bl := []) (el := [(0, ⟨true, 7, dn.map exC ++ [.int .i64 ((kk : Nat) : Int), .str (mtx (kk + 1)), tmS (mkTms s0 ((kk + 1) + 1)).1, .str (mtx (mkTms s0 ((kk + 1) + 1)).2), fmS (mkFms p0 ((mkTms s0 ((kk + 1) + 1)).2 + 1)).1, tmS (mkTms t0 (mkFms p0 ((mkTms s0 ((kk + 1) + 1)).2 + 1)).2).1, .pin (vs dn.length 6) (exS e0)] :: pinRs vs (dn.length + 1) (rest.map exC), 0, true⟩)]) 0 dn.length 6 (H (.mk (.mk o0 (.mk n0 s0) v0 p0) t0 e0) (h5 _ (by simp)) (mkTms t0 (mkFms p0 ((mkTms s0 ((kk + 1) + 1)).2 + 1)).2).2 (by omega) (by show (mkTms t0 (mkFms p0 ((mkTms s0 ((kk + 1) + 1)).2 + 1)).2).2 + ctExs e0 ≤ _; omega)) (by simp -implicitDefEqProofs only [go_sem, w0, w1, w2, exS]) rfl rfl rfl (by simp -implicitDefEqProofs only [go_sem, exS, Ex.form, Ex.terms, Ex.parts, Fm.op, Fm.atom, Fm.var, Fm.parts, Tm.name, Tm.args]) rfl ?_
   simp -implicitDefEqProofs only [go_sem, w0, w1, w2, Ex.form, Ex.terms, Ex.parts, Fm.op, Fm.atom, Fm.var, Fm.parts, Tm.name, Tm.args]
   refine ⟨(dn ++ [.mk (.mk ((kk : Nat) : Int) (.mk (mtx (kk + 1)) (mkTms s0 ((kk + 1) + 1)).1) (mtx (mkTms s0 ((kk + 1) + 1)).2) (mkFms p0 ((mkTms s0 ((kk + 1) + 1)).2 + 1)).1) (mkTms t0 (mkFms p0 ((mkTms s0 ((kk + 1) + 1)).2 + 1)).2).1 (mkExs e0 (mkTms t0 (mkFms p0 ((mkTms s0 ((kk + 1) + 1)).2 + 1)).2).2).1], rest, (mkExs e0 (mkTms t0 (mkFms p0 ((mkTms s0 ((kk + 1) + 1)).2 + 1)).2).2).2), ⟨by simpa using h1, h2, by show 0 < (mkExs e0 (mkTms t0 (mkFms p0 ((mkTms s0 ((kk + 1) + 1)).2 + 1)).2).2).2; omega, by show (mkExs e0 (mkTms t0 (mkFms p0 ((mkTms s0 ((kk + 1) + 1)).2 + 1)).2).2).2 + ctExs rest ≤ _; omega, by simp; omega, fun b hb => h5 b (by simp [hb])⟩, by simp, weak_hd ?_⟩
   simp -implicitDefEqProofs only [go_sem, wl, exC_eq (.mk _ _ _), Ex.form, Ex.terms, Ex.parts, Fm.op, Fm.atom, Fm.var, Fm.parts, Tm.name, Tm.args, List.map_append, List.append_assoc]
theorem markExpansionS_c (xs : List Ex) (k : Nat) (h0 : 0 < k) (hk : k + ctExs xs ≤ 4611686018427387904) : IC Tryz.prog 90 [] (.one (exS xs)) [iD k] (.one (exS (mkExs xs k).1)) [iD (mkExs xs k).2] :=
 markExpansionS_of xs (fun a _ => ex_ind (P := fun a => ∀ k : Nat, 0 < k → k + ctExs a.parts ≤ 4611686018427387904 → IC Tryz.prog 90 [] (.one (exS a.parts)) [iD k] (.one (exS (mkExs a.parts k).1)) [iD (mkExs a.parts k).2]) (fun _ _ ps ih => markExpansionS_of ps ih) a) k h0 hk
theorem heldExpansionS_of (xs : List Ex) (H : ∀ a ∈ xs, ∀ k : Nat, 0 < k → k + ctExs a.parts ≤ 4611686018427387904 → FC Tryz.prog 103 [.one (exS (mkExs a.parts k).1), iD k] [iD (mkExs a.parts k).2]) :
  ∀ k : Nat, 0 < k → k + ctExs xs ≤ 4611686018427387904 → FC Tryz.prog 103 [.one (exS (mkExs xs k).1), iD k] [iD (mkExs xs k).2] := by
 intro k h0 hk
 refine FC_of Tryz.call103 Tryz.func103 rfl (by kernel_rfl) (by simp only [rd, List.map_cons, List.map_nil, List.length_cons, List.length_nil, Tryz.ntmps103]; omega) ?_
 simp -implicitDefEqProofs only [go_sem, Tryz.results103]
 refine loop_rule (fun (x : List Ex × List Ex × Nat) => hd [(0, vT (.sl 7 (x.1.map exC ++ (mkExs x.2.1 x.2.2).1.map exC))), (1, vI x.2.2), (5, vI x.1.length)] [] [])
  (fun x => (mkExs xs k).1 = x.1 ++ (mkExs x.2.1 x.2.2).1 ∧ (mkExs xs k).2 = (mkExs x.2.1 x.2.2).2 ∧ 0 < x.2.2 ∧ x.2.2 + ctExs x.2.1 ≤ 4611686018427387904 ∧ x.1.length + x.2.1.length = xs.length ∧ ∀ a ∈ x.2.1, a ∈ xs) (fun x => x.2.1.length) ([], xs, k) (weak_hd ?_) ?_ ?_
 ·simp -implicitDefEqProofs only [go_sem]
 ·exact ⟨rfl, rfl, h0, hk, by simp, fun _ h => h⟩
 ·intro ⟨dn, rest, kk⟩ ⟨h1, h2, h3, h4, h6, h5⟩
  simp only at h1 h2 h3 h4 h5 h6
  cases rest with
  | nil =>
   simp only [mkExs, List.append_nil] at h1 h2
   simp -implicitDefEqProofs only [go_sem, h2, mkExs]
  | cons a rest =>
   obtain ⟨⟨o0, ⟨n0, s0⟩, v0, p0⟩, t0, e0⟩ := a
   simp only [mkExs, mk1Exs, ctExs, ct1Exs] at h1 h2 h4
   have hc_s0 := mkTms_ct s0 ((kk + 1) + 1)
   have hc_p0 := mkFms_ct p0 ((mkTms s0 ((kk + 1) + 1)).2 + 1)
   have hc_t0 := mkTms_ct t0 (mkFms p0 ((mkTms s0 ((kk + 1) + 1)).2 + 1)).2
   have hc_e0 := mkExs_ct e0 (mkTms t0 (mkFms p0 ((mkTms s0 ((kk + 1) + 1)).2 + 1)).2).2
   have w0 : IntKind.i64.wrap (((kk : Nat) : Int) + 1) = ((kk + 1 : Nat) : Int) := wrap_s (by omega)
   have w1 : IntKind.i64.wrap ((((kk + 1) : Nat) : Int) + 1) = (((kk + 1) + 1 : Nat) : Int) := wrap_s (by omega)
   have w2 : IntKind.i64.wrap ((((mkTms s0 ((kk + 1) + 1)).2 : Nat) : Int) + 1) = (((mkTms s0 ((kk + 1) + 1)).2 + 1 : Nat) : Int) := wrap_s (by omega)
   have hln := ctExs_len xs
   rw [List.length_cons] at h6
   have wl : IntKind.i64.wrap ((dn.length : Int) + 1) = ((dn.length + 1 : Nat) : Int) := wrap_s (by omega)
   simp -implicitDefEqProofs only [go_sem, mkExs, mk1Exs, exC_eq (.mk _ _ _), Ex.form, Ex.terms, Ex.parts, Fm.op, Fm.atom, Fm.var, Fm.parts, Tm.name, Tm.args]
   simp only [bne_self_eq_false]
   simp -implicitDefEqProofs only [go_sem, w0, w1, w2]
   refine drawn (by kernel_rfl) ?_
   simp -implicitDefEqProofs only [go_sem]
   refine dCallF (markText_c (kk + 1) (by omega) (by omega)) (by simp -implicitDefEqProofs only [go_sem, beq_self_eq_true, bne_self_eq_false, w0, w1, w2]) ?_
   simp -implicitDefEqProofs only [go_sem, beq_self_eq_true, bne_self_eq_false, w0, w1, w2]
   refine ⟨by kernel_rfl, ?_⟩
   refine callF (heldTermS_c s0 ((kk + 1) + 1) (by omega) (by omega)) (by simp -implicitDefEqProofs only [go_sem, w0, w1, w2, Ex.form, Ex.terms, Ex.parts, Fm.op, Fm.atom, Fm.var, Fm.parts, Tm.name, Tm.args]) ?_
   simp -implicitDefEqProofs only [go_sem, w0, w1, w2, Ex.form, Ex.terms, Ex.parts, Fm.op, Fm.atom, Fm.var, Fm.parts, Tm.name, Tm.args]
   refine drawn (by kernel_rfl) ?_
   simp -implicitDefEqProofs only [go_sem]
   refine dCallF (markText_c (mkTms s0 ((kk + 1) + 1)).2 (by omega) (by omega)) (by simp -implicitDefEqProofs only [go_sem, beq_self_eq_true, bne_self_eq_false, w0, w1, w2]) ?_
   simp -implicitDefEqProofs only [go_sem, beq_self_eq_true, bne_self_eq_false, w0, w1, w2]
   refine ⟨by kernel_rfl, ?_⟩
   refine callF (heldFormulaS_c p0 ((mkTms s0 ((kk + 1) + 1)).2 + 1) (by omega) (by omega)) (by simp -implicitDefEqProofs only [go_sem, w0, w1, w2, Ex.form, Ex.terms, Ex.parts, Fm.op, Fm.atom, Fm.var, Fm.parts, Tm.name, Tm.args]) ?_
   simp -implicitDefEqProofs only [go_sem, w0, w1, w2, Ex.form, Ex.terms, Ex.parts, Fm.op, Fm.atom, Fm.var, Fm.parts, Tm.name, Tm.args]
   refine callF (heldTermS_c t0 (mkFms p0 ((mkTms s0 ((kk + 1) + 1)).2 + 1)).2 (by omega) (by omega)) (by simp -implicitDefEqProofs only [go_sem, w0, w1, w2, Ex.form, Ex.terms, Ex.parts, Fm.op, Fm.atom, Fm.var, Fm.parts, Tm.name, Tm.args]) ?_
   simp -implicitDefEqProofs only [go_sem, w0, w1, w2, Ex.form, Ex.terms, Ex.parts, Fm.op, Fm.atom, Fm.var, Fm.parts, Tm.name, Tm.args]
   refine callF (H (.mk (.mk o0 (.mk n0 s0) v0 p0) t0 e0) (h5 _ (by simp)) (mkTms t0 (mkFms p0 ((mkTms s0 ((kk + 1) + 1)).2 + 1)).2).2 (by omega) (by show (mkTms t0 (mkFms p0 ((mkTms s0 ((kk + 1) + 1)).2 + 1)).2).2 + ctExs e0 ≤ _; omega)) (by simp -implicitDefEqProofs only [go_sem, w0, w1, w2, Ex.form, Ex.terms, Ex.parts, Fm.op, Fm.atom, Fm.var, Fm.parts, Tm.name, Tm.args]) ?_
   simp -implicitDefEqProofs only [go_sem, w0, w1, w2, Ex.form, Ex.terms, Ex.parts, Fm.op, Fm.atom, Fm.var, Fm.parts, Tm.name, Tm.args]
   refine ⟨(dn ++ [.mk (.mk ((kk : Nat) : Int) (.mk (mtx (kk + 1)) (mkTms s0 ((kk + 1) + 1)).1) (mtx (mkTms s0 ((kk + 1) + 1)).2) (mkFms p0 ((mkTms s0 ((kk + 1) + 1)).2 + 1)).1) (mkTms t0 (mkFms p0 ((mkTms s0 ((kk + 1) + 1)).2 + 1)).2).1 (mkExs e0 (mkTms t0 (mkFms p0 ((mkTms s0 ((kk + 1) + 1)).2 + 1)).2).2).1], rest, (mkExs e0 (mkTms t0 (mkFms p0 ((mkTms s0 ((kk + 1) + 1)).2 + 1)).2).2).2), ⟨by simpa using h1, h2, by show 0 < (mkExs e0 (mkTms t0 (mkFms p0 ((mkTms s0 ((kk + 1) + 1)).2 + 1)).2).2).2; omega, by show (mkExs e0 (mkTms t0 (mkFms p0 ((mkTms s0 ((kk + 1) + 1)).2 + 1)).2).2).2 + ctExs rest ≤ _; omega, by simp; omega, fun b hb => h5 b (by simp [hb])⟩, by simp, weak_hd ?_⟩
   simp -implicitDefEqProofs only [go_sem, wl, exC_eq (.mk _ _ _), Ex.form, Ex.terms, Ex.parts, Fm.op, Fm.atom, Fm.var, Fm.parts, Tm.name, Tm.args, List.map_append, List.append_assoc]
theorem heldExpansionS_c (xs : List Ex) (k : Nat) (h0 : 0 < k) (hk : k + ctExs xs ≤ 4611686018427387904) : FC Tryz.prog 103 [.one (exS (mkExs xs k).1), iD k] [iD (mkExs xs k).2] :=
 heldExpansionS_of xs (fun a _ => ex_ind (P := fun a => ∀ k : Nat, 0 < k → k + ctExs a.parts ≤ 4611686018427387904 → FC Tryz.prog 103 [.one (exS (mkExs a.parts k).1), iD k] [iD (mkExs a.parts k).2]) (fun _ _ ps ih => heldExpansionS_of ps ih) a) k h0 hk
end Go.Proofs.YtbccfiillleimaaGreat
namespace Go.Proofs.YtbccfiillleimaaGreat
set_option linter.unusedSimpArgs false
set_option linter.unusedVariables false
set_option linter.unusedSectionVars false
set_option maxRecDepth 4000
open Go.RowKit
def mkTExpansion : Ex → Nat → Ex × Nat
 | .mk (.mk o0 (.mk n0 s0) v0 p0) t0 e0, k => (.mk (.mk o0 (.mk n0 (mkTms s0 k).1) v0 (mkFms p0 (mkTms s0 k).2).1) (mkTms t0 (mkFms p0 (mkTms s0 k).2).2).1 (mkExs e0 (mkTms t0 (mkFms p0 (mkTms s0 k).2).2).2).1, (mkExs e0 (mkTms t0 (mkFms p0 (mkTms s0 k).2).2).2).2)
def ctTExpansion : Ex → Nat
 | .mk (.mk _ (.mk _ s0) _ p0) t0 e0 => ctTms s0 + ctFms p0 + ctTms t0 + ctExs e0
theorem mkTExpansion_ct : ∀ (a : Ex) (k : Nat), k ≤ (mkTExpansion a k).2 ∧ (mkTExpansion a k).2 ≤ k + ctTExpansion a
 | .mk (.mk o0 (.mk n0 s0) v0 p0) t0 e0, k => by
  have h1 := mkTms_ct s0 k
  have h2 := mkFms_ct p0 (mkTms s0 k).2
  have h3 := mkTms_ct t0 (mkFms p0 (mkTms s0 k).2).2
  have h4 := mkExs_ct e0 (mkTms t0 (mkFms p0 (mkTms s0 k).2).2).2
  simp only [mkTExpansion, ctTExpansion]; omega
mutual
theorem ct1Exs_wt : ∀ a : Ex, ct1Exs a ≤ 6 + 6 * a.wt
 | .mk (.mk o (.mk n s) v p) t e => by
  have h1 := ctTms_wt s
  have h2 := ctFms_wt p
  have h3 := ctTms_wt t
  have h4 := ctExs_wt e
  rw [Ex.wt_eq, ct1Exs]; unfold fmsW at h2; unfold exsW at h4
  simp only [Ex.form, Ex.terms, Ex.parts]
  rw [Fm.wt_eq]
  simp only [Fm.atom, Fm.var, Fm.parts]
  rw [Tm.wt_eq]
  have e1 : tmsW s = s.length + (s.map Tm.wt).sum := rfl
  simp only [Tm.name, Tm.args]; omega
theorem ctExs_wt : ∀ xs : List Ex, ctExs xs ≤ 6 * exsW xs
 | [] => by simp [ctExs]
 | a :: xs => by
  have h1 := ct1Exs_wt a
  have h2 := ctExs_wt xs
  unfold exsW at h2 ⊢
  rw [ctExs, List.length_cons, List.map_cons, List.sum_cons]; omega
end
theorem ctTExpansion_wt (a : Ex) : ctTExpansion a ≤ 6 * a.wt := by
 obtain ⟨⟨o, ⟨n, s⟩, v, p⟩, t, e⟩ := a
 have h1 := ctTms_wt s
 have h2 := ctFms_wt p
 have h3 := ctTms_wt t
 have h4 := ctExs_wt e
 rw [Ex.wt_eq, ctTExpansion]; unfold fmsW at h2; unfold exsW at h4
 simp only [Ex.form, Ex.terms, Ex.parts]
 rw [Fm.wt_eq]
 simp only [Fm.atom, Fm.var, Fm.parts]
 rw [Tm.wt_eq]
 have e1 : tmsW s = s.length + (s.map Tm.wt).sum := rfl
 simp only [Tm.name, Tm.args]; omega
theorem mkTExpansion_cells (e : Ex) (k : Nat) : exC (mkTExpansion e k).1 = [.int .i64 e.form.op, .str e.form.atom.name, .sl 2 ((mkTExpansion e k).1.form.atom.args.map tmC), .str e.form.var, .sl 5 ((mkTExpansion e k).1.form.parts.map fmC), .sl 2 ((mkTExpansion e k).1.terms.map tmC), .sl 7 ((mkTExpansion e k).1.parts.map exC)] := by
 obtain ⟨⟨o, ⟨n, s⟩, v, p⟩, t, ps⟩ := e
 rw [exC_eq]; rfl
theorem markExpansion_c (a : Ex) (k : Nat) (h0 : 0 < k) (hk : k + ctTExpansion a ≤ 4611686018427387904) : IC Tryz.prog 36 [] (.agg (exC a)) [iD k] (.agg (exC (mkTExpansion a k).1)) [iD (mkTExpansion a k).2] := by
 obtain ⟨⟨o0, ⟨n0, s0⟩, v0, p0⟩, t0, e0⟩ := a
 simp only [ctTExpansion] at hk
 have hc0 := mkTms_ct s0 k
 have hc1 := mkFms_ct p0 (mkTms s0 k).2
 have hc2 := mkTms_ct t0 (mkFms p0 (mkTms s0 k).2).2
 have H1 := markFormula_c (.mk o0 (.mk n0 s0) v0 p0) k h0 (by simp only [ctTFormula, ctTTerm]; omega)
 have H2 := markTermS_c t0 (mkFms p0 (mkTms s0 k).2).2 (by omega) (by omega)
 have H3 := markExpansionS_c e0 (mkTms t0 (mkFms p0 (mkTms s0 k).2).2).2 (by omega) (by omega)
 simp only [fmC_eq (.mk _ _ _ _), exC_eq (.mk _ _ _), tmC_eq (.mk _ _), Ex.form, Ex.terms, Ex.parts, Fm.op, Fm.atom, Fm.var, Fm.parts, Tm.name, Tm.args, mkTExpansion, mkTFormula, mkTTerm] at H1 H2 H3 ⊢
 generalize (mkTms s0 k).1 = s1 at H1 ⊢
 generalize (mkFms p0 (mkTms s0 k).2).1 = p1 at H1 ⊢
 generalize (mkFms p0 (mkTms s0 k).2).2 = k2 at H1 H2 H3 ⊢
 generalize (mkTms t0 k2).1 = t1 at H2 ⊢
 generalize (mkTms t0 k2).2 = k3 at H2 H3 ⊢
 generalize (mkExs e0 k3).1 = e1 at H3 ⊢
 generalize (mkExs e0 k3).2 = k4 at H3 ⊢
 refine IC_of Tryz.call36 Tryz.func36 rfl (by kernel_rfl) (by simp only [argsI, rd, List.map_cons, List.map_nil, List.nil_append, List.length_cons, List.length_nil, Tryz.ntmps36]; omega) (by simp only [Tryz.ntmps36]; omega) ⟨⟨by simp, by simp [T.isPin]⟩, smallG_rd _⟩ trivial ?_
 simp -implicitDefEqProofs only [go_sem, Tryz.results36, initI, argsI, PI]
 refine callIdL [1000000, 2, 6, 7] (H1) (by simp -implicitDefEqProofs only [go_sem]) (by simp -implicitDefEqProofs only [go_sem]) (by simp -implicitDefEqProofs only [go_sem]) (by simp -implicitDefEqProofs only [go_sem]) (by simp -implicitDefEqProofs only [go_sem]) rfl ?_
 simp -implicitDefEqProofs only [go_sem]
 refine callIdL [1000000, 2, 10, 11] (H2) (by simp -implicitDefEqProofs only [go_sem]) (by simp -implicitDefEqProofs only [go_sem]) (by simp -implicitDefEqProofs only [go_sem]) (by simp -implicitDefEqProofs only [go_sem]) (by simp -implicitDefEqProofs only [go_sem]) rfl ?_
 simp -implicitDefEqProofs only [go_sem]
 refine callIdL [1000000, 2, 14, 15] (H3) (by simp -implicitDefEqProofs only [go_sem]) (by simp -implicitDefEqProofs only [go_sem]) (by simp -implicitDefEqProofs only [go_sem]) (by simp -implicitDefEqProofs only [go_sem]) (by simp -implicitDefEqProofs only [go_sem]) rfl ?_
 simp -implicitDefEqProofs only [go_sem]
theorem heldExpansion_c (a : Ex) (k : Nat) (h0 : 0 < k) (hk : k + ctTExpansion a ≤ 4611686018427387904) : FC Tryz.prog 49 [.agg (exC (mkTExpansion a k).1), iD k] [iD (mkTExpansion a k).2] := by
 obtain ⟨⟨o0, ⟨n0, s0⟩, v0, p0⟩, t0, e0⟩ := a
 simp only [ctTExpansion] at hk
 have hc0 := mkTms_ct s0 k
 have hc1 := mkFms_ct p0 (mkTms s0 k).2
 have hc2 := mkTms_ct t0 (mkFms p0 (mkTms s0 k).2).2
 have H1 := heldFormula_c (.mk o0 (.mk n0 s0) v0 p0) k h0 (by simp only [ctTFormula, ctTTerm]; omega)
 have H2 := heldTermS_c t0 (mkFms p0 (mkTms s0 k).2).2 (by omega) (by omega)
 have H3 := heldExpansionS_c e0 (mkTms t0 (mkFms p0 (mkTms s0 k).2).2).2 (by omega) (by omega)
 simp only [fmC_eq (.mk _ _ _ _), exC_eq (.mk _ _ _), tmC_eq (.mk _ _), Ex.form, Ex.terms, Ex.parts, Fm.op, Fm.atom, Fm.var, Fm.parts, Tm.name, Tm.args, mkTExpansion, mkTFormula, mkTTerm] at H1 H2 H3 ⊢
 refine FC_of Tryz.call49 Tryz.func49 rfl (by kernel_rfl) (by simp only [rd, List.map_cons, List.map_nil, List.length_cons, List.length_nil, Tryz.ntmps49]; omega) ?_
 simp -implicitDefEqProofs only [go_sem, Tryz.results49]
 refine callF (H1) (by simp -implicitDefEqProofs only [go_sem]) ?_
 simp -implicitDefEqProofs only [go_sem]
 refine callF (H2) (by simp -implicitDefEqProofs only [go_sem]) ?_
 simp -implicitDefEqProofs only [go_sem]
 refine callF (H3) (by simp -implicitDefEqProofs only [go_sem]) ?_
 simp -implicitDefEqProofs only [go_sem]
end Go.Proofs.YtbccfiillleimaaGreat
namespace Go.Proofs.YtbccfiillleimaaGreat
set_option linter.unusedSimpArgs false
set_option linter.unusedVariables false
set_option linter.unusedSectionVars false
set_option maxRecDepth 4000
open Go.RowKit
noncomputable def mgOk (a b : Ex) (pos : Bool) : Bool := specOk a pos && specOk b pos && same a.form b.form && (mrg a b pos).2 && specOk (mrg a b pos).1 pos
noncomputable def mgR (a b : Ex) (pos : Bool) : Ex := if mgOk a b pos = true then (mrg a b pos).1 else Ex.zero
theorem zero_wt : Ex.zero.wt = 0 := rfl
theorem mgR_wt (a b : Ex) (pos : Bool) : (mgR a b pos).wt ≤ a.wt + b.wt := by
 unfold mgR
 split
 ·rename_i h
  unfold mgOk at h
  simp only [Bool.and_eq_true] at h
  obtain ⟨⟨⟨⟨h1, h2⟩, h3⟩, h4⟩, _⟩ := h
  exact mrg_wt a b pos (specOk_node h1).2.1 (specOk_node h2).2.1 (same_iff.1 h3) h4
 ·rw [zero_wt]; omega
set_option maxHeartbeats 4000000 in
theorem implMergeExpansions_c (a b : Ex) (hab : a.wt + b.wt ≤ 1048576) (pos : Bool) : FC Tryz.prog 53 [exD a, exD b, bD pos] [exD (mgR a b pos), bD (mgOk a b pos)] := by
 have H1 := isValidExpansion_c a (by omega) pos
 have H2 := isValidExpansion_c b (by omega) pos
 have H3 := sameFormula_c a.form b.form
 rw [exp_spec] at H1 H2
 simp only [exD, exC_eq a, exC_eq b, fmD, fmC_eq a.form, fmC_eq b.form] at H1 H2 H3
 unfold mgR
 obtain ⟨ok, hok⟩ : ∃ ok, mgOk a b pos = ok := ⟨_, rfl⟩
 rw [hok]
 unfold mgOk at hok
 cases h1 : specOk a pos
 ·rw [h1] at H1 hok
  simp only [Bool.false_and] at hok
  subst hok
  rw [if_neg (by simp)]
  simp only [exD, exC_eq a, exC_eq b, exC_zero]
  refine FC_of Tryz.call53 Tryz.func53 rfl (by kernel_rfl) (by simp only [rd, List.map_cons, List.map_nil, List.length_cons, List.length_nil, Tryz.ntmps53]; omega) ?_
  simp -implicitDefEqProofs only [go_sem, Tryz.results53]
  refine callF (H1) (by simp -implicitDefEqProofs only [go_sem]) ?_
  simp -implicitDefEqProofs only [go_sem]
 ·rw [h1] at H1 hok
  cases h2 : specOk b pos
  ·rw [h2] at H2 hok
   simp only [Bool.false_and, Bool.and_false] at hok
   subst hok
   rw [if_neg (by simp)]
   simp only [exD, exC_eq a, exC_eq b, exC_zero]
   refine FC_of Tryz.call53 Tryz.func53 rfl (by kernel_rfl) (by simp only [rd, List.map_cons, List.map_nil, List.length_cons, List.length_nil, Tryz.ntmps53]; omega) ?_
   simp -implicitDefEqProofs only [go_sem, Tryz.results53]
   refine callF (H1) (by simp -implicitDefEqProofs only [go_sem]) ?_
   simp -implicitDefEqProofs only [go_sem]
   refine callF (H2) (by simp -implicitDefEqProofs only [go_sem]) ?_
   simp -implicitDefEqProofs only [go_sem]
  ·rw [h2] at H2 hok
   cases h3 : same a.form b.form
   ·rw [h3] at H3 hok
    simp only [Bool.false_and, Bool.and_false] at hok
    subst hok
    rw [if_neg (by simp)]
    simp only [exD, exC_eq a, exC_eq b, exC_zero]
    refine FC_of Tryz.call53 Tryz.func53 rfl (by kernel_rfl) (by simp only [rd, List.map_cons, List.map_nil, List.length_cons, List.length_nil, Tryz.ntmps53]; omega) ?_
    simp -implicitDefEqProofs only [go_sem, Tryz.results53]
    refine callF (H1) (by simp -implicitDefEqProofs only [go_sem]) ?_
    simp -implicitDefEqProofs only [go_sem]
    refine callF (H2) (by simp -implicitDefEqProofs only [go_sem]) ?_
    simp -implicitDefEqProofs only [go_sem]
    refine callF (H3) (by simp -implicitDefEqProofs only [go_sem]) ?_
    simp -implicitDefEqProofs only [go_sem]
   ·rw [h3] at H3 hok
    have HM := merge_c a (by omega) b (by omega) pos (specOk_node h1).2.1 (specOk_node h2).2.1 (same_iff.1 h3)
    have hw := mrg_wt a b pos (specOk_node h1).2.1 (specOk_node h2).2.1 (same_iff.1 h3)
    unfold mgP mrgI at HM
    generalize mrg a b pos = q at HM hok hw ⊢
    cases h4 : q.2
    ·rw [h4, if_neg (by simp)] at HM
     rw [h4] at hok
     simp only [Bool.false_and, Bool.and_false] at hok
     subst hok
     rw [if_neg (by simp)]
     simp only [exD, exC_eq a, exC_eq b, exC_zero] at HM ⊢
     refine FC_of Tryz.call53 Tryz.func53 rfl (by kernel_rfl) (by simp only [rd, List.map_cons, List.map_nil, List.length_cons, List.length_nil, Tryz.ntmps53]; omega) ?_
     simp -implicitDefEqProofs only [go_sem, Tryz.results53]
     refine callF (H1) (by simp -implicitDefEqProofs only [go_sem]) ?_
     simp -implicitDefEqProofs only [go_sem]
     refine callF (H2) (by simp -implicitDefEqProofs only [go_sem]) ?_
     simp -implicitDefEqProofs only [go_sem]
     refine callF (H3) (by simp -implicitDefEqProofs only [go_sem]) ?_
     simp -implicitDefEqProofs only [go_sem]
     refine callF (HM) (by simp -implicitDefEqProofs only [go_sem]) ?_
     simp -implicitDefEqProofs only [go_sem]
    ·rw [h4, if_pos rfl] at HM
     rw [h4] at hok
     have hw := hw h4
     have H5 := isValidExpansion_c q.1 (by omega) pos
     rw [exp_spec] at H5
     simp only [Bool.true_and] at hok
     rw [hok] at H5
     cases ok
     ·rw [if_neg (by simp)]
      simp only [exD, exC_eq a, exC_eq b, exC_zero, exC_eq q.1, h4] at HM H5 ⊢
      refine FC_of Tryz.call53 Tryz.func53 rfl (by kernel_rfl) (by simp only [rd, List.map_cons, List.map_nil, List.length_cons, List.length_nil, Tryz.ntmps53]; omega) ?_
      simp -implicitDefEqProofs only [go_sem, Tryz.results53]
      refine callF (H1) (by simp -implicitDefEqProofs only [go_sem]) ?_
      simp -implicitDefEqProofs only [go_sem]
      refine callF (H2) (by simp -implicitDefEqProofs only [go_sem]) ?_
      simp -implicitDefEqProofs only [go_sem]
      refine callF (H3) (by simp -implicitDefEqProofs only [go_sem]) ?_
      simp -implicitDefEqProofs only [go_sem]
      refine callF (HM) (by simp -implicitDefEqProofs only [go_sem]) ?_
      simp -implicitDefEqProofs only [go_sem]
      refine callF (H5) (by simp -implicitDefEqProofs only [go_sem]) ?_
      simp -implicitDefEqProofs only [go_sem]
     ·rw [if_pos rfl]
      simp only [exD, exC_eq a, exC_eq b, exC_eq q.1, h4] at HM H5 ⊢
      refine FC_of Tryz.call53 Tryz.func53 rfl (by kernel_rfl) (by simp only [rd, List.map_cons, List.map_nil, List.length_cons, List.length_nil, Tryz.ntmps53]; omega) ?_
      simp -implicitDefEqProofs only [go_sem, Tryz.results53]
      refine callF (H1) (by simp -implicitDefEqProofs only [go_sem]) ?_
      simp -implicitDefEqProofs only [go_sem]
      refine callF (H2) (by simp -implicitDefEqProofs only [go_sem]) ?_
      simp -implicitDefEqProofs only [go_sem]
      refine callF (H3) (by simp -implicitDefEqProofs only [go_sem]) ?_
      simp -implicitDefEqProofs only [go_sem]
      refine callF (HM) (by simp -implicitDefEqProofs only [go_sem]) ?_
      simp -implicitDefEqProofs only [go_sem]
      refine callF (H5) (by simp -implicitDefEqProofs only [go_sem]) ?_
      simp -implicitDefEqProofs only [go_sem]
set_option maxHeartbeats 4000000 in
theorem specMergeExpansions_c (a b : Ex) (hab : a.wt + b.wt ≤ 1048576) (pos : Bool) : FC Tryz.prog 52 [exD a, exD b, bD pos] [exD (mgR a b pos), bD (mgOk a b pos)] := by
 have H1 := l17Good_c a (by omega) pos
 have H2 := l17Good_c b (by omega) pos
 have H3 := l8Same_c a.form b.form
 simp only [exD, exC_eq a, exC_eq b, fmD, fmC_eq a.form, fmC_eq b.form] at H1 H2 H3
 unfold mgR
 obtain ⟨ok, hok⟩ : ∃ ok, mgOk a b pos = ok := ⟨_, rfl⟩
 rw [hok]
 unfold mgOk at hok
 cases h1 : specOk a pos
 ·rw [h1] at H1 hok
  simp only [Bool.false_and] at hok
  subst hok
  rw [if_neg (by simp)]
  simp only [exD, exC_eq a, exC_eq b, exC_zero]
  refine FC_of Tryz.call52 Tryz.func52 rfl (by kernel_rfl) (by simp only [rd, List.map_cons, List.map_nil, List.length_cons, List.length_nil, Tryz.ntmps52]; omega) ?_
  simp -implicitDefEqProofs only [go_sem, Tryz.results52]
  refine callF (H1) (by simp -implicitDefEqProofs only [go_sem]) ?_
  simp -implicitDefEqProofs only [go_sem]
 ·rw [h1] at H1 hok
  cases h2 : specOk b pos
  ·rw [h2] at H2 hok
   simp only [Bool.false_and, Bool.and_false] at hok
   subst hok
   rw [if_neg (by simp)]
   simp only [exD, exC_eq a, exC_eq b, exC_zero]
   refine FC_of Tryz.call52 Tryz.func52 rfl (by kernel_rfl) (by simp only [rd, List.map_cons, List.map_nil, List.length_cons, List.length_nil, Tryz.ntmps52]; omega) ?_
   simp -implicitDefEqProofs only [go_sem, Tryz.results52]
   refine callF (H1) (by simp -implicitDefEqProofs only [go_sem]) ?_
   simp -implicitDefEqProofs only [go_sem]
   refine callF (H2) (by simp -implicitDefEqProofs only [go_sem]) ?_
   simp -implicitDefEqProofs only [go_sem]
  ·rw [h2] at H2 hok
   cases h3 : same a.form b.form
   ·rw [h3] at H3 hok
    simp only [Bool.false_and, Bool.and_false] at hok
    subst hok
    rw [if_neg (by simp)]
    simp only [exD, exC_eq a, exC_eq b, exC_zero]
    refine FC_of Tryz.call52 Tryz.func52 rfl (by kernel_rfl) (by simp only [rd, List.map_cons, List.map_nil, List.length_cons, List.length_nil, Tryz.ntmps52]; omega) ?_
    simp -implicitDefEqProofs only [go_sem, Tryz.results52]
    refine callF (H1) (by simp -implicitDefEqProofs only [go_sem]) ?_
    simp -implicitDefEqProofs only [go_sem]
    refine callF (H2) (by simp -implicitDefEqProofs only [go_sem]) ?_
    simp -implicitDefEqProofs only [go_sem]
    refine callF (H3) (by simp -implicitDefEqProofs only [go_sem]) ?_
    simp -implicitDefEqProofs only [go_sem]
   ·rw [h3] at H3 hok
    have HM := l17Merge_c a (by omega) b (by omega) pos (specOk_node h1).2.1 (specOk_node h2).2.1 (same_iff.1 h3)
    have hw := mrg_wt a b pos (specOk_node h1).2.1 (specOk_node h2).2.1 (same_iff.1 h3)
    unfold mrgP at HM
    generalize mrg a b pos = q at HM hok hw ⊢
    cases h4 : q.2
    ·rw [h4] at HM hok
     simp only [Bool.false_and, Bool.and_false] at hok
     subst hok
     rw [if_neg (by simp)]
     simp only [exD, exC_eq a, exC_eq b, exC_zero, exC_eq q.1] at HM ⊢
     refine FC_of Tryz.call52 Tryz.func52 rfl (by kernel_rfl) (by simp only [rd, List.map_cons, List.map_nil, List.length_cons, List.length_nil, Tryz.ntmps52]; omega) ?_
     simp -implicitDefEqProofs only [go_sem, Tryz.results52]
     refine callF (H1) (by simp -implicitDefEqProofs only [go_sem]) ?_
     simp -implicitDefEqProofs only [go_sem]
     refine callF (H2) (by simp -implicitDefEqProofs only [go_sem]) ?_
     simp -implicitDefEqProofs only [go_sem]
     refine callF (H3) (by simp -implicitDefEqProofs only [go_sem]) ?_
     simp -implicitDefEqProofs only [go_sem]
     refine callF (HM) (by simp -implicitDefEqProofs only [go_sem]) ?_
     simp -implicitDefEqProofs only [go_sem]
    ·rw [h4] at HM hok
     have hw := hw h4
     have H5 := l17Good_c q.1 (by omega) pos
     simp only [Bool.true_and] at hok
     rw [hok] at H5
     cases ok
     ·rw [if_neg (by simp)]
      simp only [exD, exC_eq a, exC_eq b, exC_zero, exC_eq q.1] at HM H5 ⊢
      refine FC_of Tryz.call52 Tryz.func52 rfl (by kernel_rfl) (by simp only [rd, List.map_cons, List.map_nil, List.length_cons, List.length_nil, Tryz.ntmps52]; omega) ?_
      simp -implicitDefEqProofs only [go_sem, Tryz.results52]
      refine callF (H1) (by simp -implicitDefEqProofs only [go_sem]) ?_
      simp -implicitDefEqProofs only [go_sem]
      refine callF (H2) (by simp -implicitDefEqProofs only [go_sem]) ?_
      simp -implicitDefEqProofs only [go_sem]
      refine callF (H3) (by simp -implicitDefEqProofs only [go_sem]) ?_
      simp -implicitDefEqProofs only [go_sem]
      refine callF (HM) (by simp -implicitDefEqProofs only [go_sem]) ?_
      simp -implicitDefEqProofs only [go_sem]
      refine callF (H5) (by simp -implicitDefEqProofs only [go_sem]) ?_
      simp -implicitDefEqProofs only [go_sem]
     ·rw [if_pos rfl]
      simp only [exD, exC_eq a, exC_eq b, exC_eq q.1] at HM H5 ⊢
      refine FC_of Tryz.call52 Tryz.func52 rfl (by kernel_rfl) (by simp only [rd, List.map_cons, List.map_nil, List.length_cons, List.length_nil, Tryz.ntmps52]; omega) ?_
      simp -implicitDefEqProofs only [go_sem, Tryz.results52]
      refine callF (H1) (by simp -implicitDefEqProofs only [go_sem]) ?_
      simp -implicitDefEqProofs only [go_sem]
      refine callF (H2) (by simp -implicitDefEqProofs only [go_sem]) ?_
      simp -implicitDefEqProofs only [go_sem]
      refine callF (H3) (by simp -implicitDefEqProofs only [go_sem]) ?_
      simp -implicitDefEqProofs only [go_sem]
      refine callF (HM) (by simp -implicitDefEqProofs only [go_sem]) ?_
      simp -implicitDefEqProofs only [go_sem]
      refine callF (H5) (by simp -implicitDefEqProofs only [go_sem]) ?_
      simp -implicitDefEqProofs only [go_sem]
set_option maxHeartbeats 8000000 in
theorem lawMergeExpansions_c (a b : Ex) (pos : Bool) : FC Tryz.prog 12 [exD a, exD b, bD pos] [bD true] := by
 have HZ := szExpansion_c a 1048576 (by omega) (by omega)
 simp only [exD, exC_eq a, exC_eq b] at HZ ⊢
 refine FC_ofN Tryz.call12 Tryz.func12 rfl (by kernel_rfl) (by simp only [rd, List.map_cons, List.map_nil, List.length_cons, List.length_nil, Tryz.ntmps12]; omega) ?_
 simp -implicitDefEqProofs only [go_sem, Tryz.results12]
 refine callF (HZ) (by simp -implicitDefEqProofs only [go_sem]) ?_
 simp -implicitDefEqProofs only [go_sem]
 refine ⟨fun h => trivial, fun h => ?_⟩
 obtain ⟨hwa, hs⟩ := szR_pos (by simpa using h)
 have HZ2 := szExpansion_c b (1048576 - (a.wt : Int)) (by omega) (by omega)
 simp only [exD, exC_eq b] at HZ2
 rw [hs]
 refine callF (HZ2) (by simp -implicitDefEqProofs only [go_sem]) ?_
 simp -implicitDefEqProofs only [go_sem]
 refine ⟨fun h => trivial, fun h => ?_⟩
 have hab : a.wt + b.wt ≤ 1048576 := by have := (szR_pos (by simpa using h)).1; omega
 have hrw := Nat.le_trans (mgR_wt a b pos) hab
 have HS := specMergeExpansions_c a b hab pos
 have HI := implMergeExpansions_c a b hab pos
 have HT := toExpansion_c a (by omega)
 have HT2 := toExpansion_c b (by omega)
 have HE := eqExpansion_c a a
 have HE2 := eqExpansion_c b b
 generalize mgOk a b pos = G at HS HI
 generalize mgR a b pos = R at HS HI hrw
 have HF := eqExpansion_c R R
 simp only [exD, exC_eq a, exC_eq b, exC_eq R] at HS HI HT HT2 HE HE2 HF
 refine drawn (by kernel_rfl) ?_
 simp -implicitDefEqProofs only [go_sem]
 refine dCallF (HT) (by simp -implicitDefEqProofs only [go_sem]) ?_
 simp -implicitDefEqProofs only [go_sem]
 refine dCallF (HT2) (by simp -implicitDefEqProofs only [go_sem]) ?_
 simp -implicitDefEqProofs only [go_sem]
 refine dCallF (HS) (by simp -implicitDefEqProofs only [go_sem]) ?_
 simp -implicitDefEqProofs only [go_sem]
 refine ⟨by kernel_rfl, ?_⟩
 refine callF (HT) (by simp -implicitDefEqProofs only [go_sem]) ?_
 simp -implicitDefEqProofs only [go_sem]
 refine callF (HT2) (by simp -implicitDefEqProofs only [go_sem]) ?_
 simp -implicitDefEqProofs only [go_sem]
 refine callF (HI) (by simp -implicitDefEqProofs only [go_sem]) ?_
 simp -implicitDefEqProofs only [go_sem]
 refine callF (HF) (by simp -implicitDefEqProofs only [go_sem, same_self]) ?_
 simp -implicitDefEqProofs only [go_sem, same_self]
 refine ⟨fun h => by simp at h, fun _ => ?_⟩
 refine drawn (by kernel_rfl) ?_
 simp -implicitDefEqProofs only [go_sem]
 refine dCallF (HT) (by simp -implicitDefEqProofs only [go_sem]) ?_
 simp -implicitDefEqProofs only [go_sem]
 refine dCallF (HE) (by simp -implicitDefEqProofs only [go_sem]) ?_
 simp -implicitDefEqProofs only [go_sem]
 refine ⟨by kernel_rfl, fun h => ?_, fun _ => ?_⟩
 ·simp [same_self] at h
 refine drawn (by kernel_rfl) ?_
 simp -implicitDefEqProofs only [go_sem]
 refine dCallF (HT2) (by simp -implicitDefEqProofs only [go_sem]) ?_
 simp -implicitDefEqProofs only [go_sem]
 refine dCallF (HE2) (by simp -implicitDefEqProofs only [go_sem]) ?_
 simp -implicitDefEqProofs only [go_sem]
 refine ⟨by kernel_rfl, fun h => ?_, fun _ => ?_⟩
 ·simp [same_self] at h
 have hca := ctTExpansion_wt a
 have hcb := ctTExpansion_wt b
 have hcR := ctTExpansion_wt R
 have hka := mkTExpansion_ct a 1
 have HM1 := markExpansion_c a 1 (by omega) (by omega)
 have HMb := markExpansion_c b (mkTExpansion a 1).2 (by omega) (by omega)
 have HM2 := markExpansion_c R 1 (by omega) (by omega)
 have HL := heldExpansion_c R 1 (by omega) (by omega)
 have hkb := (mkTExpansion_ct b (mkTExpansion a 1).2).1
 have hmR := (mkTExpansion_ct R 1).1
 rw [mkTExpansion_cells] at HM1 HMb HM2 HL
 generalize (mkTExpansion a 1).1.form.atom.args = f2 at HM1
 generalize (mkTExpansion a 1).1.form.parts = f5 at HM1
 generalize (mkTExpansion a 1).1.terms = f6 at HM1
 generalize (mkTExpansion a 1).1.parts = f7 at HM1
 generalize (mkTExpansion a 1).2 = k1 at HM1 HMb hka hkb
 generalize (mkTExpansion b k1).1.form.atom.args = g2 at HMb
 generalize (mkTExpansion b k1).1.form.parts = g5 at HMb
 generalize (mkTExpansion b k1).1.terms = g6 at HMb
 generalize (mkTExpansion b k1).1.parts = g7 at HMb
 generalize (mkTExpansion b k1).2 = k2 at HMb hkb
 generalize (mkTExpansion R 1).1.form.atom.args = r2 at HM2 HL
 generalize (mkTExpansion R 1).1.form.parts = r5 at HM2 HL
 generalize (mkTExpansion R 1).1.terms = r6 at HM2 HL
 generalize (mkTExpansion R 1).1.parts = r7 at HM2 HL
 generalize (mkTExpansion R 1).2 = k3 at HM2 HL hmR
 rw [exC_eq] at HM1 HMb HM2
 refine callIdL [2, 3, 4, 6, 8, 9, 10, 11, 12, 13, 68, 69] (HM1) (by simp -implicitDefEqProofs only [go_sem]) (by simp -implicitDefEqProofs only [go_sem]) (by simp -implicitDefEqProofs only [go_sem]) (by simp -implicitDefEqProofs only [go_sem]) (by simp -implicitDefEqProofs only [go_sem]) rfl ?_
 simp -implicitDefEqProofs only [go_sem]
 refine callIdL [2, 3, 4, 6, 8, 9, 11, 12, 13, 71, 72] (HMb) (by simp -implicitDefEqProofs only [go_sem]) (by simp -implicitDefEqProofs only [go_sem]) (by simp -implicitDefEqProofs only [go_sem]) (by simp -implicitDefEqProofs only [go_sem]) (by simp -implicitDefEqProofs only [go_sem]) rfl ?_
 simp -implicitDefEqProofs only [go_sem]
 refine callF (HF) (by simp -implicitDefEqProofs only [go_sem, same_self]) ?_
 simp -implicitDefEqProofs only [go_sem, same_self]
 refine ⟨fun h => by simp at h, fun _ => ?_⟩
 refine callIdL [2, 3, 4, 6, 8, 9, 12, 13, 87, 88] (HM2) (by simp -implicitDefEqProofs only [go_sem]) (by simp -implicitDefEqProofs only [go_sem]) (by simp -implicitDefEqProofs only [go_sem]) (by simp -implicitDefEqProofs only [go_sem]) (by simp -implicitDefEqProofs only [go_sem]) rfl ?_
 simp -implicitDefEqProofs only [go_sem]
 refine callF (HL) (by simp -implicitDefEqProofs only [go_sem]) ?_
 simp -implicitDefEqProofs only [go_sem]
 refine ⟨fun h => by simp at h, fun _ => ?_⟩
 refine drawn (by kernel_rfl) ?_
 simp -implicitDefEqProofs only [go_sem]
 refine dCallF (HT) (by simp -implicitDefEqProofs only [go_sem]) ?_
 simp -implicitDefEqProofs only [go_sem]
 refine dCallF (HT2) (by simp -implicitDefEqProofs only [go_sem]) ?_
 simp -implicitDefEqProofs only [go_sem]
 refine dCallF (HI) (by simp -implicitDefEqProofs only [go_sem]) ?_
 simp -implicitDefEqProofs only [go_sem]
 refine ⟨by kernel_rfl, ?_⟩
 refine callF (HF) (by simp -implicitDefEqProofs only [go_sem, same_self]) ?_
 simp -implicitDefEqProofs only [go_sem, same_self]
 refine ⟨fun h => by simp at h, fun _ => ?_⟩
 refine callF (HL) (by simp -implicitDefEqProofs only [go_sem]) ?_
 simp -implicitDefEqProofs only [go_sem]
 refine ⟨fun h => by simp at h, fun _ => trivial⟩
end Go.Proofs.YtbccfiillleimaaGreat
namespace Go.Proofs.YtbccfiillleimaaGreat
set_option linter.unusedSimpArgs false
set_option linter.unusedVariables false
set_option linter.unusedSectionVars false
set_option maxRecDepth 4000
open Go.ChangeShapes Go.WideShapes Go.ChangeAt Go.RowKit
theorem rmerg_own : ownKnob Tryz.prog.godebug = none := by kernel_rfl
theorem rmerg_laidOut : laidOutB Tryz.prog = true := by kernel_rfl
def rmergTypes (t : TypeId) : Bool := t == 3 || t == 9 || t == 24 || t == 22 || t == 27 || t == 25 || t == 56 || t == 54 || t == 4
theorem rmergTypes_ok : ∀ t, rmergTypes t = true → typeOk Tryz.prog rmergTypes t = true := by
 intro t h
 simp only [rmergTypes, Bool.or_eq_true, beq_iff_eq] at h
 rcases h with (((((((rfl | rfl) | rfl) | rfl) | rfl) | rfl) | rfl) | rfl) | rfl <;> kernel_rfl
set_option maxRecDepth 100000 in
theorem rmerg_lifted (os : Os) (started : os.Started) (H : Type) (enc : TypeId × Value → H) :
  ReturnsInHanded {} Tryz.checked os 12 .any (Rows.fnExactMergeExpansionsSpec.pre6 enc Tryz.prog Tryz.f12 Rows.fnExactMergeExpansionsRow.domain false)
   (Rows.fnExactMergeExpansionsSpec.post enc Tryz.prog Tryz.f12 false true false false) := by
 refine returnsInHanded_of_change (C := Tryz.checked) rmerg_own started (by kernel_rfl) Tryz.func12
  (ChangeSpec.witness6 (enc := enc) (C := Tryz.checked) false ⟨#[], #[.agg #[.int .i64 0, .string .empty, .slice none 0 0, .string .empty, .slice none 0 0, .slice none 0 0, .slice none 0 0], .agg #[.int .i64 0, .string .empty, .slice none 0 0, .string .empty, .slice none 0 0, .slice none 0 0, .slice none 0 0], .bool false], []⟩ 8 (by kernel_rfl) (by kernel_rfl) (by kernel_rfl) (by kernel_rfl)) ?_
 intro W base args ds gs before hval0 hW hcnd _
 have hval : ∀ (j : Nat) t v, Tryz.f12.params[j]? = some t → args[j]? = some v → Value.okWide Tryz.prog W .any base t v := hval0
 have hW' := hW
 obtain ⟨p, q, hA0, hV, rfl, hfz, hnd⟩ := hW
 have hA : DataW.TrodAll enc Tryz.prog W 0 (fun _ => true) true Tryz.f12.params.toList args.toList ds p := hA0
 rw [Tryz.params12] at hA hval
 obtain ⟨v0, vs0, d0, ds0, p0, q0, hargs, rfl, rfl, h0, r0⟩ := trodAll_cons hA
 obtain ⟨v1, vs1, d1, ds1, p1, q1, rfl, rfl, rfl, h1, r1⟩ := trodAll_cons r0
 obtain ⟨v2, vs2, d2, ds2, p2, q2, rfl, rfl, rfl, h2, r2⟩ := trodAll_cons r1
 obtain ⟨rfl, rfl, rfl⟩ := trodAll_nil r2
 obtain rfl : args = #[v0, v1, v2] := by cases args; simp_all
 obtain ⟨rfl, rfl⟩ := trodVars_none hV
 have k0 := h0
 have k1 := h1
 have k2 := h2
 have lt0 : ∀ x ∈ p0, x.block < W.heap.size := by obtain ⟨m, hm⟩ := k0; exact DataW.trod_lt m _ _ _ hm
 have lt1 : ∀ x ∈ p1, x.block < W.heap.size := by obtain ⟨m, hm⟩ := k1; exact DataW.trod_lt m _ _ _ hm
 have lt2 : ∀ x ∈ p2, x.block < W.heap.size := by obtain ⟨m, hm⟩ := k2; exact DataW.trod_lt m _ _ _ hm
 obtain ⟨cs0, rfl, _⟩ := okWide_struct Tryz.underlying56 (hval 0 56 v0 rfl rfl)
 obtain ⟨cs1, rfl, _⟩ := okWide_struct Tryz.underlying56 (hval 1 56 v1 rfl rfl)
 obtain ⟨s2, rfl⟩ := okWide_bool Tryz.underlying4 (hval 2 4 v2 rfl rfl)
 obtain ⟨s0, hs0⟩ : ∃ s : Ex, RepD W (· < W.heap.size) (exD s) (.agg cs0) := by
  obtain ⟨m, hm⟩ := h0
  obtain ⟨d, hr, hs⟩ := rep_of_trod rmergTypes_ok m _ _ _ (by rfl) hm
  obtain ⟨s, e⟩ := sh_expansion _ hs
  exact ⟨s, cs0.toList, rfl, e ▸ hr⟩
 obtain ⟨s1, hs1⟩ : ∃ s : Ex, RepD W (· < W.heap.size) (exD s) (.agg cs1) := by
  obtain ⟨m, hm⟩ := h1
  obtain ⟨d, hr, hs⟩ := rep_of_trod rmergTypes_ok m _ _ _ (by rfl) hm
  obtain ⟨s, e⟩ := sh_expansion _ hs
  exact ⟨s, cs1.toList, rfl, e ▸ hr⟩
 have hs2 : RepD W (· < W.heap.size) (bD s2) (.bool s2) := rfl
 have hs : RepDs W (· < W.heap.size) [exD s0, exD s1, bD s2] [.agg cs0, .agg cs1, .bool s2] := ⟨_, _, rfl, hs0, _, _, rfl, hs1, _, _, rfl, hs2, rfl⟩
 clear hA0 hval0
 refine ((lawMergeExpansions_c s0 s1 s2).use (vs := [.agg cs0, .agg cs1, .bool s2]) hs).mono fun e W' ⟨us, fp, he, ho, _, _, bel⟩ => ?_
 obtain ⟨u, us', f1, f2, rfl, _, ⟨rfl, _⟩, hu⟩ := ho
 obtain ⟨rfl, _⟩ := hu
 subst he
 exact ⟨_, rfl, _, _, _, [], _, [], hW', trodAll_mk1 (shut_bool Tryz.underlying4 _),
  (trodAll_cons_mk (Below.trod rmerg_laidOut (by kernel_rfl) (of_decide_eq_true (by kernel_rfl)) k0 bel lt0) (trodAll_cons_mk (Below.trod rmerg_laidOut (by kernel_rfl) (of_decide_eq_true (by kernel_rfl)) k1 bel lt1) (trodAll_cons_mk (Below.trod rmerg_laidOut (by kernel_rfl) (of_decide_eq_true (by kernel_rfl)) k2 bel lt2) trodAll_mk0))), rfl, bel.frame _, fun h => by cases h⟩
theorem rmerg_h0 : (Rows.fnExactMergeExpansionsRow.wf (OpenSpec.ofChange Rows.fnExactMergeExpansionsSpec)) = true := by kernel_rfl
theorem rmerg_h1 : (laidOutB Tryz.checked.prog) = true := by kernel_rfl
theorem rmerg_h2 : (mapsRowed Tryz.checked.prog) = true := by kernel_rfl
theorem rmerg_h3 : (Tryz.f12.params.all (Tryz.checked.prog.readableRec ·)) = true := by kernel_rfl
theorem rmerg_h4 : (namedTie Tryz.checked.prog Rows.fnExactMergeExpansionsRow.named Rows.fnExactMergeExpansionsSpec.vars) = true := by kernel_rfl
theorem rmerg_h5 : ((Rows.fnExactMergeExpansionsRow.stops == [])) = true := by kernel_rfl
theorem rmerg_h6 : ((Tryz.checked.prog.stops == [])) = true := by kernel_rfl
theorem rmerg_h7 : ((Rows.fnExactMergeExpansionsRow.knobs == [])) = true := by kernel_rfl
theorem rmerg_h8 : ((Tryz.checked.prog.stopKnobs == [])) = true := by kernel_rfl
theorem rmerg_h9 : ((Rows.fnExactMergeExpansionsRow.inPlace == Tryz.checked.prog.inPlace 12)) = true := by kernel_rfl
theorem rmerg_h10 : ((Rows.fnExactMergeExpansionsRow.unfollowed == Tryz.checked.prog.unfollowed 12)) = true := by kernel_rfl
theorem rmerg_h11 : ((Rows.fnExactMergeExpansionsRow.recurses == Tryz.checked.prog.recurses 12)) = true := by kernel_rfl
theorem rmerg_h12 : ((Rows.fnExactMergeExpansionsRow.named == Tryz.checked.prog.varsNamed 12)) = true := by kernel_rfl
theorem rmerg_h13 : ((Rows.fnExactMergeExpansionsRow.maps == (Tryz.f12.params.toList ++ Rows.fnExactMergeExpansionsSpec.plain.varTypes Tryz.checked.prog).any (Tryz.checked.prog.mapsRec ·))) = true := by kernel_rfl
theorem rmerg_h14 : ((Rows.fnExactMergeExpansionsRow.ifaces == (Tryz.f12.params.toList ++ Rows.fnExactMergeExpansionsSpec.plain.varTypes Tryz.checked.prog).any (Tryz.checked.prog.ifacesRec ·))) = true := by kernel_rfl
theorem rmerg_h15 : ((Rows.fnExactMergeExpansionsRow.mapsOut == Tryz.checked.prog.mapsAmong Tryz.f12.resultTypes.toList)) = true := by kernel_rfl
theorem rmerg_h16 : ((Rows.fnExactMergeExpansionsRow.loops == (Tryz.f12.params.toList ++ Rows.fnExactMergeExpansionsSpec.plain.varTypes Tryz.checked.prog).any (Tryz.checked.prog.loopsFrom ·))) = true := by kernel_rfl
theorem rmerg_h17 : ((Rows.fnExactMergeExpansionsRow.wideKeys == (Tryz.f12.params.toList ++ Rows.fnExactMergeExpansionsSpec.plain.varTypes Tryz.checked.prog ++ Tryz.f12.resultTypes.toList).any (Tryz.checked.prog.wideKeysFrom ·))) = true := by kernel_rfl
theorem rmerg_h18 : (Rows.fnExactMergeExpansionsSpec.vars.all (Tryz.checked.prog.varReadable ·)) = true := by kernel_rfl
theorem rmerg_h19 : (Tryz.f12.resultTypes.all (fun t => Tryz.checked.prog.readableRec t && decide (t < Tryz.checked.prog.types.size))) = true := by kernel_rfl
theorem rmerg_h20 : ((Rows.fnExactMergeExpansionsRow.ifacesOut == Tryz.f12.resultTypes.toList.any (Tryz.checked.prog.ifacesRec ·))) = true := by kernel_rfl
theorem rmerg_h21 : ((Rows.fnExactMergeExpansionsRow.loopsOut == Tryz.f12.resultTypes.toList.any (Tryz.checked.prog.loopsFrom ·))) = true := by kernel_rfl
theorem rmerg_h22 : ((Rows.fnExactMergeExpansionsRow.plainKeys == Tryz.checked.prog.plainKeys)) = true := by kernel_rfl
theorem rmerg_h23 : (Rows.fnExactMergeExpansionsRow.shortTexts.isNone) = true := by kernel_rfl
theorem rmerg_h24 : (Tryz.checked.prog.stopsHeard) = true := by kernel_rfl
theorem rmerg_h25 : (Tryz.checked.prog.mayEnter) = true := by kernel_rfl
theorem rmerg_h26 : ((Rows.fnExactMergeExpansionsRow.lifted == Tryz.checked.prog.liftsFinal)) = true := by kernel_rfl
theorem rmerg_h27 : ((Tryz.checked.prog.make == some Rows.fnExactMergeExpansionsRow.make)) = true := by kernel_rfl
theorem rmerg_h28 : ((Rows.fnExactMergeExpansionsRow.kinds == (if Rows.fnExactMergeExpansionsRow.domain.isEmpty then [] else Tryz.f12.params.toList.map fun t => match Tryz.checked.prog.underlying t with | some (.int k) => some k | _ => none))) = true := by kernel_rfl
theorem rmerg_h29 : ((Rows.fnExactMergeExpansionsRow.pinned == Rows.fnExactMergeExpansionsRow.pinnedBy)) = true := by kernel_rfl
theorem rmerg_h30 : ((Rows.fnExactMergeExpansionsRow.veiled == (Tryz.f12.params.toList ++ Rows.fnExactMergeExpansionsSpec.plain.varTypes Tryz.checked.prog ++ Tryz.f12.resultTypes.toList).any (Tryz.checked.prog.veiledRec ·))) = true := by kernel_rfl
theorem rmerg_h31 : (Rows.fnExactMergeExpansionsRow.veiledFits Tryz.checked.prog Tryz.f12.params.toList (Tryz.f12.params.toList ++ Rows.fnExactMergeExpansionsSpec.plain.varTypes Tryz.checked.prog ++ Tryz.f12.resultTypes.toList)) = true := by kernel_rfl
theorem rmerg_closed : joinedFacts Tryz.checked.prog 12 Tryz.f12 Rows.fnExactMergeExpansionsSpec Rows.fnExactMergeExpansionsRow = true := by
 unfold joinedFacts
 simp only [Bool.and_eq_true]
 exact ⟨⟨⟨⟨⟨⟨⟨⟨⟨⟨⟨⟨⟨⟨⟨⟨⟨⟨⟨⟨⟨⟨⟨⟨⟨⟨⟨⟨⟨⟨⟨rmerg_h0, rmerg_h1⟩, rmerg_h2⟩, rmerg_h3⟩, rmerg_h4⟩, rmerg_h5⟩, rmerg_h6⟩, rmerg_h7⟩, rmerg_h8⟩, rmerg_h9⟩, rmerg_h10⟩, rmerg_h11⟩, rmerg_h12⟩, rmerg_h13⟩, rmerg_h14⟩, rmerg_h15⟩, rmerg_h16⟩, rmerg_h17⟩, rmerg_h18⟩, rmerg_h19⟩, rmerg_h20⟩, rmerg_h21⟩, rmerg_h22⟩, rmerg_h23⟩, rmerg_h24⟩, rmerg_h25⟩, rmerg_h26⟩, rmerg_h27⟩, rmerg_h28⟩, rmerg_h29⟩, rmerg_h30⟩, rmerg_h31⟩
theorem mergeExpansions_holds : Rows.FnExactMergeExpansionsSaid :=
 OpenClaim.holds_of_wide 12 Tryz.f12 rfl rfl rfl rfl rfl rfl rfl ⟨rfl, rfl, rfl, rfl, rfl⟩ rfl rfl rfl rfl rfl (by kernel_rfl) Tryz.func12 rmerg_closed
  (of_decide_eq_true (by kernel_rfl)) (by unfold Func.isWrapper; rw [if_neg (of_decide_eq_false (by kernel_rfl))]; exact ⟨rfl, rfl⟩)
  (fun os started H enc _ => rmerg_lifted os started H enc)
#print axioms mergeExpansions_holds
end Go.Proofs.YtbccfiillleimaaGreat
