/-
  The walk over plain data, and contracts of functions of the program and of its laws.
  Conditions: those that each theorem names.
-/
import Derived.Test.YtbccfiillleimaaGreatQ7
import Derived.Test.YtbccfiillleimaaGreatQ6
import Derived.Test.YtbccfiillleimaaGreatQ5
namespace Go.Proofs.YtbccfiillleimaaGreat
set_option linter.unusedSimpArgs false
set_option linter.unusedVariables false
set_option linter.unusedSectionVars false
set_option maxRecDepth 4000
open Go.RowKit
theorem mul_small {a b : Nat} (h : a + b ≤ 1048576) : a + (1 + a) * b ≤ 1099511627776 := by
 by_cases hb : b ≤ 524288
 ·have : (1 + a) * b ≤ 1048577 * 524288 := Nat.mul_le_mul (by omega) hb
  omega
 ·have : (1 + a) * b ≤ 524289 * 1048576 := Nat.mul_le_mul (by omega) (by omega)
  omega
theorem runL_at (l : List (Bool × (List Str → Bool × List Str))) (k : Nat) (h : k < l.length) (E : List Str) : runL (l.drop k) E = if l[k].1 = true then (if (l[k].2 E).1 = true then runL (l.drop (k + 1)) (l[k].2 E).2 else (false, (l[k].2 E).2)) else (false, E) := by
 rw [List.drop_eq_getElem_cons h]
 rfl
theorem getD_eq {α : Type} {xs : List α} {k : Nat} (h : k < xs.length) (d : α) : xs.getD k d = xs[k] := by rw [List.getD_eq_getElem?_getD, List.getElem?_eq_getElem h]; rfl
abbrev nodeP (p : Ex) (pos : Bool) (E : List Str) : Prop := PC Tryz.prog 146 [[(true, .sl 1 (E.map fun s => [.str s]))]] [.p 0, .d false (exD p), .d false (bD pos)] [[(true, .sl 1 ((nodeI p pos E).2.map fun s => [.str s]))]] [(true, bD (nodeI p pos E).1)]
theorem termsI_true {e : Ex} {pos : Bool} {E : List Str} (h : (termsI e pos E).1 = true) : e.parts.length = e.terms.length ∧ TOk e.terms := by
 unfold termsI at h
 split at h
 ·rename_i h0
  refine ⟨?_, dec_iff.1 h0⟩
  split at h
  ·split at h
   ·rename_i t ht
    split at h
    ·rw [ht]; exact of_decide_eq_true h
    ·cases h
   ·cases h
  ·exact of_decide_eq_true h
 ·cases h
theorem sbF_forms {n : Str} {t : Tm} {f : Fm} (h : (sbF n t f).2 = true) : (sbF n t f).1.forms = true := by
 unfold sbF at h ⊢
 split at h
 ·rename_i h0
  rw [if_pos h0]
  rw [Bool.and_eq_true] at h0
  exact gforms' h0.2
 ·cases h
set_option maxHeartbeats 4000000 in
theorem node_of (e : Ex) (he : e.wt ≤ 1048576) (hf : e.form.forms = true) (H : ∀ p ∈ e.parts, p.form.forms = true → ∀ pos E, E.length + p.nodes ≤ 4194304 → nodeP p pos E) (pos : Bool) (E : List Str) (hE : E.length + e.nodes ≤ 4194304) : nodeP e pos E := by
 have hv := nodeI_eq e pos E
 have hW := e.wt_eq
 have hTW : tmsW e.terms = e.terms.length + (e.terms.map Tm.wt).sum := rfl
 have hNe := e.nodes_eq
 have HQ := isQuantifier_c e.form.op
 unfold nodeP
 cases hq : isQ e.form.op
 ·rw [hq, if_neg (by simp)] at hv
  rw [hq] at HQ
  have hfl : e.form.parts.length ≤ 1048576 := by have := e.form.wt_eq; omega
  by_cases hc : e.terms.length = 0 ∧ e.parts.length = e.form.parts.length
  ·rw [if_pos hc] at hv
   obtain ⟨hc1, hc2⟩ := hc
   have hc3 : ((e.form.parts.length : Int) != (e.form.parts.length : Int)) = false := by simp
   have hps : ∀ x ∈ e.form.parts, x.forms = true := by
    rw [Fm.forms_eq, Bool.and_eq_true] at hf
    exact List.all_eq_true.1 hf.2
   simp only [exD, exC_eq]
   refine PC_of Tryz.call146 Tryz.func146 rfl (by kernel_rfl) (by simp only [List.length_cons, List.length_nil, Tryz.ntmps146]; omega) (by simp only [Tryz.ntmps146]; omega) rfl rfl (by simp [smallG, T.isPin, AF.ds, bxA]) (by simp [gFS, T.fs, T.flat, AF.ds, bxA]) rfl ?_
   simp -implicitDefEqProofs only [go_sem, Tryz.results146]
   refine callF (HQ) (by simp -implicitDefEqProofs only [go_sem, hc1, hc2, hc3]) ?_
   simp -implicitDefEqProofs only [go_sem, hc1, hc2, hc3]
   refine loop_rule (fun x : Nat × List Str => hd [(0, .one (.bx 1000000 0)), (1000000, .one (.bx 1000000 0)), (2, .one (.t (.bool pos))), (4, .one (.bx 4 0)), (7, .one (.bx 7 0)), (78, .one (.rn (exS e.parts))), (79, vI e.form.parts.length), (80, vI x.1)] [(1000000, [.ow 64 0]), (4, [.t (.int .i64 e.form.op), .t (.str e.form.atom.name), .rn (tmS e.form.atom.args), .t (.str e.form.var), .rn (fmS e.form.parts), .rn (tmS e.terms), .rn (exS e.parts)]), (7, [.t (.int .i64 e.form.op), .t (.str e.form.atom.name), .rn (tmS e.form.atom.args), .t (.str e.form.var), .rn (fmS e.form.parts)])] [(64, ⟨true, 1, x.2.map fun s => [.str s], 0, true⟩)]) (fun x => x.1 ≤ e.parts.length ∧ runL ((e.parts.mapIdx fun i p => (tstN e.form i p, nodeI p (sgn e.form i pos))).drop x.1) x.2 = nodeI e pos E ∧ x.2.length + dsum Ex.nodes e.parts x.1 ≤ E.length + e.nodes) (fun x => e.parts.length - x.1) (0, E) (weak_hd ?_) ⟨Nat.zero_le _, hv.symm, by rw [dsum_zero]; show E.length + _ ≤ _; omega⟩ ?_
   ·simp -implicitDefEqProofs only [go_sem]
   ·rintro ⟨k, E'⟩ ⟨hk, hr, hl⟩
    simp only at hk hr hl
    by_cases hlt : k < e.parts.length
    ·have hd := dsum_at Ex.nodes e.parts k hlt
     have hrk := runL_at (e.parts.mapIdx fun i p => (tstN e.form i p, nodeI p (sgn e.form i pos))) k (by simpa using hlt) E'
     rw [hr] at hrk
     simp only [List.getElem_mapIdx] at hrk
     have hkf : k < e.form.parts.length := by omega
     have htst : tstN e.form k e.parts[k] = same e.form.parts[k] e.parts[k].form := by
      unfold tstN
      rw [getD_eq hkf]
     rw [htst] at hrk
     have HSm := sameFormula_c e.form.parts[k] e.parts[k].form
     have HPo := polarity_c e.form k pos
     have hsg : (pos != (e.form.op == 4 || (e.form.op == 7 && ((k : Int) == 0)))) = sgn e.form k pos := rfl
     rw [hsg] at HPo
     simp only [fmD, fmC_eq e.form.parts[k], fmC_eq e.parts[k].form, fmC_eq e.form] at HSm HPo
     simp -implicitDefEqProofs only [go_sem, hkf, getD_at, hlt, exC_eq e.parts[k]]
     cases hsm : same e.form.parts[k] e.parts[k].form
     ·rw [hsm, if_neg (by simp)] at hrk
      rw [hsm] at HSm
      rw [hrk]
      refine drawn (by kernel_rfl) ?_
      simp -implicitDefEqProofs only [go_sem, hkf, getD_at, fmC_eq e.form.parts[k]]
      refine dCallF (HSm) (by simp -implicitDefEqProofs only [go_sem]) ?_
      simp -implicitDefEqProofs only [go_sem]
      kernel_rfl
     ·rw [hsm, if_pos rfl] at hrk
      rw [hsm] at HSm
      have hpf : e.parts[k].form.forms = true := by rw [← same_iff.1 hsm]; exact hps _ (List.getElem_mem hkf)
      have HC := H e.parts[k] (List.getElem_mem hlt) hpf (sgn e.form k pos) E' (by omega)
      have hnl := nodeI_len e.parts[k] (sgn e.form k pos) E'
      unfold nodeP at HC
      simp only [exD, exC_eq e.parts[k]] at HC
      generalize hN1 : (nodeI e.parts[k] (sgn e.form k pos) E').1 = b1 at HC hrk
      generalize hN2 : (nodeI e.parts[k] (sgn e.form k pos) E').2 = E2 at HC hrk hnl
      cases hb1 : b1
      ·rw [hb1, if_neg (by simp)] at hrk
       rw [hb1] at HC
       rw [hrk]
       refine drawn (by kernel_rfl) ?_
       simp -implicitDefEqProofs only [go_sem, hkf, getD_at, fmC_eq e.form.parts[k]]
       refine dCallF (HSm) (by simp -implicitDefEqProofs only [go_sem]) ?_
       simp -implicitDefEqProofs only [go_sem]
       refine gCallF (HPo) (by simp -implicitDefEqProofs only [go_sem]) ?_
       simp -implicitDefEqProofs only [go_sem]
       refine gCallT 1000000 (HC) rfl (by simp -implicitDefEqProofs only [go_sem, flR_strs]) (by simp -implicitDefEqProofs only [go_sem, flR_strs]) ?_
       simp -implicitDefEqProofs only [go_sem, flR_strs]
       kernel_rfl
      ·rw [hb1, if_pos rfl] at hrk
       rw [hb1] at HC
       refine drawn (by kernel_rfl) ?_
       simp -implicitDefEqProofs only [go_sem, hkf, getD_at, fmC_eq e.form.parts[k]]
       refine dCallF (HSm) (by simp -implicitDefEqProofs only [go_sem]) ?_
       simp -implicitDefEqProofs only [go_sem]
       refine gCallF (HPo) (by simp -implicitDefEqProofs only [go_sem]) ?_
       simp -implicitDefEqProofs only [go_sem]
       refine gCallT 1000000 (HC) rfl (by simp -implicitDefEqProofs only [go_sem, flR_strs]) (by simp -implicitDefEqProofs only [go_sem, flR_strs]) ?_
       simp -implicitDefEqProofs only [go_sem, flR_strs]
       refine ⟨by kernel_rfl, (k + 1, E2), ⟨hlt, hrk.symm, by simp only; omega⟩, by simp only; omega, weak_hd ?_⟩
       simp -implicitDefEqProofs only [go_sem]
       rw [wrap_s (by omega)]
    ·have hkf : ¬ k < e.form.parts.length := by omega
     simp -implicitDefEqProofs only [go_sem, hkf]
     rw [List.drop_of_length_le (by rw [List.length_mapIdx]; omega)] at hr
     exact Or.inl ⟨by rw [← hr]; rfl, Or.inl (by rw [← hr]; rfl)⟩
  ·rw [if_neg hc] at hv
   rw [hv]
   simp only [exD, exC_eq]
   by_cases hc1 : e.terms.length = 0
   ·have hc2 : ((e.parts.length : Int) != (e.form.parts.length : Int)) = true := by rw [bne_iff_ne]; omega
    refine PC_of Tryz.call146 Tryz.func146 rfl (by kernel_rfl) (by simp only [List.length_cons, List.length_nil, Tryz.ntmps146]; omega) (by simp only [Tryz.ntmps146]; omega) rfl rfl (by simp [smallG, T.isPin, AF.ds, bxA]) (by simp [gFS, T.fs, T.flat, AF.ds, bxA]) rfl ?_
    simp -implicitDefEqProofs only [go_sem, Tryz.results146]
    refine callF (HQ) (by simp -implicitDefEqProofs only [go_sem, hc1, hc2]) ?_
    simp -implicitDefEqProofs only [go_sem, hc1, hc2]
   ·have hc1' : (0 : Int) < (e.terms.length : Int) := by omega
    refine PC_of Tryz.call146 Tryz.func146 rfl (by kernel_rfl) (by simp only [List.length_cons, List.length_nil, Tryz.ntmps146]; omega) (by simp only [Tryz.ntmps146]; omega) rfl rfl (by simp [smallG, T.isPin, AF.ds, bxA]) (by simp [gFS, T.fs, T.flat, AF.ds, bxA]) rfl ?_
    simp -implicitDefEqProofs only [go_sem, Tryz.results146]
    refine callF (HQ) (by simp -implicitDefEqProofs only [go_sem, hc1']) ?_
    simp -implicitDefEqProofs only [go_sem, hc1']
 ·rw [hq, if_pos rfl] at hv
  rw [hq] at HQ
  obtain ⟨q, hp, hqf⟩ := q_parts hq hf
  have HT := terms_c e he pos E (by omega)
  have hTl := termsI_len e pos E
  cases ht : (termsI e pos E).1
  ·rw [ht, if_neg (by simp)] at hv
   rw [ht] at HT
   rw [hv]
   simp only [exD, exC_eq] at HT ⊢
   refine PC_of Tryz.call146 Tryz.func146 rfl (by kernel_rfl) (by simp only [List.length_cons, List.length_nil, Tryz.ntmps146]; omega) (by simp only [Tryz.ntmps146]; omega) rfl rfl (by simp [smallG, T.isPin, AF.ds, bxA]) (by simp [gFS, T.fs, T.flat, AF.ds, bxA]) rfl ?_
   simp -implicitDefEqProofs only [go_sem, Tryz.results146]
   refine callF (HQ) (by simp -implicitDefEqProofs only [go_sem]) ?_
   simp -implicitDefEqProofs only [go_sem]
   refine callT 1000000 (HT) rfl (by simp -implicitDefEqProofs only [go_sem, flR_strs, exC_eq e]) (by simp -implicitDefEqProofs only [go_sem, flR_strs, exC_eq e]) ?_
   simp -implicitDefEqProofs only [go_sem, flR_strs, exC_eq e]
  ·rw [ht, if_pos rfl] at hv
   rw [ht] at HT
   obtain ⟨hlen, _⟩ := termsI_true ht
   generalize hE1 : (termsI e pos E).2 = E1 at hv HT hTl
   simp only [exD, exC_eq] at HT ⊢
   refine PC_of Tryz.call146 Tryz.func146 rfl (by kernel_rfl) (by simp only [List.length_cons, List.length_nil, Tryz.ntmps146]; omega) (by simp only [Tryz.ntmps146]; omega) rfl rfl (by simp [smallG, T.isPin, AF.ds, bxA]) (by simp [gFS, T.fs, T.flat, AF.ds, bxA]) rfl ?_
   simp -implicitDefEqProofs only [go_sem, Tryz.results146]
   refine callF (HQ) (by simp -implicitDefEqProofs only [go_sem]) ?_
   simp -implicitDefEqProofs only [go_sem]
   refine callT 1000000 (HT) rfl (by simp -implicitDefEqProofs only [go_sem, flR_strs, exC_eq e]) (by simp -implicitDefEqProofs only [go_sem, flR_strs, exC_eq e]) ?_
   simp -implicitDefEqProofs only [go_sem, flR_strs, exC_eq e]
   refine loop_rule (fun x : Nat × List Str => hd [(0, .one (.bx 1000000 0)), (1000000, .one (.bx 1000000 0)), (2, .one (.t (.bool pos))), (4, .one (.bx 4 0)), (7, .one (.bx 7 0)), (25, .one (.rn (exS e.parts))), (26, vI e.parts.length), (27, vI x.1)] [(1000000, [.ow 64 0]), (4, [.t (.int .i64 e.form.op), .t (.str e.form.atom.name), .rn (tmS e.form.atom.args), .t (.str e.form.var), .rn (fmS e.form.parts), .rn (tmS e.terms), .rn (exS e.parts)]), (7, [.t (.int .i64 e.form.op), .t (.str e.form.atom.name), .rn (tmS e.form.atom.args), .t (.str e.form.var), .rn (fmS e.form.parts)])] [(64, ⟨true, 1, x.2.map fun s => [.str s], 0, true⟩)]) (fun x => x.1 ≤ e.parts.length ∧ runL ((e.parts.mapIdx fun i p => (tstQ e.form e.terms i p, nodeI p pos)).drop x.1) x.2 = nodeI e pos E ∧ x.2.length + dsum Ex.nodes e.parts x.1 ≤ E.length + e.nodes) (fun x => e.parts.length - x.1) (0, E1) (weak_hd ?_) ⟨Nat.zero_le _, hv.symm, by rw [dsum_zero]; show E1.length + _ ≤ _; omega⟩ ?_
   ·simp -implicitDefEqProofs only [go_sem]
   ·rintro ⟨k, E'⟩ ⟨hk, hr, hl⟩
    simp only at hk hr hl
    by_cases hlt : k < e.parts.length
    ·have hd := dsum_at Ex.nodes e.parts k hlt
     have hrk := runL_at (e.parts.mapIdx fun i p => (tstQ e.form e.terms i p, nodeI p pos)) k (by simpa using hlt) E'
     rw [hr] at hrk
     simp only [List.getElem_mapIdx] at hrk
     have hkt : k < e.terms.length := by omega
     have hform : e.parts[k].form.wt ≤ e.wt := Nat.le_trans (form_wt _) (eparts_wt (List.getElem_mem hlt))
     have htw : e.terms[k].wt + e.form.wt ≤ 1048576 := by have := mem_sum Tm.wt e.terms _ (List.getElem_mem hkt); omega
     have hqw : q.wt ≤ e.form.wt := fparts_wt (by rw [hp]; simp)
     have HSb := SubstituteFormula_c q e.form.var e.terms[k] (by omega) (by omega) (mul_small (by omega))
     have htst : tstQ e.form e.terms k e.parts[k] = ((sbF e.form.var e.terms[k] q).2 && same (sbF e.form.var e.terms[k] q).1 e.parts[k].form) := by
      unfold tstQ
      rw [getD_eq hkt, hp]; rfl
     rw [htst] at hrk
     have hsf : (sbF e.form.var e.terms[k] q).2 = true → (sbF e.form.var e.terms[k] q).1.forms = true := sbF_forms
     generalize (sbF e.form.var e.terms[k] q).1 = R at HSb hrk hsf
     generalize (sbF e.form.var e.terms[k] q).2 = ok at HSb hrk hsf
     have HSm := sameFormula_c R e.parts[k].form
     simp only [fmD, tmD, fmC_eq q, tmC_eq e.terms[k], fmC_eq R, fmC_eq e.parts[k].form] at HSb HSm
     have e0 : (List.map fmC e.form.parts).getD 0 [] = fmC q := by rw [hp]; rfl
     have hp0 : e.form.parts.length = 1 := by rw [hp]; rfl
     simp -implicitDefEqProofs only [go_sem, hlt, getD_at, exC_eq e.parts[k]]
     refine drawn (by kernel_rfl) ?_
     simp -implicitDefEqProofs only [go_sem, hp0, e0, fmC_eq q, getD_at, hkt, tmC_eq e.terms[k]]
     refine dCallF (HSb) (by simp -implicitDefEqProofs only [go_sem]) ?_
     simp -implicitDefEqProofs only [go_sem]
     refine ⟨by kernel_rfl, ?_⟩
     cases hok : ok
     ·rw [hok, Bool.false_and, if_neg (by simp)] at hrk
      rw [hrk]
      simp -implicitDefEqProofs only [go_sem, hok]
     ·rw [hok, Bool.true_and] at hrk
      cases hsm : same R e.parts[k].form
      ·rw [hsm, if_neg (by simp)] at hrk
       rw [hsm] at HSm
       rw [hrk]
       simp -implicitDefEqProofs only [go_sem, hok]
       refine callF (HSm) (by simp -implicitDefEqProofs only [go_sem]) ?_
       simp -implicitDefEqProofs only [go_sem]
      ·rw [hsm, if_pos rfl] at hrk
       rw [hsm] at HSm
       have hpf : e.parts[k].form.forms = true := by rw [← same_iff.1 hsm]; exact hsf hok
       have HC := H e.parts[k] (List.getElem_mem hlt) hpf pos E' (by omega)
       have hnl := nodeI_len e.parts[k] pos E'
       unfold nodeP at HC
       simp only [exD, exC_eq e.parts[k]] at HC
       generalize hN1 : (nodeI e.parts[k] pos E').1 = b1 at HC hrk
       generalize hN2 : (nodeI e.parts[k] pos E').2 = E2 at HC hrk hnl
       cases hb1 : b1
       ·rw [hb1, if_neg (by simp)] at hrk
        rw [hb1] at HC
        rw [hrk]
        simp -implicitDefEqProofs only [go_sem, hok]
        refine callF (HSm) (by simp -implicitDefEqProofs only [go_sem]) ?_
        simp -implicitDefEqProofs only [go_sem]
        refine callT 1000000 (HC) rfl (by simp -implicitDefEqProofs only [go_sem, flR_strs]) (by simp -implicitDefEqProofs only [go_sem, flR_strs]) ?_
        simp -implicitDefEqProofs only [go_sem, flR_strs]
       ·rw [hb1, if_pos rfl] at hrk
        rw [hb1] at HC
        simp -implicitDefEqProofs only [go_sem, hok]
        refine callF (HSm) (by simp -implicitDefEqProofs only [go_sem]) ?_
        simp -implicitDefEqProofs only [go_sem]
        refine callT 1000000 (HC) rfl (by simp -implicitDefEqProofs only [go_sem, flR_strs]) (by simp -implicitDefEqProofs only [go_sem, flR_strs]) ?_
        simp -implicitDefEqProofs only [go_sem, flR_strs]
        refine ⟨(k + 1, E2), ⟨hlt, hrk.symm, by simp only; omega⟩, by simp only; omega, weak_hd ?_⟩
        simp -implicitDefEqProofs only [go_sem]
        rw [wrap_s (by omega)]
        trace_state
    ·simp -implicitDefEqProofs only [go_sem, hlt]
     rw [List.drop_of_length_le (by rw [List.length_mapIdx]; omega)] at hr
     exact Or.inl ⟨by rw [← hr]; rfl, Or.inl (by rw [← hr]; rfl)⟩
theorem node_c : ∀ e : Ex, e.wt ≤ 1048576 → e.form.forms = true → ∀ pos E, E.length + e.nodes ≤ 4194304 → nodeP e pos E :=
 ex_ind fun f ts ps ih he hf pos E hE => node_of (.mk f ts ps) he hf (fun p hp hpf pos E hE => ih p hp (Nat.le_trans (eparts_wt (a := .mk f ts ps) hp) he) hpf pos E hE) pos E hE
end Go.Proofs.YtbccfiillleimaaGreat
namespace Go.Proofs.YtbccfiillleimaaGreat
set_option linter.unusedSimpArgs false
set_option linter.unusedVariables false
set_option linter.unusedSectionVars false
set_option maxRecDepth 4000
open Go.RowKit
theorem put_forms (n : Str) (t : Tm) : ∀ f : Fm, f.forms = true → (putF n t f).2 = true → (putF n t f).1.forms = true := fm_ind fun o a v ps ih hf h => by
 have hP := putF_eq n t (.mk o a v ps)
 have hf0 := hf
 rw [Fm.forms_eq, Bool.and_eq_true] at hf0
 obtain ⟨hh, hps⟩ := hf0
 have hps : ∀ x ∈ ps, x.forms = true := List.all_eq_true.1 hps
 cases h3 : o == 3
 ·have ha : a = .mk [] [] := here_none hh h3
  rw [hP] at h ⊢
  change (if (o == 3) = true then _ else if (isQ o && _) = true then _ else if (isQ o && _) = true then _ else (Fm.mk o (.mk [] []) v ((ps.takeWhile fun x => (putF n t x).2).map fun x => (putF n t x).1), ps.all fun x => (putF n t x).2) : Fm × Bool).2 = true at h
  change (if (o == 3) = true then _ else if (isQ o && _) = true then _ else if (isQ o && _) = true then _ else (Fm.mk o (.mk [] []) v ((ps.takeWhile fun x => (putF n t x).2).map fun x => (putF n t x).1), ps.all fun x => (putF n t x).2) : Fm × Bool).1.forms = true
  rw [h3, if_neg (by simp)] at h ⊢
  split
  ·exact hf
  ·rename_i h1
   rw [if_neg h1] at h
   split
   ·rename_i h2
    rw [if_pos h2] at h; cases h
   ·rename_i h2
    rw [if_neg h2] at h
    have h1 : (ps.all fun x => (putF n t x).2) = true := h
    have hA := List.all_eq_true.1 h1
    have hw : (ps.takeWhile fun x => (putF n t x).2) = ps := by
     have := (takeW_at (l := ps) (p := fun x => (putF n t x).2) (k := ps.length) (Nat.le_refl _) (by rw [List.take_length]; exact hA) fun h => absurd h (Nat.lt_irrefl _)).1
     rw [this, List.take_length]
    rw [hw, ← ha]
    show (Fm.mk o a v (ps.map fun x => (putF n t x).1)).forms = true
    rw [forms_mk, Bool.and_eq_true]
    refine ⟨here_same (f := .mk o a v ps) hh h3 (by show (ps.map _).length = ps.length; rw [List.length_map]), List.all_eq_true.2 fun y hy => ?_⟩
    obtain ⟨x, hx, rfl⟩ := List.mem_map.1 hy
    exact ih x hx (hps x hx) (hA x hx)
 ·have ho3 : o = 3 := by simpa using h3
  rw [hP] at h ⊢
  change (if (o == 3) = true then (Fm.mk o (putT (bnd n t) a) v [], (putT (bnd n t) a).atomOk) else _ : Fm × Bool).2 = true at h
  change (if (o == 3) = true then (Fm.mk o (putT (bnd n t) a) v [], (putT (bnd n t) a).atomOk) else _ : Fm × Bool).1.forms = true
  rw [h3, if_pos rfl] at h ⊢
  have h9 : (putT (bnd n t) a).atomOk = true := h
  show (Fm.mk o (putT (bnd n t) a) v []).forms = true
  rw [forms_mk, Bool.and_eq_true]
  refine ⟨?_, rfl⟩
  subst ho3
  unfold Fm.here at hh ⊢
  change (decide (ps.length = 0) && a.atomOk && (v == [])) = true at hh
  change (decide (([] : List Fm).length = 0) && (putT (bnd n t) a).atomOk && (v == [])) = true
  simp only [Bool.and_eq_true] at hh
  rw [h9, hh.2]; rfl
noncomputable def tstS (f : Fm) (ts : List Tm) (i : Nat) (p : Ex) : Bool := (ts.getD i Tm.zero).good && !((ts.take i).any fun a => same a (ts.getD i Tm.zero)) && (putF f.var (ts.getD i Tm.zero) (f.parts.getD 0 (mkF 0 []))).2 && same p.form (putF f.var (ts.getD i Tm.zero) (f.parts.getD 0 (mkF 0 []))).1
def strongE (f : Fm) (pos : Bool) : Bool := isQ f.op && ((f.op == 8) == pos)
noncomputable def nodeS : Ex → Bool → Bool := Ex.fold fun f ts ps rs pos =>
 if isQ f.op = true then decide (ts.length = ps.length) && (!strongE f pos || (decide (ts.length = 1) && varOk (ts.getD 0 Tm.zero).name)) && ((ps.zip rs).mapIdx fun i q => (tstS f ts i q.1 && q.2 pos)).all id
 else decide (ts.length = 0) && decide (ps.length = f.parts.length) && ((ps.zip rs).mapIdx fun i q => (same q.1.form (f.parts.getD i (mkF 0 [])) && q.2 (sgn f i pos))).all id
theorem nodeS_eq (e : Ex) (pos : Bool) : nodeS e pos = if isQ e.form.op = true then decide (e.terms.length = e.parts.length) && (!strongE e.form pos || (decide (e.terms.length = 1) && varOk (e.terms.getD 0 Tm.zero).name)) && (e.parts.mapIdx fun i p => (tstS e.form e.terms i p && nodeS p pos)).all id
 else decide (e.terms.length = 0) && decide (e.parts.length = e.form.parts.length) && (e.parts.mapIdx fun i p => (same p.form (e.form.parts.getD i (mkF 0 [])) && nodeS p (sgn e.form i pos))).all id := by
 cases e with
 | mk f ts ps =>
  conv => lhs; unfold nodeS; rw [Ex.fold_eq]
  simp only [zip_map]
  rfl
theorem all_no {L : List Bool} {k : Nat} (h : k < L.length) (hf : L[k] = false) : L.all id = false := by
 rw [List.all_eq_false]; exact ⟨_, List.getElem_mem h, by simp [hf]⟩
theorem all_yes {L : List Bool} (h : ∀ k (h : k < L.length), L[k] = true) : L.all id = true := by
 rw [List.all_eq_true]; intro x hx; obtain ⟨k, hk, rfl⟩ := List.getElem_of_mem hx; exact h k hk
theorem all_step {L : List Bool} {k : Nat} (hT : ∀ j, j < k → ∀ h : j < L.length, L[j] = true) {hk : k < L.length} (h1 : L[k] = true) : ∀ j, j < k + 1 → ∀ h : j < L.length, L[j] = true := fun j hj h => by
 by_cases e : j = k
 ·subst e; exact h1
 ·exact hT j (by omega) h
end Go.Proofs.YtbccfiillleimaaGreat
namespace Go.Proofs.YtbccfiillleimaaGreat
set_option linter.unusedSimpArgs false
set_option linter.unusedVariables false
set_option linter.unusedSectionVars false
set_option maxRecDepth 4000
open Go.RowKit
abbrev nodeSP (p : Ex) (pos : Bool) : Prop := FC Tryz.prog 137 [exD p, bD pos] [bD (nodeS p pos)]
set_option maxHeartbeats 4000000 in
theorem l17Node_of (e : Ex) (he : e.wt ≤ 1048576) (hf : e.form.forms = true) (H : ∀ p ∈ e.parts, p.form.forms = true → ∀ pos, nodeSP p pos) (pos : Bool) : nodeSP e pos := by
 have hv := nodeS_eq e pos
 have hW := e.wt_eq
 have hTW : tmsW e.terms = e.terms.length + (e.terms.map Tm.wt).sum := rfl
 have HQ := l17Quantifier_c e.form
 have hfl : e.form.parts.length ≤ 1048576 := by have := e.form.wt_eq; omega
 unfold nodeSP
 cases hq : isQ e.form.op
 ·rw [hq, if_neg (by simp)] at hv
  rw [hq] at HQ
  by_cases hc1 : e.terms.length = 0
  ·by_cases hc2 : e.parts.length = e.form.parts.length
   ·rw [show decide (e.terms.length = 0) = true by simp [hc1], show decide (e.parts.length = e.form.parts.length) = true by simp [hc2], Bool.true_and, Bool.true_and] at hv
    have hc3 : ((e.form.parts.length : Int) != (e.form.parts.length : Int)) = false := by simp
    have hps : ∀ x ∈ e.form.parts, x.forms = true := by
     rw [Fm.forms_eq, Bool.and_eq_true] at hf
     exact List.all_eq_true.1 hf.2
    generalize hL : (e.parts.mapIdx fun i p => (same p.form (e.form.parts.getD i (mkF 0 [])) && nodeS p (sgn e.form i pos))) = L at hv
    have hLl : L.length = e.parts.length := by rw [← hL, List.length_mapIdx]
    simp only [exD, exC_eq, fmD, fmC_eq e.form] at HQ ⊢
    refine FC_of Tryz.call137 Tryz.func137 rfl (by kernel_rfl) (by simp only [rd, List.map_cons, List.map_nil, List.length_cons, List.length_nil, Tryz.ntmps137]; omega) ?_
    simp -implicitDefEqProofs only [go_sem, Tryz.results137]
    refine callF (HQ) (by simp -implicitDefEqProofs only [go_sem, hc1, hc2, hc3]) ?_
    simp -implicitDefEqProofs only [go_sem, hc1, hc2, hc3]
    refine loop_rule (fun k : Nat => hd [(1, vT (.bool pos)), (2, .one (.bx 2 0)), (5, .one (.bx 5 0)), (6, vI k)] [(2, [.t (.int .i64 e.form.op), .t (.str e.form.atom.name), .t (tmS e.form.atom.args), .t (.str e.form.var), .t (fmS e.form.parts), .t (tmS e.terms), .t (exS e.parts)]), (5, [.t (.int .i64 e.form.op), .t (.str e.form.atom.name), .t (tmS e.form.atom.args), .t (.str e.form.var), .t (fmS e.form.parts)])] []) (fun k => k ≤ e.parts.length ∧ ∀ j, j < k → ∀ h : j < L.length, L[j] = true) (fun k => e.parts.length - k) 0 (weak_hd ?_) ⟨Nat.zero_le _, fun j hj => by omega⟩ ?_
    ·simp -implicitDefEqProofs only [go_sem]
    ·rintro k ⟨hk, hT⟩
     by_cases hlt : k < e.parts.length
     ·have hkf : k < e.form.parts.length := by omega
      have hkL : k < L.length := by omega
      have hLk : L[k] = (same e.parts[k].form e.form.parts[k] && nodeS e.parts[k] (sgn e.form k pos)) := by
       simp only [← hL, List.getElem_mapIdx]
       rw [getD_eq hkf]
      have HSm := l8Same_c e.parts[k].form e.form.parts[k]
      have HPo := l17Sign_c e.form k pos
      have hsg : (pos != (e.form.op == 4 || (e.form.op == 7 && ((k : Int) == 0)))) = sgn e.form k pos := rfl
      rw [hsg] at HPo
      simp only [fmD, fmC_eq e.form.parts[k], fmC_eq e.parts[k].form, fmC_eq e.form] at HSm HPo
      cases hsm : same e.parts[k].form e.form.parts[k]
      ·rw [hsm, Bool.false_and] at hLk
       rw [hsm] at HSm
       rw [hv, all_no hkL hLk]
       simp -implicitDefEqProofs only [go_sem, hc2, hkf]
       refine drawn (by kernel_rfl) ?_
       simp -implicitDefEqProofs only [go_sem, hlt, hkf, getD_at, fmC_eq e.form.parts[k], exC_eq e.parts[k]]
       refine dCallF (HSm) (by simp -implicitDefEqProofs only [go_sem]) ?_
       simp -implicitDefEqProofs only [go_sem]
       kernel_rfl
      ·rw [hsm, Bool.true_and] at hLk
       rw [hsm] at HSm
       have hpf : e.parts[k].form.forms = true := by rw [same_iff.1 hsm]; exact hps _ (List.getElem_mem hkf)
       have HC := H e.parts[k] (List.getElem_mem hlt) hpf (sgn e.form k pos)
       unfold nodeSP at HC
       simp only [exD, exC_eq e.parts[k]] at HC
       cases hb : nodeS e.parts[k] (sgn e.form k pos)
       ·rw [hb] at hLk HC
        rw [hv, all_no hkL hLk]
        simp -implicitDefEqProofs only [go_sem, hc2, hkf]
        refine drawn (by kernel_rfl) ?_
        simp -implicitDefEqProofs only [go_sem, hlt, hkf, getD_at, fmC_eq e.form.parts[k], exC_eq e.parts[k]]
        refine dCallF (HSm) (by simp -implicitDefEqProofs only [go_sem, hlt, hkf, hc2, getD_at, exC_eq e.parts[k]]) ?_
        simp -implicitDefEqProofs only [go_sem, hlt, hkf, hc2, getD_at, exC_eq e.parts[k]]
        refine gCallF (HPo) (by simp -implicitDefEqProofs only [go_sem]) ?_
        simp -implicitDefEqProofs only [go_sem]
        refine gCallF (HC) (by simp -implicitDefEqProofs only [go_sem]) ?_
        simp -implicitDefEqProofs only [go_sem]
        kernel_rfl
       ·rw [hb] at hLk HC
        simp -implicitDefEqProofs only [go_sem, hc2, hkf]
        refine drawn (by kernel_rfl) ?_
        simp -implicitDefEqProofs only [go_sem, hlt, hkf, getD_at, fmC_eq e.form.parts[k], exC_eq e.parts[k]]
        refine dCallF (HSm) (by simp -implicitDefEqProofs only [go_sem, hlt, hkf, hc2, getD_at, exC_eq e.parts[k]]) ?_
        simp -implicitDefEqProofs only [go_sem, hlt, hkf, hc2, getD_at, exC_eq e.parts[k]]
        refine gCallF (HPo) (by simp -implicitDefEqProofs only [go_sem]) ?_
        simp -implicitDefEqProofs only [go_sem]
        refine gCallF (HC) (by simp -implicitDefEqProofs only [go_sem]) ?_
        simp -implicitDefEqProofs only [go_sem]
        refine ⟨by kernel_rfl, k + 1, ⟨by omega, all_step hT hLk⟩, by omega, weak_hd ?_⟩
        simp -implicitDefEqProofs only [go_sem]
        rw [wrap_s (by omega)]
     ·have hkf : ¬ k < e.form.parts.length := by omega
      rw [hv, all_yes fun j hj => hT j (by omega) hj]
      simp -implicitDefEqProofs only [go_sem, hc2, hkf]
   ·rw [show decide (e.parts.length = e.form.parts.length) = false by simp [hc2], Bool.and_false, Bool.false_and] at hv
    rw [hv]
    have hc3 : ((e.parts.length : Int) != (e.form.parts.length : Int)) = true := by rw [bne_iff_ne]; omega
    simp only [exD, exC_eq, fmD, fmC_eq e.form] at HQ ⊢
    refine FC_of Tryz.call137 Tryz.func137 rfl (by kernel_rfl) (by simp only [rd, List.map_cons, List.map_nil, List.length_cons, List.length_nil, Tryz.ntmps137]; omega) ?_
    simp -implicitDefEqProofs only [go_sem, Tryz.results137]
    refine callF (HQ) (by simp -implicitDefEqProofs only [go_sem, hc1, hc3]) ?_
    simp -implicitDefEqProofs only [go_sem, hc1, hc3]
  ·rw [show decide (e.terms.length = 0) = false by simp [hc1], Bool.false_and, Bool.false_and] at hv
   rw [hv]
   have hc1' : (0 : Int) < (e.terms.length : Int) := by omega
   simp only [exD, exC_eq, fmD, fmC_eq e.form] at HQ ⊢
   refine FC_of Tryz.call137 Tryz.func137 rfl (by kernel_rfl) (by simp only [rd, List.map_cons, List.map_nil, List.length_cons, List.length_nil, Tryz.ntmps137]; omega) ?_
   simp -implicitDefEqProofs only [go_sem, Tryz.results137]
   refine callF (HQ) (by simp -implicitDefEqProofs only [go_sem, hc1']) ?_
   simp -implicitDefEqProofs only [go_sem, hc1']
 ·rw [hq, if_pos rfl] at hv
  rw [hq] at HQ
  obtain ⟨q, hp, hqf⟩ := q_parts hq hf
  have HSt := l17Strong_c e.form pos
  have hse : strongE e.form pos = ((e.form.op == 8) == pos) := by unfold strongE; rw [hq, Bool.true_and]
  rw [hq, Bool.true_and, ← hse] at HSt
  by_cases hlen : e.terms.length = e.parts.length
  ·rw [show decide (e.terms.length = e.parts.length) = true by simp [hlen], Bool.true_and] at hv
   have hne : ((e.terms.length : Int) != (e.parts.length : Int)) = false := by rw [hlen]; simp
   generalize hL : (e.parts.mapIdx fun i p => (tstS e.form e.terms i p && nodeS p pos)) = L at hv
   have hLl : L.length = e.parts.length := by rw [← hL, List.length_mapIdx]
   simp only [exD, exC_eq, fmD, fmC_eq e.form] at HQ HSt ⊢
   cases hst : strongE e.form pos
   ·rw [hst] at hv HSt
    simp only [Bool.not_false, Bool.true_or, Bool.true_and] at hv
    refine FC_of Tryz.call137 Tryz.func137 rfl (by kernel_rfl) (by simp only [rd, List.map_cons, List.map_nil, List.length_cons, List.length_nil, Tryz.ntmps137]; omega) ?_
    simp -implicitDefEqProofs only [go_sem, Tryz.results137]
    refine callF (HQ) (by simp -implicitDefEqProofs only [go_sem, hne]) ?_
    simp -implicitDefEqProofs only [go_sem, hne]
    refine callF (HSt) (by simp -implicitDefEqProofs only [go_sem]) ?_
    simp -implicitDefEqProofs only [go_sem]
    refine loop_rule (fun k : Nat => hd [(1, vT (.bool pos)), (2, .one (.bx 2 0)), (5, .one (.bx 5 0)), (7, vI k)] [(2, [.t (.int .i64 e.form.op), .t (.str e.form.atom.name), .t (tmS e.form.atom.args), .t (.str e.form.var), .t (fmS e.form.parts), .t (tmS e.terms), .t (exS e.parts)]), (5, [.t (.int .i64 e.form.op), .t (.str e.form.atom.name), .t (tmS e.form.atom.args), .t (.str e.form.var), .t (fmS e.form.parts)])] []) (fun k => k ≤ e.parts.length ∧ ∀ j, j < k → ∀ h : j < L.length, L[j] = true) (fun k => e.parts.length - k) 0 (weak_hd ?_) ⟨Nat.zero_le _, fun j hj => by omega⟩ ?_
    ·simp -implicitDefEqProofs only [go_sem]
    ·rintro k ⟨hk, hT⟩
     by_cases hlt : k < e.parts.length
     ·have hkt : k < e.terms.length := by omega
      have hkL : k < L.length := by omega
      have htw : e.terms[k].wt + e.form.wt ≤ 1048576 := by have := mem_sum Tm.wt e.terms _ (List.getElem_mem hkt); omega
      have hqw : q.wt ≤ e.form.wt := fparts_wt (by rw [hp]; simp)
      have htk : tstS e.form e.terms k e.parts[k] = (e.terms[k].good && !((e.terms.take k).any fun a => same a e.terms[k]) && (putF e.form.var e.terms[k] q).2 && same e.parts[k].form (putF e.form.var e.terms[k] q).1) := by
       unfold tstS
       rw [getD_eq hkt, hp]
       rfl
      have hLk : L[k] = (e.terms[k].good && !((e.terms.take k).any fun a => same a e.terms[k]) && (putF e.form.var e.terms[k] q).2 && same e.parts[k].form (putF e.form.var e.terms[k] q).1 && nodeS e.parts[k] pos) := by
       simp only [← hL, List.getElem_mapIdx]
       rw [htk]
      have HV := l2Good_c e.terms[k] (by omega)
      have HI := l16Index_c (e.terms.take k) e.terms[k]
      have hi2 := idxP_ge (e.terms.take k) fun a => same a e.terms[k]
      have HPt := l8Put_c e.form.var e.terms[k] (by omega) q hqf (by omega) (mul_small (by omega))
      have hpff := put_forms e.form.var e.terms[k] q hqf
      generalize (putF e.form.var e.terms[k] q).1 = R at HPt hLk hpff
      generalize (putF e.form.var e.terms[k] q).2 = ok at HPt hLk hpff
      have HSm := l8Same_c e.parts[k].form R
      have eT : tmS (e.terms.take k) = .sl 2 ((e.terms.map tmC).take k) := by unfold tmS; rw [List.map_take]
      rw [eT] at HI
      have e0 : (List.map fmC e.form.parts).getD 0 [] = fmC q := by rw [hp]; rfl
      have hp0 : e.form.parts.length = 1 := by rw [hp]; rfl
      simp only [tmD, fmD, tmC_eq e.terms[k], fmC_eq q, fmC_eq R, fmC_eq e.parts[k].form] at HV HI HPt HSm
      cases hg : e.terms[k].good
      ·rw [hg] at hLk HV
       simp only [Bool.false_and] at hLk
       rw [hv, all_no hkL hLk]
       simp -implicitDefEqProofs only [go_sem, hkt]
       refine drawn (by kernel_rfl) ?_
       simp -implicitDefEqProofs only [go_sem, hkt, getD_at, tmC_eq e.terms[k]]
       refine dCallF (HV) (by simp -implicitDefEqProofs only [go_sem]) ?_
       simp -implicitDefEqProofs only [go_sem]
       kernel_rfl
      ·rw [hg] at HV
       cases hi : (e.terms.take k).any fun a => same a e.terms[k]
       ·rw [hi] at hi2
        cases hok : ok
        ·rw [hg, hi, hok] at hLk
         simp only [Bool.and_false, Bool.false_and] at hLk
         rw [hv, all_no hkL hLk]
         rw [hok] at HPt
         simp -implicitDefEqProofs only [go_sem, hkt]
         refine drawn (by kernel_rfl) ?_
         simp -implicitDefEqProofs only [go_sem, hkt, getD_at, tmC_eq e.terms[k]]
         refine dCallF (HV) (by simp -implicitDefEqProofs only [go_sem, hkt, getD_at, tmC_eq e.terms[k]]) ?_
         simp -implicitDefEqProofs only [go_sem, hkt, getD_at, tmC_eq e.terms[k]]
         refine ⟨by omega, ?_⟩
         refine gCallF (HI) (by simp -implicitDefEqProofs only [go_sem, hi2]) ?_
         simp -implicitDefEqProofs only [go_sem, hi2]
         refine ⟨by kernel_rfl, ?_⟩
         refine drawn (by kernel_rfl) ?_
         simp -implicitDefEqProofs only [go_sem, hp0, e0, fmC_eq q, hkt, getD_at, tmC_eq e.terms[k]]
         refine dCallF (HPt) (by simp -implicitDefEqProofs only [go_sem]) ?_
         simp -implicitDefEqProofs only [go_sem]
         refine ⟨by kernel_rfl, ?_⟩
         refine drawn (by kernel_rfl) ?_
         simp -implicitDefEqProofs only [go_sem]
         kernel_rfl
        ·rw [hok] at HPt
         cases hsm : same e.parts[k].form R
         ·rw [hg, hi, hok, hsm] at hLk
          simp only [Bool.and_false, Bool.false_and] at hLk
          rw [hv, all_no hkL hLk]
          rw [hsm] at HSm
          simp -implicitDefEqProofs only [go_sem, hkt]
          refine drawn (by kernel_rfl) ?_
          simp -implicitDefEqProofs only [go_sem, hkt, getD_at, tmC_eq e.terms[k]]
          refine dCallF (HV) (by simp -implicitDefEqProofs only [go_sem, hkt, getD_at, tmC_eq e.terms[k]]) ?_
          simp -implicitDefEqProofs only [go_sem, hkt, getD_at, tmC_eq e.terms[k]]
          refine ⟨by omega, ?_⟩
          refine gCallF (HI) (by simp -implicitDefEqProofs only [go_sem, hi2]) ?_
          simp -implicitDefEqProofs only [go_sem, hi2]
          refine ⟨by kernel_rfl, ?_⟩
          refine drawn (by kernel_rfl) ?_
          simp -implicitDefEqProofs only [go_sem, hp0, e0, fmC_eq q, hkt, getD_at, tmC_eq e.terms[k]]
          refine dCallF (HPt) (by simp -implicitDefEqProofs only [go_sem]) ?_
          simp -implicitDefEqProofs only [go_sem]
          refine ⟨by kernel_rfl, ?_⟩
          refine drawn (by kernel_rfl) ?_
          simp -implicitDefEqProofs only [go_sem, hlt, getD_at, exC_eq e.parts[k]]
          refine gCallF (HSm) (by simp -implicitDefEqProofs only [go_sem]) ?_
          simp -implicitDefEqProofs only [go_sem]
          kernel_rfl
         ·have hpf : e.parts[k].form.forms = true := by rw [same_iff.1 hsm]; exact hpff hok
          have HC := H e.parts[k] (List.getElem_mem hlt) hpf pos
          unfold nodeSP at HC
          simp only [exD, exC_eq e.parts[k]] at HC
          rw [hg, hi, hok, hsm] at hLk
          simp only [Bool.not_false, Bool.and_true, Bool.true_and] at hLk
          rw [hsm] at HSm
          cases hb : nodeS e.parts[k] pos
          ·rw [hb] at hLk HC
           rw [hv, all_no hkL hLk]
           simp -implicitDefEqProofs only [go_sem, hkt]
           refine drawn (by kernel_rfl) ?_
           simp -implicitDefEqProofs only [go_sem, hkt, getD_at, tmC_eq e.terms[k]]
           refine dCallF (HV) (by simp -implicitDefEqProofs only [go_sem, hkt, getD_at, tmC_eq e.terms[k]]) ?_
           simp -implicitDefEqProofs only [go_sem, hkt, getD_at, tmC_eq e.terms[k]]
           refine ⟨by omega, ?_⟩
           refine gCallF (HI) (by simp -implicitDefEqProofs only [go_sem, hi2]) ?_
           simp -implicitDefEqProofs only [go_sem, hi2]
           refine ⟨by kernel_rfl, ?_⟩
           refine drawn (by kernel_rfl) ?_
           simp -implicitDefEqProofs only [go_sem, hp0, e0, fmC_eq q, hkt, getD_at, tmC_eq e.terms[k]]
           refine dCallF (HPt) (by simp -implicitDefEqProofs only [go_sem]) ?_
           simp -implicitDefEqProofs only [go_sem]
           refine ⟨by kernel_rfl, ?_⟩
           refine drawn (by kernel_rfl) ?_
           simp -implicitDefEqProofs only [go_sem, hlt, getD_at, exC_eq e.parts[k]]
           refine gCallF (HSm) (by simp -implicitDefEqProofs only [go_sem, hlt, getD_at, exC_eq e.parts[k]]) ?_
           simp -implicitDefEqProofs only [go_sem, hlt, getD_at, exC_eq e.parts[k]]
           refine gCallF (HC) (by simp -implicitDefEqProofs only [go_sem]) ?_
           simp -implicitDefEqProofs only [go_sem]
           kernel_rfl
          ·rw [hb] at hLk HC
           simp -implicitDefEqProofs only [go_sem, hkt]
           refine drawn (by kernel_rfl) ?_
           simp -implicitDefEqProofs only [go_sem, hkt, getD_at, tmC_eq e.terms[k]]
           refine dCallF (HV) (by simp -implicitDefEqProofs only [go_sem, hkt, getD_at, tmC_eq e.terms[k]]) ?_
           simp -implicitDefEqProofs only [go_sem, hkt, getD_at, tmC_eq e.terms[k]]
           refine ⟨by omega, ?_⟩
           refine gCallF (HI) (by simp -implicitDefEqProofs only [go_sem, hi2]) ?_
           simp -implicitDefEqProofs only [go_sem, hi2]
           refine ⟨by kernel_rfl, ?_⟩
           refine drawn (by kernel_rfl) ?_
           simp -implicitDefEqProofs only [go_sem, hp0, e0, fmC_eq q, hkt, getD_at, tmC_eq e.terms[k]]
           refine dCallF (HPt) (by simp -implicitDefEqProofs only [go_sem]) ?_
           simp -implicitDefEqProofs only [go_sem]
           refine ⟨by kernel_rfl, ?_⟩
           refine drawn (by kernel_rfl) ?_
           simp -implicitDefEqProofs only [go_sem, hlt, getD_at, exC_eq e.parts[k]]
           refine gCallF (HSm) (by simp -implicitDefEqProofs only [go_sem, hlt, getD_at, exC_eq e.parts[k]]) ?_
           simp -implicitDefEqProofs only [go_sem, hlt, getD_at, exC_eq e.parts[k]]
           refine gCallF (HC) (by simp -implicitDefEqProofs only [go_sem]) ?_
           simp -implicitDefEqProofs only [go_sem]
           refine ⟨by kernel_rfl, k + 1, ⟨by omega, all_step hT hLk⟩, by omega, weak_hd ?_⟩
           simp -implicitDefEqProofs only [go_sem]
           rw [wrap_s (by omega)]
       ·rw [hg, hi] at hLk
        rw [hi] at hi2
        simp only [Bool.not_true, Bool.and_false, Bool.false_and] at hLk
        rw [hv, all_no hkL hLk]
        simp -implicitDefEqProofs only [go_sem, hkt]
        refine drawn (by kernel_rfl) ?_
        simp -implicitDefEqProofs only [go_sem, hkt, getD_at, tmC_eq e.terms[k]]
        refine dCallF (HV) (by simp -implicitDefEqProofs only [go_sem, hkt, getD_at, tmC_eq e.terms[k]]) ?_
        simp -implicitDefEqProofs only [go_sem, hkt, getD_at, tmC_eq e.terms[k]]
        refine ⟨by omega, ?_⟩
        refine gCallF (HI) (by simp -implicitDefEqProofs only [go_sem, hi2]) ?_
        simp -implicitDefEqProofs only [go_sem, hi2]
        kernel_rfl
     ·have hkt : ¬ k < e.terms.length := by omega
      rw [hv, all_yes fun j hj => hT j (by omega) hj]
      simp -implicitDefEqProofs only [go_sem, hkt]
   ·rw [hst] at hv HSt
    simp only [Bool.not_true, Bool.false_or] at hv
    by_cases h1 : e.terms.length = 1
    ·obtain ⟨t, ht⟩ := List.length_eq_one_iff.1 h1
     have hgd : e.terms.getD 0 Tm.zero = t := by rw [ht]; rfl
     rw [show decide (e.terms.length = 1) = true by simp [h1], hgd, Bool.true_and] at hv
     have HVr := l2Var_c t.name
     have e0 : (List.map tmC e.terms).getD 0 [] = tmC t := by rw [ht]; rfl
     have h1p : e.parts.length = 1 := by omega
     have hne1 : ((1 : Int) != (e.parts.length : Int)) = false := by rw [h1p]; rfl
     cases hvv : varOk t.name
     ·rw [hvv, Bool.false_and] at hv
      rw [hvv] at HVr
      rw [hv]
      refine FC_of Tryz.call137 Tryz.func137 rfl (by kernel_rfl) (by simp only [rd, List.map_cons, List.map_nil, List.length_cons, List.length_nil, Tryz.ntmps137]; omega) ?_
      simp -implicitDefEqProofs only [go_sem, Tryz.results137]
      refine callF (HQ) (by simp -implicitDefEqProofs only [go_sem, h1, h1p, hne1]) ?_
      simp -implicitDefEqProofs only [go_sem, h1, h1p, hne1]
      refine callF (HSt) (by simp -implicitDefEqProofs only [go_sem, h1, h1p, e0, tmC_eq t]) ?_
      simp -implicitDefEqProofs only [go_sem, h1, h1p, e0, tmC_eq t]
      refine callF (HVr) (by simp -implicitDefEqProofs only [go_sem]) ?_
      simp -implicitDefEqProofs only [go_sem]
     ·rw [hvv, Bool.true_and] at hv
      rw [hvv] at HVr
      refine FC_of Tryz.call137 Tryz.func137 rfl (by kernel_rfl) (by simp only [rd, List.map_cons, List.map_nil, List.length_cons, List.length_nil, Tryz.ntmps137]; omega) ?_
      simp -implicitDefEqProofs only [go_sem, Tryz.results137]
      refine callF (HQ) (by simp -implicitDefEqProofs only [go_sem, h1, h1p, hne1]) ?_
      simp -implicitDefEqProofs only [go_sem, h1, h1p, hne1]
      refine callF (HSt) (by simp -implicitDefEqProofs only [go_sem, h1, h1p, e0, tmC_eq t]) ?_
      simp -implicitDefEqProofs only [go_sem, h1, h1p, e0, tmC_eq t]
      refine callF (HVr) (by simp -implicitDefEqProofs only [go_sem]) ?_
      simp -implicitDefEqProofs only [go_sem]
      refine loop_rule (fun k : Nat => hd [(1, vT (.bool pos)), (2, .one (.bx 2 0)), (5, .one (.bx 5 0)), (7, vI k)] [(2, [.t (.int .i64 e.form.op), .t (.str e.form.atom.name), .t (tmS e.form.atom.args), .t (.str e.form.var), .t (fmS e.form.parts), .t (tmS e.terms), .t (exS e.parts)]), (5, [.t (.int .i64 e.form.op), .t (.str e.form.atom.name), .t (tmS e.form.atom.args), .t (.str e.form.var), .t (fmS e.form.parts)])] []) (fun k => k ≤ e.parts.length ∧ ∀ j, j < k → ∀ h : j < L.length, L[j] = true) (fun k => e.parts.length - k) 0 (weak_hd ?_) ⟨Nat.zero_le _, fun j hj => by omega⟩ ?_
      ·simp -implicitDefEqProofs only [go_sem]
      ·rintro k ⟨hk, hT⟩
       by_cases hlt : k < e.parts.length
       ·have hkt : k < e.terms.length := by omega
        have hkL : k < L.length := by omega
        have htw : e.terms[k].wt + e.form.wt ≤ 1048576 := by have := mem_sum Tm.wt e.terms _ (List.getElem_mem hkt); omega
        have hqw : q.wt ≤ e.form.wt := fparts_wt (by rw [hp]; simp)
        have htk : tstS e.form e.terms k e.parts[k] = (e.terms[k].good && !((e.terms.take k).any fun a => same a e.terms[k]) && (putF e.form.var e.terms[k] q).2 && same e.parts[k].form (putF e.form.var e.terms[k] q).1) := by
         unfold tstS
         rw [getD_eq hkt, hp]
         rfl
        have hLk : L[k] = (e.terms[k].good && !((e.terms.take k).any fun a => same a e.terms[k]) && (putF e.form.var e.terms[k] q).2 && same e.parts[k].form (putF e.form.var e.terms[k] q).1 && nodeS e.parts[k] pos) := by
         simp only [← hL, List.getElem_mapIdx]
         rw [htk]
        have HV := l2Good_c e.terms[k] (by omega)
        have HI := l16Index_c (e.terms.take k) e.terms[k]
        have hi2 := idxP_ge (e.terms.take k) fun a => same a e.terms[k]
        have HPt := l8Put_c e.form.var e.terms[k] (by omega) q hqf (by omega) (mul_small (by omega))
        have hpff := put_forms e.form.var e.terms[k] q hqf
        generalize (putF e.form.var e.terms[k] q).1 = R at HPt hLk hpff
        generalize (putF e.form.var e.terms[k] q).2 = ok at HPt hLk hpff
        have HSm := l8Same_c e.parts[k].form R
        have eT : tmS (e.terms.take k) = .sl 2 ((e.terms.map tmC).take k) := by unfold tmS; rw [List.map_take]
        rw [eT] at HI
        have e0 : (List.map fmC e.form.parts).getD 0 [] = fmC q := by rw [hp]; rfl
        have hp0 : e.form.parts.length = 1 := by rw [hp]; rfl
        simp only [tmD, fmD, tmC_eq e.terms[k], fmC_eq q, fmC_eq R, fmC_eq e.parts[k].form] at HV HI HPt HSm
        cases hg : e.terms[k].good
        ·rw [hg] at hLk HV
         simp only [Bool.false_and] at hLk
         rw [hv, all_no hkL hLk]
         simp -implicitDefEqProofs only [go_sem, hkt]
         refine drawn (by kernel_rfl) ?_
         simp -implicitDefEqProofs only [go_sem, hkt, getD_at, tmC_eq e.terms[k]]
         refine dCallF (HV) (by simp -implicitDefEqProofs only [go_sem]) ?_
         simp -implicitDefEqProofs only [go_sem]
         kernel_rfl
        ·rw [hg] at HV
         cases hi : (e.terms.take k).any fun a => same a e.terms[k]
         ·rw [hi] at hi2
          cases hok : ok
          ·rw [hg, hi, hok] at hLk
           simp only [Bool.and_false, Bool.false_and] at hLk
           rw [hv, all_no hkL hLk]
           rw [hok] at HPt
           simp -implicitDefEqProofs only [go_sem, hkt]
           refine drawn (by kernel_rfl) ?_
           simp -implicitDefEqProofs only [go_sem, hkt, getD_at, tmC_eq e.terms[k]]
           refine dCallF (HV) (by simp -implicitDefEqProofs only [go_sem, hkt, getD_at, tmC_eq e.terms[k]]) ?_
           simp -implicitDefEqProofs only [go_sem, hkt, getD_at, tmC_eq e.terms[k]]
           refine ⟨by omega, ?_⟩
           refine gCallF (HI) (by simp -implicitDefEqProofs only [go_sem, hi2]) ?_
           simp -implicitDefEqProofs only [go_sem, hi2]
           refine ⟨by kernel_rfl, ?_⟩
           refine drawn (by kernel_rfl) ?_
           simp -implicitDefEqProofs only [go_sem, hp0, e0, fmC_eq q, hkt, getD_at, tmC_eq e.terms[k]]
           refine dCallF (HPt) (by simp -implicitDefEqProofs only [go_sem]) ?_
           simp -implicitDefEqProofs only [go_sem]
           refine ⟨by kernel_rfl, ?_⟩
           refine drawn (by kernel_rfl) ?_
           simp -implicitDefEqProofs only [go_sem]
           kernel_rfl
          ·rw [hok] at HPt
           cases hsm : same e.parts[k].form R
           ·rw [hg, hi, hok, hsm] at hLk
            simp only [Bool.and_false, Bool.false_and] at hLk
            rw [hv, all_no hkL hLk]
            rw [hsm] at HSm
            simp -implicitDefEqProofs only [go_sem, hkt]
            refine drawn (by kernel_rfl) ?_
            simp -implicitDefEqProofs only [go_sem, hkt, getD_at, tmC_eq e.terms[k]]
            refine dCallF (HV) (by simp -implicitDefEqProofs only [go_sem, hkt, getD_at, tmC_eq e.terms[k]]) ?_
            simp -implicitDefEqProofs only [go_sem, hkt, getD_at, tmC_eq e.terms[k]]
            refine ⟨by omega, ?_⟩
            refine gCallF (HI) (by simp -implicitDefEqProofs only [go_sem, hi2]) ?_
            simp -implicitDefEqProofs only [go_sem, hi2]
            refine ⟨by kernel_rfl, ?_⟩
            refine drawn (by kernel_rfl) ?_
            simp -implicitDefEqProofs only [go_sem, hp0, e0, fmC_eq q, hkt, getD_at, tmC_eq e.terms[k]]
            refine dCallF (HPt) (by simp -implicitDefEqProofs only [go_sem]) ?_
            simp -implicitDefEqProofs only [go_sem]
            refine ⟨by kernel_rfl, ?_⟩
            refine drawn (by kernel_rfl) ?_
            simp -implicitDefEqProofs only [go_sem, hlt, getD_at, exC_eq e.parts[k]]
            refine gCallF (HSm) (by simp -implicitDefEqProofs only [go_sem]) ?_
            simp -implicitDefEqProofs only [go_sem]
            kernel_rfl
           ·have hpf : e.parts[k].form.forms = true := by rw [same_iff.1 hsm]; exact hpff hok
            have HC := H e.parts[k] (List.getElem_mem hlt) hpf pos
            unfold nodeSP at HC
            simp only [exD, exC_eq e.parts[k]] at HC
            rw [hg, hi, hok, hsm] at hLk
            simp only [Bool.not_false, Bool.and_true, Bool.true_and] at hLk
            rw [hsm] at HSm
            cases hb : nodeS e.parts[k] pos
            ·rw [hb] at hLk HC
             rw [hv, all_no hkL hLk]
             simp -implicitDefEqProofs only [go_sem, hkt]
             refine drawn (by kernel_rfl) ?_
             simp -implicitDefEqProofs only [go_sem, hkt, getD_at, tmC_eq e.terms[k]]
             refine dCallF (HV) (by simp -implicitDefEqProofs only [go_sem, hkt, getD_at, tmC_eq e.terms[k]]) ?_
             simp -implicitDefEqProofs only [go_sem, hkt, getD_at, tmC_eq e.terms[k]]
             refine ⟨by omega, ?_⟩
             refine gCallF (HI) (by simp -implicitDefEqProofs only [go_sem, hi2]) ?_
             simp -implicitDefEqProofs only [go_sem, hi2]
             refine ⟨by kernel_rfl, ?_⟩
             refine drawn (by kernel_rfl) ?_
             simp -implicitDefEqProofs only [go_sem, hp0, e0, fmC_eq q, hkt, getD_at, tmC_eq e.terms[k]]
             refine dCallF (HPt) (by simp -implicitDefEqProofs only [go_sem]) ?_
             simp -implicitDefEqProofs only [go_sem]
             refine ⟨by kernel_rfl, ?_⟩
             refine drawn (by kernel_rfl) ?_
             simp -implicitDefEqProofs only [go_sem, hlt, getD_at, exC_eq e.parts[k]]
             refine gCallF (HSm) (by simp -implicitDefEqProofs only [go_sem, hlt, getD_at, exC_eq e.parts[k]]) ?_
             simp -implicitDefEqProofs only [go_sem, hlt, getD_at, exC_eq e.parts[k]]
             refine gCallF (HC) (by simp -implicitDefEqProofs only [go_sem]) ?_
             simp -implicitDefEqProofs only [go_sem]
             kernel_rfl
            ·rw [hb] at hLk HC
             simp -implicitDefEqProofs only [go_sem, hkt]
             refine drawn (by kernel_rfl) ?_
             simp -implicitDefEqProofs only [go_sem, hkt, getD_at, tmC_eq e.terms[k]]
             refine dCallF (HV) (by simp -implicitDefEqProofs only [go_sem, hkt, getD_at, tmC_eq e.terms[k]]) ?_
             simp -implicitDefEqProofs only [go_sem, hkt, getD_at, tmC_eq e.terms[k]]
             refine ⟨by omega, ?_⟩
             refine gCallF (HI) (by simp -implicitDefEqProofs only [go_sem, hi2]) ?_
             simp -implicitDefEqProofs only [go_sem, hi2]
             refine ⟨by kernel_rfl, ?_⟩
             refine drawn (by kernel_rfl) ?_
             simp -implicitDefEqProofs only [go_sem, hp0, e0, fmC_eq q, hkt, getD_at, tmC_eq e.terms[k]]
             refine dCallF (HPt) (by simp -implicitDefEqProofs only [go_sem]) ?_
             simp -implicitDefEqProofs only [go_sem]
             refine ⟨by kernel_rfl, ?_⟩
             refine drawn (by kernel_rfl) ?_
             simp -implicitDefEqProofs only [go_sem, hlt, getD_at, exC_eq e.parts[k]]
             refine gCallF (HSm) (by simp -implicitDefEqProofs only [go_sem, hlt, getD_at, exC_eq e.parts[k]]) ?_
             simp -implicitDefEqProofs only [go_sem, hlt, getD_at, exC_eq e.parts[k]]
             refine gCallF (HC) (by simp -implicitDefEqProofs only [go_sem]) ?_
             simp -implicitDefEqProofs only [go_sem]
             refine ⟨by kernel_rfl, k + 1, ⟨by omega, all_step hT hLk⟩, by omega, weak_hd ?_⟩
             simp -implicitDefEqProofs only [go_sem]
             rw [wrap_s (by omega)]
         ·rw [hg, hi] at hLk
          rw [hi] at hi2
          simp only [Bool.not_true, Bool.and_false, Bool.false_and] at hLk
          rw [hv, all_no hkL hLk]
          simp -implicitDefEqProofs only [go_sem, hkt]
          refine drawn (by kernel_rfl) ?_
          simp -implicitDefEqProofs only [go_sem, hkt, getD_at, tmC_eq e.terms[k]]
          refine dCallF (HV) (by simp -implicitDefEqProofs only [go_sem, hkt, getD_at, tmC_eq e.terms[k]]) ?_
          simp -implicitDefEqProofs only [go_sem, hkt, getD_at, tmC_eq e.terms[k]]
          refine ⟨by omega, ?_⟩
          refine gCallF (HI) (by simp -implicitDefEqProofs only [go_sem, hi2]) ?_
          simp -implicitDefEqProofs only [go_sem, hi2]
          kernel_rfl
       ·have hkt : ¬ k < e.terms.length := by omega
        rw [hv, all_yes fun j hj => hT j (by omega) hj]
        simp -implicitDefEqProofs only [go_sem, hkt]
    ·rw [show decide (e.terms.length = 1) = false by simp [h1], Bool.false_and, Bool.false_and] at hv
     rw [hv]
     have hn1 : ((e.terms.length : Int) != 1) = true := by rw [bne_iff_ne]; omega
     refine FC_of Tryz.call137 Tryz.func137 rfl (by kernel_rfl) (by simp only [rd, List.map_cons, List.map_nil, List.length_cons, List.length_nil, Tryz.ntmps137]; omega) ?_
     simp -implicitDefEqProofs only [go_sem, Tryz.results137]
     refine callF (HQ) (by simp -implicitDefEqProofs only [go_sem, hne]) ?_
     simp -implicitDefEqProofs only [go_sem, hne]
     refine callF (HSt) (by simp -implicitDefEqProofs only [go_sem, hn1]) ?_
     simp -implicitDefEqProofs only [go_sem, hn1]
  ·rw [show decide (e.terms.length = e.parts.length) = false by simp [hlen], Bool.false_and, Bool.false_and] at hv
   rw [hv]
   have hne : ((e.terms.length : Int) != (e.parts.length : Int)) = true := by rw [bne_iff_ne]; omega
   simp only [exD, exC_eq, fmD, fmC_eq e.form] at HQ ⊢
   refine FC_of Tryz.call137 Tryz.func137 rfl (by kernel_rfl) (by simp only [rd, List.map_cons, List.map_nil, List.length_cons, List.length_nil, Tryz.ntmps137]; omega) ?_
   simp -implicitDefEqProofs only [go_sem, Tryz.results137]
   refine callF (HQ) (by simp -implicitDefEqProofs only [go_sem, hne]) ?_
   simp -implicitDefEqProofs only [go_sem, hne]
end Go.Proofs.YtbccfiillleimaaGreat
namespace Go.Proofs.YtbccfiillleimaaGreat
set_option linter.unusedSimpArgs false
set_option linter.unusedVariables false
set_option linter.unusedSectionVars false
set_option maxRecDepth 4000
open Go.RowKit
def namesS : Ex → Bool → List Str := Ex.fold fun f ts ps rs pos => (if strongE f pos = true then [(ts.getD 0 Tm.zero).name] else []) ++ ((ps.zip rs).mapIdx fun i q => q.2 (sgn f i pos)).flatten
theorem namesS_eq (e : Ex) (pos : Bool) : namesS e pos = (if strongE e.form pos = true then [(e.terms.getD 0 Tm.zero).name] else []) ++ (e.parts.mapIdx fun i p => namesS p (sgn e.form i pos)).flatten := by
 cases e with
 | mk f ts ps =>
  conv => lhs; unfold namesS; rw [Ex.fold_eq]
  simp only [zip_map]
  rfl
theorem sgn_q {f : Fm} (h : isQ f.op = true) (i : Nat) (pos : Bool) : sgn f i pos = pos := by
 have h8 : f.op = 8 ∨ f.op = 9 := by unfold isQ at h; rw [Bool.or_eq_true, beq_iff_eq, beq_iff_eq] at h; exact h
 unfold sgn
 rcases h8 with e | e <;> rw [e] <;> cases pos <;> rfl
theorem flat_range (w : Nat → Nat) : ∀ (l : List (List Str)) (j : Nat), (∀ i (h : i < l.length), l[i].length ≤ w (j + i)) → l.flatten.length ≤ ((List.range l.length).map fun i => w (j + i)).sum
 | [], _, _ => by simp
 | x :: l, j, h => by
  have h0 := h 0 (by simp)
  rw [Nat.add_zero] at h0
  have h0 : x.length ≤ w j := h0
  have ih := flat_range w l (j + 1) fun i hi => by
   have := h (i + 1) (by simpa using hi)
   rw [show j + 1 + i = j + (i + 1) by omega]
   simpa using this
  have e : ((List.range (x :: l).length).map fun i => w (j + i)).sum = w j + ((List.range l.length).map fun i => w (j + 1 + i)).sum := by
   rw [List.length_cons, List.range_succ_eq_map, List.map_cons, List.sum_cons, List.map_map]
   congr 2
   refine List.map_congr_left fun i _ => ?_
   show w (j + (i + 1)) = _
   rw [show j + (i + 1) = j + 1 + i by omega]
  rw [e, List.flatten_cons, List.length_append]
  omega
theorem namesS_len : ∀ (e : Ex) (pos : Bool), (namesS e pos).length ≤ e.nodes := ex_ind fun f ts ps ih pos => by
 rw [namesS_eq, Ex.nodes_eq]
 have hr := range_sum ps
 have key := flat_range (fun i => (ps.getD i (.mk (mkF 0 []) [] [])).nodes) (ps.mapIdx fun i p => namesS p (sgn f i pos)) 0 fun i h => by
  have hi : i < ps.length := by simpa using h
  have := ih ps[i] (List.getElem_mem hi) (sgn f i pos)
  simp only [List.getElem_mapIdx, Nat.zero_add]
  rw [List.getD_eq_getElem?_getD, List.getElem?_eq_getElem hi]
  exact this
 simp only [List.length_mapIdx, Nat.zero_add] at key
 rw [hr] at key
 show ((if strongE f pos = true then [(ts.getD 0 Tm.zero).name] else []) ++ (ps.mapIdx fun i p => namesS p (sgn f i pos)).flatten).length ≤ 1 + (ps.map Ex.nodes).sum
 rw [List.length_append]
 split
 ·rw [List.length_singleton]; omega
 ·rw [List.length_nil]; omega
theorem nodeS_parts {e : Ex} {pos : Bool} (h : nodeS e pos = true) : (∀ i (hi : i < e.parts.length), nodeS e.parts[i] (sgn e.form i pos) = true) ∧ (strongE e.form pos = true → e.terms.length = 1) := by
 rw [nodeS_eq] at h
 cases hq : isQ e.form.op
 ·rw [hq, if_neg (by simp), Bool.and_eq_true, List.all_eq_true] at h
  refine ⟨fun i hi => ?_, fun hs => by unfold strongE at hs; rw [hq] at hs; cases hs⟩
  have := h.2 _ (List.getElem_mem (l := e.parts.mapIdx fun i p => (same p.form (e.form.parts.getD i (mkF 0 [])) && nodeS p (sgn e.form i pos))) (n := i) (by simpa using hi))
  simp only [List.getElem_mapIdx, id, Bool.and_eq_true] at this
  exact this.2
 ·rw [hq, if_pos rfl, Bool.and_eq_true, Bool.and_eq_true, List.all_eq_true] at h
  refine ⟨fun i hi => ?_, fun hs => ?_⟩
  ·have := h.2 _ (List.getElem_mem (l := e.parts.mapIdx fun i p => (tstS e.form e.terms i p && nodeS p pos)) (n := i) (by simpa using hi))
   simp only [List.getElem_mapIdx, id, Bool.and_eq_true] at this
   rw [sgn_q hq]; exact this.2
  ·have := h.1.2
   rw [hs] at this
   simp only [Bool.not_true, Bool.false_or, Bool.and_eq_true, decide_eq_true_eq] at this
   exact this.1
theorem l17Names_of (e : Ex) (he : e.wt ≤ 1048576) (pos : Bool) (hn : nodeS e pos = true) (H : ∀ p ∈ e.parts, ∀ pos, nodeS p pos = true → FC Tryz.prog 97 [exD p, bD pos] [.one (strS (namesS p pos))]) : FC Tryz.prog 97 [exD e, bD pos] [.one (strS (namesS e pos))] := by
 have hv := namesS_eq e pos
 have hW := e.wt_eq
 have hln := namesS_len e pos
 have hen := enodes_wt e
 have HSt := l17Strong_c e.form pos
 have hse : (isQ e.form.op && ((e.form.op == 8) == pos)) = strongE e.form pos := rfl
 rw [hse] at HSt
 obtain ⟨hpts, hst1⟩ := nodeS_parts hn
 rw [hv]
 rw [hv] at hln
 generalize hL : (e.parts.mapIdx fun i p => namesS p (sgn e.form i pos)) = L at hv hln ⊢
 have hLl : L.length = e.parts.length := by rw [← hL, List.length_mapIdx]
 have hLf : L.flatten.length ≤ e.nodes := by rw [List.length_append] at hln; omega
 have hgrow : ∀ k, ((L.take k).flatten).length ≤ L.flatten.length := fun k => by
  have := congrArg (fun l => l.flatten.length) (List.take_append_drop k L)
  simp only [List.flatten_append, List.length_append] at this
  omega
 simp only [exD, exC_eq, fmD, fmC_eq e.form] at HSt ⊢
 cases hst : strongE e.form pos
 ·rw [hst] at HSt hln
  rw [hst] at hv
  refine FC_of Tryz.call97 Tryz.func97 rfl (by kernel_rfl) (by simp only [rd, List.map_cons, List.map_nil, List.length_cons, List.length_nil, Tryz.ntmps97]; omega) ?_
  simp -implicitDefEqProofs only [go_sem, Tryz.results97]
  refine buildDc (by simp -implicitDefEqProofs only [go_sem]) ?_
  simp -implicitDefEqProofs only [go_sem]
  refine callF (HSt) (by simp -implicitDefEqProofs only [go_sem]) ?_
  simp -implicitDefEqProofs only [go_sem]
  refine loop_rule (fun k : Nat => hd [(1, vT (.bool pos)), (2, .one (.bx 2 0)), (5, .one (.ow 224 0)), (6, vI k)] [(2, [.t (.int .i64 e.form.op), .t (.str e.form.atom.name), .t (tmS e.form.atom.args), .t (.str e.form.var), .t (fmS e.form.parts), .t (tmS e.terms), .t (exS e.parts)])] [(224, ⟨true, 1, (([] : List Str) ++ (L.take k).flatten).map fun s => [.str s], 0, true⟩)]) (fun k => k ≤ e.parts.length) (fun k => e.parts.length - k) 0 (weak_hd ?_) (Nat.zero_le _) ?_
  ·simp -implicitDefEqProofs only [go_sem]
  ·intro k hk
   by_cases hlt : k < e.parts.length
   ·have HPo := l17Sign_c e.form k pos
    have hsg : (pos != (e.form.op == 4 || (e.form.op == 7 && ((k : Int) == 0)))) = sgn e.form k pos := rfl
    rw [hsg] at HPo
    have HC := H e.parts[k] (List.getElem_mem hlt) (sgn e.form k pos) (hpts k hlt)
    have hgk := hgrow k
    have hLk : L[k]'(by omega) = namesS e.parts[k] (sgn e.form k pos) := by simp only [← hL, List.getElem_mapIdx]
    simp only [fmD, fmC_eq e.form, exD, exC_eq e.parts[k]] at HPo HC
    have hg2 := hgrow (k + 1)
    have e9 : (L.take (k + 1)).flatten = (L.take k).flatten ++ namesS e.parts[k] (sgn e.form k pos) := by
     rw [List.take_succ_eq_append_getElem (by omega), List.flatten_append, hLk]; simp
    rw [e9, List.length_append] at hg2
    have hap : (L.take k).flatten.length + (namesS e.parts[k] (sgn e.form k pos)).length ≤ 4294967296 := by omega
    have hap2 : (L.take k).flatten.length + 1 + (namesS e.parts[k] (sgn e.form k pos)).length ≤ 4294967296 := by omega
    simp -implicitDefEqProofs only [go_sem, hlt]
    refine drawn (by kernel_rfl) ?_
    simp -implicitDefEqProofs only [go_sem, hlt, getD_at, exC_eq e.parts[k]]
    refine dCallF (HPo) (by simp -implicitDefEqProofs only [go_sem]) ?_
    simp -implicitDefEqProofs only [go_sem]
    refine dCallF (HC) (by simp -implicitDefEqProofs only [go_sem]) ?_
    simp -implicitDefEqProofs only [go_sem]
    refine dApD true (by simp -implicitDefEqProofs only [go_sem, ne_eq, List.length_map, hap, hap2]) ?_
    simp -implicitDefEqProofs only [go_sem, ne_eq, List.length_map, hap, hap2]
    refine ⟨by kernel_rfl, k + 1, hlt, by omega, weak_hd ?_⟩
    simp -implicitDefEqProofs only [go_sem]
    rw [wrap_s (by omega), e9, List.map_append]
    exact ⟨rfl, rfl⟩
   ·have htk : (L.take k) = L := List.take_of_length_le (by omega)
    simp -implicitDefEqProofs only [go_sem, hlt, htk]
 ·rw [hst] at HSt hln
  rw [hst] at hv
  obtain ⟨t, ht⟩ := List.length_eq_one_iff.1 (hst1 hst)
  have h1 : e.terms.length = 1 := hst1 hst
  have hgd : e.terms.getD 0 Tm.zero = t := by rw [ht]; rfl
  have e0 : (List.map tmC e.terms).getD 0 [] = tmC t := by rw [ht]; rfl
  rw [hgd]
  rw [hgd] at hln
  refine FC_of Tryz.call97 Tryz.func97 rfl (by kernel_rfl) (by simp only [rd, List.map_cons, List.map_nil, List.length_cons, List.length_nil, Tryz.ntmps97]; omega) ?_
  simp -implicitDefEqProofs only [go_sem, Tryz.results97]
  refine buildDc (by simp -implicitDefEqProofs only [go_sem]) ?_
  simp -implicitDefEqProofs only [go_sem]
  refine callF (HSt) (by simp -implicitDefEqProofs only [go_sem, h1, e0, tmC_eq t]) ?_
  simp -implicitDefEqProofs only [go_sem, h1, e0, tmC_eq t]
  refine buildDc (by simp -implicitDefEqProofs only [go_sem]) ?_
  simp -implicitDefEqProofs only [go_sem]
  refine apD true (by simp -implicitDefEqProofs only [go_sem, ne_eq]) ?_
  simp -implicitDefEqProofs only [go_sem, ne_eq]
  refine loop_rule (fun k : Nat => hd [(1, vT (.bool pos)), (2, .one (.bx 2 0)), (5, .one (.ow 224 0)), (6, vI k)] [(2, [.t (.int .i64 e.form.op), .t (.str e.form.atom.name), .t (tmS e.form.atom.args), .t (.str e.form.var), .t (fmS e.form.parts), .t (tmS e.terms), .t (exS e.parts)])] [(224, ⟨true, 1, ([t.name] ++ (L.take k).flatten).map fun s => [.str s], 0, true⟩)]) (fun k => k ≤ e.parts.length) (fun k => e.parts.length - k) 0 (weak_hd ?_) (Nat.zero_le _) ?_
  ·simp -implicitDefEqProofs only [go_sem]
  ·intro k hk
   by_cases hlt : k < e.parts.length
   ·have HPo := l17Sign_c e.form k pos
    have hsg : (pos != (e.form.op == 4 || (e.form.op == 7 && ((k : Int) == 0)))) = sgn e.form k pos := rfl
    rw [hsg] at HPo
    have HC := H e.parts[k] (List.getElem_mem hlt) (sgn e.form k pos) (hpts k hlt)
    have hgk := hgrow k
    have hLk : L[k]'(by omega) = namesS e.parts[k] (sgn e.form k pos) := by simp only [← hL, List.getElem_mapIdx]
    simp only [fmD, fmC_eq e.form, exD, exC_eq e.parts[k]] at HPo HC
    have hg2 := hgrow (k + 1)
    have e9 : (L.take (k + 1)).flatten = (L.take k).flatten ++ namesS e.parts[k] (sgn e.form k pos) := by
     rw [List.take_succ_eq_append_getElem (by omega), List.flatten_append, hLk]; simp
    rw [e9, List.length_append] at hg2
    have hap : (L.take k).flatten.length + (namesS e.parts[k] (sgn e.form k pos)).length ≤ 4294967296 := by omega
    have hap2 : (L.take k).flatten.length + 1 + (namesS e.parts[k] (sgn e.form k pos)).length ≤ 4294967296 := by omega
    simp -implicitDefEqProofs only [go_sem, hlt]
    refine drawn (by kernel_rfl) ?_
    simp -implicitDefEqProofs only [go_sem, hlt, getD_at, exC_eq e.parts[k]]
    refine dCallF (HPo) (by simp -implicitDefEqProofs only [go_sem]) ?_
    simp -implicitDefEqProofs only [go_sem]
    refine dCallF (HC) (by simp -implicitDefEqProofs only [go_sem]) ?_
    simp -implicitDefEqProofs only [go_sem]
    refine dApD true (by simp -implicitDefEqProofs only [go_sem, ne_eq, List.length_map, hap, hap2]) ?_
    simp -implicitDefEqProofs only [go_sem, ne_eq, List.length_map, hap, hap2]
    refine ⟨by kernel_rfl, k + 1, hlt, by omega, weak_hd ?_⟩
    simp -implicitDefEqProofs only [go_sem]
    rw [wrap_s (by omega), e9, List.map_append]
    exact ⟨rfl, rfl⟩
   ·have htk : (L.take k) = L := List.take_of_length_le (by omega)
    simp -implicitDefEqProofs only [go_sem, hlt, htk]
end Go.Proofs.YtbccfiillleimaaGreat
namespace Go.Proofs.YtbccfiillleimaaGreat
set_option linter.unusedSimpArgs false
set_option linter.unusedVariables false
set_option linter.unusedSectionVars false
set_option maxRecDepth 4000
open Go.RowKit
theorem l17Names_c : ∀ e : Ex, e.wt ≤ 1048576 → ∀ pos, nodeS e pos = true → FC Tryz.prog 97 [exD e, bD pos] [.one (strS (namesS e pos))] :=
 ex_ind fun f ts ps ih he pos hn => l17Names_of (.mk f ts ps) he pos hn fun p hp pos hn => ih p hp (Nat.le_trans (eparts_wt (a := .mk f ts ps) hp) he) pos hn
theorem l17Node_c : ∀ e : Ex, e.wt ≤ 1048576 → e.form.forms = true → ∀ pos, nodeSP e pos :=
 ex_ind fun f ts ps ih he hf pos => l17Node_of (.mk f ts ps) he hf (fun p hp hpf pos => ih p hp (Nat.le_trans (eparts_wt (a := .mk f ts ps) hp) he) hpf pos) pos
noncomputable def specOk (e : Ex) (pos : Bool) : Bool := e.form.good && decide (e.nodes ≤ 60) && nodeS e pos && dec ((namesS e pos).Nodup ∧ ∀ n ∈ namesS e pos, n ∉ putSs [] (vf e.form []))
set_option maxHeartbeats 2000000 in
theorem l17Good_c (e : Ex) (he : e.wt ≤ 1048576) (pos : Bool) : FC Tryz.prog 83 [exD e, bD pos] [bD (specOk e pos)] := by
 have hv : specOk e pos = (e.form.good && decide (e.nodes ≤ 60) && nodeS e pos && dec ((namesS e pos).Nodup ∧ ∀ n ∈ namesS e pos, n ∉ putSs [] (vf e.form []))) := rfl
 have HN := l17Size_c e (by omega) 60 (by omega) (by omega)
 have hs : decide (manyE e 60 ≤ 60) = decide (e.nodes ≤ 60) := manyE_le e 60
 have hfw := form_wt e
 have HG := l8Good_c e.form (by omega)
 simp only [exD, exC_eq, fmD, fmC_eq] at HN HG ⊢
 cases hg : e.form.good
 ·rw [hg, Bool.false_and, Bool.false_and, Bool.false_and] at hv
  rw [hv]
  rw [hg] at HG
  refine FC_of Tryz.call83 Tryz.func83 rfl (by kernel_rfl) (by simp only [rd, List.map_cons, List.map_nil, List.length_cons, List.length_nil, Tryz.ntmps83]; omega) ?_
  simp -implicitDefEqProofs only [go_sem, Tryz.results83]
  refine callF (HG) (by simp -implicitDefEqProofs only [go_sem]) ?_
  simp -implicitDefEqProofs only [go_sem]
 ·rw [hg, Bool.true_and] at hv
  rw [hg] at HG
  cases hn : decide (e.nodes ≤ 60)
  ·have hs2 : decide (60 < manyE e 60) = true := by rw [hn] at hs; rw [decide_eq_true_eq]; rw [decide_eq_false_iff_not] at hs; omega
   rw [hn, Bool.false_and, Bool.false_and] at hv
   rw [hv]
   refine FC_of Tryz.call83 Tryz.func83 rfl (by kernel_rfl) (by simp only [rd, List.map_cons, List.map_nil, List.length_cons, List.length_nil, Tryz.ntmps83]; omega) ?_
   simp -implicitDefEqProofs only [go_sem, Tryz.results83]
   refine callF (HG) (by simp -implicitDefEqProofs only [go_sem]) ?_
   simp -implicitDefEqProofs only [go_sem]
   refine callF (HN) (by simp -implicitDefEqProofs only [go_sem, hs2]) ?_
   simp -implicitDefEqProofs only [go_sem, hs2]
  ·have hs2 : decide (60 < manyE e 60) = false := by rw [hn] at hs; rw [decide_eq_false_iff_not]; rw [decide_eq_true_eq] at hs; omega
   rw [hn, Bool.true_and] at hv
   have HD := l17Node_c e he (gforms' hg) pos
   unfold nodeSP at HD
   simp only [exD, exC_eq] at HD
   cases hnd : nodeS e pos
   ·rw [hnd, Bool.false_and] at hv
    rw [hv]
    rw [hnd] at HD
    refine FC_of Tryz.call83 Tryz.func83 rfl (by kernel_rfl) (by simp only [rd, List.map_cons, List.map_nil, List.length_cons, List.length_nil, Tryz.ntmps83]; omega) ?_
    simp -implicitDefEqProofs only [go_sem, Tryz.results83]
    refine callF (HG) (by simp -implicitDefEqProofs only [go_sem]) ?_
    simp -implicitDefEqProofs only [go_sem]
    refine callF (HN) (by simp -implicitDefEqProofs only [go_sem, hs2]) ?_
    simp -implicitDefEqProofs only [go_sem, hs2]
    refine callF (HD) (by simp -implicitDefEqProofs only [go_sem]) ?_
    simp -implicitDefEqProofs only [go_sem]
   ·rw [hnd, Bool.true_and] at hv
    rw [hnd] at HD
    have HM := l17Names_c e he pos hnd
    have HF := l8Free_c e.form (gforms' hg) (by omega)
    have hnl := namesS_len e pos
    have hen := enodes_wt e
    generalize namesS e pos = ns at hv HM hnl
    generalize putSs [] (vf e.form []) = V at hv HF
    simp only [exD, exC_eq, fmD, fmC_eq] at HM HF
    refine FC_ofN Tryz.call83 Tryz.func83 rfl (by kernel_rfl) (by simp only [rd, List.map_cons, List.map_nil, List.length_cons, List.length_nil, Tryz.ntmps83]; omega) ?_
    simp -implicitDefEqProofs only [go_sem, Tryz.results83]
    refine callF (HG) (by simp -implicitDefEqProofs only [go_sem]) ?_
    simp -implicitDefEqProofs only [go_sem]
    refine callF (HN) (by simp -implicitDefEqProofs only [go_sem, hs2]) ?_
    simp -implicitDefEqProofs only [go_sem, hs2]
    refine callF (HD) (by simp -implicitDefEqProofs only [go_sem]) ?_
    simp -implicitDefEqProofs only [go_sem]
    refine callFr (HM) (by simp -implicitDefEqProofs only [go_sem]) ?_
    simp -implicitDefEqProofs only [go_sem]
    refine callFr (HF) (by simp -implicitDefEqProofs only [go_sem]) ?_
    simp -implicitDefEqProofs only [go_sem]
    refine loop_rule (fun k : Nat => hd [(5, .one (.rn (strS ns))), (6, .one (.rn (strS V))), (7, vI k)] [] []) (fun k => k ≤ ns.length ∧ (ns.take k).Nodup ∧ ∀ n ∈ ns.take k, n ∉ V) (fun k => ns.length - k) 0 (weak_hd ?_) ⟨Nat.zero_le _, List.nodup_nil, by simp⟩ ?_
    ·simp -implicitDefEqProofs only [go_sem]
    ·rintro k ⟨hk, hT, hT2⟩
     by_cases hlt : k < ns.length
     ·have H1 := l2In_c (ns.take k) ns[k]
      have H2 := l2In_c V ns[k]
      have eT : strS (ns.take k) = .sl 1 ((ns.map fun s => [T.str s]).take k) := by unfold strS; rw [List.map_take]
      rw [eT] at H1
      cases h1 : (ns.take k).contains ns[k]
      ·rw [h1] at H1
       cases h2 : V.contains ns[k]
       ·rw [h2] at H2
        simp -implicitDefEqProofs only [go_sem, hlt]
        refine drawn (by kernel_rfl) ?_
        simp -implicitDefEqProofs only [go_sem, getD_at, hlt]
        refine ⟨hk, ?_⟩
        refine dCallF (H1) (by simp -implicitDefEqProofs only [go_sem, getD_at, hlt]) ?_
        simp -implicitDefEqProofs only [go_sem, getD_at, hlt]
        refine gCallF (H2) (by simp -implicitDefEqProofs only [go_sem]) ?_
        simp -implicitDefEqProofs only [go_sem]
        refine ⟨by kernel_rfl, k + 1, ⟨hlt, ?_, ?_⟩, by omega, weak_hd ?_⟩
        ·rw [List.take_succ_eq_append_getElem hlt, List.nodup_append]
         refine ⟨hT, by simp, ?_⟩
         rintro a ha b hb rfl
         rw [List.mem_singleton] at hb
         subst hb
         rw [List.contains_iff_mem.2 ha] at h1
         cases h1
        ·intro n hn
         rw [List.take_succ_eq_append_getElem hlt] at hn
         rcases List.mem_append.1 hn with hn | hn
         ·exact hT2 n hn
         ·rw [List.mem_singleton] at hn
          subst hn
          intro hm
          rw [List.contains_iff_mem.2 hm] at h2
          cases h2
        ·simp -implicitDefEqProofs only [go_sem]
         rw [wrap_s (by omega)]
       ·rw [h2] at H2
        have hbad : dec (ns.Nodup ∧ ∀ n ∈ ns, n ∉ V) = false := dec_no.2 fun h => h.2 _ (List.getElem_mem hlt) (List.contains_iff_mem.1 h2)
        rw [hv, hbad]
        simp -implicitDefEqProofs only [go_sem, hlt]
        refine drawn (by kernel_rfl) ?_
        simp -implicitDefEqProofs only [go_sem, getD_at, hlt]
        refine ⟨hk, ?_⟩
        refine dCallF (H1) (by simp -implicitDefEqProofs only [go_sem, getD_at, hlt]) ?_
        simp -implicitDefEqProofs only [go_sem, getD_at, hlt]
        refine gCallF (H2) (by simp -implicitDefEqProofs only [go_sem]) ?_
        simp -implicitDefEqProofs only [go_sem]
        kernel_rfl
      ·rw [h1] at H1
       have hbad : dec (ns.Nodup ∧ ∀ n ∈ ns, n ∉ V) = false := dec_no.2 fun h => by
        have h3 := h.1.sublist (List.take_sublist (k + 1) ns)
        rw [List.take_succ_eq_append_getElem hlt, List.nodup_append] at h3
        exact h3.2.2 _ (List.contains_iff_mem.1 h1) _ (by simp) rfl
       rw [hv, hbad]
       simp -implicitDefEqProofs only [go_sem, hlt]
       refine drawn (by kernel_rfl) ?_
       simp -implicitDefEqProofs only [go_sem, getD_at, hlt]
       refine ⟨hk, ?_⟩
       refine dCallF (H1) (by simp -implicitDefEqProofs only [go_sem, getD_at, hlt]) ?_
       simp -implicitDefEqProofs only [go_sem, getD_at, hlt]
       kernel_rfl
     ·rw [List.take_of_length_le (by omega)] at hT hT2
      rw [show dec (ns.Nodup ∧ ∀ n ∈ ns, n ∉ V) = true from dec_iff.2 ⟨hT, hT2⟩] at hv
      rw [hv]
      simp -implicitDefEqProofs only [go_sem, hlt]
end Go.Proofs.YtbccfiillleimaaGreat
namespace Go.Proofs.YtbccfiillleimaaGreat
set_option linter.unusedSimpArgs false
set_option linter.unusedVariables false
set_option linter.unusedSectionVars false
set_option maxRecDepth 4000
open Go.RowKit
theorem indexFuncStr_c (xs : List Str) (p : Str → Bool) (g : FuncId) (caps : List T) (H : ∀ x ∈ xs, FC Tryz.prog g (sD x :: caps.map .one) [bD (p x)]) : FC Tryz.prog 202 [.one (strS xs), .one (.fn g caps)] [iD (idxP xs p)] := by
 refine FC_wf (fun hw => ?_) Tryz.call202
 have hl : xs.length ≤ 9223372036854775807 := by simpa [wfDs, wfT] using hw.1.1
 refine FC_of Tryz.call202 Tryz.func202 rfl (by kernel_rfl) (by simp only [rd, List.map_cons, List.map_nil, List.length_cons, List.length_nil, Tryz.ntmps202]; omega) ?_
 simp -implicitDefEqProofs only [go_sem, Tryz.results202]
 refine loop_rule (fun k : Nat => hd [(0, vT (strS xs)), (1, vT (.fn g caps)), (7, vI xs.length), (8, vI k)] [] []) (fun k => k ≤ xs.length ∧ ∀ x ∈ xs.take k, p x = false) (fun k => xs.length - k) 0 (weak_hd ?_) ?_ ?_
 ·simp -implicitDefEqProofs only [go_sem]
 ·simp
 ·intro k ⟨hk, hr⟩
  by_cases hlt : k < xs.length
  ·simp -implicitDefEqProofs only [go_sem, getD_at, hlt, ne_eq]
   refine callF (H xs[k] (List.getElem_mem hlt)) (by simp -implicitDefEqProofs only [go_sem, ne_eq]) ?_
   simp -implicitDefEqProofs only [go_sem, ne_eq]
   refine ⟨fun h => ?_, fun h => ⟨k + 1, ⟨hlt, take_all_succ hlt hr h⟩, by omega, weak_hd (by simp -implicitDefEqProofs only [go_sem]; rw [wrap_s (by omega)])⟩⟩
   rw [idxP_found hlt hr h]
  ·simp -implicitDefEqProofs only [go_sem, hlt]
   rw [List.take_of_length_le (by omega)] at hr
   rw [idxP_none hr]
theorem containsFuncStr_c (xs : List Str) (p : Str → Bool) (g : FuncId) (caps : List T) (H : ∀ x ∈ xs, FC Tryz.prog g (sD x :: caps.map .one) [bD (p x)]) : FC Tryz.prog 147 [.one (strS xs), .one (.fn g caps)] [bD (xs.any p)] := by
 refine FC_of Tryz.call147 Tryz.func147 rfl (by kernel_rfl) (by simp only [rd, List.map_cons, List.map_nil, List.length_cons, List.length_nil, Tryz.ntmps147]; omega) ?_
 simp -implicitDefEqProofs only [go_sem, Tryz.results147]
 refine callF (indexFuncStr_c xs p g caps H) (by simp -implicitDefEqProofs only [go_sem]) ?_
 simp -implicitDefEqProofs only [go_sem]
 rw [idxP_any]
end Go.Proofs.YtbccfiillleimaaGreat
namespace Go.Proofs.YtbccfiillleimaaGreat
set_option linter.unusedSimpArgs false
set_option linter.unusedVariables false
set_option linter.unusedSectionVars false
set_option maxRecDepth 4000
open Go.RowKit
noncomputable def expOk (e : Ex) (pos : Bool) : Bool := decide (e.nodes ≤ 60) && e.form.good && (nodeI e pos []).1 && !((nodeI e pos []).2.any fun n => (putSs [] (vf e.form [])).contains n)
theorem isValidExp1_c (V : List Str) (s : Str) : FC Tryz.prog 148 [sD s, .one (.ptr [strS V])] [bD (V.contains s)] := by
 have H := containsStr_c V s
 refine FC_of Tryz.call148 Tryz.func148 rfl (by kernel_rfl) (by simp only [rd, List.map_cons, List.map_nil, List.length_cons, List.length_nil, Tryz.ntmps148]; omega) ?_
 simp -implicitDefEqProofs only [go_sem, Tryz.results148]
 refine callF (H) (by simp -implicitDefEqProofs only [go_sem]) ?_
 simp -implicitDefEqProofs only [go_sem]
theorem isValidExpansion_c (e : Ex) (he : e.wt ≤ 1048576) (pos : Bool) : FC Tryz.prog 87 [exD e, bD pos] [bD (expOk e pos)] := by
 have hv : expOk e pos = (decide (e.nodes ≤ 60) && e.form.good && (nodeI e pos []).1 && !((nodeI e pos []).2.any fun n => (putSs [] (vf e.form [])).contains n)) := rfl
 have HN := nodesOf_c e (by omega)
 have hs := sizeE_le e
 have hfw := form_wt e
 have HG := isValidFormula_c e.form (by omega)
 simp only [exD, exC_eq, fmD, fmC_eq] at HN HG ⊢
 cases hn : decide (e.nodes ≤ 60)
 ·have hs2 : decide (60 < sizeE e) = true := by rw [hn] at hs; rw [decide_eq_true_eq]; rw [decide_eq_false_iff_not] at hs; omega
  rw [hn, Bool.false_and, Bool.false_and, Bool.false_and] at hv
  rw [hv]
  refine FC_ofN Tryz.call87 Tryz.func87 rfl (by kernel_rfl) (by simp only [rd, List.map_cons, List.map_nil, List.length_cons, List.length_nil, Tryz.ntmps87]; omega) ?_
  simp -implicitDefEqProofs only [go_sem, Tryz.results87]
  refine callF (HN) (by simp -implicitDefEqProofs only [go_sem, hs2]) ?_
  simp -implicitDefEqProofs only [go_sem, hs2]
 ·have hs2 : decide (60 < sizeE e) = false := by rw [hn] at hs; rw [decide_eq_false_iff_not]; rw [decide_eq_true_eq] at hs; omega
  cases hg : e.form.good
  ·rw [hn, hg, Bool.true_and, Bool.false_and, Bool.false_and] at hv
   rw [hv]
   rw [hg] at HG
   refine FC_ofN Tryz.call87 Tryz.func87 rfl (by kernel_rfl) (by simp only [rd, List.map_cons, List.map_nil, List.length_cons, List.length_nil, Tryz.ntmps87]; omega) ?_
   simp -implicitDefEqProofs only [go_sem, Tryz.results87]
   refine callF (HN) (by simp -implicitDefEqProofs only [go_sem, hs2]) ?_
   simp -implicitDefEqProofs only [go_sem, hs2]
   refine callF (HG) (by simp -implicitDefEqProofs only [go_sem]) ?_
   simp -implicitDefEqProofs only [go_sem]
  ·rw [hn, hg, Bool.true_and, Bool.true_and] at hv
   rw [hg] at HG
   have HF := free_c e.form (gforms' hg) (by omega)
   have hen := enodes_wt e
   have HI := node_c e he (gforms' hg) pos [] (by simp only [List.length_nil]; omega)
   unfold nodeP at HI
   generalize (nodeI e pos []).1 = b at hv HI
   generalize (nodeI e pos []).2 = E at hv HI
   generalize putSs [] (vf e.form []) = V at hv HF
   have HA := containsFuncStr_c E (fun s => V.contains s) 148 [.ptr [strS V]] fun s _ => isValidExp1_c V s
   simp only [exD, exC_eq, fmD, fmC_eq, List.map_nil] at HI HF
   refine FC_ofN Tryz.call87 Tryz.func87 rfl (by kernel_rfl) (by simp only [rd, List.map_cons, List.map_nil, List.length_cons, List.length_nil, Tryz.ntmps87]; omega) ?_
   simp -implicitDefEqProofs only [go_sem, Tryz.results87]
   refine callF (HN) (by simp -implicitDefEqProofs only [go_sem, hs2]) ?_
   simp -implicitDefEqProofs only [go_sem, hs2]
   refine callF (HG) (by simp -implicitDefEqProofs only [go_sem]) ?_
   simp -implicitDefEqProofs only [go_sem]
   refine callFr (HF) (by simp -implicitDefEqProofs only [go_sem]) ?_
   simp -implicitDefEqProofs only [go_sem]
   refine callPL [4, 5, 6] [21, 22, 23] [17] [] (HI) (by decide) rfl (by simp -implicitDefEqProofs only [go_sem]) (by simp -implicitDefEqProofs only [go_sem]) (by simp -implicitDefEqProofs only [go_sem]) (by simp -implicitDefEqProofs only [go_sem]) ?_
   simp -implicitDefEqProofs only [go_sem]
   refine ⟨fun hb => ?_, fun hb => Or.inl (by rw [hv, hb]; rfl)⟩
   refine callF (HA) (by simp -implicitDefEqProofs only [go_sem]) ?_
   simp -implicitDefEqProofs only [go_sem]
   exact Or.inl (by rw [hv, hb]; rfl)
end Go.Proofs.YtbccfiillleimaaGreat
namespace Go.Proofs.YtbccfiillleimaaGreat
set_option linter.unusedSimpArgs false
set_option linter.unusedVariables false
set_option linter.unusedSectionVars false
set_option maxRecDepth 4000
open Go.RowKit
theorem put_nodes (n : Str) (t : Tm) : ∀ f : Fm, f.forms = true → (putF n t f).2 = true → (putF n t f).1.nodes = f.nodes := fm_ind fun o a v ps ih hf h => by
 have hP := putF_eq n t (.mk o a v ps)
 have hf0 := hf
 rw [Fm.forms_eq, Bool.and_eq_true] at hf0
 obtain ⟨hh, hps⟩ := hf0
 have hps : ∀ x ∈ ps, x.forms = true := List.all_eq_true.1 hps
 cases h3 : o == 3
 ·rw [hP] at h ⊢
  change (if (o == 3) = true then _ else if (isQ o && _) = true then _ else if (isQ o && _) = true then _ else (Fm.mk o (.mk [] []) v ((ps.takeWhile fun x => (putF n t x).2).map fun x => (putF n t x).1), ps.all fun x => (putF n t x).2) : Fm × Bool).2 = true at h
  change (if (o == 3) = true then _ else if (isQ o && _) = true then _ else if (isQ o && _) = true then _ else (Fm.mk o (.mk [] []) v ((ps.takeWhile fun x => (putF n t x).2).map fun x => (putF n t x).1), ps.all fun x => (putF n t x).2) : Fm × Bool).1.nodes = _
  rw [h3, if_neg (by simp)] at h ⊢
  split
  ·rfl
  ·rename_i h1
   rw [if_neg h1] at h
   split
   ·rename_i h2
    rw [if_pos h2] at h; cases h
   ·rename_i h2
    rw [if_neg h2] at h
    have h1 : (ps.all fun x => (putF n t x).2) = true := h
    have hA := List.all_eq_true.1 h1
    have hw : (ps.takeWhile fun x => (putF n t x).2) = ps := by
     have := (takeW_at (l := ps) (p := fun x => (putF n t x).2) (k := ps.length) (Nat.le_refl _) (by rw [List.take_length]; exact hA) fun h => absurd h (Nat.lt_irrefl _)).1
     rw [this, List.take_length]
    rw [hw]
    show (Fm.mk o (.mk [] []) v (ps.map fun x => (putF n t x).1)).nodes = _
    rw [Fm.nodes_eq, Fm.nodes_eq]
    show 1 + ((ps.map fun x => (putF n t x).1).map Fm.nodes).sum = 1 + (ps.map Fm.nodes).sum
    rw [List.map_map]
    show 1 + (ps.map fun x => (putF n t x).1.nodes).sum = _
    rw [List.map_congr_left (g := Fm.nodes) fun x hx => ih x hx (hps x hx) (hA x hx)]
 ·have ho3 : o = 3 := by simpa using h3
  obtain ⟨_, hp⟩ := here_atom (f := .mk o a v ps) hh ho3
  have hp : ps = [] := hp
  rw [hP]
  change (if (o == 3) = true then (Fm.mk o (putT (bnd n t) a) v [], (putT (bnd n t) a).atomOk) else _ : Fm × Bool).1.nodes = _
  rw [h3, if_pos rfl, hp, Fm.nodes_eq, Fm.nodes_eq]
  rfl
theorem same_comm {α : Type} (a b : α) : same a b = same b a := by
 rw [Bool.eq_iff_iff, same_iff, same_iff]; exact eq_comm
theorem sb_put (n : Str) (t : Tm) (q : Fm) (hq : q.good = true) (hn : varOk n = true) (ht : t.good = true) (g : Fm) : ((sbF n t q).2 && same (sbF n t q).1 g) = ((putF n t q).2 && same g (putF n t q).1) := by
 have htn : t.names = true := ((Bool.and_eq_true _ _).mp ht).2
 have hqf := gforms' hq
 have h1 := sub_good n t hn htn q hqf
 have h2 := sub_put n t hn htn q hqf
 unfold sbF
 rw [hq, hn, ht]
 simp only [Bool.and_self, Bool.true_and]
 rw [h1]
 cases hp : (putF n t q).2
 ·simp only [Bool.false_and, Bool.false_eq_true, if_false]
 ·have hpf := put_forms n t q hqf hp
  have hpg : (putF n t q).1.good = true := by
   unfold Fm.good at hq ⊢
   rw [Bool.and_eq_true, decide_eq_true_eq] at hq ⊢
   rw [put_nodes n t q hqf hp]
   exact ⟨hq.1, hpf⟩
  rw [hpg]
  simp only [Bool.and_self, if_true, Bool.true_and]
  rw [h2.2 hp hpf, same_comm]
theorem good_part {f q : Fm} (h : f.good = true) (hm : q ∈ f.parts) : q.good = true := by
 unfold Fm.good at h ⊢
 rw [Bool.and_eq_true, decide_eq_true_eq] at h ⊢
 have hp := part_nodes hm
 have := h.2
 rw [Fm.forms_eq, Bool.and_eq_true] at this
 exact ⟨by omega, List.all_eq_true.1 this.2 q hm⟩
theorem runL_spec : ∀ (L : List (Bool × (List Str → Bool × List Str))) (S : List (Bool × List Str)) (hl : L.length = S.length) (E : List Str), E.Nodup → (∀ i (h : i < L.length), L[i].1 = true → ∀ E : List Str, E.Nodup → ((L[i].2 E).1 = true ↔ (S[i]'(by omega)).1 = true ∧ (E ++ (S[i]'(by omega)).2).Nodup) ∧ ((L[i].2 E).1 = true → (L[i].2 E).2 = E ++ (S[i]'(by omega)).2)) →
  ((runL L E).1 = true ↔ (∀ i (h : i < L.length), L[i].1 = true ∧ (S[i]'(by omega)).1 = true) ∧ (E ++ (S.map Prod.snd).flatten).Nodup) ∧ ((runL L E).1 = true → (runL L E).2 = E ++ (S.map Prod.snd).flatten)
 | [], [], _, E, hE, _ => ⟨⟨fun _ => ⟨fun i h => by simp at h, by simpa using hE⟩, fun _ => rfl⟩, fun _ => by simp [runL]⟩
 | [], _ :: _, hl, _, _, _ => by simp at hl
 | _ :: _, [], hl, _, _, _ => by simp at hl
 | (c, g) :: L, (s, N) :: S, hl, E, hE, h => by
  have hl' : L.length = S.length := by simpa using hl
  cases hc : c
  ·have : runL ((false, g) :: L) E = (false, E) := rfl
   rw [this]
   refine ⟨⟨fun h => (by cases h), fun h => ?_⟩, fun h => (by cases h)⟩
   have := (h.1 0 (by simp)).1
   cases this
  ·subst hc
   obtain ⟨k1, k2⟩ := h 0 (by simp) rfl E hE
   have k1 : (g E).1 = true ↔ s = true ∧ (E ++ N).Nodup := k1
   have k2 : (g E).1 = true → (g E).2 = E ++ N := k2
   cases hg : (g E).1
   ·have e0 : runL ((true, g) :: L) E = (false, (g E).2) := by unfold runL; rw [if_pos rfl, hg, if_neg (by simp)]
    rw [e0]
    rw [hg] at k1
    refine ⟨⟨fun h => (by cases h), fun h => ?_⟩, fun h => (by cases h)⟩
    have h1 := (h.1 0 (by simp)).2
    have h2 : (E ++ N).Nodup := by
     have := h.2
     rw [List.map_cons, List.flatten_cons, ← List.append_assoc] at this
     exact (List.nodup_append.1 this).1
    exact (by have := k1.2 ⟨h1, h2⟩; cases this)
   ·have e0 : runL ((true, g) :: L) E = runL L (g E).2 := by unfold runL; rw [if_pos rfl, hg, if_pos rfl]; cases L <;> rfl
    rw [e0, k2 hg]
    obtain ⟨s1, n1⟩ := k1.1 hg
    obtain ⟨r1, r2⟩ := runL_spec L S hl' (E ++ N) n1 fun i hi hci E hE => by
     have := h (i + 1) (by simpa using hi) (by simpa using hci) E hE
     simpa using this
    rw [List.map_cons, List.flatten_cons, ← List.append_assoc]
    refine ⟨r1.trans ⟨fun ⟨a, b⟩ => ⟨fun i hi => ?_, b⟩, fun ⟨a, b⟩ => ⟨fun i hi => ?_, b⟩⟩, r2⟩
    ·cases i with
     | zero => exact ⟨rfl, s1⟩
     | succ i => exact a i (by simpa using hi)
    ·exact a (i + 1) (by simpa using hi)
end Go.Proofs.YtbccfiillleimaaGreat
namespace Go.Proofs.YtbccfiillleimaaGreat
set_option linter.unusedSimpArgs false
set_option linter.unusedVariables false
set_option linter.unusedSectionVars false
set_option maxRecDepth 4000
open Go.RowKit
theorem all_iff {ps : List Ex} (t : Nat → Ex → Bool) (s : Nat → Ex → Bool) : (ps.mapIdx fun i p => (t i p && s i p)).all id = true ↔ ∀ i (h : i < ps.length), t i ps[i] = true ∧ s i ps[i] = true := by
 rw [List.all_eq_true]
 constructor
 ·intro h i hi
  have := h _ (List.getElem_mem (l := ps.mapIdx fun i p => (t i p && s i p)) (n := i) (by simpa using hi))
  simpa only [List.getElem_mapIdx, id, Bool.and_eq_true] using this
 ·intro h x hx
  obtain ⟨i, hi, rfl⟩ := List.getElem_of_mem hx
  have hi' : i < ps.length := by simpa using hi
  simp only [List.getElem_mapIdx, id, Bool.and_eq_true]
  exact h i hi'
theorem parts_spec (ps : List Ex) (t : Nat → Ex → Bool) (sg : Nat → Bool) (ih : ∀ i (h : i < ps.length), t i ps[i] = true → ∀ E : List Str, E.Nodup → ((nodeI ps[i] (sg i) E).1 = true ↔ nodeS ps[i] (sg i) = true ∧ (E ++ namesS ps[i] (sg i)).Nodup) ∧ ((nodeI ps[i] (sg i) E).1 = true → (nodeI ps[i] (sg i) E).2 = E ++ namesS ps[i] (sg i))) (E : List Str) (hE : E.Nodup) :
  ((runL (ps.mapIdx fun i p => (t i p, nodeI p (sg i))) E).1 = true ↔ (ps.mapIdx fun i p => (t i p && nodeS p (sg i))).all id = true ∧ (E ++ (ps.mapIdx fun i p => namesS p (sg i)).flatten).Nodup) ∧ ((runL (ps.mapIdx fun i p => (t i p, nodeI p (sg i))) E).1 = true → (runL (ps.mapIdx fun i p => (t i p, nodeI p (sg i))) E).2 = E ++ (ps.mapIdx fun i p => namesS p (sg i)).flatten) := by
 have h := runL_spec (ps.mapIdx fun i p => (t i p, nodeI p (sg i))) (ps.mapIdx fun i p => (nodeS p (sg i), namesS p (sg i))) (by simp) E hE fun i hi hc E hE => by
  have hi' : i < ps.length := by simpa using hi
  simp only [List.getElem_mapIdx] at hc ⊢
  exact ih i hi' hc E hE
 have em : (ps.mapIdx fun i p => (nodeS p (sg i), namesS p (sg i))).map Prod.snd = ps.mapIdx fun i p => namesS p (sg i) := by
  refine List.ext_getElem? fun i => ?_
  simp only [List.getElem?_map, List.getElem?_mapIdx, Option.map_map, Function.comp_def]
 rw [em] at h
 refine ⟨h.1.trans (and_congr_left fun _ => ?_), h.2⟩
 rw [all_iff]
 constructor
 ·intro a i hi
  have := a i (by simpa using hi)
  simpa only [List.getElem_mapIdx] using this
 ·intro a i hi
  have := a i (by simpa using hi)
  simpa only [List.getElem_mapIdx] using this
theorem node_spec : ∀ e : Ex, e.form.good = true → ∀ pos (E : List Str), E.Nodup → ((nodeI e pos E).1 = true ↔ nodeS e pos = true ∧ (E ++ namesS e pos).Nodup) ∧ ((nodeI e pos E).1 = true → (nodeI e pos E).2 = E ++ namesS e pos) := ex_ind fun f ts ps ih hg pos E hE => by
 rw [nodeI_eq, nodeS_eq, namesS_eq]
 have hg : f.good = true := hg
 have eF : (Ex.mk f ts ps).form = f := rfl
 have eT : (Ex.mk f ts ps).terms = ts := rfl
 have eP : (Ex.mk f ts ps).parts = ps := rfl
 simp only [eF, eT, eP]
 cases hq : isQ f.op
 ·have hst : strongE f pos = false := by unfold strongE; rw [hq]; rfl
  rw [hst]
  simp only [Bool.false_eq_true, if_false, List.nil_append]
  by_cases hc : ts.length = 0 ∧ ps.length = f.parts.length
  ·rw [if_pos hc]
   have h := parts_spec ps (tstN f) (fun i => sgn f i pos) (fun i hi ht E hE => ih ps[i] (List.getElem_mem hi) (by
    have hif : i < f.parts.length := by omega
    unfold tstN at ht
    rw [getD_eq hif] at ht
    rw [← same_iff.1 ht]
    exact good_part hg (List.getElem_mem hif)) _ E hE) E hE
   rw [show decide (ts.length = 0) = true by simp [hc.1], show decide (ps.length = f.parts.length) = true by simp [hc.2], Bool.true_and, Bool.true_and]
   have e1 : (fun (i : Nat) (p : Ex) => (same p.form (f.parts.getD i (mkF 0 [])) && nodeS p (sgn f i pos))) = fun i p => (tstN f i p && nodeS p (sgn f i pos)) := by
    funext i p; unfold tstN; rw [same_comm]
   rw [e1]
   exact h
  ·rw [if_neg hc]
   refine ⟨⟨fun h => (by cases h), fun h => ?_⟩, fun h => (by cases h)⟩
   have h := h.1
   simp only [Bool.and_eq_true, decide_eq_true_eq] at h
   exact absurd h.1 hc
 ·obtain ⟨q, hp, hqf⟩ := q_parts hq (gforms' hg)
  have hqg : q.good = true := good_part hg (by rw [hp]; simp)
  have hvar : varOk f.var = true := by
   have := gforms' hg
   rw [Fm.forms_eq, Bool.and_eq_true] at this
   exact here_q this.1 hq
  have esg : (fun (i : Nat) (p : Ex) => namesS p (sgn f i pos)) = fun i p => namesS p pos := by funext i p; rw [sgn_q hq]
  have hse : strongE f pos = ((f.op == 8) == pos) := by unfold strongE; rw [hq, Bool.true_and]
  simp only [if_true]
  rw [esg]
  have core : TOk ts → ts.length = ps.length → ∀ E1 : List Str, E1.Nodup → ((runL (ps.mapIdx fun i p => (tstQ f ts i p, nodeI p pos)) E1).1 = true ↔ (ps.mapIdx fun i p => (tstS f ts i p && nodeS p pos)).all id = true ∧ (E1 ++ (ps.mapIdx fun i p => namesS p pos).flatten).Nodup) ∧ ((runL (ps.mapIdx fun i p => (tstQ f ts i p, nodeI p pos)) E1).1 = true → (runL (ps.mapIdx fun i p => (tstQ f ts i p, nodeI p pos)) E1).2 = E1 ++ (ps.mapIdx fun i p => namesS p pos).flatten) := fun hT hl E1 hE1 => by
   have et : ∀ i (h : i < ps.length), tstQ f ts i ps[i] = tstS f ts i ps[i] := fun i hi => by
    have hit : i < ts.length := by omega
    obtain ⟨g1, g2⟩ := hT i hit
    have hpq : f.parts.getD 0 (mkF 0 []) = q := by
     have hp : f.parts = [q] := hp
     rw [hp]; rfl
    unfold tstQ tstS
    rw [getD_eq hit, hpq, sb_put f.var ts[i] q hqg hvar g1, g1, g2]
    simp only [Bool.not_false, Bool.and_self, Bool.true_and]
   have em : (ps.mapIdx fun i p => (tstQ f ts i p, nodeI p pos)) = ps.mapIdx fun i p => (tstS f ts i p, nodeI p pos) := by
    refine List.ext_getElem (by simp) fun i h1 h2 => ?_
    simp only [List.getElem_mapIdx]
    rw [et i (by simpa using h1)]
   rw [em]
   refine parts_spec ps (tstS f ts) (fun _ => pos) (fun i hi ht E hE => ih ps[i] (List.getElem_mem hi) ?_ _ E hE) E1 hE1
   have hit : i < ts.length := by omega
   have hpq : f.parts.getD 0 (mkF 0 []) = q := by
    have hp : f.parts = [q] := hp
    rw [hp]; rfl
   unfold tstS at ht
   rw [getD_eq hit, hpq] at ht
   simp only [Bool.and_eq_true] at ht
   rw [same_iff.1 ht.2]
   unfold Fm.good at hqg ⊢
   rw [Bool.and_eq_true, decide_eq_true_eq] at hqg ⊢
   rw [put_nodes _ _ q hqf ht.1.2]
   exact ⟨hqg.1, put_forms _ _ q hqf ht.1.2⟩
  have hTS : ts.length = ps.length → (ps.mapIdx fun i p => (tstS f ts i p && nodeS p pos)).all id = true → TOk ts := fun hl h k hk => by
   have h := (all_iff (tstS f ts) (fun _ p => nodeS p pos)).1 h k (by omega)
   have h := h.1
   unfold tstS at h
   rw [getD_eq hk] at h
   simp only [Bool.and_eq_true, Bool.not_eq_true'] at h
   exact ⟨h.1.1.1, h.1.1.2⟩
  unfold termsI
  simp only [eF, eT, eP]
  cases hd : dec (TOk ts)
  ·rw [if_neg (by simp)]
   simp only [Bool.false_eq_true, if_false, false_iff, false_implies, and_true]
   rintro ⟨h1, _⟩
   simp only [Bool.and_eq_true, decide_eq_true_eq] at h1
   exact dec_no.1 hd (hTS h1.1.1 h1.2)
  ·have hT : TOk ts := dec_iff.1 hd
   rw [if_pos rfl, ← hse]
   cases hst : strongE f pos
   ·simp only [Bool.false_eq_true, if_false, Bool.not_false, Bool.true_or, Bool.and_true, List.nil_append]
    by_cases hl : ps.length = ts.length
    ·have hl' : ts.length = ps.length := hl.symm
     rw [show decide (ps.length = ts.length) = true by simp [hl], show decide (ts.length = ps.length) = true by simp [hl'], if_pos rfl, Bool.true_and]
     exact core hT hl' E hE
    ·rw [show decide (ps.length = ts.length) = false by simp [hl], show decide (ts.length = ps.length) = false by simp; omega]
     simp
   ·simp only [if_true, Bool.not_true, Bool.false_or]
    have hbad : ts.length ≠ 1 → ∀ X : Prop, ¬ ((decide (ts.length = ps.length) && (decide (ts.length = 1) && varOk (ts.getD 0 Tm.zero).name) && (ps.mapIdx fun i p => (tstS f ts i p && nodeS p pos)).all id) = true ∧ X) := fun h X hh => by
     have := hh.1
     simp only [Bool.and_eq_true, decide_eq_true_eq] at this
     exact h this.1.2.1
    match ts, hT, core, hbad with
    | [], _, _, hbad => exact ⟨⟨fun h => (by cases h), fun h => absurd h (hbad (by simp) _)⟩, fun h => (by cases h)⟩
    | _ :: _ :: _, _, _, hbad => exact ⟨⟨fun h => (by cases h), fun h => absurd h (hbad (by simp) _)⟩, fun h => (by cases h)⟩
    | [t], hT, core, _ =>
     have e0 : ([t].getD 0 Tm.zero) = t := rfl
     simp only [e0, List.length_singleton, decide_true, Bool.true_and]
     cases hv : varOk t.name
     ·simp only [Bool.false_and, Bool.false_eq_true, if_false, Bool.and_false, false_and, iff_false, not_false_eq_true, false_implies, and_self]
     ·cases hcn : E.contains t.name
      ·have hn : t.name ∉ E := fun hm => by rw [List.contains_iff_mem.2 hm] at hcn; cases hcn
       have hE1 : (E ++ [t.name]).Nodup := by
        rw [List.nodup_append]
        refine ⟨hE, by simp, ?_⟩
        rintro a ha b hb rfl
        rw [List.mem_singleton] at hb
        subst hb; exact hn ha
       by_cases hl : ps.length = 1
       ·simp only [Bool.true_and, Bool.not_false, if_true, hl, decide_true, Bool.and_true]
        have := core hT hl.symm (E ++ [t.name]) hE1
        rw [List.append_assoc] at this
        exact this
       ·have hl2 : ¬ 1 = ps.length := fun h => hl h.symm
        simp only [Bool.true_and, Bool.not_false, if_true, hl, hl2, decide_false, Bool.false_eq_true, if_false, Bool.false_and, false_and, iff_false, not_false_eq_true, false_implies, and_self]
      ·simp only [Bool.not_true, Bool.and_false, Bool.false_eq_true, if_false, false_iff, false_implies, and_true]
       rintro ⟨_, h⟩
       have hm : t.name ∈ E := List.contains_iff_mem.1 hcn
       have := (List.nodup_append.1 h).2.2 _ hm t.name (by simp)
       exact this rfl
theorem exp_spec (e : Ex) (pos : Bool) : expOk e pos = specOk e pos := by
 unfold expOk specOk
 cases hg : e.form.good
 ·simp
 ·obtain ⟨h1, h2⟩ := node_spec e hg pos [] List.nodup_nil
  rw [List.nil_append] at h1 h2
  cases hn : decide (e.nodes ≤ 60)
  ·simp
  ·simp only [Bool.true_and]
   rw [Bool.eq_iff_iff, Bool.and_eq_true, Bool.and_eq_true, h1, dec_iff]
   constructor
   ·rintro ⟨⟨a, b⟩, c⟩
    refine ⟨a, b, fun n hn hm => ?_⟩
    rw [h2 (h1.2 ⟨a, b⟩), Bool.not_eq_true', List.any_eq_false] at c
    exact c n hn (List.contains_iff_mem.2 hm)
   ·rintro ⟨a, b, c⟩
    refine ⟨⟨a, b⟩, ?_⟩
    rw [h2 (h1.2 ⟨a, b⟩), Bool.not_eq_true', List.any_eq_false]
    exact fun n hn hm => c n hn (List.contains_iff_mem.1 hm)
end Go.Proofs.YtbccfiillleimaaGreat
namespace Go.Proofs.YtbccfiillleimaaGreat
set_option linter.unusedSimpArgs false
set_option linter.unusedVariables false
set_option linter.unusedSectionVars false
set_option maxRecDepth 4000
open Go.RowKit
theorem map_mapIdx' {α β γ : Type} (f : β → γ) (g : Nat → α → β) (l : List α) : (l.mapIdx g).map f = l.mapIdx fun i a => f (g i a) := List.ext_getElem (by simp) fun i h1 h2 => by simp
theorem nodeS_len {e : Ex} {pos : Bool} (h : nodeS e pos = true) : (isQ e.form.op = true → e.terms.length = e.parts.length) ∧ (isQ e.form.op = false → e.parts.length = e.form.parts.length) := by
 rw [nodeS_eq] at h
 cases hq : isQ e.form.op
 ·rw [hq, if_neg (by simp)] at h
  simp only [Bool.and_eq_true, decide_eq_true_eq] at h
  exact ⟨fun h => (by cases h), fun _ => h.1.2⟩
 ·rw [hq, if_pos rfl] at h
  simp only [Bool.and_eq_true, decide_eq_true_eq] at h
  exact ⟨fun _ => h.1.1, fun h => (by cases h)⟩
end Go.Proofs.YtbccfiillleimaaGreat
namespace Go.Proofs.YtbccfiillleimaaGreat
set_option linter.unusedSimpArgs false
set_option linter.unusedVariables false
set_option linter.unusedSectionVars false
set_option maxRecDepth 4000
open Go.RowKit
def pthJ (f : Fm) (L : List (List (List Tm))) : List (List Tm) := if (f.op == 9) = true then L.flatten else [[]]
def pth : Ex → List (List Tm) := Ex.fold fun f ts ps rs => pthJ f ((ps.zip rs).mapIdx fun i q => q.2.map fun l => ts.getD i Tm.zero :: l)
abbrev pthL (e : Ex) : List (List (List Tm)) := e.parts.mapIdx fun i p => (pth p).map fun l => e.terms.getD i Tm.zero :: l
theorem pth_eq (e : Ex) : pth e = pthJ e.form (pthL e) := by
 cases e with
 | mk f ts ps =>
  conv => lhs; unfold pth; rw [Ex.fold_eq]
  simp only [zip_map]
  rfl
def tupS : Ex → List Tm → List (List Tm) := Ex.fold fun f ts ps rs l => if (f.op == 9) = true then ((ps.zip rs).mapIdx fun i q => q.2 (l ++ [ts.getD i Tm.zero])).flatten else [l]
theorem tupS_eq (e : Ex) (l : List Tm) : tupS e l = if (e.form.op == 9) = true then (e.parts.mapIdx fun i p => tupS p (l ++ [e.terms.getD i Tm.zero])).flatten else [l] := by
 cases e with
 | mk f ts ps =>
  conv => lhs; unfold tupS; rw [Ex.fold_eq]
  simp only [zip_map]
  rfl
theorem tup_pth : ∀ (e : Ex) (l : List Tm), tupS e l = (pth e).map (l ++ ·) := ex_ind fun f ts ps ih l => by
 rw [tupS_eq, pth_eq]
 unfold pthJ
 split
 ·rw [List.map_flatten, map_mapIdx']
  congr 1
  refine List.ext_getElem (by simp) fun i h1 h2 => ?_
  have hi : i < ps.length := by rw [List.length_mapIdx] at h1; exact h1
  simp only [List.getElem_mapIdx, Function.comp, List.map_map]
  show tupS ps[i] _ = _
  rw [ih ps[i] (List.getElem_mem hi)]
  simp only [List.append_assoc, List.singleton_append]
  rfl
 ·simp
end Go.Proofs.YtbccfiillleimaaGreat
namespace Go.Proofs.YtbccfiillleimaaGreat
set_option linter.unusedSimpArgs false
set_option linter.unusedVariables false
set_option linter.unusedSectionVars false
set_option maxRecDepth 4000
open Go.RowKit
theorem specOk_node {e : Ex} {pos : Bool} (h : specOk e pos = true) : e.form.good = true ∧ nodeS e pos = true ∧ e.nodes ≤ 60 := by
 unfold specOk at h
 simp only [Bool.and_eq_true, decide_eq_true_eq] at h
 exact ⟨h.1.1.1, h.1.2, h.1.1.2⟩
end Go.Proofs.YtbccfiillleimaaGreat
namespace Go.Proofs.YtbccfiillleimaaGreat
set_option linter.unusedSimpArgs false
set_option linter.unusedVariables false
set_option linter.unusedSectionVars false
set_option maxRecDepth 4000
open Go.RowKit
theorem gforms {f : Fm} (h : f.good = true) : f.forms = true := (Bool.and_eq_true _ _ ▸ h : _ ∧ _).2
theorem sortS_le (xs : List Str) : (sortS xs).Pairwise (· ≤ ·) := by
 have tr : ∀ a b c : List UInt8, leB a b = true → leB b c = true → leB a c = true := fun a b c h1 h2 => by simp only [leB, decide_eq_true_eq] at *; exact List.le_trans h1 h2
 have to : ∀ a b : List UInt8, (leB a b || leB b a) = true := fun a b => by simp only [leB, Bool.or_eq_true, decide_eq_true_eq]; exact List.le_total a b
 refine (List.pairwise_mergeSort tr to xs).imp ?_
 intro a b h1
 simpa only [leB, decide_eq_true_eq] using h1
theorem sortS_len (ns : List Str) : (sortS ns).length = ns.length := (List.mergeSort_perm ns leB).length_eq
theorem compact_len (ns : List Str) : ((Lib.compact (sortS ns)).length == ns.length) = decide ns.Nodup := by
 have hp : (sortS ns).Nodup ↔ ns.Nodup := (List.mergeSort_perm ns leB).nodup_iff
 rw [Bool.eq_iff_iff, beq_iff_eq, decide_eq_true_eq, ← hp, ← sortS_len ns]
 have hs : (sortS ns).Pairwise (· ≤ ·) := sortS_le ns
 generalize sortS ns = zs at hs ⊢
 unfold Lib.compact Lib.compactUpTo
 rw [List.length_map]
 have hr : zs.length = (List.range zs.length).length := by simp
 rw [show ((List.filter (Lib.keeps zs.toArray) (List.range zs.length)).length = zs.length) = ((List.filter (Lib.keeps zs.toArray) (List.range zs.length)).length = (List.range zs.length).length) by rw [← hr], List.length_filter_eq_length_iff]
 rw [List.pairwise_iff_getElem] at hs
 unfold List.Nodup
 rw [List.pairwise_iff_getElem]
 constructor
 ·intro h i j hi hj hij e
  have hk := h j (by simpa using hj)
  unfold Lib.keeps at hk
  rw [decide_eq_true_eq] at hk
  rcases hk with hk | hk
  ·omega
  ·apply hk
   have hj1 : j - 1 < zs.length := by omega
   rw [show zs.toArray[j]! = zs[j] by simp [hj], show zs.toArray[j - 1]! = zs[j - 1] by simp [hj1]]
   by_cases hij2 : i = j - 1
   ·subst hij2; exact e.symm
   ·have h1 := hs i (j - 1) hi hj1 (by omega)
    have h2 := hs (j - 1) j hj1 hj (by omega)
    rw [← e] at h2 ⊢
    exact List.le_antisymm h1 h2
 ·intro h j hj
  have hj : j < zs.length := by simpa using hj
  unfold Lib.keeps
  rw [decide_eq_true_eq]
  by_cases h0 : j = 0
  ·exact Or.inl h0
  ·right
   have hj1 : j - 1 < zs.length := by omega
   rw [show zs.toArray[j]! = zs[j] by simp [hj], show zs.toArray[j - 1]! = zs[j - 1] by simp [hj1]]
   exact fun e => h (j - 1) j hj1 hj (by omega) e.symm
noncomputable def herF (f : Fm) : Bool := f.good && decide ((putSs [] (vf f [])).length = 0) && decide (exN f).1.Nodup && plainF (exN f).2
theorem isHerbrand_c (f : Fm) (hw : f.wt ≤ 1048576) : FC Tryz.prog 61 [fmD f] [bD (herF f)] := by
 have hH : herF f = (f.good && decide ((putSs [] (vf f [])).length = 0) && decide (exN f).1.Nodup && plainF (exN f).2) := rfl
 cases hg : f.good
 ·rw [hH, hg]
  simp only [fmD, fmC_eq f]
  refine FC_ofN Tryz.call61 Tryz.func61 rfl (by kernel_rfl) (by simp only [rd, List.map_cons, List.map_nil, List.length_cons, List.length_nil, Tryz.ntmps61]; omega) ?_
  simp -implicitDefEqProofs only [go_sem, Tryz.results61]
  refine callF (isValidFormula_c f (by omega)) (by simp -implicitDefEqProofs only [go_sem, fmC_eq f, hg]) ?_
  simp -implicitDefEqProofs only [go_sem, fmC_eq f, hg]
 ·rw [hg, Bool.true_and] at hH
  have HF := free_c f (gforms hg) hw
  have HP := prefix_c f (gforms hg) hw
  have hL := exN_len f
  have hN := fnodes_wt f
  generalize (exN f).1 = ns at hH HP hL
  generalize (exN f).2 = g at hH HP
  generalize (putSs [] (vf f [])) = V at hH HF
  have hcl := compact_len ns
  simp only [fmD, fmC_eq f, fmC_eq g] at HF HP ⊢
  refine FC_ofN Tryz.call61 Tryz.func61 rfl (by kernel_rfl) (by simp only [rd, List.map_cons, List.map_nil, List.length_cons, List.length_nil, Tryz.ntmps61]; omega) ?_
  simp -implicitDefEqProofs only [go_sem, Tryz.results61]
  refine callF (isValidFormula_c f (by omega)) (by simp -implicitDefEqProofs only [go_sem, fmC_eq f, hg]) ?_
  simp -implicitDefEqProofs only [go_sem, fmC_eq f, hg]
  by_cases hV : V.length = 0
  ·have hS := sortStr_c ns (by omega)
   have hC := cloneStr_c (sortS ns) (by rw [sortS_len]; omega)
   have hK := compactStr_c (sortS ns)
   have hO := hasOp_c g
   simp only [fmD, fmC_eq g] at hO
   rw [← sortS_len ns] at hcl
   have hsl := sortS_len ns
   generalize Lib.compact (sortS ns) = cs at hK hcl
   generalize sortS ns = ss at hS hC hK hcl hsl
   rw [show decide (V.length = 0) = true by simp [hV], Bool.true_and] at hH
   refine callFr (HF) (by simp -implicitDefEqProofs only [go_sem, hV]) ?_
   simp -implicitDefEqProofs only [go_sem, hV]
   refine callXL [1] [15] [] (HP) (by simp -implicitDefEqProofs only [go_sem]) (by simp -implicitDefEqProofs only [go_sem]) (by simp -implicitDefEqProofs only [go_sem]) (by simp -implicitDefEqProofs only [go_sem]) ?_
   simp -implicitDefEqProofs only [go_sem]
   refine callIs (hS) (by simp -implicitDefEqProofs only [go_sem, flR_strs]) (by simp -implicitDefEqProofs only [go_sem, flR_strs]) rfl ?_
   simp -implicitDefEqProofs only [go_sem, flR_strs]
   refine frzO 512 rfl rfl ?_
   simp -implicitDefEqProofs only [go_sem]
   refine callF (hC) (by simp -implicitDefEqProofs only [go_sem]) ?_
   simp -implicitDefEqProofs only [go_sem]
   have hcl' : ((cs.length : Int) == (ss.length : Int)) = decide ns.Nodup := by rw [← hcl, Bool.eq_iff_iff]; simp only [beq_iff_eq]; omega
   cases hn : decide ns.Nodup
   ·rw [hn] at hcl' hH
    refine callGL [3, 4] [22] [] (hK) (by simp -implicitDefEqProofs only [go_sem, hcl']) (by simp -implicitDefEqProofs only [go_sem, hcl']) (by simp -implicitDefEqProofs only [go_sem, hcl']) (by simp -implicitDefEqProofs only [go_sem, hcl']) ?_
    simp -implicitDefEqProofs only [go_sem, hcl']
    exact Or.inl (by rw [hH]; rfl)
   ·rw [hn] at hcl' hH
    refine callGL [3, 4] [22] [] (hK) (by simp -implicitDefEqProofs only [go_sem, hcl']) (by simp -implicitDefEqProofs only [go_sem, hcl']) (by simp -implicitDefEqProofs only [go_sem, hcl']) (by simp -implicitDefEqProofs only [go_sem, hcl']) ?_
    simp -implicitDefEqProofs only [go_sem, hcl']
    refine buildSc (by simp -implicitDefEqProofs only [go_sem]) ?_
    simp -implicitDefEqProofs only [go_sem]
    refine callF (hO) (by simp -implicitDefEqProofs only [go_sem]) ?_
    simp -implicitDefEqProofs only [go_sem]
    exact Or.inl (by rw [hH]; simp)
  ·rw [show decide (V.length = 0) = false by simp [hV], Bool.false_and, Bool.false_and] at hH
   have hV' : (0 : Int) < (V.length : Int) := by omega
   refine callFr (HF) (by simp -implicitDefEqProofs only [go_sem, hV']) ?_
   simp -implicitDefEqProofs only [go_sem, hV']
   exact Or.inl (by rw [hH])
theorem l16Formula_c (f : Fm) (hw : f.wt ≤ 1048576) : FC Tryz.prog 91 [fmD f] [bD (herF f)] := by
 have hH : herF f = (f.good && decide ((putSs [] (vf f [])).length = 0) && decide (exN f).1.Nodup && plainF (exN f).2) := rfl
 cases hg : f.good
 ·rw [hH, hg]
  simp only [fmD, fmC_eq f]
  refine FC_ofN Tryz.call91 Tryz.func91 rfl (by kernel_rfl) (by simp only [rd, List.map_cons, List.map_nil, List.length_cons, List.length_nil, Tryz.ntmps91]; omega) ?_
  simp -implicitDefEqProofs only [go_sem, Tryz.results91]
  refine callF (l8Good_c f (by omega)) (by simp -implicitDefEqProofs only [go_sem, fmC_eq f, hg]) ?_
  simp -implicitDefEqProofs only [go_sem, fmC_eq f, hg]
 ·rw [hg, Bool.true_and] at hH
  have HF := l8Free_c f (gforms hg) hw
  have HP := l16Open_c f (gforms hg) hw
  have hL := exN_len f
  have hN := fnodes_wt f
  have hgw := Nat.le_trans (exN_wt f) hw
  generalize (exN f).1 = ns at hH HP hL
  generalize (exN f).2 = g at hH HP hgw
  generalize (putSs [] (vf f [])) = V at hH HF
  simp only [fmD, fmC_eq f, fmC_eq g] at HF HP ⊢
  refine FC_ofN Tryz.call91 Tryz.func91 rfl (by kernel_rfl) (by simp only [rd, List.map_cons, List.map_nil, List.length_cons, List.length_nil, Tryz.ntmps91]; omega) ?_
  simp -implicitDefEqProofs only [go_sem, Tryz.results91]
  refine callF (l8Good_c f (by omega)) (by simp -implicitDefEqProofs only [go_sem, fmC_eq f, hg]) ?_
  simp -implicitDefEqProofs only [go_sem, fmC_eq f, hg]
  by_cases hV : V.length = 0
  ·have hO := l16Plain_c g hgw
   simp only [fmD, fmC_eq g] at hO
   rw [show decide (V.length = 0) = true by simp [hV], Bool.true_and] at hH
   refine callFr (HF) (by simp -implicitDefEqProofs only [go_sem, hV]) ?_
   simp -implicitDefEqProofs only [go_sem, hV]
   refine callXL [1] [16] [] (HP) (by simp -implicitDefEqProofs only [go_sem]) (by simp -implicitDefEqProofs only [go_sem]) (by simp -implicitDefEqProofs only [go_sem]) (by simp -implicitDefEqProofs only [go_sem]) ?_
   simp -implicitDefEqProofs only [go_sem]
   refine loop_rule (fun k : Nat => hd [(3, .one (.rn (strS ns))), (4, .one (.bx 4 0)), (5, vI k)] [(4, [.t (.int .i64 g.op), .t (.str g.atom.name), .rn (tmS g.atom.args), .t (.str g.var), .rn (fmS g.parts)])] []) (fun k => k ≤ ns.length ∧ (ns.take k).Nodup) (fun k => ns.length - k) 0 (weak_hd ?_) ⟨Nat.zero_le _, List.nodup_nil⟩ ?_
   ·simp -implicitDefEqProofs only [go_sem]
   ·rintro k ⟨hk, hT⟩
    by_cases hlt : k < ns.length
    ·simp -implicitDefEqProofs only [go_sem, hlt]
     refine drawn (by kernel_rfl) ?_
     simp -implicitDefEqProofs only [go_sem, getD_at, hlt]
     refine ⟨hk, ?_⟩
     refine dCallF (l2In_c (ns.take k) ns[k]) (by simp -implicitDefEqProofs only [go_sem, strS, List.map_take]) ?_
     simp -implicitDefEqProofs only [go_sem, strS, List.map_take]
     refine ⟨by kernel_rfl, fun h => ?_, fun h => ?_⟩
     ·have hn : decide ns.Nodup = false := by
       rw [decide_eq_false_iff_not]
       intro hnd
       have h1 : (ns.take (k + 1)).Nodup := hnd.sublist (List.take_sublist _ _)
       rw [List.take_succ_eq_append_getElem hlt, List.nodup_append] at h1
       exact h1.2.2 _ (by simpa using h) _ (by simp) rfl
      rw [hn] at hH
      exact Or.inl (by rw [hH]; rfl)
     ·refine ⟨k + 1, ⟨hlt, ?_⟩, by omega, weak_hd ?_⟩
      ·rw [List.take_succ_eq_append_getElem hlt, List.nodup_append]
       refine ⟨hT, by simp, ?_⟩
       rintro a ha b hb rfl
       rw [List.mem_singleton] at hb
       subst hb
       simp only [List.contains_eq_mem, decide_eq_false_iff_not] at h
       exact h ha
      ·simp -implicitDefEqProofs only [go_sem]
       rw [wrap_s (by omega)]
    ·simp -implicitDefEqProofs only [go_sem, hlt]
     rw [List.take_of_length_le (by omega)] at hT
     rw [show decide ns.Nodup = true by simp [hT], Bool.true_and] at hH
     refine callF (hO) (by simp -implicitDefEqProofs only [go_sem]) ?_
     simp -implicitDefEqProofs only [go_sem]
     exact Or.inl (by rw [hH])
  ·rw [show decide (V.length = 0) = false by simp [hV], Bool.false_and, Bool.false_and] at hH
   have hV' : (0 : Int) < (V.length : Int) := by omega
   refine callFr (HF) (by simp -implicitDefEqProofs only [go_sem, hV']) ?_
   simp -implicitDefEqProofs only [go_sem, hV']
   exact Or.inl (by rw [hH])
end Go.Proofs.YtbccfiillleimaaGreat
namespace Go.Proofs.YtbccfiillleimaaGreat
set_option linter.unusedSimpArgs false
set_option linter.unusedVariables false
set_option linter.unusedSectionVars false
set_option maxRecDepth 4000
open Go.RowKit
variable {P : Program}
section
variable {σ σ' : St} {g g' : Gh} {w : World}
theorem mv_cr (hβ : g'.β = g.β) (hb : σ'.bx = σ.bx) (hh : ∀ e n, σ.has e n → σ'.has e n ∧ g'.ψ e n = g.ψ e n) (hrn : ∀ b, Free σ g w b → Free σ' g' w b) {c : C} {v : Value} (hc : c.mOk = true) (h : CR σ g w c v) : CR σ' g' w c v := by
 cases c with
 | t x => exact flat_rep hc h
 | nl s => exact h
 | ow e n => exact ⟨by rw [(hh e n h.2).2]; exact h.1, (hh e n h.2).1⟩
 | bx b o => exact ⟨by rw [hβ]; exact h.1, by rw [hb]; exact h.2⟩
 | el cs o => cases hc
 | eo e s sz i o => obtain ⟨b, n, c, k1, k2, k3, k4⟩ := h; exact ⟨b, n, c, by rw [(hh e s k4).2]; exact k1, k2, k3, (hh e s k4).1⟩
 | fn f caps => exact ⟨by rw [hβ]; exact h.1, by rw [hb]; exact h.2⟩
 | cv u => exact h
 | any => trivial
 | rn x => exact RepV.keep (fun _ _ => rfl) hrn x v h
 | er cs o => obtain ⟨b, q, h1, h2, h3⟩ := h; exact ⟨b, q, h1, hrn b h2, RepAt.keep (fun _ _ => rfl) hrn b rfl q cs h3⟩
theorem mv_crs (hβ : g'.β = g.β) (hb : σ'.bx = σ.bx) (hh : ∀ e n, σ.has e n → σ'.has e n ∧ g'.ψ e n = g.ψ e n) (hrn : ∀ b, Free σ g w b → Free σ' g' w b) : ∀ {cs : List C} {vs : List Value}, cs.all C.mOk = true → CRs σ g w cs vs → CRs σ' g' w cs vs
 | [], _, _, h => h
 | c :: cs, vs, hc, h => by
  rw [List.all_cons, Bool.and_eq_true] at hc
  obtain ⟨v, vs', rfl, h1, h2⟩ := h
  exact ⟨v, vs', rfl, mv_cr hβ hb hh hrn hc.1 h1, mv_crs hβ hb hh hrn hc.2 h2⟩
theorem mv_crt (hβ : g'.β = g.β) (hb : σ'.bx = σ.bx) (hh : ∀ e n, σ.has e n → σ'.has e n ∧ g'.ψ e n = g.ψ e n) (hrn : ∀ b, Free σ g w b → Free σ' g' w b) : ∀ {xs : List (Bool × List C)} {vs : List Value}, (xs.all fun x => x.2.all C.mOk) = true → CRt σ g w xs vs → CRt σ' g' w xs vs
 | [], _, _, h => h
 | x :: xs, vs, hc, h => by
  rw [List.all_cons, Bool.and_eq_true] at hc
  obtain ⟨v, vs', rfl, h1, h2⟩ := h
  refine ⟨v, vs', rfl, ?_, mv_crt hβ hb hh hrn hc.2 h2⟩
  unfold CRx at h1 ⊢
  split at h1
  ·rw [if_pos ‹_›]; obtain ⟨a, k1, k2⟩ := h1; exact ⟨a, k1, mv_crs hβ hb hh hrn hc.1 k2⟩
  ·rw [if_neg ‹_›]
   obtain ⟨c, k1, k2⟩ := h1
   refine ⟨c, k1, mv_cr hβ hb hh hrn ?_ k2⟩
   have := hc.1
   rw [k1] at this
   simpa using this
theorem mv_vr (hβ : g'.β = g.β) (hb : σ'.bx = σ.bx) (hh : ∀ e n, σ.has e n → σ'.has e n ∧ g'.ψ e n = g.ψ e n) (hrn : ∀ b, Free σ g w b → Free σ' g' w b) {x : V} {v : Value} (hc : x.mOk = true) (h : VR σ g w x v) : VR σ' g' w x v := by
 cases x with
 | one c => exact mv_cr hβ hb hh hrn hc h
 | agg cs => obtain ⟨a, k1, k2⟩ := h; exact ⟨a, k1, mv_crs hβ hb hh hrn hc k2⟩
 | tup xs => obtain ⟨a, k1, k2⟩ := h; exact ⟨a, k1, mv_crt hβ hb hh hrn hc k2⟩
end
theorem Rel.take {n0 : Nat → Prop} {N : Nat} {σ : St} {g : Gh} {a : Act} {w : World} (hR : Rel n0 N σ g a w) {e e' s i j sz gn sz1 : Nat} {rows rows1 : List (List T)} {r : List T} {v : Value} (hD : Deep ⟨upd σ.sl s (.one .any), σ.bx, σ.ev⟩)
  (hsl : σ.sl s = .one (.t (.pin v (.sl sz1 rows1)))) (he : σ.ev e = some ⟨true, sz, rows, gn, true⟩) (hr : rows[i]? = some r) (hc : r[j]? = some (.pin v (.sl sz1 rows1))) (hne : σ.ev e' = none) :
  ∃ ao ln c, ∃ g', Rel n0 N ⟨upd σ.sl s (.one (.ow e' 0)), σ.bx, upd (upd σ.ev e (some ⟨true, sz, rows.set i (r.set j (.vs ao ln c)), gn, true⟩)) e' (some ⟨true, sz1, rows1, 0, true⟩)⟩ g' a w ∧ g'.A0 = g.A0 ∧ g'.R0 = g.R0 := by
 have hOn : σ.On e := ⟨_, he, rfl⟩
 have hee : e ≠ e' := fun h => by rw [h, hne] at he; cases he
 have hO := own_event hR he
 have hnd := hR.nodup e hOn
 unfold OwnV at hO
 obtain ⟨ao0, cap, e1, e2, e3, e4⟩ := hO
 rcases e4 with ⟨_, _, rfl, _⟩ | ⟨b0, cells, ty, fps, k1, k2, k3, k4, k5⟩
 ·simp at hr
 obtain ⟨f1, ff, f2, u, rfl, c1, c2, c3⟩ := OwnRows.cell k5 hr hc
 unfold OwnV at c2
 obtain ⟨rfl, c2⟩ := c2
 have c2' := c2
 unfold OwnV at c2'
 obtain ⟨ao, cp, hv, hv2, hv3, hv4⟩ := c2'
 rw [k2] at hnd
 obtain ⟨nb, nd⟩ := List.nodup_cons.1 hnd
 obtain ⟨nd1, nd2, nd3⟩ := List.nodup_append.1 nd
 obtain ⟨nd4, nd5, nd6⟩ := List.nodup_append.1 nd2
 have hsubf : ∀ b, b ∈ ff → b ∈ g.φ e := fun b hb => by rw [k2]; simp [hb]
 have hsubr : ∀ b, b ∈ b0 :: (f1 ++ f2) → b ∈ g.φ e := fun b hb => by
  rw [k2]
  simp only [List.mem_cons, List.mem_append] at hb ⊢
  rcases hb with h | h | h
  ·exact Or.inl h
  ·exact Or.inr (Or.inl h)
  ·exact Or.inr (Or.inr (Or.inr h))
 have hdis : ∀ b, b ∈ b0 :: (f1 ++ f2) → b ∉ ff := fun b h hm => by
  simp only [List.mem_cons, List.mem_append] at h
  rcases h with rfl | h | h
  ·exact nb (by simp [hm])
  ·exact nd3 b h b (by simp [hm]) rfl
  ·exact nd6 b hm b h rfl
 have hndr : (b0 :: (f1 ++ f2)).Nodup := by
  refine List.nodup_cons.2 ⟨fun hm => nb ?_, List.nodup_append.2 ⟨nd1, nd5, fun x hx y hy hxy => nd3 x hx y (by simp [hy]) hxy⟩⟩
  simp only [List.mem_append] at hm ⊢
  rcases hm with h | h
  ·exact Or.inl h
  ·exact Or.inr (Or.inr h)
 have hrows := c3 w (.vs ao rows1.length cp) [] (fun _ _ => rfl) (by unfold OwnV; exact ⟨hv, rfl⟩)
 rw [List.nil_append] at hrows
 obtain ⟨d1, d2, d3⟩ := hD
 refine ⟨ao, rows1.length, cp, { g with ψ := fun q n => if q = e' then u else g.ψ q n, φ := upd (upd g.φ e (b0 :: (f1 ++ f2))) e' ff }, ?_, rfl, rfl⟩
 have φe : (upd (upd g.φ e (b0 :: (f1 ++ f2))) e' ff) e = b0 :: (f1 ++ f2) := by rw [upd_ne _ _ hee, upd_same]
 have φe' : (upd (upd g.φ e (b0 :: (f1 ++ f2))) e' ff) e' = ff := upd_same _ _ _
 have φo : ∀ q, q ≠ e → q ≠ e' → (upd (upd g.φ e (b0 :: (f1 ++ f2))) e' ff) q = g.φ q := fun q h1 h2 => by rw [upd_ne _ _ h2, upd_ne _ _ h1]
 have hev : ∀ q, q ≠ e → q ≠ e' → (upd (upd σ.ev e (some ⟨true, sz, rows.set i (r.set j (.vs ao rows1.length cp)), gn, true⟩)) e' (some ⟨true, sz1, rows1, 0, true⟩)) q = σ.ev q := fun q h1 h2 => by rw [upd_ne _ _ h2, upd_ne _ _ h1]
 have heve : (upd (upd σ.ev e (some ⟨true, sz, rows.set i (r.set j (.vs ao rows1.length cp)), gn, true⟩)) e' (some ⟨true, sz1, rows1, 0, true⟩)) e = some ⟨true, sz, rows.set i (r.set j (.vs ao rows1.length cp)), gn, true⟩ := by rw [upd_ne _ _ hee, upd_same]
 have heve' : (upd (upd σ.ev e (some ⟨true, sz, rows.set i (r.set j (.vs ao rows1.length cp)), gn, true⟩)) e' (some ⟨true, sz1, rows1, 0, true⟩)) e' = some ⟨true, sz1, rows1, 0, true⟩ := upd_same _ _ _
 generalize hE : (upd (upd σ.ev e (some ⟨true, sz, rows.set i (r.set j (.vs ao rows1.length cp)), gn, true⟩)) e' (some ⟨true, sz1, rows1, 0, true⟩)) = ev2 at hev heve heve'
 generalize hF : (upd (upd g.φ e (b0 :: (f1 ++ f2))) e' ff) = φ2 at φe φe' φo
 have hψe : ∀ q n, q ≠ e' → (if q = e' then u else g.ψ q n) = g.ψ q n := fun q n h => if_neg h
 have hold : ∀ q, St.On ⟨upd σ.sl s (.one (.ow e' 0)), σ.bx, ev2⟩ q → ∃ p, σ.On p ∧ (∀ b ∈ φ2 q, b ∈ g.φ p) ∧ (q ≠ e' → p = q) ∧ (q = e' → p = e) := fun q hq => by
  by_cases h1 : q = e'
  ·subst h1
   exact ⟨e, hOn, fun b hb => hsubf b (by rw [φe'] at hb; exact hb), fun h => absurd rfl h, fun _ => rfl⟩
  ·by_cases h2 : q = e
   ·subst h2
    exact ⟨q, hOn, fun b hb => hsubr b (by rw [φe] at hb; exact hb), fun _ => rfl, fun h => absurd h h1⟩
   ·obtain ⟨x, hx, ho⟩ := hq
    have hx : ev2 q = some x := hx
    rw [hev q h2 h1] at hx
    exact ⟨q, ⟨x, hx, ho⟩, fun b hb => by rw [φo q h2 h1] at hb; exact hb, fun _ => rfl, fun h => absurd h h1⟩
 have hhas : ∀ q n, σ.has q n → St.has ⟨upd σ.sl s (.one (.ow e' 0)), σ.bx, ev2⟩ q n ∧ (if q = e' then u else g.ψ q n) = g.ψ q n := fun q n ⟨x, hx, hg⟩ => by
  have h1 : q ≠ e' := fun h => by rw [h, hne] at hx; cases hx
  refine ⟨?_, hψe q n h1⟩
  by_cases h2 : q = e
  ·subst h2
   rw [he] at hx
   cases hx
   exact ⟨_, heve, hg⟩
  ·exact ⟨x, (hev q h2 h1).trans hx, hg⟩
 have hrn : ∀ b, Free σ g w b → Free ⟨upd σ.sl s (.one (.ow e' 0)), σ.bx, ev2⟩ { g with ψ := fun q n => if q = e' then u else g.ψ q n, φ := φ2 } w b := fun b hb => by
  have hno : ∀ q, St.On ⟨upd σ.sl s (.one (.ow e' 0)), σ.bx, ev2⟩ q → b ∉ φ2 q := fun q hq hm => by
   obtain ⟨p, p1, p2, _⟩ := hold q hq
   exact hb.2 p p1 (p2 b hm)
  exact ⟨⟨hb.1.1, fun q x hx ho hh => hno q ⟨x, hx, ho⟩ (List.mem_of_mem_head? hh), hb.1.2.2⟩, hno⟩
 have hdeep : ∀ q x, q ≠ e → q ≠ e' → ev2 q = some x → σ.ev q = some x ∧ x.on = true ∧ x.deep = true := fun q x h1 h2 hx => by
  rw [hev q h1 h2] at hx
  exact ⟨hx, d3 q x hx⟩
 refine ⟨hR.defers, hR.size, hR.anew, fun q => ?_, fun b cs hb => ?_, hR.base, hR.inj, fun q x hx ho => ?_, fun q x hx ho => ?_, fun q n => ?_, fun q hq b hb => ?_, fun q hq b hb => ?_, fun q hq => ?_, fun q q' hq hq' hne' b hb hb' => ?_, fun q k hq hk hb => ?_⟩
 ·show VR _ _ _ (upd σ.sl s (.one (.ow e' 0)) q) _
  have hv0 := hR.slots q
  by_cases hqs : q = s
  ·subst hqs
   rw [upd_same]
   rw [hsl] at hv0
   have hv1 : RepV w (Fix σ g w) (.pin u (.sl sz1 rows1)) (a.tmps.getD q (g.R0.ξ q)) := hv0
   unfold RepV at hv1
   exact ⟨hv1.1.trans (if_pos rfl).symm, ⟨_, heve', Nat.le_refl _⟩⟩
  ·rw [upd_ne _ _ hqs]
   have hm := d1 q
   have hm : (upd σ.sl s (.one .any) q).mOk = true := hm
   rw [upd_ne _ _ hqs] at hm
   exact mv_vr (σ := σ) (g := g) (σ' := ⟨upd σ.sl s (.one (.ow e' 0)), σ.bx, ev2⟩) (g' := { g with ψ := fun q n => if q = e' then u else g.ψ q n, φ := φ2 }) rfl rfl hhas hrn hm hv0
 ·obtain ⟨vs, ty, q1, q2⟩ := hR.boxes b cs hb
  exact ⟨vs, ty, q1, mv_crs (σ := σ) (g := g) (σ' := ⟨upd σ.sl s (.one (.ow e' 0)), σ.bx, ev2⟩) (g' := { g with ψ := fun q n => if q = e' then u else g.ψ q n, φ := φ2 }) rfl rfl hhas hrn (d2 b cs hb) q2⟩
 ·have hx2 : ev2 q = some x := hx
  clear hx
  show EvR w _ x (if q = e' then u else g.ψ q x.gen) (φ2 q)
  by_cases h1 : q = e'
  ·subst h1
   rw [heve'] at hx2
   cases hx2
   rw [if_pos rfl, φe']
   refine ⟨ao, cp, hv, hv2, hv3, ?_⟩
   rcases hv4 with h | ⟨b, cells, ty, fps, q1, q2, q3, q4, q5⟩
   ·exact Or.inl h
   ·exact Or.inr ⟨b, cells, ty, fps, q1, q2, q3, q4, by rw [if_pos rfl]; exact q5⟩
  ·rw [if_neg h1]
   by_cases h2 : q = e
   ·subst h2
    rw [heve] at hx2
    cases hx2
    rw [φe]
    exact ⟨ao0, cap, by simpa using e1, by simpa using e2, e3, Or.inr ⟨b0, cells, ty, _, k1, rfl, k3, k4, by rw [if_pos rfl]; exact hrows⟩⟩
   ·obtain ⟨g1, g2, g3⟩ := hdeep q x h2 h1 hx2
    rw [φo q h2 h1]
    obtain ⟨ao, cap, r1, r2, r3, r4⟩ := hR.evs q x g1 g2
    refine ⟨ao, cap, r1, r2, r3, ?_⟩
    rcases r4 with r4 | ⟨b, cells, ty, fps, r4, r5, r6, r7, r8⟩
    ·exact Or.inl r4
    ·rw [if_pos g3] at r8
     exact Or.inr ⟨b, cells, ty, fps, r4, r5, r6, r7, by rw [if_pos g3]; exact r8⟩
 ·have hx2 : ev2 q = some x := hx
  clear hx
  by_cases h1 : q = e'
  ·subst h1
   rw [heve'] at hx2
   cases hx2
   cases ho
  ·by_cases h2 : q = e
   ·subst h2
    rw [heve] at hx2
    cases hx2
    cases ho
   ·have := (hdeep q x h2 h1 hx2).2.1
    rw [this] at ho; cases ho
 ·show ∃ ao l c, (if q = e' then u else g.ψ q n) = .slice ao l c
  by_cases h1 : q = e'
  ·rw [if_pos h1]; exact ⟨_, _, _, hv⟩
  ·rw [if_neg h1]; exact hR.slc q n
 ·obtain ⟨p, p1, p2, _⟩ := hold q hq
  exact hR.ebase p p1 b (p2 b hb)
 ·obtain ⟨p, p1, p2, _⟩ := hold q hq
  exact hR.etop p p1 b (p2 b hb)
 ·show (φ2 q).Nodup
  by_cases h1 : q = e'
  ·subst h1; rw [φe']; exact nd4
  ·by_cases h2 : q = e
   ·subst h2; rw [φe]; exact hndr
   ·obtain ⟨p, p1, p2, p3, _⟩ := hold q hq
    rw [φo q h2 h1]
    have := p3 h1
    subst this
    exact hR.nodup p p1
 ·have hb2 : b ∈ φ2 q := hb
  clear hb
  have hb2' : b ∈ φ2 q' := hb'
  clear hb'
  by_cases h1 : q = e'
  ·subst h1
   by_cases h2 : q' = e
   ·subst h2
    rw [φe'] at hb2
    rw [φe] at hb2'
    exact hdis b hb2' hb2
   ·obtain ⟨p, p1, p2, p3, _⟩ := hold q' hq'
    have := p3 (Ne.symm hne')
    subst this
    rw [φe'] at hb2
    exact hR.apart e p hOn p1 (Ne.symm h2) b (hsubf b hb2) (p2 b hb2')
  ·by_cases h3 : q' = e'
   ·subst h3
    by_cases h2 : q = e
    ·subst h2
     rw [φe'] at hb2'
     rw [φe] at hb2
     exact hdis b hb2 hb2'
    ·obtain ⟨p, p1, p2, p3, _⟩ := hold q hq
     have := p3 h1
     subst this
     rw [φe'] at hb2'
     exact hR.apart e p hOn p1 (Ne.symm h2) b (hsubf b hb2') (p2 b hb2)
   ·obtain ⟨p, p1, p2, p3, _⟩ := hold q hq
    obtain ⟨p', p1', p2', p3', _⟩ := hold q' hq'
    have := p3 h1
    subst this
    have := p3' h3
    subst this
    exact hR.apart p p' p1 p1' hne' b (p2 b hb2) (p2' b hb2')
 ·obtain ⟨p, p1, p2, _⟩ := hold q hq
  exact hR.ebx p k p1 hk (p2 _ hb)
def WkX (σ : St) (K : St → Prop) : Prop := ∀ n0 N g a w, Rel n0 N σ g a w → LtK n0 w → ∃ σ' g', K σ' ∧ Rel n0 N σ' g' a w ∧ g'.A0 = g.A0 ∧ g'.R0 = g.R0
theorem StepSemX.preX {o : Oper} {σ : St} {K : St → Prop} (h : WkX σ fun σ' => StepSemX P o σ' K) : StepSemX P o σ K := fun n0 N g a w hR hn hd => by
 obtain ⟨σ1, g1, k, h1, h2, h3⟩ := h n0 N g a w hR hn
 have := k n0 N g1 a w h1 hn hd
 unfold Oper.wp at this ⊢
 revert this
 cases (execOp a.eval o).run P w <;> intro this <;> try exact this
 all_goals (revert this; rw [h2, h3]; exact id)
def St.tk (σ : St) (e e' s i j : Nat) (t : T) (sz1 : Nat) (rows1 : List (List T)) : St := ⟨upd σ.sl s (.one (.ow e' 0)), σ.bx, upd (upd σ.ev e ((σ.ev e).map (evC i j t))) e' (some ⟨true, sz1, rows1, 0, true⟩)⟩
def pinV (x : V) (K : Value → Nat → List (List T) → Prop) : Prop := match x with
 | .one (.t (.pin v (.sl sz rows))) => K v sz rows
 | _ => False
theorem deep_but {s : Nat} : ∀ {l : List (Nat × V)}, (l.all fun p => p.1 == s || p.2.mOk) = true → ∀ i, (upd (upds l) s (.one .any) i).mOk = true
 | [], _, i => by
  unfold upd
  split <;> rfl
 | (j, v) :: l, h, i => by
  rw [List.all_cons, Bool.and_eq_true, Bool.or_eq_true] at h
  have ih := deep_but h.2 i
  by_cases hi : i = s
  ·subst hi; rw [upd_same]; rfl
  ·rw [upd_ne _ _ hi] at ih ⊢
   unfold upds
   split
   ·rename_i hj
    rcases h.1 with h1 | h1
    ·exact absurd (hj.trans (by simpa using h1)) hi
    ·exact h1
   ·exact ih
theorem take_wkX {K : St → Prop} {l : List (Nat × V)} {bl : List (Nat × List C)} {el : List (Nat × Ev)} (e e' s i j : Nat) (hd1 : (l.all fun p => p.1 == s || p.2.mOk) = true) (hd2 : (bl.all fun p => p.2.all C.mOk) = true) (hd3 : (el.all fun p => p.2.on && p.2.deep) = true)
  (hn : tbl el e' = none) (k : pinV (upds l s) fun v sz1 rows1 => onN (tbl el e) i j v (.sl sz1 rows1) ∧ ∀ ao ln c, K ((hd l bl el).tk e e' s i j (.vs ao ln c) sz1 rows1)) : WkX (hd l bl el) K := fun n0 N g a w hR hnw => by
 unfold pinV at k
 split at k
 ·rename_i v sz1 rows1 hx
  obtain ⟨h4, hk⟩ := k
  obtain ⟨⟨dp, sz, rows, gn, on⟩, he, rfl, rfl, h5, h6⟩ := onSome_ex h4
  obtain ⟨r, hr'⟩ := Option.isSome_iff_exists.1 h5
  have hg : rows.getD i [] = r := by rw [List.getD_eq_getElem?_getD, hr']; rfl
  rw [hg] at h6
  have hD : Deep ⟨upd (hd l bl el).sl s (.one .any), (hd l bl el).bx, (hd l bl el).ev⟩ := by
   obtain ⟨q1, q2, q3⟩ := deep_hd (l := []) (bl := bl) (el := el) rfl hd2 hd3
   exact ⟨deep_but hd1, q2, q3⟩
  obtain ⟨ao, ln, c, g', h7, h8, h9⟩ := hR.take hD hx he hr' h6 hn
  refine ⟨_, g', hk ao ln c, ?_, h8, h9⟩
  have e0 : (hd l bl el).tk e e' s i j (.vs ao ln c) sz1 rows1 = ⟨upd (hd l bl el).sl s (.one (.ow e' 0)), (hd l bl el).bx, upd (upd (hd l bl el).ev e (some ⟨true, sz, rows.set i (r.set j (.vs ao ln c)), gn, true⟩)) e' (some ⟨true, sz1, rows1, 0, true⟩)⟩ := by
   unfold St.tk
   rw [show (hd l bl el).ev e = _ from he]
   simp only [Option.map_some, setCell, evC, hg]
  rw [e0]
  exact h7
 ·exact k.elim
section
variable {ks : List Fr} {Q : Exit → St → Prop} {σ : St} {ops : Array Oper} {os : List Oper} {o : Oper}
theorem exo_preX (hg : o.guard = none) (hs : semO o.op = true) (h : WkX σ (exo P ops (o :: os) ks Q)) : exo P ops (o :: os) ks Q σ := by
 have key : ∀ σ, exo P ops (o :: os) ks Q σ = StepSemX P o σ (exo P ops os ks Q) := fun σ => by
  conv => lhs; unfold exo execOps exG
  rw [hg]
  simp only
  unfold execOp1 semS
  rw [if_pos (by rw [hs]; rfl)]
  rfl
 rw [key]
 refine StepSemX.preX fun n0 N g a w hR hn => ?_
 obtain ⟨σ1, g1, k, r⟩ := h n0 N g a w hR hn
 rw [key] at k
 exact ⟨σ1, g1, k, r⟩
theorem takeO (L : List Nat) (e e' s i j : Nat) (hg : o.guard = none) (hs : semO o.op = true) (hw : wkK σ L) (hd1 : ((σ.lL L).all fun p => p.1 == s || p.2.mOk) = true) (hd2 : ((σ.lB (σ.KB L)).all fun p => p.2.all C.mOk) = true) (hd3 : ((σ.lE (σ.KE L)).all fun p => p.2.on && p.2.deep) = true)
  (hn : tbl (σ.lE (σ.KE L)) e' = none) (k : pinV (upds (σ.lL L) s) fun v sz1 rows1 => onN (tbl (σ.lE (σ.KE L)) e) i j v (.sl sz1 rows1) ∧ ∀ ao ln c, exo P ops (o :: os) ks Q ((σ.hL L).tk e e' s i j (.vs ao ln c) sz1 rows1)) : exo P ops (o :: os) ks Q σ :=
 exo_pre (wkK_wk hw) hg hs (exo_preX hg hs (take_wkX e e' s i j hd1 hd2 hd3 hn k))
end
attribute [go_sem] pinV St.tk
end Go.Proofs.YtbccfiillleimaaGreat
namespace Go.Proofs.YtbccfiillleimaaGreat
set_option linter.unusedSimpArgs false
set_option linter.unusedVariables false
set_option linter.unusedSectionVars false
set_option maxRecDepth 4000
open Go.RowKit
variable {P : Program}
def ordOkZ (ops : Array Oper) (L : List (List Ky × List Ky)) (m : Nat) : Bool :=
 let b := Region.before ops
 decide (m ≤ ops.size) && (List.range ops.size).all fun j =>
  ((ops.getD j default).after.all fun e => !Region.binds .any e || decide (e.on < j)) &&
  ((List.range ops.size).all fun i => !(b.getD j 0).testBit i || (ops.getD j default).after.any fun e => Region.binds .any e && (e.on == i || (b.getD e.on 0).testBit i)) &&
  ((List.range j).all fun i => (decide (i = 0) && decide (m ≤ j)) || ((b.getD j 0).testBit i || (decide (j < m) && ((L.getD i ([], [])).2.all fun k => !(L.getD j ([], [])).1.contains k && !(L.getD j ([], [])).2.contains k) && (L.getD i ([], [])).1.all fun k => !(L.getD j ([], [])).2.contains k)))
theorem drawn_allZ {ops : Array Oper} {σs : Nat → St} {L : List (List Ky × List Ky)} {n0 : Nat → Prop} {N : Nat} {w0 : World} {A0 : (Nat → Prop) × RP} {Q : Exit → Act → World → Prop} {K : St → Prop} {m : Nat}
  (hm0 : 0 < m) (hL : ∀ i (h : i < ops.size), i < m → Loc P ops ops[i] (L.getD i ([], [])).1 (L.getD i ([], [])).2 (σs i) (σs (i + 1))) (hord : ordOkZ ops L m = true) (hdst : ∀ o ∈ ops, ∀ d, o.dst = some d → d < N)
  (hT : execOps P ops (ops.toList.drop m) (σs m) K) (hQ : ∀ σ g a w, K σ → Rel n0 N σ g a w → LtK n0 w → Bk n0 w0 w → (g.A0, g.R0) = A0 → Q .normal a w) :
  ∀ (fuel : Nat) (listed : Array Bool) (g : Gh) (a : Act) (w : World), listed.size = ops.size → cnt (fun i => listed.getD i false) ops.size = fuel →
   (∀ j (h : j < ops.size), listed.getD j false = true → ∀ e ∈ ops[j].after, Region.binds .any e = true → listed.getD e.on false = true) → (∀ j, m ≤ j → listed.getD j false = false) → listed.getD 0 false = true →
   Rel n0 N (Fp σs (fun i => L.getD i ([], [])) (fun i => listed.getD i false) m) g a w → LtK n0 w → Bk n0 w0 w → (g.A0, g.R0) = A0 → wpAny P .any ops Q fuel listed a w := by
 have hget : ∀ j (h : j < ops.size), ops.getD j default = ops[j] := fun j h => by simp [Array.getD, h]
 unfold ordOkZ at hord
 rw [Bool.and_eq_true] at hord
 obtain ⟨hm, hord⟩ := hord
 have hm : m ≤ ops.size := by simpa using hm
 have hok : ∀ i, i < m → okK (L.getD i ([], [])).2 = true := fun i h => (hL i (by omega) h).1
 have hRk : ∀ i, i < m → okK (L.getD i ([], [])).1 = true := fun i h => (hL i (by omega) h).2.1
 have hoff : ∀ i, i < m → ∀ k : Ky, k.1 < 3 → k ∉ (L.getD i ([], [])).2 → sameK (σs i) (σs (i + 1)) k := fun i h => (hL i (by omega) h).2.2.1
 simp only [List.all_eq_true, List.mem_range, Bool.and_eq_true] at hord
 have hlt : ∀ j (h : j < ops.size), ∀ e ∈ ops[j].after, Region.binds .any e = true → e.on < j := fun j h e he hb => by
  have := (hord j h).1.1
  rw [hget j h] at this
  have := (Array.all_eq_true_iff_forall_mem.1 this) e he
  simpa [hb] using this
 have hbef : ∀ j (h : j < ops.size), ∀ i, i < ops.size → ((Region.before ops).getD j 0).testBit i = true → ∃ e ∈ ops[j].after, Region.binds .any e = true ∧ (e.on = i ∨ ((Region.before ops).getD e.on 0).testBit i = true) := fun j h i hi hb => by
  have := (hord j h).1.2 i hi
  rw [hb, hget j h] at this
  simp only [Bool.not_true, Bool.false_or] at this
  obtain ⟨e, he, h1⟩ := Array.any_eq_true'.1 this
  simp only [Bool.and_eq_true, Bool.or_eq_true, beq_iff_eq] at h1
  exact ⟨e, he, h1.1, h1.2⟩
 have hdis : ∀ i j, i < j → j < m → ((Region.before ops).getD j 0).testBit i = false → (∀ k ∈ (L.getD i ([], [])).2, k ∉ (L.getD j ([], [])).1 ∧ k ∉ (L.getD j ([], [])).2) ∧ ∀ k ∈ (L.getD i ([], [])).1, k ∉ (L.getD j ([], [])).2 := fun i j hij hj hb => by
  have := (hord j (by omega)).2 i hij
  rw [show decide (m ≤ j) = false from decide_eq_false (by omega), Bool.and_false, Bool.false_or] at this
  rw [hb] at this
  simp only [Bool.false_or, Bool.and_eq_true, List.all_eq_true, Bool.not_eq_true', List.contains_eq_mem, decide_eq_false_iff_not] at this
  exact ⟨fun k hk => this.1.2 k hk, fun k hk => this.2 k hk⟩
 have hchain : ∀ i j, i ≠ 0 → i < j → j < ops.size → m ≤ j → ((Region.before ops).getD j 0).testBit i = true := fun i j hi0 hij hj hmj => by
  have := (hord j hj).2 i hij
  rw [show decide (i = 0) = false from decide_eq_false hi0, Bool.false_and, Bool.false_or] at this
  cases hb : ((Region.before ops).getD j 0).testBit i with
  | true => rfl
  | false =>
   rw [hb] at this
   simp only [Bool.false_or, Bool.and_eq_true, decide_eq_true_eq] at this
   omega
 have hclosed : ∀ listed : Array Bool, (∀ j (h : j < ops.size), listed.getD j false = true → ∀ e ∈ ops[j].after, Region.binds .any e = true → listed.getD e.on false = true) → ∀ j (h : j < ops.size), listed.getD j false = true → ∀ i, i < ops.size → ((Region.before ops).getD j 0).testBit i = true → listed.getD i false = true := by
  intro listed hcl j
  induction j using Nat.strongRecOn with
  | _ j ihj =>
   intro h hl i hi hbi
   obtain ⟨e, he, h1, h2⟩ := hbef j h i hi hbi
   have hle := hcl j h hl e he h1
   have hlt' := hlt j h e he h1
   rcases h2 with rfl | h2
   ·exact hle
   ·exact ihj e.on hlt' (by omega) hle i hi h2
 have hready : ∀ (listed : Array Bool), listed.size = ops.size → ∀ i, i ∈ Region.ready .any ops listed → ∃ hi : i < ops.size, listed.getD i false = false ∧ ∀ e ∈ ops[i].after, Region.binds .any e = true → listed.getD e.on false = true := fun listed hsz i hi => by
  unfold Region.ready at hi
  rw [List.mem_filter] at hi
  obtain ⟨hi1, hi2⟩ := hi
  have hi' := List.mem_range.1 hi1
  rw [Array.getElem?_eq_getElem hi'] at hi2
  simp only [Option.map_some, Option.getD_some, Bool.and_eq_true, Bool.not_eq_true'] at hi2
  obtain ⟨hl0, hafter⟩ := hi2
  refine ⟨hi', ?_, fun e he hbd => ?_⟩
  ·simp only [Array.getD_eq_getD_getElem?] at hl0 ⊢
   rw [Array.getElem?_eq_getElem (by omega)] at hl0 ⊢
   exact hl0
  ·have := (Array.all_eq_true_iff_forall_mem.1 hafter) e he
   simpa [hbd] using this
 have hsome : ∀ (listed : Array Bool), listed.size = ops.size → Region.ready .any ops listed = [] → cnt (fun i => listed.getD i false) ops.size = 0 := fun listed hsz hr => by
  have : ∀ j, j < ops.size → listed.getD j false = true := by
   intro j
   induction j using Nat.strongRecOn with
   | _ j ihj =>
    intro hj
    cases hl : listed.getD j false with
    | true => rfl
    | false =>
     exfalso
     have hmem : j ∈ Region.ready .any ops listed := by
      unfold Region.ready
      rw [List.mem_filter]
      refine ⟨List.mem_range.2 hj, ?_⟩
      have hl' : listed.getD j true = false := by
       simp only [Array.getD_eq_getD_getElem?] at hl ⊢
       rw [Array.getElem?_eq_getElem (by omega)] at hl ⊢
       exact hl
      rw [hl', Array.getElem?_eq_getElem hj]
      simp only [Bool.not_false, Bool.true_and, Option.map_some, Option.getD_some]
      rw [Array.all_eq_true_iff_forall_mem]
      intro e he
      cases hbd : Region.binds .any e with
      | false => rfl
      | true => simpa using ihj e.on (hlt j hj e he hbd) (by have := hlt j hj e he hbd; omega)
     rw [hr] at hmem
     exact absurd hmem (by simp)
  have : ∀ k, k ≤ ops.size → cnt (fun i => listed.getD i false) k = 0 := by
   intro k
   induction k with
   | zero => intro _; rfl
   | succ k ihk => intro hk; unfold cnt; rw [if_pos (this k (by omega)), ihk (by omega)]
  exact this _ (Nat.le_refl _)
 have hset : ∀ (listed : Array Bool) (i : Nat), i < listed.size → ∀ j, (listed.setIfInBounds i true).getD j false = if j = i then true else listed.getD j false := fun listed i hi j => by
  simp only [Array.getD_eq_getD_getElem?, Array.getElem?_setIfInBounds]
  by_cases hji : j = i
  ·subst hji; rw [if_pos rfl, if_pos hi, if_pos rfl]; rfl
  ·rw [if_neg (fun h => hji h.symm), if_neg hji]
 have hnone : ∀ (listed : Array Bool), listed.size = ops.size → (∀ j, j < ops.size → listed.getD j false = true) → Region.ready .any ops listed = [] := fun listed hsz hall => by
  unfold Region.ready
  rw [List.filter_eq_nil_iff]
  intro i hi
  have hi' := List.mem_range.1 hi
  have := hall i hi'
  simp only [Array.getD_eq_getD_getElem?] at this ⊢
  rw [Array.getElem?_eq_getElem (by omega)] at this ⊢
  simp only [Option.getD_some] at this ⊢
  simp [this]
 have tail : ∀ (k j : Nat) (listed : Array Bool) (σ : St) (g : Gh) (a : Act) (w : World), j + k = ops.size → m ≤ j → listed.size = ops.size → (∀ i, i < ops.size → listed.getD i false = decide (i < j)) → execOps P ops (ops.toList.drop j) σ K → Rel n0 N σ g a w → LtK n0 w → Bk n0 w0 w → (g.A0, g.R0) = A0 → wpAny P .any ops Q k listed a w := by
  intro k
  induction k with
  | zero =>
   intro j listed σ g a w hjk hmj hsz hls h hrel hn hb hA
   have : ops.toList.drop j = [] := List.drop_of_length_le (by simp; omega)
   rw [this] at h
   exact ⟨hnone listed hsz fun i hi => by rw [hls i hi]; simp; omega, hQ σ g a w h hrel hn hb hA⟩
  | succ k ih =>
   intro j listed σ g a w hjk hmj hsz hls h hrel hn hb hA
   have hj : j < ops.size := by omega
   refine ⟨fun hr => ?_, fun i hi => ?_⟩
   ·exfalso
    have hz : listed.getD j false = true := cnt_zero _ (hsome listed hsz hr) j hj
    rw [hls j hj] at hz
    simp at hz
   ·obtain ⟨hi', hl, hdue⟩ := hready listed hsz i hi
    have hij : i = j := by
     rcases Nat.lt_trichotomy i j with h1 | h1 | h1
     ·rw [hls i hi'] at hl; simp at hl; omega
     ·exact h1
     ·exfalso
      obtain ⟨e, he, k1, k2⟩ := hbef i hi' j hj (hchain j i (by omega) h1 hi' (by omega))
      have hle := hdue e he k1
      have hel := hlt i hi' e he k1
      rw [hls e.on (by omega)] at hle
      have hle : e.on < j := by simpa using hle
      rcases k2 with k2 | k2
      ·omega
      ·have : ∀ x, x < ops.size → ∀ y, y < ops.size → ((Region.before ops).getD x 0).testBit y = true → y < x := by
        intro x
        induction x using Nat.strongRecOn with
        | _ x ihx =>
         intro hx y hy hbxy
         obtain ⟨e', he', q1, q2⟩ := hbef x hx y hy hbxy
         have := hlt x hx e' he' q1
         rcases q2 with rfl | q2
         ·exact this
         ·have := ihx e'.on this (by omega) y hy q2; omega
       have := this e.on (by omega) j hj k2
       omega
    subst hij
    have hcons : ops.toList.drop i = ops[i] :: ops.toList.drop (i + 1) := by
     rw [List.drop_eq_getElem_cons (by simpa using hi')]; rfl
    rw [hcons] at h
    refine exG_wpOp hi' (K := fun σ' => execOps P ops (ops.toList.drop (i + 1)) σ' K) h hrel hn (hdst _ (Array.getElem_mem hi')) fun σ' a' w' hh hK => ?_
    obtain ⟨g', k1, k2, k3, k4⟩ := hh
    refine ih (i + 1) _ σ' g' a' w' (by omega) (by omega) (by simpa using hsz) (fun x hx => ?_) hK k1 (hn.mono k2.size) (hb.trans k2) (by rw [k3, k4]; exact hA)
    rw [hset listed i (by omega), hls x hx]
    by_cases hxi : x = i
    ·subst hxi; simp
    ·rw [if_neg hxi]
     congr 1
     simp only [eq_iff_iff]
     omega
 intro fuel
 induction fuel with
 | zero =>
  intro listed g a w hsz hc hcl hno hz0 hrel hn hb hA
  have hall := cnt_zero _ hc
  have hme : m = ops.size := by
   rcases Nat.lt_or_ge m ops.size with h | h
   ·have h1 := hall m h
    rw [hno m (Nat.le_refl _)] at h1; cases h1
   ·omega
  refine ⟨hnone listed hsz hall, ?_⟩
  rw [Fp_text hok hoff m (Nat.le_refl _) fun j hj => hall j (by omega)] at hrel
  have hd : ops.toList.drop m = [] := List.drop_of_length_le (by simp; omega)
  rw [hd] at hT
  exact hQ _ g a w hT hrel hn hb hA
 | succ fuel ih =>
  intro listed g a w hsz hc hcl hno hz0 hrel hn hb hA
  have hbb := hclosed listed hcl
  refine ⟨fun hr => ?_, fun i hi => ?_⟩
  ·exfalso
   have := hsome listed hsz hr
   omega
  ·obtain ⟨hi', hl, hdue⟩ := hready listed hsz i hi
   have h1 : ∀ j, j < ops.size → ((Region.before ops).getD i 0).testBit j = true → listed.getD j false = true := fun j hj hbj => by
    obtain ⟨e, he, k1, k2⟩ := hbef i hi' j hj hbj
    have hle := hdue e he k1
    have hlt' := hlt i hi' e he k1
    rcases k2 with rfl | k2
    ·exact hle
    ·exact hbb e.on (by omega) hle j hj k2
   by_cases him : i < m
   ·have h2 : ∀ j, j < m → listed.getD j false = true → ((Region.before ops).getD j 0).testBit i = true → listed.getD i false = true := fun j hj hlj hbj => hbb j (by omega) hlj i hi' hbj
    have hset' := hset listed i (by omega)
    obtain ⟨_, _, _, hstep⟩ := hL i hi' him
    have hG := hstep _ (fun k hk => Fp_read (σs := σs) (RW := fun i => L.getD i ([], [])) (b := fun j i => ((Region.before ops).getD j 0).testBit i) (p := fun i => listed.getD i false) hok hoff hRk hdis him hl (fun j hj hb => h1 j (by omega) hb) h2 hk)
    have hw := Fp_write (σs := σs) (RW := fun i => L.getD i ([], [])) (b := fun j i => ((Region.before ops).getD j 0).testBit i) (p := fun i => listed.getD i false) hok hdis him hl (fun j hj hb => h1 j (by omega) hb) h2 (p' := fun j => (listed.setIfInBounds i true).getD j false) hset'
    have hcnt := cnt_one (p := fun i => listed.getD i false) (q := fun j => (listed.setIfInBounds i true).getD j false) hl hset' ops.size hi'
    have hG' := hG n0 N g a w hrel hn (hdst _ (Array.getElem_mem hi'))
    rw [← hw] at hG'
    have next : ∀ a' w', (∃ g', Rel n0 N (Fp σs (fun i => L.getD i ([], [])) (fun j => (listed.setIfInBounds i true).getD j false) m) g' a' w' ∧ Bk n0 w w' ∧ g'.A0 = g.A0 ∧ g'.R0 = g.R0) → wpAny P .any ops Q fuel (listed.setIfInBounds i true) a' w' := by
     rintro a' w' ⟨g', k1, k2, k3, k4⟩
     refine ih _ g' a' w' (by simpa using hsz) (by omega) (fun j hj hlj e he hbd => ?_) (fun j hj => by rw [hset', if_neg (by omega)]; exact hno j hj) (by rw [hset']; split; rfl; exact hz0) k1 (hn.mono k2.size) (hb.trans k2) (by rw [k3, k4]; exact hA)
     rw [hset'] at hlj ⊢
     by_cases heo : e.on = i
     ·rw [if_pos heo]
     ·rw [if_neg heo]
      by_cases hji : j = i
      ·subst hji; exact hdue e he hbd
      ·rw [if_neg hji] at hlj; exact hcl j hj hlj e he hbd
    unfold wpOp
    rw [Array.getElem?_eq_getElem hi']
    simp only
    split
    ·rename_i hwd
     rw [if_pos hwd] at hG'
     exact Or.inl (oper_mono next hG')
    ·rename_i hwd
     rw [if_neg hwd] at hG'
     obtain ⟨g', k1, k2, k3⟩ := hG'
     exact next _ _ ⟨g', k1, Bk.refl _ _, k2, k3⟩
   ·-- the chain begins
    have hmi : i = m := by
     rcases Nat.lt_trichotomy i m with h3 | h3 | h3
     ·omega
     ·exact h3
     ·exfalso
      have := h1 m (by omega) (hchain m i (by omega) h3 hi' (by omega))
      rw [hno m (Nat.le_refl _)] at this; cases this
    subst hmi
    have hall : ∀ j, j < i → listed.getD j false = true := fun j hj => if h0 : j = 0 then by rw [h0]; exact hz0 else h1 j (by omega) (hchain j i h0 hj hi' (Nat.le_refl _))
    rw [Fp_text hok hoff i (Nat.le_refl _) hall] at hrel
    have hls : ∀ x, x < ops.size → listed.getD x false = decide (x < i) := fun x hx => by
     by_cases hxi : x < i
     ·rw [hall x hxi]; simp [hxi]
     ·rw [hno x (by omega)]; simp [hxi]
    have hcnt : fuel + 1 = ops.size - i := by
     rw [← hc]
     have : ∀ n, n ≤ ops.size → cnt (fun i => listed.getD i false) n = n - i := by
      intro n
      induction n with
      | zero => intro _; simp [cnt]
      | succ n ihn =>
       intro hn'
       unfold cnt
       rw [ihn (by omega), hls n (by omega)]
       by_cases hni : n < i
       ·rw [if_pos (by simpa using hni)]; omega
       ·rw [if_neg (by simpa using hni)]; omega
     exact this _ (Nat.le_refl _)
    have := tail (fuel + 1) i listed (σs i) g a w (by omega) (Nat.le_refl _) hsz hls hT hrel hn hb hA
    exact this.2 i hi
def chainZ (ops : Array Oper) (m : Nat) : Bool :=
 let b := Region.before ops
 decide (0 < m) && decide (m ≤ ops.size) && (List.range ops.size).all fun j => decide (j < m) || (List.range j).all fun i => decide (i = 0) || (b.getD j 0).testBit i
theorem ordOkZ_of {ops : Array Oper} {L : List (List Ky × List Ky)} {m : Nat} (h1 : ordOk ops L = true) (h2 : chainZ ops m = true) : ordOkZ ops L m = true := by
 unfold ordOk at h1
 unfold chainZ at h2
 unfold ordOkZ
 simp only [List.all_eq_true, List.mem_range, Bool.and_eq_true, Bool.or_eq_true, decide_eq_true_eq] at h1 h2 ⊢
 refine ⟨h2.1.2, fun j hj => ⟨⟨(h1 j hj).1.1, (h1 j hj).1.2⟩, fun i hi => ?_⟩⟩
 rcases (h1 j hj).2 i hi with h3 | h3
 ·exact Or.inr (Or.inl h3)
 ·rcases h2.2 j hj with h4 | h4
  ·exact Or.inr (Or.inr ⟨⟨h4, h3.1⟩, h3.2⟩)
  ·rcases h4 i hi with h5 | h5
   ·by_cases h6 : j < m
    ·exact Or.inr (Or.inr ⟨⟨h6, h3.1⟩, h3.2⟩)
    ·exact Or.inl ⟨h5, by omega⟩
   ·exact Or.inr (Or.inl h5)
def firstZ (ops : Array Oper) : Bool :=
 let o := ops.getD 0 default
 (match o.op with | .move (.tmp _) => true | _ => false) && o.dst.isSome && o.guard.isNone && decide (0 < ops.size) && Region.noSelect ops && Region.free .any ops (Array.replicate ops.size false) 0 && (Region.ready .any ops (Array.replicate ops.size false)).contains 0
theorem drawnZ (m : Nat) {id : Nat} {ops : Array Oper} {ks : List Fr} {Q : Exit → St → Prop} {σ : St} (hmx : P.follows .mixedOrders = true) (hf : firstZ ops = true) (hch : chainZ ops m = true) (h : exd P ops (ops.toList.take m) [] [] (tailQ P ops m ks Q) σ) : ex P (.region id ops true) ks Q σ := by
 show DrawSem P id ops σ _
 intro n0 N g a w hR hn hd
 have hm : 0 < m ∧ m ≤ ops.size := by unfold chainZ at hch; simp only [Bool.and_eq_true, decide_eq_true_eq] at hch; exact hch.1
 obtain ⟨L, σs, h0, hloc, hord, hK⟩ := drwOps_soundT hm.2 (ops.toList.take m) 0 [] (fun _ => σ) rfl (Nat.zero_le _) rfl (fun j _ hj => by omega) h
 have hordZ := ordOkZ_of hord hch
 refine wp_region_any hmx ?_
 have hb : Below w.heap.size w { w with drawn := w.drawn + 1 } := ⟨rfl, rfl, rfl, Nat.le_refl _, fun _ _ => rfl⟩
 have hR' : Rel n0 N (σs 0) g a { w with drawn := w.drawn + 1 } := by
  rw [h0]
  exact hR.after hn hb (New.refl σ g (w.heap.size ≤ ·) _ hR.slc)
 have hsz : 0 < ops.size := by omega
 have hgD : ops.getD 0 default = ops[0] := by simp [Array.getD, hsz]
 unfold firstZ at hf
 simp only [hgD, Bool.and_eq_true, decide_eq_true_eq] at hf
 obtain ⟨⟨⟨⟨⟨⟨f1, f2⟩, f3⟩, -⟩, f4⟩, f5⟩, f6⟩ := hf
 obtain ⟨x, hx⟩ : ∃ x, ops[0].op = .move (.tmp x) := by
  revert f1
  cases h : ops[0].op with
  | move y => cases y with
   | tmp x => intro _; exact ⟨x, rfl⟩
   | _ => intro h; cases h
  | _ => intro h; cases h
 have hgu : ops[0].guard = none := by simpa using f3
 have hrun : ∀ a : Act, ∀ w, (execOp a.eval ops[0]).run P w = .ok (.value (a.eval (.tmp x))) w := fun a w => by
  unfold execOp
  rw [hx]
  rfl
 have hwant : Region.wanted ops[0] (yielded ops a.tmps) = true := by unfold Region.wanted; rw [hgu]
 obtain ⟨fu, hfu⟩ : ∃ fu, ops.size = fu + 1 := ⟨ops.size - 1, by omega⟩
 have hy : Yields P ops ops[0] (a.eval (.tmp x)) a := Or.inl ⟨hwant, hrun a⟩
 have hset0 : ∀ j, ((Array.replicate ops.size false).setIfInBounds 0 true).getD j false = decide (j = 0) := fun j => by
  simp only [Array.getD_eq_getD_getElem?, Array.getElem?_setIfInBounds, Array.size_replicate, Array.getElem?_replicate]
  by_cases hj : j = 0
  ·subst hj; simp [hsz]
  ·rw [if_neg (fun h => hj h.symm)]
   split <;> simp [hj]
 have hok : ∀ i, i < m → okK (L.getD i ([], [])).2 = true := fun i h => (hloc i (by omega) h).1
 have hoff : ∀ i, i < m → ∀ k : Ky, k.1 < 3 → k ∉ (L.getD i ([], [])).2 → sameK (σs i) (σs (i + 1)) k := fun i h => (hloc i (by omega) h).2.2.1
 have hF : ∀ n, n < m → Fp σs (fun i => L.getD i ([], [])) (fun i => ((Array.replicate ops.size false).setIfInBounds 0 true).getD i false) (n + 1) = σs 1 := by
  intro n
  induction n with
  | zero =>
   intro _
   exact Fp_text (p := fun i => ((Array.replicate ops.size false).setIfInBounds 0 true).getD i false) hok hoff 1 (by omega) fun j hj => by rw [hset0]; simp; omega
  | succ n ih =>
   intro hn'
   unfold Fp
   rw [hset0, if_neg (by simp)]
   exact ih (by omega)
 have hp1 : ptch (σs 0) (L.getD 0 ([], [])).2 (σs 1) = σs 1 := by
  have := hF 0 hm.1
  unfold Fp at this
  rw [hset0, if_pos (by simp)] at this
  unfold Fp at this
  exact this
 obtain ⟨_, _, _, hstep⟩ := hloc 0 hsz hm.1
 have hG := hstep (σs 0) (fun k _ => sameK.refl _ _) n0 N g a _ hR' (hn.mono (Nat.le_refl _)) (hd _ (Array.getElem_mem hsz))
 rw [hp1, if_pos hwant] at hG
 unfold Oper.wp at hG
 rw [hrun a] at hG
 obtain ⟨g1, k1, k2, k3, k4⟩ := hG
 have hcnt : cnt (fun i => ((Array.replicate ops.size false).setIfInBounds 0 true).getD i false) ops.size = fu := by
  have : ∀ n, cnt (fun i => ((Array.replicate ops.size false).setIfInBounds 0 true).getD i false) n = n - 1 := by
   intro n
   induction n with
   | zero => rfl
   | succ n ih =>
    unfold cnt
    rw [ih, hset0]
    by_cases hn0 : n = 0
    ·subst hn0; rfl
    ·rw [if_neg (by simpa using hn0)]; omega
  rw [this]; omega
 have hrep : ∀ i, (Array.replicate ops.size false).getD i false = false := fun i => by
  simp only [Array.getD_eq_getD_getElem?, Array.getElem?_replicate]; split <;> rfl
 have hrdy := mem_ready.1 (by simpa using f6 : 0 ∈ Region.ready .any ops (Array.replicate ops.size false))
 have key := drawn_allZ (w0 := w) (A0 := (g.A0, g.R0)) (K := kont P ks Q .normal) (Q := fun e a' w' => e = .normal ∧ ∃ σ' g', kont P ks Q .normal σ' ∧ Rel n0 N σ' g' a' w' ∧ LtK n0 w' ∧ Bk n0 w w' ∧ g'.A0 = g.A0 ∧ g'.R0 = g.R0) hm.1 hloc hordZ hd hK (fun σ' g' a' w' kk k1 k2 k3 k4 => ⟨rfl, σ', g', kk, k1, k2, k3, (Prod.mk.inj k4).1, (Prod.mk.inj k4).2⟩) fu ((Array.replicate ops.size false).setIfInBounds 0 true) g1 (a.put ops[0].dst (a.eval (.tmp x))) { w with drawn := w.drawn + 1 } (by simp) hcnt (fun j h hl e he hb => ?_) (fun j hj => by rw [hset0]; simp; omega) (by rw [hset0]; rfl) ?_ (hn.mono (Nat.le_refl _)) (Bk.of_below hb hn) (by rw [k3, k4])
 ·rw [hfu]
  rw [hfu] at key f5 f6
  exact wpAny_take (oi := ops[0]) (Array.getElem?_eq_getElem hsz) f4 f5 f6 (fun c a w hq => by cases hq.1) hy key
 ·rw [hset0] at hl
  have hj0 : j = 0 := by simpa using hl
  subst hj0
  obtain ⟨_, oj, ho, hall⟩ := hrdy
  rw [Array.getElem?_eq_getElem hsz] at ho
  cases ho
  have := hall e he hb
  rw [hrep] at this
  cases this
 ·have := hF (m - 1) (by omega)
  rw [show m - 1 + 1 = m by omega] at this
  rw [this]
  exact k1
attribute [go_sem] tailQ_normal
end Go.Proofs.YtbccfiillleimaaGreat
namespace Go.Proofs.YtbccfiillleimaaGreat
set_option linter.unusedSimpArgs false
set_option linter.unusedVariables false
set_option linter.unusedSectionVars false
set_option maxRecDepth 4000
open Go.RowKit
abbrev tmSS (xs : List (List Tm)) : T := .sl 1 (xs.map fun s => [tmS s])
theorem pthL_take (e : Ex) {k : Nat} (hlt : k < e.parts.length) : (pthL e).take (k + 1) = (pthL e).take k ++ [(pth e.parts[k]).map fun l => e.terms.getD k Tm.zero :: l] := by
 rw [List.take_succ_eq_append_getElem (by simpa using hlt), List.getElem_mapIdx]
theorem sum_flat {α : Type} (w : Ex → Nat) : ∀ (ps : List Ex) (g : Nat → Ex → List α), (∀ i (hi : i < ps.length), (g i ps[i]).length ≤ w ps[i]) → (ps.mapIdx g).flatten.length ≤ (ps.map w).sum
 | [], _, _ => by simp
 | p :: ps, g, H => by
  rw [List.mapIdx_cons, List.flatten_cons, List.length_append, List.map_cons, List.sum_cons]
  have h0 := H 0 (by simp)
  have h1 := sum_flat w ps (fun i => g (i + 1)) fun i hi => by
   have := H (i + 1) (by simpa using hi)
   simpa using this
  simp only [List.getElem_cons_zero] at h0
  omega
theorem nodes_part {e p : Ex} (h : p ∈ e.parts) : p.nodes + 1 ≤ e.nodes := by
 have := e.nodes_eq
 have := mem_sum Ex.nodes e.parts p h
 omega
theorem pth_len : ∀ e : Ex, (pth e).length ≤ e.nodes ∧ ∀ l ∈ pth e, l.length ≤ e.nodes := ex_ind fun f ts ps ih => by
 rw [pth_eq]
 have hN := Ex.nodes_eq (.mk f ts ps)
 have eP : (Ex.mk f ts ps).parts = ps := rfl
 rw [eP] at hN
 unfold pthJ
 split
 ·refine ⟨?_, fun l hl => ?_⟩
  ·have := sum_flat Ex.nodes ps (fun i p => (pth p).map fun l => (Ex.mk f ts ps).terms.getD i Tm.zero :: l) fun i hi => by
    rw [List.length_map]
    exact (ih ps[i] (List.getElem_mem hi)).1
   show (ps.mapIdx _).flatten.length ≤ _
   omega
  ·obtain ⟨m, hm, hl⟩ := List.mem_flatten.1 hl
   obtain ⟨i, hi, rfl⟩ := List.getElem_of_mem hm
   have hi' : i < ps.length := by rw [List.length_mapIdx] at hi; exact hi
   rw [List.getElem_mapIdx] at hl
   obtain ⟨l', hl', rfl⟩ := List.mem_map.1 hl
   have h1 := (ih ps[i] (List.getElem_mem hi')).2 l' hl'
   have h2 := nodes_part (e := .mk f ts ps) (p := ps[i]) (List.getElem_mem hi')
   rw [List.length_cons]
   omega
 ·refine ⟨by simp only [List.length_cons, List.length_nil]; omega, fun l hl => ?_⟩
  rw [List.mem_singleton] at hl
  subst hl
  exact Nat.zero_le _
theorem take_flat_len {α : Type} (L : List (List α)) (k : Nat) : (L.take k).flatten.length ≤ L.flatten.length := by
 have := congrArg (fun l => l.flatten.length) (List.take_append_drop k L)
 simp only [List.flatten_append, List.length_append] at this
 omega
set_option maxHeartbeats 4000000 in
theorem paths_of (e : Ex) (he : e.wt ≤ 1048576) (hn : (e.form.op == 9) = true → e.terms.length = e.parts.length) (H : ∀ p ∈ e.parts, FC Tryz.prog 93 [exD p] [.one (tmSS (pth p))]) : FC Tryz.prog 93 [exD e] [.one (tmSS (pth e))] := by
 have hv := pth_eq e
 have hW := e.wt_eq
 have hln := (pth_len e).1
 have hen := enodes_wt e
 have hTW : tmsW e.terms = e.terms.length + (e.terms.map Tm.wt).sum := rfl
 simp only [exD, exC_eq]
 cases h9 : e.form.op == 9
 ·have hne : (e.form.op != 9) = true := by rw [bne, h9]; rfl
  have hv : pth e = [[]] := by rw [hv]; unfold pthJ; rw [h9]; rfl
  rw [hv]
  show FC _ _ _ [.one (.sl 1 [[.sl 2 []]])]
  refine FC_of Tryz.call93 Tryz.func93 rfl (by kernel_rfl) (by simp only [rd, List.map_cons, List.map_nil, List.length_cons, List.length_nil, Tryz.ntmps93]; omega) ?_
  simp -implicitDefEqProofs only [go_sem, Tryz.results93, hne]
  refine buildDc (by simp -implicitDefEqProofs only [go_sem]) ?_
  simp -implicitDefEqProofs only [go_sem]
  refine buildDc (by simp -implicitDefEqProofs only [go_sem]) ?_
  simp -implicitDefEqProofs only [go_sem]
 ·have hne : (e.form.op != 9) = false := by rw [bne, h9]; rfl
  have hv : pth e = (pthL e).flatten := by rw [hv]; unfold pthJ; rw [h9]; rfl
  have hTP := hn h9
  have hLl : (pthL e).length = e.parts.length := by simp
  have hLk := fun k (hlt : k < e.parts.length) => pthL_take e hlt
  have hgrow := take_flat_len (pthL e)
  rw [← hv] at hgrow
  rw [hv]
  rw [hv] at hln hgrow
  generalize pthL e = L at hv hLl hLk hgrow hln ⊢
  refine FC_ofN Tryz.call93 Tryz.func93 rfl (by kernel_rfl) (by simp only [rd, List.map_cons, List.map_nil, List.length_cons, List.length_nil, Tryz.ntmps93]; omega) ?_
  simp -implicitDefEqProofs only [go_sem, Tryz.results93, hne]
  refine buildDc (by simp -implicitDefEqProofs only [go_sem]) ?_
  simp -implicitDefEqProofs only [go_sem]
  refine loop_rule (fun k : Nat => hd [(1, .one (.bx 1 0)), (3, .one (.ow 448 0)), (16, .one (.rn (exS e.parts))), (17, vI e.parts.length), (18, vI k)] [(1, [.t (.int .i64 e.form.op), .t (.str e.form.atom.name), .rn (tmS e.form.atom.args), .t (.str e.form.var), .rn (fmS e.form.parts), .rn (tmS e.terms), .rn (exS e.parts)])] [(448, ⟨true, 1, (L.take k).flatten.map fun s => [tmS s], 0, true⟩)]) (fun k => k ≤ e.parts.length) (fun k => e.parts.length - k) 0 (weak_hd ?_) (Nat.zero_le _) ?_
  ·simp -implicitDefEqProofs only [go_sem]
  ·intro k hk
   by_cases hlt : k < e.parts.length
   ·have hLk := hLk k hlt
    have hgk := hgrow (k + 1)
    have HC := H e.parts[k] (List.getElem_mem hlt)
    have hkt : k < e.terms.length := by omega
    have hpl := pth_len e.parts[k]
    have hnp := nodes_part (List.getElem_mem hlt)
    rw [getD_eq hkt] at hLk
    rw [hLk] at hgk
    have hTk := mem_sum Tm.wt e.terms e.terms[k] (List.getElem_mem hkt)
    have HCo := copyTerm_c e.terms[k] (by omega)
    generalize hDn : (L.take k).flatten = dn at ⊢
    simp only [exD, exC_eq e.parts[k], tmD, tmC_eq e.terms[k]] at HC HCo
    simp -implicitDefEqProofs only [go_sem, hlt, getD_at, exC_eq e.parts[k]]
    refine callFPe 768 HC (by simp -implicitDefEqProofs only [go_sem]) (by simp -implicitDefEqProofs only [go_sem]) fun vs => ?_
    simp -implicitDefEqProofs only [go_sem]
    refine loop_rule (fun x : List (List T) × List (List Tm) => hd [(1, .one (.bx 1 0)), (3, .one (.ow 448 0)), (4, vI k), (16, .one (.rn (exS e.parts))), (17, vI e.parts.length), (18, vI k), (24, .one (.ow 768 0)), (25, vI (pth e.parts[k]).length), (26, vI x.1.length)] [(1, [.t (.int .i64 e.form.op), .t (.str e.form.atom.name), .rn (tmS e.form.atom.args), .t (.str e.form.var), .rn (fmS e.form.parts), .rn (tmS e.terms), .rn (exS e.parts)])] [(448, ⟨true, 1, (dn ++ ((pth e.parts[k]).take x.1.length).map fun l => e.terms[k] :: l).map fun s => [tmS s], 0, true⟩), (768, ⟨true, 1, x.1 ++ pinRs vs x.1.length (x.2.map fun s => [tmS s]), 0, true⟩)])
     (fun x => x.1.length ≤ (pth e.parts[k]).length ∧ x.2 = (pth e.parts[k]).drop x.1.length) (fun x => x.2.length) ([], pth e.parts[k]) (weak_hd ?_) ?_ ?_
    ·simp -implicitDefEqProofs only [go_sem]
    ·exact ⟨Nat.zero_le _, rfl⟩
    ·rintro ⟨W, rest⟩ ⟨hk2, hr⟩
     simp only at hk2 hr
     cases rest with
     | nil =>
      have hfl : W.length = (pth e.parts[k]).length := by
       have := congrArg List.length hr
       rw [List.length_drop] at this
       simp only [List.length_nil] at this
       omega
      have htl : (pth e.parts[k]).take W.length = pth e.parts[k] := List.take_of_length_le (by omega)
      have hnl : ¬ W.length < (pth e.parts[k]).length := by omega
      rw [htl]
      simp -implicitDefEqProofs only [go_sem, hnl]
      refine ⟨k + 1, hlt, by omega, weak_hd ?_⟩
      simp -implicitDefEqProofs only [go_sem]
      rw [wrap_s (by omega), hLk, List.flatten_append, List.flatten_singleton, hDn]
      exact ⟨rfl, rfl⟩
     | cons l rest =>
      have hlt2 : W.length < (pth e.parts[k]).length := by
       have := congrArg List.length hr
       rw [List.length_drop, List.length_cons] at this
       omega
      rw [List.drop_eq_getElem_cons hlt2] at hr
      obtain ⟨rfl, hr⟩ := List.cons.inj hr
      simp -implicitDefEqProofs only [go_sem, hlt2, hkt, getD_at, tmC_eq e.terms[k], List.map_cons]
      refine takeO [1, 3, 4, 7, 16, 17, 18, 24, 25, 26, 30, 35] 768 3000 7 W.length 0 rfl rfl (by simp -implicitDefEqProofs only [go_sem]) (by simp -implicitDefEqProofs only [go_sem, Bool.true_or, Bool.or_true, Bool.false_or, Bool.or_false]) (by simp -implicitDefEqProofs only [go_sem]) (by simp -implicitDefEqProofs only [go_sem]) (by simp -implicitDefEqProofs only [go_sem]) ?_
      simp -implicitDefEqProofs only [go_sem]
      intro ao ln c
      generalize hl0 : (pth e.parts[k])[W.length] = l0 at hr ⊢
      have hl0' : l0 ∈ pth e.parts[k] := hl0 ▸ List.getElem_mem hlt2
      have hll := hpl.2 l0 hl0'
      have htk : (pth e.parts[k]).take (W.length + 1) = (pth e.parts[k]).take W.length ++ [l0] := by rw [List.take_succ_eq_append_getElem hlt2, hl0]
      have hmin : min W.length (pth e.parts[k]).length = W.length := by omega
      have ha1 : 1 + l0.length ≤ 4294967296 := by omega
      have ha2 : 0 + 1 + l0.length ≤ 4294967296 := by omega
      have ha3 : dn.length + W.length + 1 ≤ 4294967296 := by
       rw [List.flatten_append, List.length_append, List.flatten_singleton, List.length_map, hDn] at hgk
       omega
      have ha4 : dn.length + W.length ≤ 4294967295 := by omega
      refine callF (HCo) (by simp -implicitDefEqProofs only [go_sem]) ?_
      simp -implicitDefEqProofs only [go_sem]
      refine buildDc (by simp -implicitDefEqProofs only [go_sem]) ?_
      simp -implicitDefEqProofs only [go_sem]
      refine apD true (by simp -implicitDefEqProofs only [go_sem, ne_eq, List.length_map, List.length_cons, List.length_nil, ha1, ha2]) ?_
      simp -implicitDefEqProofs only [go_sem, ne_eq, List.length_map, List.length_cons, List.length_nil, ha1, ha2]
      refine buildDc (by simp -implicitDefEqProofs only [go_sem]) ?_
      simp -implicitDefEqProofs only [go_sem]
      refine apD true (by simp -implicitDefEqProofs only [go_sem, ne_eq, List.length_map, List.length_append, List.length_take, hmin, ha3, ha4]) ?_
      simp -implicitDefEqProofs only [go_sem, ne_eq, List.length_map, List.length_append, List.length_take, hmin, ha3, ha4]
      refine ⟨(W ++ [[.vs ao ln c]], rest), ⟨by simp only [List.length_append, List.length_cons, List.length_nil]; omega, by simp only [List.length_append, List.length_cons, List.length_nil]; exact (List.cons.inj hr).2⟩, by simp, weak_hd ?_⟩
      simp -implicitDefEqProofs only [go_sem]
      rw [wrap_s (by omega), htk]
      simp only [List.map_append, List.map_cons, List.map_nil, List.append_assoc, List.cons_append, List.nil_append, tmS, List.map_cons, tmC_eq e.terms[k]]
      exact ⟨trivial, trivial, trivial⟩
   ·have ht : L.take k = L := List.take_of_length_le (by omega)
    simp -implicitDefEqProofs only [go_sem, hlt, ht]
theorem paths_c : ∀ e : Ex, e.wt ≤ 1048576 → ∀ pos, nodeS e pos = true → FC Tryz.prog 93 [exD e] [.one (tmSS (pth e))] :=
 ex_ind fun f ts ps ih he pos hn => paths_of (.mk f ts ps) he (fun h9 => (nodeS_len hn).1 (by
  have h9 : (f.op == 9) = true := h9
  show isQ f.op = true
  unfold isQ; rw [h9, Bool.or_true])) fun p hp => by
   obtain ⟨i, hi, rfl⟩ := List.getElem_of_mem hp
   exact ih _ hp (Nat.le_trans (eparts_wt (a := .mk f ts ps) hp) he) _ ((nodeS_parts hn).1 i hi)
abbrev tupP (p : Ex) (l : List Tm) : Prop := GC Tryz.prog 92 [(false, exD p), (true, .one (tmS l))] [.one (tmSS (tupS p l))]
abbrev tupL (e : Ex) (l : List Tm) : List (List (List Tm)) := e.parts.mapIdx fun i p => tupS p (l ++ [e.terms.getD i Tm.zero])
theorem tupL_take (e : Ex) (l : List Tm) {k : Nat} (hlt : k < e.parts.length) : (tupL e l).take (k + 1) = (tupL e l).take k ++ [tupS e.parts[k] (l ++ [e.terms.getD k Tm.zero])] := by
 rw [List.take_succ_eq_append_getElem (by simpa using hlt), List.getElem_mapIdx]
set_option maxHeartbeats 4000000 in
theorem l17Tuples_of (e : Ex) (he : e.wt ≤ 1048576) (hn : (e.form.op == 9) = true → e.terms.length = e.parts.length) (H : ∀ p ∈ e.parts, ∀ l : List Tm, tmsW l + p.wt ≤ 1048576 → tupP p l) (l : List Tm) (hl : tmsW l + e.wt ≤ 1048576) : tupP e l := by
 have hv := tupS_eq e l
 have hW := e.wt_eq
 have hln : (tupS e l).length ≤ e.nodes := by rw [tup_pth, List.length_map]; exact (pth_len e).1
 have hen := enodes_wt e
 have hTW : tmsW e.terms = e.terms.length + (e.terms.map Tm.wt).sum := rfl
 have hlW : tmsW l = l.length + (l.map Tm.wt).sum := rfl
 unfold tupP
 simp only [exD, exC_eq]
 cases h9 : e.form.op == 9
 ·have hne : (e.form.op != 9) = true := by rw [bne, h9]; rfl
  rw [h9, if_neg (by simp)] at hv
  rw [hv]
  show GC _ _ _ [.one (.sl 1 [[.sl 2 (l.map tmC)]])]
  refine GC_ofN Tryz.call92 Tryz.func92 rfl (by kernel_rfl) (by simp only [List.length_cons, List.length_nil, Tryz.ntmps92]; omega) (by simp [smallG, T.isPin]) ?_
  simp -implicitDefEqProofs only [go_sem, Tryz.results92, hne]
  refine buildDc (by simp -implicitDefEqProofs only [go_sem]) ?_
  simp -implicitDefEqProofs only [go_sem]
 ·have hne : (e.form.op != 9) = false := by rw [bne, h9]; rfl
  rw [h9, if_pos rfl] at hv
  have hTP := hn h9
  have hLl : (tupL e l).length = e.parts.length := by simp
  have hLk := fun k (hlt : k < e.parts.length) => tupL_take e l hlt
  have hgrow := take_flat_len (tupL e l)
  have hv : tupS e l = (tupL e l).flatten := hv
  rw [hv]
  rw [hv] at hln
  generalize tupL e l = L at hv hLl hLk hgrow hln ⊢
  refine GC_ofN Tryz.call92 Tryz.func92 rfl (by kernel_rfl) (by simp only [List.length_cons, List.length_nil, Tryz.ntmps92]; omega) (by simp [smallG, T.isPin]) ?_
  simp -implicitDefEqProofs only [go_sem, Tryz.results92, hne]
  refine buildDc (by simp -implicitDefEqProofs only [go_sem]) ?_
  simp -implicitDefEqProofs only [go_sem]
  refine loop_rule (fun k : Nat => hd [(1, .one (.ow 32 0)), (2, .one (.bx 2 0)), (5, .one (.ow 480 0)), (6, vI k)] [(2, [.t (.int .i64 e.form.op), .t (.str e.form.atom.name), .rn (tmS e.form.atom.args), .t (.str e.form.var), .rn (fmS e.form.parts), .rn (tmS e.terms), .rn (exS e.parts)])] [(32, ⟨true, 2, l.map tmC, 0, true⟩), (480, ⟨true, 1, (L.take k).flatten.map fun s => [tmS s], 0, true⟩)]) (fun k => k ≤ e.parts.length) (fun k => e.parts.length - k) 0 (weak_hd ?_) (Nat.zero_le _) ?_
  ·simp -implicitDefEqProofs only [go_sem]
  ·intro k hk
   by_cases hlt : k < e.parts.length
   ·have hLk := hLk k hlt
    have hgk := hgrow (k + 1)
    have hkt : k < e.terms.length := by omega
    have hnp := nodes_part (List.getElem_mem hlt)
    rw [getD_eq hkt] at hLk
    rw [hLk, List.flatten_append, List.length_append, List.flatten_singleton] at hgk
    have hTk := mem_sum Tm.wt e.terms e.terms[k] (List.getElem_mem hkt)
    have hPk := mem_sum Ex.wt e.parts e.parts[k] (List.getElem_mem hlt)
    have HCo := l2Own_c e.terms[k] (by omega)
    have hsum : tmsW (l ++ [e.terms[k]]) = tmsW l + 1 + e.terms[k].wt := by
     unfold tmsW
     rw [List.length_append, List.map_append, List.sum_append]
     simp
     omega
    have HC := H e.parts[k] (List.getElem_mem hlt) (l ++ [e.terms[k]]) (by omega)
    generalize hDn : (L.take k).flatten = dn at hgk ⊢
    unfold tupP at HC
    generalize hTu : tupS e.parts[k] (l ++ [e.terms[k]]) = tu at hLk hgk HC
    rw [show tmS (l ++ [e.terms[k]]) = .sl 2 (l.map tmC ++ [[.str e.terms[k].name, .sl 2 (e.terms[k].args.map tmC)]]) from by simp [tmS, tmC_eq e.terms[k]]] at HC
    simp only [exD, exC_eq e.parts[k], tmD, tmC_eq e.terms[k]] at HC HCo
    simp -implicitDefEqProofs only [go_sem, hkt]
    refine buildDc (by simp -implicitDefEqProofs only [go_sem]) ?_
    simp -implicitDefEqProofs only [go_sem]
    refine loop_rule (fun j : Nat => hd [(1, .one (.ow 32 0)), (2, .one (.bx 2 0)), (5, .one (.ow 480 0)), (6, vI k), (7, .one (.ow 736 0)), (8, vI j)] [(2, [.t (.int .i64 e.form.op), .t (.str e.form.atom.name), .rn (tmS e.form.atom.args), .t (.str e.form.var), .rn (fmS e.form.parts), .rn (tmS e.terms), .rn (exS e.parts)])] [(32, ⟨true, 2, l.map tmC, 0, true⟩), (480, ⟨true, 1, dn.map fun s => [tmS s], 0, true⟩), (736, ⟨true, 2, (l.take j).map tmC, 0, true⟩)]) (fun j => j ≤ l.length) (fun j => l.length - j) 0 (weak_hd ?_) (Nat.zero_le _) ?_
    ·simp -implicitDefEqProofs only [go_sem]
    ·intro j hj
     by_cases hjl : j < l.length
     ·have hlj := mem_sum Tm.wt l l[j] (List.getElem_mem hjl)
      have HCj := l2Own_c l[j] (by omega)
      have hmin : min j l.length ≤ 4294967295 := by omega
      simp only [tmD, tmC_eq l[j]] at HCj
      simp -implicitDefEqProofs only [go_sem, hjl, getD_at, tmC_eq l[j]]
      refine callF (HCj) (by simp -implicitDefEqProofs only [go_sem]) ?_
      simp -implicitDefEqProofs only [go_sem]
      refine buildDc (by simp -implicitDefEqProofs only [go_sem]) ?_
      simp -implicitDefEqProofs only [go_sem]
      refine apD true (by simp -implicitDefEqProofs only [go_sem, ne_eq, List.length_map, List.length_take, hmin]) ?_
      simp -implicitDefEqProofs only [go_sem, ne_eq, List.length_map, List.length_take, hmin]
      refine ⟨j + 1, hjl, by omega, weak_hd ?_⟩
      simp -implicitDefEqProofs only [go_sem]
      rw [wrap_s (by omega), List.take_succ_eq_append_getElem hjl, List.map_append, List.map_singleton, tmC_eq l[j]]
      exact ⟨rfl, rfl⟩
     ·have htj : l.take j = l := List.take_of_length_le (by omega)
      have ha1 : l.length + 1 ≤ 4294967296 := by omega
      have ha2 : l.length ≤ 4294967295 := by omega
      have ha3 : dn.length + tu.length ≤ 4294967296 := by omega
      rw [htj]
      simp -implicitDefEqProofs only [go_sem, hjl]
      refine drawnZ 15 (by kernel_rfl) (by kernel_rfl) (by kernel_rfl) ?_
      simp -implicitDefEqProofs only [go_sem, hlt, hkt, getD_at, exC_eq e.parts[k], tmC_eq e.terms[k]]
      refine dCallF (HCo) (by simp -implicitDefEqProofs only [go_sem]) ?_
      simp -implicitDefEqProofs only [go_sem]
      refine dBuildDc (by simp -implicitDefEqProofs only [go_sem]) ?_
      simp -implicitDefEqProofs only [go_sem]
      refine dApD true (by simp -implicitDefEqProofs only [go_sem, ne_eq, List.length_map, ha1, ha2]) ?_
      simp -implicitDefEqProofs only [go_sem, ne_eq, List.length_map, ha1, ha2]
      refine ⟨by kernel_rfl, ?_⟩
      refine callGL [1, 2, 5, 6, 38] [43, 52] [] (HC) (by simp -implicitDefEqProofs only [go_sem]) (by simp -implicitDefEqProofs only [go_sem]) (by simp -implicitDefEqProofs only [go_sem]) (by simp -implicitDefEqProofs only [go_sem]) ?_
      simp -implicitDefEqProofs only [go_sem]
      refine apD true (by simp -implicitDefEqProofs only [go_sem, ne_eq, List.length_map, ha3]) ?_
      simp -implicitDefEqProofs only [go_sem, ne_eq, List.length_map, ha3]
      refine ⟨k + 1, hlt, by omega, weak_hd ?_⟩
      simp -implicitDefEqProofs only [go_sem]
      rw [wrap_s (by omega), hLk, List.flatten_append, List.flatten_singleton, hDn, List.map_append]
      exact ⟨rfl, rfl⟩
   ·have ht : L.take k = L := List.take_of_length_le (by omega)
    have hkt : ¬ k < e.terms.length := by omega
    simp -implicitDefEqProofs only [go_sem, hkt, ht]
theorem l17Tuples_c : ∀ e : Ex, e.wt ≤ 1048576 → ∀ pos, nodeS e pos = true → ∀ l : List Tm, tmsW l + e.wt ≤ 1048576 → tupP e l :=
 ex_ind fun f ts ps ih he pos hn => l17Tuples_of (.mk f ts ps) he (fun h9 => (nodeS_len hn).1 (by
  have h9 : (f.op == 9) = true := h9
  show isQ f.op = true
  unfold isQ; rw [h9, Bool.or_true])) fun p hp l hl => by
   obtain ⟨i, hi, rfl⟩ := List.getElem_of_mem hp
   exact ih _ hp (Nat.le_trans (eparts_wt (a := .mk f ts ps) hp) he) _ ((nodeS_parts hn).1 i hi) l hl
noncomputable def tupOk (e : Ex) : Bool := specOk e true && herF e.form
noncomputable def tupR (e : Ex) : List (List Tm) := if tupOk e = true then pth e else []
set_option maxHeartbeats 1000000 in
theorem implTuplesOf_c (e : Ex) (he : e.wt ≤ 1048576) : FC Tryz.prog 38 [exD e] [.one (tmSS (tupR e)), bD (tupOk e)] := by
 have HI := isValidExpansion_c e he true
 rw [exp_spec] at HI
 have HH := isHerbrand_c e.form (by have := form_wt e; omega)
 unfold tupR tupOk
 cases h : specOk e true
 ·rw [h] at HI
  rw [Bool.false_and, if_neg (by simp)]
  show FC _ _ _ [.one (.sl 1 []), _]
  simp only [exD, exC_eq e, fmD, fmC_eq e.form] at HI HH ⊢
  refine FC_of Tryz.call38 Tryz.func38 rfl (by kernel_rfl) (by simp only [rd, List.map_cons, List.map_nil, List.length_cons, List.length_nil, Tryz.ntmps38]; omega) ?_
  simp -implicitDefEqProofs only [go_sem, Tryz.results38]
  refine callF (HI) (by simp -implicitDefEqProofs only [go_sem]) ?_
  simp -implicitDefEqProofs only [go_sem]
 ·rw [h] at HI
  rw [Bool.true_and]
  obtain ⟨hg, hn, -⟩ := specOk_node h
  have HP := paths_c e he true hn
  generalize pth e = R at HP ⊢
  cases hh : herF e.form
  ·rw [hh] at HH
   rw [if_neg (by simp)]
   show FC _ _ _ [.one (.sl 1 []), _]
   simp only [exD, exC_eq e, fmD, fmC_eq e.form] at HI HH ⊢
   refine FC_of Tryz.call38 Tryz.func38 rfl (by kernel_rfl) (by simp only [rd, List.map_cons, List.map_nil, List.length_cons, List.length_nil, Tryz.ntmps38]; omega) ?_
   simp -implicitDefEqProofs only [go_sem, Tryz.results38]
   refine callF (HI) (by simp -implicitDefEqProofs only [go_sem]) ?_
   simp -implicitDefEqProofs only [go_sem]
   refine callF (HH) (by simp -implicitDefEqProofs only [go_sem]) ?_
   simp -implicitDefEqProofs only [go_sem]
  ·rw [hh] at HH
   rw [if_pos rfl]
   simp only [exD, exC_eq e, fmD, fmC_eq e.form] at HI HH HP ⊢
   refine FC_of Tryz.call38 Tryz.func38 rfl (by kernel_rfl) (by simp only [rd, List.map_cons, List.map_nil, List.length_cons, List.length_nil, Tryz.ntmps38]; omega) ?_
   simp -implicitDefEqProofs only [go_sem, Tryz.results38]
   refine callF (HI) (by simp -implicitDefEqProofs only [go_sem]) ?_
   simp -implicitDefEqProofs only [go_sem]
   refine callF (HH) (by simp -implicitDefEqProofs only [go_sem]) ?_
   simp -implicitDefEqProofs only [go_sem]
   refine callF (HP) (by simp -implicitDefEqProofs only [go_sem]) ?_
   simp -implicitDefEqProofs only [go_sem]
set_option maxHeartbeats 1000000 in
theorem specTuplesOf_c (e : Ex) (he : e.wt ≤ 1048576) : FC Tryz.prog 37 [exD e] [.one (tmSS (tupR e)), bD (tupOk e)] := by
 have HI := l17Good_c e he true
 have HH := l16Formula_c e.form (by have := form_wt e; omega)
 unfold tupR tupOk
 cases h : specOk e true
 ·rw [h] at HI
  rw [Bool.false_and, if_neg (by simp)]
  show FC _ _ _ [.one (.sl 1 []), _]
  simp only [exD, exC_eq e, fmD, fmC_eq e.form] at HI HH ⊢
  refine FC_of Tryz.call37 Tryz.func37 rfl (by kernel_rfl) (by simp only [rd, List.map_cons, List.map_nil, List.length_cons, List.length_nil, Tryz.ntmps37]; omega) ?_
  simp -implicitDefEqProofs only [go_sem, Tryz.results37]
  refine callF (HI) (by simp -implicitDefEqProofs only [go_sem]) ?_
  simp -implicitDefEqProofs only [go_sem]
  refine buildDc (by simp -implicitDefEqProofs only [go_sem]) ?_
  simp -implicitDefEqProofs only [go_sem]
 ·rw [h] at HI
  rw [Bool.true_and]
  obtain ⟨hg, hn, -⟩ := specOk_node h
  have HP := l17Tuples_c e he true hn [] (by show 0 + e.wt ≤ _; omega)
  have hR : tupS e [] = pth e := by rw [tup_pth]; simp
  unfold tupP at HP
  rw [hR] at HP
  generalize pth e = R at HP ⊢
  cases hh : herF e.form
  ·rw [hh] at HH
   rw [if_neg (by simp)]
   show FC _ _ _ [.one (.sl 1 []), _]
   simp only [exD, exC_eq e, fmD, fmC_eq e.form] at HI HH ⊢
   refine FC_of Tryz.call37 Tryz.func37 rfl (by kernel_rfl) (by simp only [rd, List.map_cons, List.map_nil, List.length_cons, List.length_nil, Tryz.ntmps37]; omega) ?_
   simp -implicitDefEqProofs only [go_sem, Tryz.results37]
   refine callF (HI) (by simp -implicitDefEqProofs only [go_sem]) ?_
   simp -implicitDefEqProofs only [go_sem]
   refine callF (HH) (by simp -implicitDefEqProofs only [go_sem]) ?_
   simp -implicitDefEqProofs only [go_sem]
   refine buildDc (by simp -implicitDefEqProofs only [go_sem]) ?_
   simp -implicitDefEqProofs only [go_sem]
  ·rw [hh] at HH
   rw [if_pos rfl]
   simp only [exD, exC_eq e, fmD, fmC_eq e.form] at HI HH HP ⊢
   refine FC_ofN Tryz.call37 Tryz.func37 rfl (by kernel_rfl) (by simp only [rd, List.map_cons, List.map_nil, List.length_cons, List.length_nil, Tryz.ntmps37]; omega) ?_
   simp -implicitDefEqProofs only [go_sem, Tryz.results37]
   refine callF (HI) (by simp -implicitDefEqProofs only [go_sem]) ?_
   simp -implicitDefEqProofs only [go_sem]
   refine callF (HH) (by simp -implicitDefEqProofs only [go_sem]) ?_
   simp -implicitDefEqProofs only [go_sem]
   refine buildDc (by simp -implicitDefEqProofs only [go_sem]) ?_
   simp -implicitDefEqProofs only [go_sem]
   refine callGL [2, 3] [14, 15] [] (HP) (by simp -implicitDefEqProofs only [go_sem]) (by simp -implicitDefEqProofs only [go_sem]) (by simp -implicitDefEqProofs only [go_sem]) (by simp -implicitDefEqProofs only [go_sem]) ?_
   simp -implicitDefEqProofs only [go_sem]
end Go.Proofs.YtbccfiillleimaaGreat
