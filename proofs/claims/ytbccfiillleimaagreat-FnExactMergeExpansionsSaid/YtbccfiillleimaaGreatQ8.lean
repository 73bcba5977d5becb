/-
  The walk over plain data, and contracts of functions of the program and of its laws.
  Conditions: those that each theorem names.
-/
import Derived.Test.YtbccfiillleimaaGreatQ7
import Derived.Test.YtbccfiillleimaaGreatQ6
namespace Go.Proofs.YtbccfiillleimaaGreat
set_option linter.unusedSimpArgs false
set_option linter.unusedVariables false
set_option linter.unusedSectionVars false
set_option maxRecDepth 4000
open Go.RowKit
theorem mul_small {a b : Nat} (h : a + b ≤ 1048576) : a + (1 + a) * b ≤ 1099511627776 := by
 by_cases hb : b ≤ 524288
 ·have : (1 + a) * b ≤ 1048577 * 524288 := Nat.mul_le_mul (by omega) hb
  omega
 ·have : (1 + a) * b ≤ 524289 * 1048576 := Nat.mul_le_mul (by omega) (by omega)
  omega
theorem runL_at (l : List (Bool × (List Str → Bool × List Str))) (k : Nat) (h : k < l.length) (E : List Str) : runL (l.drop k) E = if l[k].1 = true then (if (l[k].2 E).1 = true then runL (l.drop (k + 1)) (l[k].2 E).2 else (false, (l[k].2 E).2)) else (false, E) := by
 rw [List.drop_eq_getElem_cons h]
 rfl
theorem getD_eq {α : Type} {xs : List α} {k : Nat} (h : k < xs.length) (d : α) : xs.getD k d = xs[k] := by rw [List.getD_eq_getElem?_getD, List.getElem?_eq_getElem h]; rfl
abbrev nodeP (p : Ex) (pos : Bool) (E : List Str) : Prop := PC Tryz.prog 146 [[(true, .sl 1 (E.map fun s => [.str s]))]] [.p 0, .d false (exD p), .d false (bD pos)] [[(true, .sl 1 ((nodeI p pos E).2.map fun s => [.str s]))]] [(true, bD (nodeI p pos E).1)]
theorem termsI_true {e : Ex} {pos : Bool} {E : List Str} (h : (termsI e pos E).1 = true) : e.parts.length = e.terms.length ∧ TOk e.terms := by
 unfold termsI at h
 split at h
 ·rename_i h0
  refine ⟨?_, dec_iff.1 h0⟩
  split at h
  ·split at h
   ·rename_i t ht
    split at h
    ·rw [ht]; exact of_decide_eq_true h
    ·cases h
   ·cases h
  ·exact of_decide_eq_true h
 ·cases h
theorem sbF_forms {n : Str} {t : Tm} {f : Fm} (h : (sbF n t f).2 = true) : (sbF n t f).1.forms = true := by
 unfold sbF at h ⊢
 split at h
 ·rename_i h0
  rw [if_pos h0]
  rw [Bool.and_eq_true] at h0
  exact gforms' h0.2
 ·cases h
set_option maxHeartbeats 4000000 in
theorem node_of (e : Ex) (he : e.wt ≤ 1048576) (hf : e.form.forms = true) (H : ∀ p ∈ e.parts, p.form.forms = true → ∀ pos E, E.length + p.nodes ≤ 4194304 → nodeP p pos E) (pos : Bool) (E : List Str) (hE : E.length + e.nodes ≤ 4194304) : nodeP e pos E := by
 have hv := nodeI_eq e pos E
 have hW := e.wt_eq
 have hTW : tmsW e.terms = e.terms.length + (e.terms.map Tm.wt).sum := rfl
 have hNe := e.nodes_eq
 have HQ := isQuantifier_c e.form.op
 unfold nodeP
 cases hq : isQ e.form.op
 ·rw [hq, if_neg (by simp)] at hv
  rw [hq] at HQ
  have hfl : e.form.parts.length ≤ 1048576 := by have := e.form.wt_eq; omega
  by_cases hc : e.terms.length = 0 ∧ e.parts.length = e.form.parts.length
  ·rw [if_pos hc] at hv
   obtain ⟨hc1, hc2⟩ := hc
   have hc3 : ((e.form.parts.length : Int) != (e.form.parts.length : Int)) = false := by simp
   have hps : ∀ x ∈ e.form.parts, x.forms = true := by
    rw [Fm.forms_eq, Bool.and_eq_true] at hf
    exact List.all_eq_true.1 hf.2
   simp only [exD, exC_eq]
   refine PC_of Tryz.call146 Tryz.func146 rfl (by kernel_rfl) (by simp only [List.length_cons, List.length_nil, Tryz.ntmps146]; omega) (by simp only [Tryz.ntmps146]; omega) rfl rfl (by simp [smallG, T.isPin, AF.ds, bxA]) (by simp [gFS, T.fs, T.flat, AF.ds, bxA]) rfl ?_
   simp -implicitDefEqProofs only [go_sem, Tryz.results146]
   refine callF (HQ) (by simp -implicitDefEqProofs only [go_sem, hc1, hc2, hc3]) ?_
   simp -implicitDefEqProofs only [go_sem, hc1, hc2, hc3]
   refine loop_rule (fun x : Nat × List Str => hd [(0, .one (.bx 1000000 0)), (1000000, .one (.bx 1000000 0)), (2, .one (.t (.bool pos))), (4, .one (.bx 4 0)), (7, .one (.bx 7 0)), (78, .one (.rn (exS e.parts))), (79, vI e.form.parts.length), (80, vI x.1)] [(1000000, [.ow 64 0]), (4, [.t (.int .i64 e.form.op), .t (.str e.form.atom.name), .rn (tmS e.form.atom.args), .t (.str e.form.var), .rn (fmS e.form.parts), .rn (tmS e.terms), .rn (exS e.parts)]), (7, [.t (.int .i64 e.form.op), .t (.str e.form.atom.name), .rn (tmS e.form.atom.args), .t (.str e.form.var), .rn (fmS e.form.parts)])] [(64, ⟨true, 1, x.2.map fun s => [.str s], 0, true⟩)]) (fun x => x.1 ≤ e.parts.length ∧ runL ((e.parts.mapIdx fun i p => (tstN e.form i p, nodeI p (sgn e.form i pos))).drop x.1) x.2 = nodeI e pos E ∧ x.2.length + dsum Ex.nodes e.parts x.1 ≤ E.length + e.nodes) (fun x => e.parts.length - x.1) (0, E) (weak_hd ?_) ⟨Nat.zero_le _, hv.symm, by rw [dsum_zero]; show E.length + _ ≤ _; omega⟩ ?_
   ·simp -implicitDefEqProofs only [go_sem]
   ·rintro ⟨k, E'⟩ ⟨hk, hr, hl⟩
    simp only at hk hr hl
    by_cases hlt : k < e.parts.length
    ·have hd := dsum_at Ex.nodes e.parts k hlt
     have hrk := runL_at (e.parts.mapIdx fun i p => (tstN e.form i p, nodeI p (sgn e.form i pos))) k (by simpa using hlt) E'
     rw [hr] at hrk
     simp only [List.getElem_mapIdx] at hrk
     have hkf : k < e.form.parts.length := by omega
     have htst : tstN e.form k e.parts[k] = same e.form.parts[k] e.parts[k].form := by
      unfold tstN
      rw [getD_eq hkf]
     rw [htst] at hrk
     have HSm := sameFormula_c e.form.parts[k] e.parts[k].form
     have HPo := polarity_c e.form k pos
     have hsg : (pos != (e.form.op == 4 || (e.form.op == 7 && ((k : Int) == 0)))) = sgn e.form k pos := rfl
     rw [hsg] at HPo
     simp only [fmD, fmC_eq e.form.parts[k], fmC_eq e.parts[k].form, fmC_eq e.form] at HSm HPo
     simp -implicitDefEqProofs only [go_sem, hkf, getD_at, hlt, exC_eq e.parts[k]]
     cases hsm : same e.form.parts[k] e.parts[k].form
     ·rw [hsm, if_neg (by simp)] at hrk
      rw [hsm] at HSm
      rw [hrk]
      refine drawn (by kernel_rfl) ?_
      simp -implicitDefEqProofs only [go_sem, hkf, getD_at, fmC_eq e.form.parts[k]]
      refine dCallF (HSm) (by simp -implicitDefEqProofs only [go_sem]) ?_
      simp -implicitDefEqProofs only [go_sem]
      kernel_rfl
     ·rw [hsm, if_pos rfl] at hrk
      rw [hsm] at HSm
      have hpf : e.parts[k].form.forms = true := by rw [← same_iff.1 hsm]; exact hps _ (List.getElem_mem hkf)
      have HC := H e.parts[k] (List.getElem_mem hlt) hpf (sgn e.form k pos) E' (by omega)
      have hnl := nodeI_len e.parts[k] (sgn e.form k pos) E'
      unfold nodeP at HC
      simp only [exD, exC_eq e.parts[k]] at HC
      generalize hN1 : (nodeI e.parts[k] (sgn e.form k pos) E').1 = b1 at HC hrk
      generalize hN2 : (nodeI e.parts[k] (sgn e.form k pos) E').2 = E2 at HC hrk hnl
      cases hb1 : b1
      ·rw [hb1, if_neg (by simp)] at hrk
       rw [hb1] at HC
       rw [hrk]
       refine drawn (by kernel_rfl) ?_
       simp -implicitDefEqProofs only [go_sem, hkf, getD_at, fmC_eq e.form.parts[k]]
       refine dCallF (HSm) (by simp -implicitDefEqProofs only [go_sem]) ?_
       simp -implicitDefEqProofs only [go_sem]
       refine gCallF (HPo) (by simp -implicitDefEqProofs only [go_sem]) ?_
       simp -implicitDefEqProofs only [go_sem]
       refine gCallT 1000000 (HC) rfl (by simp -implicitDefEqProofs only [go_sem, flR_strs]) (by simp -implicitDefEqProofs only [go_sem, flR_strs]) ?_
       simp -implicitDefEqProofs only [go_sem, flR_strs]
       kernel_rfl
      ·rw [hb1, if_pos rfl] at hrk
       rw [hb1] at HC
       refine drawn (by kernel_rfl) ?_
       simp -implicitDefEqProofs only [go_sem, hkf, getD_at, fmC_eq e.form.parts[k]]
       refine dCallF (HSm) (by simp -implicitDefEqProofs only [go_sem]) ?_
       simp -implicitDefEqProofs only [go_sem]
       refine gCallF (HPo) (by simp -implicitDefEqProofs only [go_sem]) ?_
       simp -implicitDefEqProofs only [go_sem]
       refine gCallT 1000000 (HC) rfl (by simp -implicitDefEqProofs only [go_sem, flR_strs]) (by simp -implicitDefEqProofs only [go_sem, flR_strs]) ?_
       simp -implicitDefEqProofs only [go_sem, flR_strs]
       refine ⟨by kernel_rfl, (k + 1, E2), ⟨hlt, hrk.symm, by simp only; omega⟩, by simp only; omega, weak_hd ?_⟩
       simp -implicitDefEqProofs only [go_sem]
       rw [wrap_s (by omega)]
    ·have hkf : ¬ k < e.form.parts.length := by omega
     simp -implicitDefEqProofs only [go_sem, hkf]
     rw [List.drop_of_length_le (by rw [List.length_mapIdx]; omega)] at hr
     exact Or.inl ⟨by rw [← hr]; rfl, Or.inl (by rw [← hr]; rfl)⟩
  ·rw [if_neg hc] at hv
   rw [hv]
   simp only [exD, exC_eq]
   by_cases hc1 : e.terms.length = 0
   ·have hc2 : ((e.parts.length : Int) != (e.form.parts.length : Int)) = true := by rw [bne_iff_ne]; omega
    refine PC_of Tryz.call146 Tryz.func146 rfl (by kernel_rfl) (by simp only [List.length_cons, List.length_nil, Tryz.ntmps146]; omega) (by simp only [Tryz.ntmps146]; omega) rfl rfl (by simp [smallG, T.isPin, AF.ds, bxA]) (by simp [gFS, T.fs, T.flat, AF.ds, bxA]) rfl ?_
    simp -implicitDefEqProofs only [go_sem, Tryz.results146]
    refine callF (HQ) (by simp -implicitDefEqProofs only [go_sem, hc1, hc2]) ?_
    simp -implicitDefEqProofs only [go_sem, hc1, hc2]
   ·have hc1' : (0 : Int) < (e.terms.length : Int) := by omega
    refine PC_of Tryz.call146 Tryz.func146 rfl (by kernel_rfl) (by simp only [List.length_cons, List.length_nil, Tryz.ntmps146]; omega) (by simp only [Tryz.ntmps146]; omega) rfl rfl (by simp [smallG, T.isPin, AF.ds, bxA]) (by simp [gFS, T.fs, T.flat, AF.ds, bxA]) rfl ?_
    simp -implicitDefEqProofs only [go_sem, Tryz.results146]
    refine callF (HQ) (by simp -implicitDefEqProofs only [go_sem, hc1']) ?_
    simp -implicitDefEqProofs only [go_sem, hc1']
 ·rw [hq, if_pos rfl] at hv
  rw [hq] at HQ
  obtain ⟨q, hp, hqf⟩ := q_parts hq hf
  have HT := terms_c e he pos E (by omega)
  have hTl := termsI_len e pos E
  cases ht : (termsI e pos E).1
  ·rw [ht, if_neg (by simp)] at hv
   rw [ht] at HT
   rw [hv]
   simp only [exD, exC_eq] at HT ⊢
   refine PC_of Tryz.call146 Tryz.func146 rfl (by kernel_rfl) (by simp only [List.length_cons, List.length_nil, Tryz.ntmps146]; omega) (by simp only [Tryz.ntmps146]; omega) rfl rfl (by simp [smallG, T.isPin, AF.ds, bxA]) (by simp [gFS, T.fs, T.flat, AF.ds, bxA]) rfl ?_
   simp -implicitDefEqProofs only [go_sem, Tryz.results146]
   refine callF (HQ) (by simp -implicitDefEqProofs only [go_sem]) ?_
   simp -implicitDefEqProofs only [go_sem]
   refine callT 1000000 (HT) rfl (by simp -implicitDefEqProofs only [go_sem, flR_strs, exC_eq e]) (by simp -implicitDefEqProofs only [go_sem, flR_strs, exC_eq e]) ?_
   simp -implicitDefEqProofs only [go_sem, flR_strs, exC_eq e]
  ·rw [ht, if_pos rfl] at hv
   rw [ht] at HT
   obtain ⟨hlen, _⟩ := termsI_true ht
   generalize hE1 : (termsI e pos E).2 = E1 at hv HT hTl
   simp only [exD, exC_eq] at HT ⊢
   refine PC_of Tryz.call146 Tryz.func146 rfl (by kernel_rfl) (by simp only [List.length_cons, List.length_nil, Tryz.ntmps146]; omega) (by simp only [Tryz.ntmps146]; omega) rfl rfl (by simp [smallG, T.isPin, AF.ds, bxA]) (by simp [gFS, T.fs, T.flat, AF.ds, bxA]) rfl ?_
   simp -implicitDefEqProofs only [go_sem, Tryz.results146]
   refine callF (HQ) (by simp -implicitDefEqProofs only [go_sem]) ?_
   simp -implicitDefEqProofs only [go_sem]
   refine callT 1000000 (HT) rfl (by simp -implicitDefEqProofs only [go_sem, flR_strs, exC_eq e]) (by simp -implicitDefEqProofs only [go_sem, flR_strs, exC_eq e]) ?_
   simp -implicitDefEqProofs only [go_sem, flR_strs, exC_eq e]
   refine loop_rule (fun x : Nat × List Str => hd [(0, .one (.bx 1000000 0)), (1000000, .one (.bx 1000000 0)), (2, .one (.t (.bool pos))), (4, .one (.bx 4 0)), (7, .one (.bx 7 0)), (25, .one (.rn (exS e.parts))), (26, vI e.parts.length), (27, vI x.1)] [(1000000, [.ow 64 0]), (4, [.t (.int .i64 e.form.op), .t (.str e.form.atom.name), .rn (tmS e.form.atom.args), .t (.str e.form.var), .rn (fmS e.form.parts), .rn (tmS e.terms), .rn (exS e.parts)]), (7, [.t (.int .i64 e.form.op), .t (.str e.form.atom.name), .rn (tmS e.form.atom.args), .t (.str e.form.var), .rn (fmS e.form.parts)])] [(64, ⟨true, 1, x.2.map fun s => [.str s], 0, true⟩)]) (fun x => x.1 ≤ e.parts.length ∧ runL ((e.parts.mapIdx fun i p => (tstQ e.form e.terms i p, nodeI p pos)).drop x.1) x.2 = nodeI e pos E ∧ x.2.length + dsum Ex.nodes e.parts x.1 ≤ E.length + e.nodes) (fun x => e.parts.length - x.1) (0, E1) (weak_hd ?_) ⟨Nat.zero_le _, hv.symm, by rw [dsum_zero]; show E1.length + _ ≤ _; omega⟩ ?_
   ·simp -implicitDefEqProofs only [go_sem]
   ·rintro ⟨k, E'⟩ ⟨hk, hr, hl⟩
    simp only at hk hr hl
    by_cases hlt : k < e.parts.length
    ·have hd := dsum_at Ex.nodes e.parts k hlt
     have hrk := runL_at (e.parts.mapIdx fun i p => (tstQ e.form e.terms i p, nodeI p pos)) k (by simpa using hlt) E'
     rw [hr] at hrk
     simp only [List.getElem_mapIdx] at hrk
     have hkt : k < e.terms.length := by omega
     have hform : e.parts[k].form.wt ≤ e.wt := Nat.le_trans (form_wt _) (eparts_wt (List.getElem_mem hlt))
     have htw : e.terms[k].wt + e.form.wt ≤ 1048576 := by have := mem_sum Tm.wt e.terms _ (List.getElem_mem hkt); omega
     have hqw : q.wt ≤ e.form.wt := fparts_wt (by rw [hp]; simp)
     have HSb := SubstituteFormula_c q e.form.var e.terms[k] (by omega) (by omega) (mul_small (by omega))
     have htst : tstQ e.form e.terms k e.parts[k] = ((sbF e.form.var e.terms[k] q).2 && same (sbF e.form.var e.terms[k] q).1 e.parts[k].form) := by
      unfold tstQ
      rw [getD_eq hkt, hp]; rfl
     rw [htst] at hrk
     have hsf : (sbF e.form.var e.terms[k] q).2 = true → (sbF e.form.var e.terms[k] q).1.forms = true := sbF_forms
     generalize (sbF e.form.var e.terms[k] q).1 = R at HSb hrk hsf
     generalize (sbF e.form.var e.terms[k] q).2 = ok at HSb hrk hsf
     have HSm := sameFormula_c R e.parts[k].form
     simp only [fmD, tmD, fmC_eq q, tmC_eq e.terms[k], fmC_eq R, fmC_eq e.parts[k].form] at HSb HSm
     have e0 : (List.map fmC e.form.parts).getD 0 [] = fmC q := by rw [hp]; rfl
     have hp0 : e.form.parts.length = 1 := by rw [hp]; rfl
     simp -implicitDefEqProofs only [go_sem, hlt, getD_at, exC_eq e.parts[k]]
     refine drawn (by kernel_rfl) ?_
     simp -implicitDefEqProofs only [go_sem, hp0, e0, fmC_eq q, getD_at, hkt, tmC_eq e.terms[k]]
     refine dCallF (HSb) (by simp -implicitDefEqProofs only [go_sem]) ?_
     simp -implicitDefEqProofs only [go_sem]
     refine ⟨by kernel_rfl, ?_⟩
     cases hok : ok
     ·rw [hok, Bool.false_and, if_neg (by simp)] at hrk
      rw [hrk]
      simp -implicitDefEqProofs only [go_sem, hok]
     ·rw [hok, Bool.true_and] at hrk
      cases hsm : same R e.parts[k].form
      ·rw [hsm, if_neg (by simp)] at hrk
       rw [hsm] at HSm
       rw [hrk]
       simp -implicitDefEqProofs only [go_sem, hok]
       refine callF (HSm) (by simp -implicitDefEqProofs only [go_sem]) ?_
       simp -implicitDefEqProofs only [go_sem]
      ·rw [hsm, if_pos rfl] at hrk
       rw [hsm] at HSm
       have hpf : e.parts[k].form.forms = true := by rw [← same_iff.1 hsm]; exact hsf hok
       have HC := H e.parts[k] (List.getElem_mem hlt) hpf pos E' (by omega)
       have hnl := nodeI_len e.parts[k] pos E'
       unfold nodeP at HC
       simp only [exD, exC_eq e.parts[k]] at HC
       generalize hN1 : (nodeI e.parts[k] pos E').1 = b1 at HC hrk
       generalize hN2 : (nodeI e.parts[k] pos E').2 = E2 at HC hrk hnl
       cases hb1 : b1
       ·rw [hb1, if_neg (by simp)] at hrk
        rw [hb1] at HC
        rw [hrk]
        simp -implicitDefEqProofs only [go_sem, hok]
        refine callF (HSm) (by simp -implicitDefEqProofs only [go_sem]) ?_
        simp -implicitDefEqProofs only [go_sem]
        refine callT 1000000 (HC) rfl (by simp -implicitDefEqProofs only [go_sem, flR_strs]) (by simp -implicitDefEqProofs only [go_sem, flR_strs]) ?_
        simp -implicitDefEqProofs only [go_sem, flR_strs]
       ·rw [hb1, if_pos rfl] at hrk
        rw [hb1] at HC
        simp -implicitDefEqProofs only [go_sem, hok]
        refine callF (HSm) (by simp -implicitDefEqProofs only [go_sem]) ?_
        simp -implicitDefEqProofs only [go_sem]
        refine callT 1000000 (HC) rfl (by simp -implicitDefEqProofs only [go_sem, flR_strs]) (by simp -implicitDefEqProofs only [go_sem, flR_strs]) ?_
        simp -implicitDefEqProofs only [go_sem, flR_strs]
        refine ⟨(k + 1, E2), ⟨hlt, hrk.symm, by simp only; omega⟩, by simp only; omega, weak_hd ?_⟩
        simp -implicitDefEqProofs only [go_sem]
        rw [wrap_s (by omega)]
        trace_state
    ·simp -implicitDefEqProofs only [go_sem, hlt]
     rw [List.drop_of_length_le (by rw [List.length_mapIdx]; omega)] at hr
     exact Or.inl ⟨by rw [← hr]; rfl, Or.inl (by rw [← hr]; rfl)⟩
theorem node_c : ∀ e : Ex, e.wt ≤ 1048576 → e.form.forms = true → ∀ pos E, E.length + e.nodes ≤ 4194304 → nodeP e pos E :=
 ex_ind fun f ts ps ih he hf pos E hE => node_of (.mk f ts ps) he hf (fun p hp hpf pos E hE => ih p hp (Nat.le_trans (eparts_wt (a := .mk f ts ps) hp) he) hpf pos E hE) pos E hE
end Go.Proofs.YtbccfiillleimaaGreat
namespace Go.Proofs.YtbccfiillleimaaGreat
set_option linter.unusedSimpArgs false
set_option linter.unusedVariables false
set_option linter.unusedSectionVars false
set_option maxRecDepth 4000
open Go.RowKit
theorem put_forms (n : Str) (t : Tm) : ∀ f : Fm, f.forms = true → (putF n t f).2 = true → (putF n t f).1.forms = true := fm_ind fun o a v ps ih hf h => by
 have hP := putF_eq n t (.mk o a v ps)
 have hf0 := hf
 rw [Fm.forms_eq, Bool.and_eq_true] at hf0
 obtain ⟨hh, hps⟩ := hf0
 have hps : ∀ x ∈ ps, x.forms = true := List.all_eq_true.1 hps
 cases h3 : o == 3
 ·have ha : a = .mk [] [] := here_none hh h3
  rw [hP] at h ⊢
  change (if (o == 3) = true then _ else if (isQ o && _) = true then _ else if (isQ o && _) = true then _ else (Fm.mk o (.mk [] []) v ((ps.takeWhile fun x => (putF n t x).2).map fun x => (putF n t x).1), ps.all fun x => (putF n t x).2) : Fm × Bool).2 = true at h
  change (if (o == 3) = true then _ else if (isQ o && _) = true then _ else if (isQ o && _) = true then _ else (Fm.mk o (.mk [] []) v ((ps.takeWhile fun x => (putF n t x).2).map fun x => (putF n t x).1), ps.all fun x => (putF n t x).2) : Fm × Bool).1.forms = true
  rw [h3, if_neg (by simp)] at h ⊢
  split
  ·exact hf
  ·rename_i h1
   rw [if_neg h1] at h
   split
   ·rename_i h2
    rw [if_pos h2] at h; cases h
   ·rename_i h2
    rw [if_neg h2] at h
    have h1 : (ps.all fun x => (putF n t x).2) = true := h
    have hA := List.all_eq_true.1 h1
    have hw : (ps.takeWhile fun x => (putF n t x).2) = ps := by
     have := (takeW_at (l := ps) (p := fun x => (putF n t x).2) (k := ps.length) (Nat.le_refl _) (by rw [List.take_length]; exact hA) fun h => absurd h (Nat.lt_irrefl _)).1
     rw [this, List.take_length]
    rw [hw, ← ha]
    show (Fm.mk o a v (ps.map fun x => (putF n t x).1)).forms = true
    rw [forms_mk, Bool.and_eq_true]
    refine ⟨here_same (f := .mk o a v ps) hh h3 (by show (ps.map _).length = ps.length; rw [List.length_map]), List.all_eq_true.2 fun y hy => ?_⟩
    obtain ⟨x, hx, rfl⟩ := List.mem_map.1 hy
    exact ih x hx (hps x hx) (hA x hx)
 ·have ho3 : o = 3 := by simpa using h3
  rw [hP] at h ⊢
  change (if (o == 3) = true then (Fm.mk o (putT (bnd n t) a) v [], (putT (bnd n t) a).atomOk) else _ : Fm × Bool).2 = true at h
  change (if (o == 3) = true then (Fm.mk o (putT (bnd n t) a) v [], (putT (bnd n t) a).atomOk) else _ : Fm × Bool).1.forms = true
  rw [h3, if_pos rfl] at h ⊢
  have h9 : (putT (bnd n t) a).atomOk = true := h
  show (Fm.mk o (putT (bnd n t) a) v []).forms = true
  rw [forms_mk, Bool.and_eq_true]
  refine ⟨?_, rfl⟩
  subst ho3
  unfold Fm.here at hh ⊢
  change (decide (ps.length = 0) && a.atomOk && (v == [])) = true at hh
  change (decide (([] : List Fm).length = 0) && (putT (bnd n t) a).atomOk && (v == [])) = true
  simp only [Bool.and_eq_true] at hh
  rw [h9, hh.2]; rfl
noncomputable def tstS (f : Fm) (ts : List Tm) (i : Nat) (p : Ex) : Bool := (ts.getD i Tm.zero).good && !((ts.take i).any fun a => same a (ts.getD i Tm.zero)) && (putF f.var (ts.getD i Tm.zero) (f.parts.getD 0 (mkF 0 []))).2 && same p.form (putF f.var (ts.getD i Tm.zero) (f.parts.getD 0 (mkF 0 []))).1
def strongE (f : Fm) (pos : Bool) : Bool := isQ f.op && ((f.op == 8) == pos)
noncomputable def nodeS : Ex → Bool → Bool := Ex.fold fun f ts ps rs pos =>
 if isQ f.op = true then decide (ts.length = ps.length) && (!strongE f pos || (decide (ts.length = 1) && varOk (ts.getD 0 Tm.zero).name)) && ((ps.zip rs).mapIdx fun i q => (tstS f ts i q.1 && q.2 pos)).all id
 else decide (ts.length = 0) && decide (ps.length = f.parts.length) && ((ps.zip rs).mapIdx fun i q => (same q.1.form (f.parts.getD i (mkF 0 [])) && q.2 (sgn f i pos))).all id
theorem nodeS_eq (e : Ex) (pos : Bool) : nodeS e pos = if isQ e.form.op = true then decide (e.terms.length = e.parts.length) && (!strongE e.form pos || (decide (e.terms.length = 1) && varOk (e.terms.getD 0 Tm.zero).name)) && (e.parts.mapIdx fun i p => (tstS e.form e.terms i p && nodeS p pos)).all id
 else decide (e.terms.length = 0) && decide (e.parts.length = e.form.parts.length) && (e.parts.mapIdx fun i p => (same p.form (e.form.parts.getD i (mkF 0 [])) && nodeS p (sgn e.form i pos))).all id := by
 cases e with
 | mk f ts ps =>
  conv => lhs; unfold nodeS; rw [Ex.fold_eq]
  simp only [zip_map]
  rfl
theorem all_no {L : List Bool} {k : Nat} (h : k < L.length) (hf : L[k] = false) : L.all id = false := by
 rw [List.all_eq_false]; exact ⟨_, List.getElem_mem h, by simp [hf]⟩
theorem all_yes {L : List Bool} (h : ∀ k (h : k < L.length), L[k] = true) : L.all id = true := by
 rw [List.all_eq_true]; intro x hx; obtain ⟨k, hk, rfl⟩ := List.getElem_of_mem hx; exact h k hk
theorem all_step {L : List Bool} {k : Nat} (hT : ∀ j, j < k → ∀ h : j < L.length, L[j] = true) {hk : k < L.length} (h1 : L[k] = true) : ∀ j, j < k + 1 → ∀ h : j < L.length, L[j] = true := fun j hj h => by
 by_cases e : j = k
 ·subst e; exact h1
 ·exact hT j (by omega) h
end Go.Proofs.YtbccfiillleimaaGreat
namespace Go.Proofs.YtbccfiillleimaaGreat
set_option linter.unusedSimpArgs false
set_option linter.unusedVariables false
set_option linter.unusedSectionVars false
set_option maxRecDepth 4000
open Go.RowKit
abbrev nodeSP (p : Ex) (pos : Bool) : Prop := FC Tryz.prog 137 [exD p, bD pos] [bD (nodeS p pos)]
set_option maxHeartbeats 4000000 in
theorem l17Node_of (e : Ex) (he : e.wt ≤ 1048576) (hf : e.form.forms = true) (H : ∀ p ∈ e.parts, p.form.forms = true → ∀ pos, nodeSP p pos) (pos : Bool) : nodeSP e pos := by
 have hv := nodeS_eq e pos
 have hW := e.wt_eq
 have hTW : tmsW e.terms = e.terms.length + (e.terms.map Tm.wt).sum := rfl
 have HQ := l17Quantifier_c e.form
 have hfl : e.form.parts.length ≤ 1048576 := by have := e.form.wt_eq; omega
 unfold nodeSP
 cases hq : isQ e.form.op
 ·rw [hq, if_neg (by simp)] at hv
  rw [hq] at HQ
  by_cases hc1 : e.terms.length = 0
  ·by_cases hc2 : e.parts.length = e.form.parts.length
   ·rw [show decide (e.terms.length = 0) = true by simp [hc1], show decide (e.parts.length = e.form.parts.length) = true by simp [hc2], Bool.true_and, Bool.true_and] at hv
    have hc3 : ((e.form.parts.length : Int) != (e.form.parts.length : Int)) = false := by simp
    have hps : ∀ x ∈ e.form.parts, x.forms = true := by
     rw [Fm.forms_eq, Bool.and_eq_true] at hf
     exact List.all_eq_true.1 hf.2
    generalize hL : (e.parts.mapIdx fun i p => (same p.form (e.form.parts.getD i (mkF 0 [])) && nodeS p (sgn e.form i pos))) = L at hv
    have hLl : L.length = e.parts.length := by rw [← hL, List.length_mapIdx]
    simp only [exD, exC_eq, fmD, fmC_eq e.form] at HQ ⊢
    refine FC_of Tryz.call137 Tryz.func137 rfl (by kernel_rfl) (by simp only [rd, List.map_cons, List.map_nil, List.length_cons, List.length_nil, Tryz.ntmps137]; omega) ?_
    simp -implicitDefEqProofs only [go_sem, Tryz.results137]
    refine callF (HQ) (by simp -implicitDefEqProofs only [go_sem, hc1, hc2, hc3]) ?_
    simp -implicitDefEqProofs only [go_sem, hc1, hc2, hc3]
    refine loop_rule (fun k : Nat => hd [(1, vT (.bool pos)), (2, .one (.bx 2 0)), (5, .one (.bx 5 0)), (6, vI k)] [(2, [.t (.int .i64 e.form.op), .t (.str e.form.atom.name), .t (tmS e.form.atom.args), .t (.str e.form.var), .t (fmS e.form.parts), .t (tmS e.terms), .t (exS e.parts)]), (5, [.t (.int .i64 e.form.op), .t (.str e.form.atom.name), .t (tmS e.form.atom.args), .t (.str e.form.var), .t (fmS e.form.parts)])] []) (fun k => k ≤ e.parts.length ∧ ∀ j, j < k → ∀ h : j < L.length, L[j] = true) (fun k => e.parts.length - k) 0 (weak_hd ?_) ⟨Nat.zero_le _, fun j hj => by omega⟩ ?_
    ·simp -implicitDefEqProofs only [go_sem]
    ·rintro k ⟨hk, hT⟩
     by_cases hlt : k < e.parts.length
     ·have hkf : k < e.form.parts.length := by omega
      have hkL : k < L.length := by omega
      have hLk : L[k] = (same e.parts[k].form e.form.parts[k] && nodeS e.parts[k] (sgn e.form k pos)) := by
       simp only [← hL, List.getElem_mapIdx]
       rw [getD_eq hkf]
      have HSm := l8Same_c e.parts[k].form e.form.parts[k]
      have HPo := l17Sign_c e.form k pos
      have hsg : (pos != (e.form.op == 4 || (e.form.op == 7 && ((k : Int) == 0)))) = sgn e.form k pos := rfl
      rw [hsg] at HPo
      simp only [fmD, fmC_eq e.form.parts[k], fmC_eq e.parts[k].form, fmC_eq e.form] at HSm HPo
      cases hsm : same e.parts[k].form e.form.parts[k]
      ·rw [hsm, Bool.false_and] at hLk
       rw [hsm] at HSm
       rw [hv, all_no hkL hLk]
       simp -implicitDefEqProofs only [go_sem, hc2, hkf]
       refine drawn (by kernel_rfl) ?_
       simp -implicitDefEqProofs only [go_sem, hlt, hkf, getD_at, fmC_eq e.form.parts[k], exC_eq e.parts[k]]
       refine dCallF (HSm) (by simp -implicitDefEqProofs only [go_sem]) ?_
       simp -implicitDefEqProofs only [go_sem]
       kernel_rfl
      ·rw [hsm, Bool.true_and] at hLk
       rw [hsm] at HSm
       have hpf : e.parts[k].form.forms = true := by rw [same_iff.1 hsm]; exact hps _ (List.getElem_mem hkf)
       have HC := H e.parts[k] (List.getElem_mem hlt) hpf (sgn e.form k pos)
       unfold nodeSP at HC
       simp only [exD, exC_eq e.parts[k]] at HC
       cases hb : nodeS e.parts[k] (sgn e.form k pos)
       ·rw [hb] at hLk HC
        rw [hv, all_no hkL hLk]
        simp -implicitDefEqProofs only [go_sem, hc2, hkf]
        refine drawn (by kernel_rfl) ?_
        simp -implicitDefEqProofs only [go_sem, hlt, hkf, getD_at, fmC_eq e.form.parts[k], exC_eq e.parts[k]]
        refine dCallF (HSm) (by simp -implicitDefEqProofs only [go_sem, hlt, hkf, hc2, getD_at, exC_eq e.parts[k]]) ?_
        simp -implicitDefEqProofs only [go_sem, hlt, hkf, hc2, getD_at, exC_eq e.parts[k]]
        refine gCallF (HPo) (by simp -implicitDefEqProofs only [go_sem]) ?_
        simp -implicitDefEqProofs only [go_sem]
        refine gCallF (HC) (by simp -implicitDefEqProofs only [go_sem]) ?_
        simp -implicitDefEqProofs only [go_sem]
        kernel_rfl
       ·rw [hb] at hLk HC
        simp -implicitDefEqProofs only [go_sem, hc2, hkf]
        refine drawn (by kernel_rfl) ?_
        simp -implicitDefEqProofs only [go_sem, hlt, hkf, getD_at, fmC_eq e.form.parts[k], exC_eq e.parts[k]]
        refine dCallF (HSm) (by simp -implicitDefEqProofs only [go_sem, hlt, hkf, hc2, getD_at, exC_eq e.parts[k]]) ?_
        simp -implicitDefEqProofs only [go_sem, hlt, hkf, hc2, getD_at, exC_eq e.parts[k]]
        refine gCallF (HPo) (by simp -implicitDefEqProofs only [go_sem]) ?_
        simp -implicitDefEqProofs only [go_sem]
        refine gCallF (HC) (by simp -implicitDefEqProofs only [go_sem]) ?_
        simp -implicitDefEqProofs only [go_sem]
        refine ⟨by kernel_rfl, k + 1, ⟨by omega, all_step hT hLk⟩, by omega, weak_hd ?_⟩
        simp -implicitDefEqProofs only [go_sem]
        rw [wrap_s (by omega)]
     ·have hkf : ¬ k < e.form.parts.length := by omega
      rw [hv, all_yes fun j hj => hT j (by omega) hj]
      simp -implicitDefEqProofs only [go_sem, hc2, hkf]
   ·rw [show decide (e.parts.length = e.form.parts.length) = false by simp [hc2], Bool.and_false, Bool.false_and] at hv
    rw [hv]
    have hc3 : ((e.parts.length : Int) != (e.form.parts.length : Int)) = true := by rw [bne_iff_ne]; omega
    simp only [exD, exC_eq, fmD, fmC_eq e.form] at HQ ⊢
    refine FC_of Tryz.call137 Tryz.func137 rfl (by kernel_rfl) (by simp only [rd, List.map_cons, List.map_nil, List.length_cons, List.length_nil, Tryz.ntmps137]; omega) ?_
    simp -implicitDefEqProofs only [go_sem, Tryz.results137]
    refine callF (HQ) (by simp -implicitDefEqProofs only [go_sem, hc1, hc3]) ?_
    simp -implicitDefEqProofs only [go_sem, hc1, hc3]
  ·rw [show decide (e.terms.length = 0) = false by simp [hc1], Bool.false_and, Bool.false_and] at hv
   rw [hv]
   have hc1' : (0 : Int) < (e.terms.length : Int) := by omega
   simp only [exD, exC_eq, fmD, fmC_eq e.form] at HQ ⊢
   refine FC_of Tryz.call137 Tryz.func137 rfl (by kernel_rfl) (by simp only [rd, List.map_cons, List.map_nil, List.length_cons, List.length_nil, Tryz.ntmps137]; omega) ?_
   simp -implicitDefEqProofs only [go_sem, Tryz.results137]
   refine callF (HQ) (by simp -implicitDefEqProofs only [go_sem, hc1']) ?_
   simp -implicitDefEqProofs only [go_sem, hc1']
 ·rw [hq, if_pos rfl] at hv
  rw [hq] at HQ
  obtain ⟨q, hp, hqf⟩ := q_parts hq hf
  have HSt := l17Strong_c e.form pos
  have hse : strongE e.form pos = ((e.form.op == 8) == pos) := by unfold strongE; rw [hq, Bool.true_and]
  rw [hq, Bool.true_and, ← hse] at HSt
  by_cases hlen : e.terms.length = e.parts.length
  ·rw [show decide (e.terms.length = e.parts.length) = true by simp [hlen], Bool.true_and] at hv
   have hne : ((e.terms.length : Int) != (e.parts.length : Int)) = false := by rw [hlen]; simp
   generalize hL : (e.parts.mapIdx fun i p => (tstS e.form e.terms i p && nodeS p pos)) = L at hv
   have hLl : L.length = e.parts.length := by rw [← hL, List.length_mapIdx]
   simp only [exD, exC_eq, fmD, fmC_eq e.form] at HQ HSt ⊢
   cases hst : strongE e.form pos
   ·rw [hst] at hv HSt
    simp only [Bool.not_false, Bool.true_or, Bool.true_and] at hv
    refine FC_of Tryz.call137 Tryz.func137 rfl (by kernel_rfl) (by simp only [rd, List.map_cons, List.map_nil, List.length_cons, List.length_nil, Tryz.ntmps137]; omega) ?_
    simp -implicitDefEqProofs only [go_sem, Tryz.results137]
    refine callF (HQ) (by simp -implicitDefEqProofs only [go_sem, hne]) ?_
    simp -implicitDefEqProofs only [go_sem, hne]
    refine callF (HSt) (by simp -implicitDefEqProofs only [go_sem]) ?_
    simp -implicitDefEqProofs only [go_sem]
    refine loop_rule (fun k : Nat => hd [(1, vT (.bool pos)), (2, .one (.bx 2 0)), (5, .one (.bx 5 0)), (7, vI k)] [(2, [.t (.int .i64 e.form.op), .t (.str e.form.atom.name), .t (tmS e.form.atom.args), .t (.str e.form.var), .t (fmS e.form.parts), .t (tmS e.terms), .t (exS e.parts)]), (5, [.t (.int .i64 e.form.op), .t (.str e.form.atom.name), .t (tmS e.form.atom.args), .t (.str e.form.var), .t (fmS e.form.parts)])] []) (fun k => k ≤ e.parts.length ∧ ∀ j, j < k → ∀ h : j < L.length, L[j] = true) (fun k => e.parts.length - k) 0 (weak_hd ?_) ⟨Nat.zero_le _, fun j hj => by omega⟩ ?_
    ·simp -implicitDefEqProofs only [go_sem]
    ·rintro k ⟨hk, hT⟩
     by_cases hlt : k < e.parts.length
     ·have hkt : k < e.terms.length := by omega
      have hkL : k < L.length := by omega
      have htw : e.terms[k].wt + e.form.wt ≤ 1048576 := by have := mem_sum Tm.wt e.terms _ (List.getElem_mem hkt); omega
      have hqw : q.wt ≤ e.form.wt := fparts_wt (by rw [hp]; simp)
      have htk : tstS e.form e.terms k e.parts[k] = (e.terms[k].good && !((e.terms.take k).any fun a => same a e.terms[k]) && (putF e.form.var e.terms[k] q).2 && same e.parts[k].form (putF e.form.var e.terms[k] q).1) := by
       unfold tstS
       rw [getD_eq hkt, hp]
       rfl
      have hLk : L[k] = (e.terms[k].good && !((e.terms.take k).any fun a => same a e.terms[k]) && (putF e.form.var e.terms[k] q).2 && same e.parts[k].form (putF e.form.var e.terms[k] q).1 && nodeS e.parts[k] pos) := by
       simp only [← hL, List.getElem_mapIdx]
       rw [htk]
      have HV := l2Good_c e.terms[k] (by omega)
      have HI := l16Index_c (e.terms.take k) e.terms[k]
      have hi2 := idxP_ge (e.terms.take k) fun a => same a e.terms[k]
      have HPt := l8Put_c e.form.var e.terms[k] (by omega) q hqf (by omega) (mul_small (by omega))
      have hpff := put_forms e.form.var e.terms[k] q hqf
      generalize (putF e.form.var e.terms[k] q).1 = R at HPt hLk hpff
      generalize (putF e.form.var e.terms[k] q).2 = ok at HPt hLk hpff
      have HSm := l8Same_c e.parts[k].form R
      have eT : tmS (e.terms.take k) = .sl 2 ((e.terms.map tmC).take k) := by unfold tmS; rw [List.map_take]
      rw [eT] at HI
      have e0 : (List.map fmC e.form.parts).getD 0 [] = fmC q := by rw [hp]; rfl
      have hp0 : e.form.parts.length = 1 := by rw [hp]; rfl
      simp only [tmD, fmD, tmC_eq e.terms[k], fmC_eq q, fmC_eq R, fmC_eq e.parts[k].form] at HV HI HPt HSm
      cases hg : e.terms[k].good
      ·rw [hg] at hLk HV
       simp only [Bool.false_and] at hLk
       rw [hv, all_no hkL hLk]
       simp -implicitDefEqProofs only [go_sem, hkt]
       refine drawn (by kernel_rfl) ?_
       simp -implicitDefEqProofs only [go_sem, hkt, getD_at, tmC_eq e.terms[k]]
       refine dCallF (HV) (by simp -implicitDefEqProofs only [go_sem]) ?_
       simp -implicitDefEqProofs only [go_sem]
       kernel_rfl
      ·rw [hg] at HV
       cases hi : (e.terms.take k).any fun a => same a e.terms[k]
       ·rw [hi] at hi2
        cases hok : ok
        ·rw [hg, hi, hok] at hLk
         simp only [Bool.and_false, Bool.false_and] at hLk
         rw [hv, all_no hkL hLk]
         rw [hok] at HPt
         simp -implicitDefEqProofs only [go_sem, hkt]
         refine drawn (by kernel_rfl) ?_
         simp -implicitDefEqProofs only [go_sem, hkt, getD_at, tmC_eq e.terms[k]]
         refine dCallF (HV) (by simp -implicitDefEqProofs only [go_sem, hkt, getD_at, tmC_eq e.terms[k]]) ?_
         simp -implicitDefEqProofs only [go_sem, hkt, getD_at, tmC_eq e.terms[k]]
         refine ⟨by omega, ?_⟩
         refine gCallF (HI) (by simp -implicitDefEqProofs only [go_sem, hi2]) ?_
         simp -implicitDefEqProofs only [go_sem, hi2]
         refine ⟨by kernel_rfl, ?_⟩
         refine drawn (by kernel_rfl) ?_
         simp -implicitDefEqProofs only [go_sem, hp0, e0, fmC_eq q, hkt, getD_at, tmC_eq e.terms[k]]
         refine dCallF (HPt) (by simp -implicitDefEqProofs only [go_sem]) ?_
         simp -implicitDefEqProofs only [go_sem]
         refine ⟨by kernel_rfl, ?_⟩
         refine drawn (by kernel_rfl) ?_
         simp -implicitDefEqProofs only [go_sem]
         kernel_rfl
        ·rw [hok] at HPt
         cases hsm : same e.parts[k].form R
         ·rw [hg, hi, hok, hsm] at hLk
          simp only [Bool.and_false, Bool.false_and] at hLk
          rw [hv, all_no hkL hLk]
          rw [hsm] at HSm
          simp -implicitDefEqProofs only [go_sem, hkt]
          refine drawn (by kernel_rfl) ?_
          simp -implicitDefEqProofs only [go_sem, hkt, getD_at, tmC_eq e.terms[k]]
          refine dCallF (HV) (by simp -implicitDefEqProofs only [go_sem, hkt, getD_at, tmC_eq e.terms[k]]) ?_
          simp -implicitDefEqProofs only [go_sem, hkt, getD_at, tmC_eq e.terms[k]]
          refine ⟨by omega, ?_⟩
          refine gCallF (HI) (by simp -implicitDefEqProofs only [go_sem, hi2]) ?_
          simp -implicitDefEqProofs only [go_sem, hi2]
          refine ⟨by kernel_rfl, ?_⟩
          refine drawn (by kernel_rfl) ?_
          simp -implicitDefEqProofs only [go_sem, hp0, e0, fmC_eq q, hkt, getD_at, tmC_eq e.terms[k]]
          refine dCallF (HPt) (by simp -implicitDefEqProofs only [go_sem]) ?_
          simp -implicitDefEqProofs only [go_sem]
          refine ⟨by kernel_rfl, ?_⟩
          refine drawn (by kernel_rfl) ?_
          simp -implicitDefEqProofs only [go_sem, hlt, getD_at, exC_eq e.parts[k]]
          refine gCallF (HSm) (by simp -implicitDefEqProofs only [go_sem]) ?_
          simp -implicitDefEqProofs only [go_sem]
          kernel_rfl
         ·have hpf : e.parts[k].form.forms = true := by rw [same_iff.1 hsm]; exact hpff hok
          have HC := H e.parts[k] (List.getElem_mem hlt) hpf pos
          unfold nodeSP at HC
          simp only [exD, exC_eq e.parts[k]] at HC
          rw [hg, hi, hok, hsm] at hLk
          simp only [Bool.not_false, Bool.and_true, Bool.true_and] at hLk
          rw [hsm] at HSm
          cases hb : nodeS e.parts[k] pos
          ·rw [hb] at hLk HC
           rw [hv, all_no hkL hLk]
           simp -implicitDefEqProofs only [go_sem, hkt]
           refine drawn (by kernel_rfl) ?_
           simp -implicitDefEqProofs only [go_sem, hkt, getD_at, tmC_eq e.terms[k]]
           refine dCallF (HV) (by simp -implicitDefEqProofs only [go_sem, hkt, getD_at, tmC_eq e.terms[k]]) ?_
           simp -implicitDefEqProofs only [go_sem, hkt, getD_at, tmC_eq e.terms[k]]
           refine ⟨by omega, ?_⟩
           refine gCallF (HI) (by simp -implicitDefEqProofs only [go_sem, hi2]) ?_
           simp -implicitDefEqProofs only [go_sem, hi2]
           refine ⟨by kernel_rfl, ?_⟩
           refine drawn (by kernel_rfl) ?_
           simp -implicitDefEqProofs only [go_sem, hp0, e0, fmC_eq q, hkt, getD_at, tmC_eq e.terms[k]]
           refine dCallF (HPt) (by simp -implicitDefEqProofs only [go_sem]) ?_
           simp -implicitDefEqProofs only [go_sem]
           refine ⟨by kernel_rfl, ?_⟩
           refine drawn (by kernel_rfl) ?_
           simp -implicitDefEqProofs only [go_sem, hlt, getD_at, exC_eq e.parts[k]]
           refine gCallF (HSm) (by simp -implicitDefEqProofs only [go_sem, hlt, getD_at, exC_eq e.parts[k]]) ?_
           simp -implicitDefEqProofs only [go_sem, hlt, getD_at, exC_eq e.parts[k]]
           refine gCallF (HC) (by simp -implicitDefEqProofs only [go_sem]) ?_
           simp -implicitDefEqProofs only [go_sem]
           kernel_rfl
          ·rw [hb] at hLk HC
           simp -implicitDefEqProofs only [go_sem, hkt]
           refine drawn (by kernel_rfl) ?_
           simp -implicitDefEqProofs only [go_sem, hkt, getD_at, tmC_eq e.terms[k]]
           refine dCallF (HV) (by simp -implicitDefEqProofs only [go_sem, hkt, getD_at, tmC_eq e.terms[k]]) ?_
           simp -implicitDefEqProofs only [go_sem, hkt, getD_at, tmC_eq e.terms[k]]
           refine ⟨by omega, ?_⟩
           refine gCallF (HI) (by simp -implicitDefEqProofs only [go_sem, hi2]) ?_
           simp -implicitDefEqProofs only [go_sem, hi2]
           refine ⟨by kernel_rfl, ?_⟩
           refine drawn (by kernel_rfl) ?_
           simp -implicitDefEqProofs only [go_sem, hp0, e0, fmC_eq q, hkt, getD_at, tmC_eq e.terms[k]]
           refine dCallF (HPt) (by simp -implicitDefEqProofs only [go_sem]) ?_
           simp -implicitDefEqProofs only [go_sem]
           refine ⟨by kernel_rfl, ?_⟩
           refine drawn (by kernel_rfl) ?_
           simp -implicitDefEqProofs only [go_sem, hlt, getD_at, exC_eq e.parts[k]]
           refine gCallF (HSm) (by simp -implicitDefEqProofs only [go_sem, hlt, getD_at, exC_eq e.parts[k]]) ?_
           simp -implicitDefEqProofs only [go_sem, hlt, getD_at, exC_eq e.parts[k]]
           refine gCallF (HC) (by simp -implicitDefEqProofs only [go_sem]) ?_
           simp -implicitDefEqProofs only [go_sem]
           refine ⟨by kernel_rfl, k + 1, ⟨by omega, all_step hT hLk⟩, by omega, weak_hd ?_⟩
           simp -implicitDefEqProofs only [go_sem]
           rw [wrap_s (by omega)]
       ·rw [hg, hi] at hLk
        rw [hi] at hi2
        simp only [Bool.not_true, Bool.and_false, Bool.false_and] at hLk
        rw [hv, all_no hkL hLk]
        simp -implicitDefEqProofs only [go_sem, hkt]
        refine drawn (by kernel_rfl) ?_
        simp -implicitDefEqProofs only [go_sem, hkt, getD_at, tmC_eq e.terms[k]]
        refine dCallF (HV) (by simp -implicitDefEqProofs only [go_sem, hkt, getD_at, tmC_eq e.terms[k]]) ?_
        simp -implicitDefEqProofs only [go_sem, hkt, getD_at, tmC_eq e.terms[k]]
        refine ⟨by omega, ?_⟩
        refine gCallF (HI) (by simp -implicitDefEqProofs only [go_sem, hi2]) ?_
        simp -implicitDefEqProofs only [go_sem, hi2]
        kernel_rfl
     ·have hkt : ¬ k < e.terms.length := by omega
      rw [hv, all_yes fun j hj => hT j (by omega) hj]
      simp -implicitDefEqProofs only [go_sem, hkt]
   ·rw [hst] at hv HSt
    simp only [Bool.not_true, Bool.false_or] at hv
    by_cases h1 : e.terms.length = 1
    ·obtain ⟨t, ht⟩ := List.length_eq_one_iff.1 h1
     have hgd : e.terms.getD 0 Tm.zero = t := by rw [ht]; rfl
     rw [show decide (e.terms.length = 1) = true by simp [h1], hgd, Bool.true_and] at hv
     have HVr := l2Var_c t.name
     have e0 : (List.map tmC e.terms).getD 0 [] = tmC t := by rw [ht]; rfl
     have h1p : e.parts.length = 1 := by omega
     have hne1 : ((1 : Int) != (e.parts.length : Int)) = false := by rw [h1p]; rfl
     cases hvv : varOk t.name
     ·rw [hvv, Bool.false_and] at hv
      rw [hvv] at HVr
      rw [hv]
      refine FC_of Tryz.call137 Tryz.func137 rfl (by kernel_rfl) (by simp only [rd, List.map_cons, List.map_nil, List.length_cons, List.length_nil, Tryz.ntmps137]; omega) ?_
      simp -implicitDefEqProofs only [go_sem, Tryz.results137]
      refine callF (HQ) (by simp -implicitDefEqProofs only [go_sem, h1, h1p, hne1]) ?_
      simp -implicitDefEqProofs only [go_sem, h1, h1p, hne1]
      refine callF (HSt) (by simp -implicitDefEqProofs only [go_sem, h1, h1p, e0, tmC_eq t]) ?_
      simp -implicitDefEqProofs only [go_sem, h1, h1p, e0, tmC_eq t]
      refine callF (HVr) (by simp -implicitDefEqProofs only [go_sem]) ?_
      simp -implicitDefEqProofs only [go_sem]
     ·rw [hvv, Bool.true_and] at hv
      rw [hvv] at HVr
      refine FC_of Tryz.call137 Tryz.func137 rfl (by kernel_rfl) (by simp only [rd, List.map_cons, List.map_nil, List.length_cons, List.length_nil, Tryz.ntmps137]; omega) ?_
      simp -implicitDefEqProofs only [go_sem, Tryz.results137]
      refine callF (HQ) (by simp -implicitDefEqProofs only [go_sem, h1, h1p, hne1]) ?_
      simp -implicitDefEqProofs only [go_sem, h1, h1p, hne1]
      refine callF (HSt) (by simp -implicitDefEqProofs only [go_sem, h1, h1p, e0, tmC_eq t]) ?_
      simp -implicitDefEqProofs only [go_sem, h1, h1p, e0, tmC_eq t]
      refine callF (HVr) (by simp -implicitDefEqProofs only [go_sem]) ?_
      simp -implicitDefEqProofs only [go_sem]
      refine loop_rule (fun k : Nat => hd [(1, vT (.bool pos)), (2, .one (.bx 2 0)), (5, .one (.bx 5 0)), (7, vI k)] [(2, [.t (.int .i64 e.form.op), .t (.str e.form.atom.name), .t (tmS e.form.atom.args), .t (.str e.form.var), .t (fmS e.form.parts), .t (tmS e.terms), .t (exS e.parts)]), (5, [.t (.int .i64 e.form.op), .t (.str e.form.atom.name), .t (tmS e.form.atom.args), .t (.str e.form.var), .t (fmS e.form.parts)])] []) (fun k => k ≤ e.parts.length ∧ ∀ j, j < k → ∀ h : j < L.length, L[j] = true) (fun k => e.parts.length - k) 0 (weak_hd ?_) ⟨Nat.zero_le _, fun j hj => by omega⟩ ?_
      ·simp -implicitDefEqProofs only [go_sem]
      ·rintro k ⟨hk, hT⟩
       by_cases hlt : k < e.parts.length
       ·have hkt : k < e.terms.length := by omega
        have hkL : k < L.length := by omega
        have htw : e.terms[k].wt + e.form.wt ≤ 1048576 := by have := mem_sum Tm.wt e.terms _ (List.getElem_mem hkt); omega
        have hqw : q.wt ≤ e.form.wt := fparts_wt (by rw [hp]; simp)
        have htk : tstS e.form e.terms k e.parts[k] = (e.terms[k].good && !((e.terms.take k).any fun a => same a e.terms[k]) && (putF e.form.var e.terms[k] q).2 && same e.parts[k].form (putF e.form.var e.terms[k] q).1) := by
         unfold tstS
         rw [getD_eq hkt, hp]
         rfl
        have hLk : L[k] = (e.terms[k].good && !((e.terms.take k).any fun a => same a e.terms[k]) && (putF e.form.var e.terms[k] q).2 && same e.parts[k].form (putF e.form.var e.terms[k] q).1 && nodeS e.parts[k] pos) := by
         simp only [← hL, List.getElem_mapIdx]
         rw [htk]
        have HV := l2Good_c e.terms[k] (by omega)
        have HI := l16Index_c (e.terms.take k) e.terms[k]
        have hi2 := idxP_ge (e.terms.take k) fun a => same a e.terms[k]
        have HPt := l8Put_c e.form.var e.terms[k] (by omega) q hqf (by omega) (mul_small (by omega))
        have hpff := put_forms e.form.var e.terms[k] q hqf
        generalize (putF e.form.var e.terms[k] q).1 = R at HPt hLk hpff
        generalize (putF e.form.var e.terms[k] q).2 = ok at HPt hLk hpff
        have HSm := l8Same_c e.parts[k].form R
        have eT : tmS (e.terms.take k) = .sl 2 ((e.terms.map tmC).take k) := by unfold tmS; rw [List.map_take]
        rw [eT] at HI
        have e0 : (List.map fmC e.form.parts).getD 0 [] = fmC q := by rw [hp]; rfl
        have hp0 : e.form.parts.length = 1 := by rw [hp]; rfl
        simp only [tmD, fmD, tmC_eq e.terms[k], fmC_eq q, fmC_eq R, fmC_eq e.parts[k].form] at HV HI HPt HSm
        cases hg : e.terms[k].good
        ·rw [hg] at hLk HV
         simp only [Bool.false_and] at hLk
         rw [hv, all_no hkL hLk]
         simp -implicitDefEqProofs only [go_sem, hkt]
         refine drawn (by kernel_rfl) ?_
         simp -implicitDefEqProofs only [go_sem, hkt, getD_at, tmC_eq e.terms[k]]
         refine dCallF (HV) (by simp -implicitDefEqProofs only [go_sem]) ?_
         simp -implicitDefEqProofs only [go_sem]
         kernel_rfl
        ·rw [hg] at HV
         cases hi : (e.terms.take k).any fun a => same a e.terms[k]
         ·rw [hi] at hi2
          cases hok : ok
          ·rw [hg, hi, hok] at hLk
           simp only [Bool.and_false, Bool.false_and] at hLk
           rw [hv, all_no hkL hLk]
           rw [hok] at HPt
           simp -implicitDefEqProofs only [go_sem, hkt]
           refine drawn (by kernel_rfl) ?_
           simp -implicitDefEqProofs only [go_sem, hkt, getD_at, tmC_eq e.terms[k]]
           refine dCallF (HV) (by simp -implicitDefEqProofs only [go_sem, hkt, getD_at, tmC_eq e.terms[k]]) ?_
           simp -implicitDefEqProofs only [go_sem, hkt, getD_at, tmC_eq e.terms[k]]
           refine ⟨by omega, ?_⟩
           refine gCallF (HI) (by simp -implicitDefEqProofs only [go_sem, hi2]) ?_
           simp -implicitDefEqProofs only [go_sem, hi2]
           refine ⟨by kernel_rfl, ?_⟩
           refine drawn (by kernel_rfl) ?_
           simp -implicitDefEqProofs only [go_sem, hp0, e0, fmC_eq q, hkt, getD_at, tmC_eq e.terms[k]]
           refine dCallF (HPt) (by simp -implicitDefEqProofs only [go_sem]) ?_
           simp -implicitDefEqProofs only [go_sem]
           refine ⟨by kernel_rfl, ?_⟩
           refine drawn (by kernel_rfl) ?_
           simp -implicitDefEqProofs only [go_sem]
           kernel_rfl
          ·rw [hok] at HPt
           cases hsm : same e.parts[k].form R
           ·rw [hg, hi, hok, hsm] at hLk
            simp only [Bool.and_false, Bool.false_and] at hLk
            rw [hv, all_no hkL hLk]
            rw [hsm] at HSm
            simp -implicitDefEqProofs only [go_sem, hkt]
            refine drawn (by kernel_rfl) ?_
            simp -implicitDefEqProofs only [go_sem, hkt, getD_at, tmC_eq e.terms[k]]
            refine dCallF (HV) (by simp -implicitDefEqProofs only [go_sem, hkt, getD_at, tmC_eq e.terms[k]]) ?_
            simp -implicitDefEqProofs only [go_sem, hkt, getD_at, tmC_eq e.terms[k]]
            refine ⟨by omega, ?_⟩
            refine gCallF (HI) (by simp -implicitDefEqProofs only [go_sem, hi2]) ?_
            simp -implicitDefEqProofs only [go_sem, hi2]
            refine ⟨by kernel_rfl, ?_⟩
            refine drawn (by kernel_rfl) ?_
            simp -implicitDefEqProofs only [go_sem, hp0, e0, fmC_eq q, hkt, getD_at, tmC_eq e.terms[k]]
            refine dCallF (HPt) (by simp -implicitDefEqProofs only [go_sem]) ?_
            simp -implicitDefEqProofs only [go_sem]
            refine ⟨by kernel_rfl, ?_⟩
            refine drawn (by kernel_rfl) ?_
            simp -implicitDefEqProofs only [go_sem, hlt, getD_at, exC_eq e.parts[k]]
            refine gCallF (HSm) (by simp -implicitDefEqProofs only [go_sem]) ?_
            simp -implicitDefEqProofs only [go_sem]
            kernel_rfl
           ·have hpf : e.parts[k].form.forms = true := by rw [same_iff.1 hsm]; exact hpff hok
            have HC := H e.parts[k] (List.getElem_mem hlt) hpf pos
            unfold nodeSP at HC
            simp only [exD, exC_eq e.parts[k]] at HC
            rw [hg, hi, hok, hsm] at hLk
            simp only [Bool.not_false, Bool.and_true, Bool.true_and] at hLk
            rw [hsm] at HSm
            cases hb : nodeS e.parts[k] pos
            ·rw [hb] at hLk HC
             rw [hv, all_no hkL hLk]
             simp -implicitDefEqProofs only [go_sem, hkt]
             refine drawn (by kernel_rfl) ?_
             simp -implicitDefEqProofs only [go_sem, hkt, getD_at, tmC_eq e.terms[k]]
             refine dCallF (HV) (by simp -implicitDefEqProofs only [go_sem, hkt, getD_at, tmC_eq e.terms[k]]) ?_
             simp -implicitDefEqProofs only [go_sem, hkt, getD_at, tmC_eq e.terms[k]]
             refine ⟨by omega, ?_⟩
             refine gCallF (HI) (by simp -implicitDefEqProofs only [go_sem, hi2]) ?_
             simp -implicitDefEqProofs only [go_sem, hi2]
             refine ⟨by kernel_rfl, ?_⟩
             refine drawn (by kernel_rfl) ?_
             simp -implicitDefEqProofs only [go_sem, hp0, e0, fmC_eq q, hkt, getD_at, tmC_eq e.terms[k]]
             refine dCallF (HPt) (by simp -implicitDefEqProofs only [go_sem]) ?_
             simp -implicitDefEqProofs only [go_sem]
             refine ⟨by kernel_rfl, ?_⟩
             refine drawn (by kernel_rfl) ?_
             simp -implicitDefEqProofs only [go_sem, hlt, getD_at, exC_eq e.parts[k]]
             refine gCallF (HSm) (by simp -implicitDefEqProofs only [go_sem, hlt, getD_at, exC_eq e.parts[k]]) ?_
             simp -implicitDefEqProofs only [go_sem, hlt, getD_at, exC_eq e.parts[k]]
             refine gCallF (HC) (by simp -implicitDefEqProofs only [go_sem]) ?_
             simp -implicitDefEqProofs only [go_sem]
             kernel_rfl
            ·rw [hb] at hLk HC
             simp -implicitDefEqProofs only [go_sem, hkt]
             refine drawn (by kernel_rfl) ?_
             simp -implicitDefEqProofs only [go_sem, hkt, getD_at, tmC_eq e.terms[k]]
             refine dCallF (HV) (by simp -implicitDefEqProofs only [go_sem, hkt, getD_at, tmC_eq e.terms[k]]) ?_
             simp -implicitDefEqProofs only [go_sem, hkt, getD_at, tmC_eq e.terms[k]]
             refine ⟨by omega, ?_⟩
             refine gCallF (HI) (by simp -implicitDefEqProofs only [go_sem, hi2]) ?_
             simp -implicitDefEqProofs only [go_sem, hi2]
             refine ⟨by kernel_rfl, ?_⟩
             refine drawn (by kernel_rfl) ?_
             simp -implicitDefEqProofs only [go_sem, hp0, e0, fmC_eq q, hkt, getD_at, tmC_eq e.terms[k]]
             refine dCallF (HPt) (by simp -implicitDefEqProofs only [go_sem]) ?_
             simp -implicitDefEqProofs only [go_sem]
             refine ⟨by kernel_rfl, ?_⟩
             refine drawn (by kernel_rfl) ?_
             simp -implicitDefEqProofs only [go_sem, hlt, getD_at, exC_eq e.parts[k]]
             refine gCallF (HSm) (by simp -implicitDefEqProofs only [go_sem, hlt, getD_at, exC_eq e.parts[k]]) ?_
             simp -implicitDefEqProofs only [go_sem, hlt, getD_at, exC_eq e.parts[k]]
             refine gCallF (HC) (by simp -implicitDefEqProofs only [go_sem]) ?_
             simp -implicitDefEqProofs only [go_sem]
             refine ⟨by kernel_rfl, k + 1, ⟨by omega, all_step hT hLk⟩, by omega, weak_hd ?_⟩
             simp -implicitDefEqProofs only [go_sem]
             rw [wrap_s (by omega)]
         ·rw [hg, hi] at hLk
          rw [hi] at hi2
          simp only [Bool.not_true, Bool.and_false, Bool.false_and] at hLk
          rw [hv, all_no hkL hLk]
          simp -implicitDefEqProofs only [go_sem, hkt]
          refine drawn (by kernel_rfl) ?_
          simp -implicitDefEqProofs only [go_sem, hkt, getD_at, tmC_eq e.terms[k]]
          refine dCallF (HV) (by simp -implicitDefEqProofs only [go_sem, hkt, getD_at, tmC_eq e.terms[k]]) ?_
          simp -implicitDefEqProofs only [go_sem, hkt, getD_at, tmC_eq e.terms[k]]
          refine ⟨by omega, ?_⟩
          refine gCallF (HI) (by simp -implicitDefEqProofs only [go_sem, hi2]) ?_
          simp -implicitDefEqProofs only [go_sem, hi2]
          kernel_rfl
       ·have hkt : ¬ k < e.terms.length := by omega
        rw [hv, all_yes fun j hj => hT j (by omega) hj]
        simp -implicitDefEqProofs only [go_sem, hkt]
    ·rw [show decide (e.terms.length = 1) = false by simp [h1], Bool.false_and, Bool.false_and] at hv
     rw [hv]
     have hn1 : ((e.terms.length : Int) != 1) = true := by rw [bne_iff_ne]; omega
     refine FC_of Tryz.call137 Tryz.func137 rfl (by kernel_rfl) (by simp only [rd, List.map_cons, List.map_nil, List.length_cons, List.length_nil, Tryz.ntmps137]; omega) ?_
     simp -implicitDefEqProofs only [go_sem, Tryz.results137]
     refine callF (HQ) (by simp -implicitDefEqProofs only [go_sem, hne]) ?_
     simp -implicitDefEqProofs only [go_sem, hne]
     refine callF (HSt) (by simp -implicitDefEqProofs only [go_sem, hn1]) ?_
     simp -implicitDefEqProofs only [go_sem, hn1]
  ·rw [show decide (e.terms.length = e.parts.length) = false by simp [hlen], Bool.false_and, Bool.false_and] at hv
   rw [hv]
   have hne : ((e.terms.length : Int) != (e.parts.length : Int)) = true := by rw [bne_iff_ne]; omega
   simp only [exD, exC_eq, fmD, fmC_eq e.form] at HQ ⊢
   refine FC_of Tryz.call137 Tryz.func137 rfl (by kernel_rfl) (by simp only [rd, List.map_cons, List.map_nil, List.length_cons, List.length_nil, Tryz.ntmps137]; omega) ?_
   simp -implicitDefEqProofs only [go_sem, Tryz.results137]
   refine callF (HQ) (by simp -implicitDefEqProofs only [go_sem, hne]) ?_
   simp -implicitDefEqProofs only [go_sem, hne]
end Go.Proofs.YtbccfiillleimaaGreat
namespace Go.Proofs.YtbccfiillleimaaGreat
set_option linter.unusedSimpArgs false
set_option linter.unusedVariables false
set_option linter.unusedSectionVars false
set_option maxRecDepth 4000
open Go.RowKit
def namesS : Ex → Bool → List Str := Ex.fold fun f ts ps rs pos => (if strongE f pos = true then [(ts.getD 0 Tm.zero).name] else []) ++ ((ps.zip rs).mapIdx fun i q => q.2 (sgn f i pos)).flatten
theorem namesS_eq (e : Ex) (pos : Bool) : namesS e pos = (if strongE e.form pos = true then [(e.terms.getD 0 Tm.zero).name] else []) ++ (e.parts.mapIdx fun i p => namesS p (sgn e.form i pos)).flatten := by
 cases e with
 | mk f ts ps =>
  conv => lhs; unfold namesS; rw [Ex.fold_eq]
  simp only [zip_map]
  rfl
theorem sgn_q {f : Fm} (h : isQ f.op = true) (i : Nat) (pos : Bool) : sgn f i pos = pos := by
 have h8 : f.op = 8 ∨ f.op = 9 := by unfold isQ at h; rw [Bool.or_eq_true, beq_iff_eq, beq_iff_eq] at h; exact h
 unfold sgn
 rcases h8 with e | e <;> rw [e] <;> cases pos <;> rfl
theorem flat_range (w : Nat → Nat) : ∀ (l : List (List Str)) (j : Nat), (∀ i (h : i < l.length), l[i].length ≤ w (j + i)) → l.flatten.length ≤ ((List.range l.length).map fun i => w (j + i)).sum
 | [], _, _ => by simp
 | x :: l, j, h => by
  have h0 := h 0 (by simp)
  rw [Nat.add_zero] at h0
  have h0 : x.length ≤ w j := h0
  have ih := flat_range w l (j + 1) fun i hi => by
   have := h (i + 1) (by simpa using hi)
   rw [show j + 1 + i = j + (i + 1) by omega]
   simpa using this
  have e : ((List.range (x :: l).length).map fun i => w (j + i)).sum = w j + ((List.range l.length).map fun i => w (j + 1 + i)).sum := by
   rw [List.length_cons, List.range_succ_eq_map, List.map_cons, List.sum_cons, List.map_map]
   congr 2
   refine List.map_congr_left fun i _ => ?_
   show w (j + (i + 1)) = _
   rw [show j + (i + 1) = j + 1 + i by omega]
  rw [e, List.flatten_cons, List.length_append]
  omega
theorem namesS_len : ∀ (e : Ex) (pos : Bool), (namesS e pos).length ≤ e.nodes := ex_ind fun f ts ps ih pos => by
 rw [namesS_eq, Ex.nodes_eq]
 have hr := range_sum ps
 have key := flat_range (fun i => (ps.getD i (.mk (mkF 0 []) [] [])).nodes) (ps.mapIdx fun i p => namesS p (sgn f i pos)) 0 fun i h => by
  have hi : i < ps.length := by simpa using h
  have := ih ps[i] (List.getElem_mem hi) (sgn f i pos)
  simp only [List.getElem_mapIdx, Nat.zero_add]
  rw [List.getD_eq_getElem?_getD, List.getElem?_eq_getElem hi]
  exact this
 simp only [List.length_mapIdx, Nat.zero_add] at key
 rw [hr] at key
 show ((if strongE f pos = true then [(ts.getD 0 Tm.zero).name] else []) ++ (ps.mapIdx fun i p => namesS p (sgn f i pos)).flatten).length ≤ 1 + (ps.map Ex.nodes).sum
 rw [List.length_append]
 split
 ·rw [List.length_singleton]; omega
 ·rw [List.length_nil]; omega
theorem nodeS_parts {e : Ex} {pos : Bool} (h : nodeS e pos = true) : (∀ i (hi : i < e.parts.length), nodeS e.parts[i] (sgn e.form i pos) = true) ∧ (strongE e.form pos = true → e.terms.length = 1) := by
 rw [nodeS_eq] at h
 cases hq : isQ e.form.op
 ·rw [hq, if_neg (by simp), Bool.and_eq_true, List.all_eq_true] at h
  refine ⟨fun i hi => ?_, fun hs => by unfold strongE at hs; rw [hq] at hs; cases hs⟩
  have := h.2 _ (List.getElem_mem (l := e.parts.mapIdx fun i p => (same p.form (e.form.parts.getD i (mkF 0 [])) && nodeS p (sgn e.form i pos))) (n := i) (by simpa using hi))
  simp only [List.getElem_mapIdx, id, Bool.and_eq_true] at this
  exact this.2
 ·rw [hq, if_pos rfl, Bool.and_eq_true, Bool.and_eq_true, List.all_eq_true] at h
  refine ⟨fun i hi => ?_, fun hs => ?_⟩
  ·have := h.2 _ (List.getElem_mem (l := e.parts.mapIdx fun i p => (tstS e.form e.terms i p && nodeS p pos)) (n := i) (by simpa using hi))
   simp only [List.getElem_mapIdx, id, Bool.and_eq_true] at this
   rw [sgn_q hq]; exact this.2
  ·have := h.1.2
   rw [hs] at this
   simp only [Bool.not_true, Bool.false_or, Bool.and_eq_true, decide_eq_true_eq] at this
   exact this.1
theorem l17Names_of (e : Ex) (he : e.wt ≤ 1048576) (pos : Bool) (hn : nodeS e pos = true) (H : ∀ p ∈ e.parts, ∀ pos, nodeS p pos = true → FC Tryz.prog 97 [exD p, bD pos] [.one (strS (namesS p pos))]) : FC Tryz.prog 97 [exD e, bD pos] [.one (strS (namesS e pos))] := by
 have hv := namesS_eq e pos
 have hW := e.wt_eq
 have hln := namesS_len e pos
 have hen := enodes_wt e
 have HSt := l17Strong_c e.form pos
 have hse : (isQ e.form.op && ((e.form.op == 8) == pos)) = strongE e.form pos := rfl
 rw [hse] at HSt
 obtain ⟨hpts, hst1⟩ := nodeS_parts hn
 rw [hv]
 rw [hv] at hln
 generalize hL : (e.parts.mapIdx fun i p => namesS p (sgn e.form i pos)) = L at hv hln ⊢
 have hLl : L.length = e.parts.length := by rw [← hL, List.length_mapIdx]
 have hLf : L.flatten.length ≤ e.nodes := by rw [List.length_append] at hln; omega
 have hgrow : ∀ k, ((L.take k).flatten).length ≤ L.flatten.length := fun k => by
  have := congrArg (fun l => l.flatten.length) (List.take_append_drop k L)
  simp only [List.flatten_append, List.length_append] at this
  omega
 simp only [exD, exC_eq, fmD, fmC_eq e.form] at HSt ⊢
 cases hst : strongE e.form pos
 ·rw [hst] at HSt hln
  rw [hst] at hv
  refine FC_of Tryz.call97 Tryz.func97 rfl (by kernel_rfl) (by simp only [rd, List.map_cons, List.map_nil, List.length_cons, List.length_nil, Tryz.ntmps97]; omega) ?_
  simp -implicitDefEqProofs only [go_sem, Tryz.results97]
  refine buildDc (by simp -implicitDefEqProofs only [go_sem]) ?_
  simp -implicitDefEqProofs only [go_sem]
  refine callF (HSt) (by simp -implicitDefEqProofs only [go_sem]) ?_
  simp -implicitDefEqProofs only [go_sem]
  refine loop_rule (fun k : Nat => hd [(1, vT (.bool pos)), (2, .one (.bx 2 0)), (5, .one (.ow 224 0)), (6, vI k)] [(2, [.t (.int .i64 e.form.op), .t (.str e.form.atom.name), .t (tmS e.form.atom.args), .t (.str e.form.var), .t (fmS e.form.parts), .t (tmS e.terms), .t (exS e.parts)])] [(224, ⟨true, 1, (([] : List Str) ++ (L.take k).flatten).map fun s => [.str s], 0, true⟩)]) (fun k => k ≤ e.parts.length) (fun k => e.parts.length - k) 0 (weak_hd ?_) (Nat.zero_le _) ?_
  ·simp -implicitDefEqProofs only [go_sem]
  ·intro k hk
   by_cases hlt : k < e.parts.length
   ·have HPo := l17Sign_c e.form k pos
    have hsg : (pos != (e.form.op == 4 || (e.form.op == 7 && ((k : Int) == 0)))) = sgn e.form k pos := rfl
    rw [hsg] at HPo
    have HC := H e.parts[k] (List.getElem_mem hlt) (sgn e.form k pos) (hpts k hlt)
    have hgk := hgrow k
    have hLk : L[k]'(by omega) = namesS e.parts[k] (sgn e.form k pos) := by simp only [← hL, List.getElem_mapIdx]
    simp only [fmD, fmC_eq e.form, exD, exC_eq e.parts[k]] at HPo HC
    have hg2 := hgrow (k + 1)
    have e9 : (L.take (k + 1)).flatten = (L.take k).flatten ++ namesS e.parts[k] (sgn e.form k pos) := by
     rw [List.take_succ_eq_append_getElem (by omega), List.flatten_append, hLk]; simp
    rw [e9, List.length_append] at hg2
    have hap : (L.take k).flatten.length + (namesS e.parts[k] (sgn e.form k pos)).length ≤ 4294967296 := by omega
    have hap2 : (L.take k).flatten.length + 1 + (namesS e.parts[k] (sgn e.form k pos)).length ≤ 4294967296 := by omega
    simp -implicitDefEqProofs only [go_sem, hlt]
    refine drawn (by kernel_rfl) ?_
    simp -implicitDefEqProofs only [go_sem, hlt, getD_at, exC_eq e.parts[k]]
    refine dCallF (HPo) (by simp -implicitDefEqProofs only [go_sem]) ?_
    simp -implicitDefEqProofs only [go_sem]
    refine dCallF (HC) (by simp -implicitDefEqProofs only [go_sem]) ?_
    simp -implicitDefEqProofs only [go_sem]
    refine dApD true (by simp -implicitDefEqProofs only [go_sem, ne_eq, List.length_map, hap, hap2]) ?_
    simp -implicitDefEqProofs only [go_sem, ne_eq, List.length_map, hap, hap2]
    refine ⟨by kernel_rfl, k + 1, hlt, by omega, weak_hd ?_⟩
    simp -implicitDefEqProofs only [go_sem]
    rw [wrap_s (by omega), e9, List.map_append]
    exact ⟨rfl, rfl⟩
   ·have htk : (L.take k) = L := List.take_of_length_le (by omega)
    simp -implicitDefEqProofs only [go_sem, hlt, htk]
 ·rw [hst] at HSt hln
  rw [hst] at hv
  obtain ⟨t, ht⟩ := List.length_eq_one_iff.1 (hst1 hst)
  have h1 : e.terms.length = 1 := hst1 hst
  have hgd : e.terms.getD 0 Tm.zero = t := by rw [ht]; rfl
  have e0 : (List.map tmC e.terms).getD 0 [] = tmC t := by rw [ht]; rfl
  rw [hgd]
  rw [hgd] at hln
  refine FC_of Tryz.call97 Tryz.func97 rfl (by kernel_rfl) (by simp only [rd, List.map_cons, List.map_nil, List.length_cons, List.length_nil, Tryz.ntmps97]; omega) ?_
  simp -implicitDefEqProofs only [go_sem, Tryz.results97]
  refine buildDc (by simp -implicitDefEqProofs only [go_sem]) ?_
  simp -implicitDefEqProofs only [go_sem]
  refine callF (HSt) (by simp -implicitDefEqProofs only [go_sem, h1, e0, tmC_eq t]) ?_
  simp -implicitDefEqProofs only [go_sem, h1, e0, tmC_eq t]
  refine buildDc (by simp -implicitDefEqProofs only [go_sem]) ?_
  simp -implicitDefEqProofs only [go_sem]
  refine apD true (by simp -implicitDefEqProofs only [go_sem, ne_eq]) ?_
  simp -implicitDefEqProofs only [go_sem, ne_eq]
  refine loop_rule (fun k : Nat => hd [(1, vT (.bool pos)), (2, .one (.bx 2 0)), (5, .one (.ow 224 0)), (6, vI k)] [(2, [.t (.int .i64 e.form.op), .t (.str e.form.atom.name), .t (tmS e.form.atom.args), .t (.str e.form.var), .t (fmS e.form.parts), .t (tmS e.terms), .t (exS e.parts)])] [(224, ⟨true, 1, ([t.name] ++ (L.take k).flatten).map fun s => [.str s], 0, true⟩)]) (fun k => k ≤ e.parts.length) (fun k => e.parts.length - k) 0 (weak_hd ?_) (Nat.zero_le _) ?_
  ·simp -implicitDefEqProofs only [go_sem]
  ·intro k hk
   by_cases hlt : k < e.parts.length
   ·have HPo := l17Sign_c e.form k pos
    have hsg : (pos != (e.form.op == 4 || (e.form.op == 7 && ((k : Int) == 0)))) = sgn e.form k pos := rfl
    rw [hsg] at HPo
    have HC := H e.parts[k] (List.getElem_mem hlt) (sgn e.form k pos) (hpts k hlt)
    have hgk := hgrow k
    have hLk : L[k]'(by omega) = namesS e.parts[k] (sgn e.form k pos) := by simp only [← hL, List.getElem_mapIdx]
    simp only [fmD, fmC_eq e.form, exD, exC_eq e.parts[k]] at HPo HC
    have hg2 := hgrow (k + 1)
    have e9 : (L.take (k + 1)).flatten = (L.take k).flatten ++ namesS e.parts[k] (sgn e.form k pos) := by
     rw [List.take_succ_eq_append_getElem (by omega), List.flatten_append, hLk]; simp
    rw [e9, List.length_append] at hg2
    have hap : (L.take k).flatten.length + (namesS e.parts[k] (sgn e.form k pos)).length ≤ 4294967296 := by omega
    have hap2 : (L.take k).flatten.length + 1 + (namesS e.parts[k] (sgn e.form k pos)).length ≤ 4294967296 := by omega
    simp -implicitDefEqProofs only [go_sem, hlt]
    refine drawn (by kernel_rfl) ?_
    simp -implicitDefEqProofs only [go_sem, hlt, getD_at, exC_eq e.parts[k]]
    refine dCallF (HPo) (by simp -implicitDefEqProofs only [go_sem]) ?_
    simp -implicitDefEqProofs only [go_sem]
    refine dCallF (HC) (by simp -implicitDefEqProofs only [go_sem]) ?_
    simp -implicitDefEqProofs only [go_sem]
    refine dApD true (by simp -implicitDefEqProofs only [go_sem, ne_eq, List.length_map, hap, hap2]) ?_
    simp -implicitDefEqProofs only [go_sem, ne_eq, List.length_map, hap, hap2]
    refine ⟨by kernel_rfl, k + 1, hlt, by omega, weak_hd ?_⟩
    simp -implicitDefEqProofs only [go_sem]
    rw [wrap_s (by omega), e9, List.map_append]
    exact ⟨rfl, rfl⟩
   ·have htk : (L.take k) = L := List.take_of_length_le (by omega)
    simp -implicitDefEqProofs only [go_sem, hlt, htk]
end Go.Proofs.YtbccfiillleimaaGreat
namespace Go.Proofs.YtbccfiillleimaaGreat
set_option linter.unusedSimpArgs false
set_option linter.unusedVariables false
set_option linter.unusedSectionVars false
set_option maxRecDepth 4000
open Go.RowKit
theorem l17Names_c : ∀ e : Ex, e.wt ≤ 1048576 → ∀ pos, nodeS e pos = true → FC Tryz.prog 97 [exD e, bD pos] [.one (strS (namesS e pos))] :=
 ex_ind fun f ts ps ih he pos hn => l17Names_of (.mk f ts ps) he pos hn fun p hp pos hn => ih p hp (Nat.le_trans (eparts_wt (a := .mk f ts ps) hp) he) pos hn
theorem l17Node_c : ∀ e : Ex, e.wt ≤ 1048576 → e.form.forms = true → ∀ pos, nodeSP e pos :=
 ex_ind fun f ts ps ih he hf pos => l17Node_of (.mk f ts ps) he hf (fun p hp hpf pos => ih p hp (Nat.le_trans (eparts_wt (a := .mk f ts ps) hp) he) hpf pos) pos
noncomputable def specOk (e : Ex) (pos : Bool) : Bool := e.form.good && decide (e.nodes ≤ 60) && nodeS e pos && dec ((namesS e pos).Nodup ∧ ∀ n ∈ namesS e pos, n ∉ putSs [] (vf e.form []))
set_option maxHeartbeats 2000000 in
theorem l17Good_c (e : Ex) (he : e.wt ≤ 1048576) (pos : Bool) : FC Tryz.prog 83 [exD e, bD pos] [bD (specOk e pos)] := by
 have hv : specOk e pos = (e.form.good && decide (e.nodes ≤ 60) && nodeS e pos && dec ((namesS e pos).Nodup ∧ ∀ n ∈ namesS e pos, n ∉ putSs [] (vf e.form []))) := rfl
 have HN := l17Size_c e (by omega) 60 (by omega) (by omega)
 have hs : decide (manyE e 60 ≤ 60) = decide (e.nodes ≤ 60) := manyE_le e 60
 have hfw := form_wt e
 have HG := l8Good_c e.form (by omega)
 simp only [exD, exC_eq, fmD, fmC_eq] at HN HG ⊢
 cases hg : e.form.good
 ·rw [hg, Bool.false_and, Bool.false_and, Bool.false_and] at hv
  rw [hv]
  rw [hg] at HG
  refine FC_of Tryz.call83 Tryz.func83 rfl (by kernel_rfl) (by simp only [rd, List.map_cons, List.map_nil, List.length_cons, List.length_nil, Tryz.ntmps83]; omega) ?_
  simp -implicitDefEqProofs only [go_sem, Tryz.results83]
  refine callF (HG) (by simp -implicitDefEqProofs only [go_sem]) ?_
  simp -implicitDefEqProofs only [go_sem]
 ·rw [hg, Bool.true_and] at hv
  rw [hg] at HG
  cases hn : decide (e.nodes ≤ 60)
  ·have hs2 : decide (60 < manyE e 60) = true := by rw [hn] at hs; rw [decide_eq_true_eq]; rw [decide_eq_false_iff_not] at hs; omega
   rw [hn, Bool.false_and, Bool.false_and] at hv
   rw [hv]
   refine FC_of Tryz.call83 Tryz.func83 rfl (by kernel_rfl) (by simp only [rd, List.map_cons, List.map_nil, List.length_cons, List.length_nil, Tryz.ntmps83]; omega) ?_
   simp -implicitDefEqProofs only [go_sem, Tryz.results83]
   refine callF (HG) (by simp -implicitDefEqProofs only [go_sem]) ?_
   simp -implicitDefEqProofs only [go_sem]
   refine callF (HN) (by simp -implicitDefEqProofs only [go_sem, hs2]) ?_
   simp -implicitDefEqProofs only [go_sem, hs2]
  ·have hs2 : decide (60 < manyE e 60) = false := by rw [hn] at hs; rw [decide_eq_false_iff_not]; rw [decide_eq_true_eq] at hs; omega
   rw [hn, Bool.true_and] at hv
   have HD := l17Node_c e he (gforms' hg) pos
   unfold nodeSP at HD
   simp only [exD, exC_eq] at HD
   cases hnd : nodeS e pos
   ·rw [hnd, Bool.false_and] at hv
    rw [hv]
    rw [hnd] at HD
    refine FC_of Tryz.call83 Tryz.func83 rfl (by kernel_rfl) (by simp only [rd, List.map_cons, List.map_nil, List.length_cons, List.length_nil, Tryz.ntmps83]; omega) ?_
    simp -implicitDefEqProofs only [go_sem, Tryz.results83]
    refine callF (HG) (by simp -implicitDefEqProofs only [go_sem]) ?_
    simp -implicitDefEqProofs only [go_sem]
    refine callF (HN) (by simp -implicitDefEqProofs only [go_sem, hs2]) ?_
    simp -implicitDefEqProofs only [go_sem, hs2]
    refine callF (HD) (by simp -implicitDefEqProofs only [go_sem]) ?_
    simp -implicitDefEqProofs only [go_sem]
   ·rw [hnd, Bool.true_and] at hv
    rw [hnd] at HD
    have HM := l17Names_c e he pos hnd
    have HF := l8Free_c e.form (gforms' hg) (by omega)
    have hnl := namesS_len e pos
    have hen := enodes_wt e
    generalize namesS e pos = ns at hv HM hnl
    generalize putSs [] (vf e.form []) = V at hv HF
    simp only [exD, exC_eq, fmD, fmC_eq] at HM HF
    refine FC_ofN Tryz.call83 Tryz.func83 rfl (by kernel_rfl) (by simp only [rd, List.map_cons, List.map_nil, List.length_cons, List.length_nil, Tryz.ntmps83]; omega) ?_
    simp -implicitDefEqProofs only [go_sem, Tryz.results83]
    refine callF (HG) (by simp -implicitDefEqProofs only [go_sem]) ?_
    simp -implicitDefEqProofs only [go_sem]
    refine callF (HN) (by simp -implicitDefEqProofs only [go_sem, hs2]) ?_
    simp -implicitDefEqProofs only [go_sem, hs2]
    refine callF (HD) (by simp -implicitDefEqProofs only [go_sem]) ?_
    simp -implicitDefEqProofs only [go_sem]
    refine callFr (HM) (by simp -implicitDefEqProofs only [go_sem]) ?_
    simp -implicitDefEqProofs only [go_sem]
    refine callFr (HF) (by simp -implicitDefEqProofs only [go_sem]) ?_
    simp -implicitDefEqProofs only [go_sem]
    refine loop_rule (fun k : Nat => hd [(5, .one (.rn (strS ns))), (6, .one (.rn (strS V))), (7, vI k)] [] []) (fun k => k ≤ ns.length ∧ (ns.take k).Nodup ∧ ∀ n ∈ ns.take k, n ∉ V) (fun k => ns.length - k) 0 (weak_hd ?_) ⟨Nat.zero_le _, List.nodup_nil, by simp⟩ ?_
    ·simp -implicitDefEqProofs only [go_sem]
    ·rintro k ⟨hk, hT, hT2⟩
     by_cases hlt : k < ns.length
     ·have H1 := l2In_c (ns.take k) ns[k]
      have H2 := l2In_c V ns[k]
      have eT : strS (ns.take k) = .sl 1 ((ns.map fun s => [T.str s]).take k) := by unfold strS; rw [List.map_take]
      rw [eT] at H1
      cases h1 : (ns.take k).contains ns[k]
      ·rw [h1] at H1
       cases h2 : V.contains ns[k]
       ·rw [h2] at H2
        simp -implicitDefEqProofs only [go_sem, hlt]
        refine drawn (by kernel_rfl) ?_
        simp -implicitDefEqProofs only [go_sem, getD_at, hlt]
        refine ⟨hk, ?_⟩
        refine dCallF (H1) (by simp -implicitDefEqProofs only [go_sem, getD_at, hlt]) ?_
        simp -implicitDefEqProofs only [go_sem, getD_at, hlt]
        refine gCallF (H2) (by simp -implicitDefEqProofs only [go_sem]) ?_
        simp -implicitDefEqProofs only [go_sem]
        refine ⟨by kernel_rfl, k + 1, ⟨hlt, ?_, ?_⟩, by omega, weak_hd ?_⟩
        ·rw [List.take_succ_eq_append_getElem hlt, List.nodup_append]
         refine ⟨hT, by simp, ?_⟩
         rintro a ha b hb rfl
         rw [List.mem_singleton] at hb
         subst hb
         rw [List.contains_iff_mem.2 ha] at h1
         cases h1
        ·intro n hn
         rw [List.take_succ_eq_append_getElem hlt] at hn
         rcases List.mem_append.1 hn with hn | hn
         ·exact hT2 n hn
         ·rw [List.mem_singleton] at hn
          subst hn
          intro hm
          rw [List.contains_iff_mem.2 hm] at h2
          cases h2
        ·simp -implicitDefEqProofs only [go_sem]
         rw [wrap_s (by omega)]
       ·rw [h2] at H2
        have hbad : dec (ns.Nodup ∧ ∀ n ∈ ns, n ∉ V) = false := dec_no.2 fun h => h.2 _ (List.getElem_mem hlt) (List.contains_iff_mem.1 h2)
        rw [hv, hbad]
        simp -implicitDefEqProofs only [go_sem, hlt]
        refine drawn (by kernel_rfl) ?_
        simp -implicitDefEqProofs only [go_sem, getD_at, hlt]
        refine ⟨hk, ?_⟩
        refine dCallF (H1) (by simp -implicitDefEqProofs only [go_sem, getD_at, hlt]) ?_
        simp -implicitDefEqProofs only [go_sem, getD_at, hlt]
        refine gCallF (H2) (by simp -implicitDefEqProofs only [go_sem]) ?_
        simp -implicitDefEqProofs only [go_sem]
        kernel_rfl
      ·rw [h1] at H1
       have hbad : dec (ns.Nodup ∧ ∀ n ∈ ns, n ∉ V) = false := dec_no.2 fun h => by
        have h3 := h.1.sublist (List.take_sublist (k + 1) ns)
        rw [List.take_succ_eq_append_getElem hlt, List.nodup_append] at h3
        exact h3.2.2 _ (List.contains_iff_mem.1 h1) _ (by simp) rfl
       rw [hv, hbad]
       simp -implicitDefEqProofs only [go_sem, hlt]
       refine drawn (by kernel_rfl) ?_
       simp -implicitDefEqProofs only [go_sem, getD_at, hlt]
       refine ⟨hk, ?_⟩
       refine dCallF (H1) (by simp -implicitDefEqProofs only [go_sem, getD_at, hlt]) ?_
       simp -implicitDefEqProofs only [go_sem, getD_at, hlt]
       kernel_rfl
     ·rw [List.take_of_length_le (by omega)] at hT hT2
      rw [show dec (ns.Nodup ∧ ∀ n ∈ ns, n ∉ V) = true from dec_iff.2 ⟨hT, hT2⟩] at hv
      rw [hv]
      simp -implicitDefEqProofs only [go_sem, hlt]
end Go.Proofs.YtbccfiillleimaaGreat
namespace Go.Proofs.YtbccfiillleimaaGreat
set_option linter.unusedSimpArgs false
set_option linter.unusedVariables false
set_option linter.unusedSectionVars false
set_option maxRecDepth 4000
open Go.RowKit
theorem indexFuncStr_c (xs : List Str) (p : Str → Bool) (g : FuncId) (caps : List T) (H : ∀ x ∈ xs, FC Tryz.prog g (sD x :: caps.map .one) [bD (p x)]) : FC Tryz.prog 202 [.one (strS xs), .one (.fn g caps)] [iD (idxP xs p)] := by
 refine FC_wf (fun hw => ?_) Tryz.call202
 have hl : xs.length ≤ 9223372036854775807 := by simpa [wfDs, wfT] using hw.1.1
 refine FC_of Tryz.call202 Tryz.func202 rfl (by kernel_rfl) (by simp only [rd, List.map_cons, List.map_nil, List.length_cons, List.length_nil, Tryz.ntmps202]; omega) ?_
 simp -implicitDefEqProofs only [go_sem, Tryz.results202]
 refine loop_rule (fun k : Nat => hd [(0, vT (strS xs)), (1, vT (.fn g caps)), (7, vI xs.length), (8, vI k)] [] []) (fun k => k ≤ xs.length ∧ ∀ x ∈ xs.take k, p x = false) (fun k => xs.length - k) 0 (weak_hd ?_) ?_ ?_
 ·simp -implicitDefEqProofs only [go_sem]
 ·simp
 ·intro k ⟨hk, hr⟩
  by_cases hlt : k < xs.length
  ·simp -implicitDefEqProofs only [go_sem, getD_at, hlt, ne_eq]
   refine callF (H xs[k] (List.getElem_mem hlt)) (by simp -implicitDefEqProofs only [go_sem, ne_eq]) ?_
   simp -implicitDefEqProofs only [go_sem, ne_eq]
   refine ⟨fun h => ?_, fun h => ⟨k + 1, ⟨hlt, take_all_succ hlt hr h⟩, by omega, weak_hd (by simp -implicitDefEqProofs only [go_sem]; rw [wrap_s (by omega)])⟩⟩
   rw [idxP_found hlt hr h]
  ·simp -implicitDefEqProofs only [go_sem, hlt]
   rw [List.take_of_length_le (by omega)] at hr
   rw [idxP_none hr]
theorem containsFuncStr_c (xs : List Str) (p : Str → Bool) (g : FuncId) (caps : List T) (H : ∀ x ∈ xs, FC Tryz.prog g (sD x :: caps.map .one) [bD (p x)]) : FC Tryz.prog 147 [.one (strS xs), .one (.fn g caps)] [bD (xs.any p)] := by
 refine FC_of Tryz.call147 Tryz.func147 rfl (by kernel_rfl) (by simp only [rd, List.map_cons, List.map_nil, List.length_cons, List.length_nil, Tryz.ntmps147]; omega) ?_
 simp -implicitDefEqProofs only [go_sem, Tryz.results147]
 refine callF (indexFuncStr_c xs p g caps H) (by simp -implicitDefEqProofs only [go_sem]) ?_
 simp -implicitDefEqProofs only [go_sem]
 rw [idxP_any]
end Go.Proofs.YtbccfiillleimaaGreat
namespace Go.Proofs.YtbccfiillleimaaGreat
set_option linter.unusedSimpArgs false
set_option linter.unusedVariables false
set_option linter.unusedSectionVars false
set_option maxRecDepth 4000
open Go.RowKit
noncomputable def expOk (e : Ex) (pos : Bool) : Bool := decide (e.nodes ≤ 60) && e.form.good && (nodeI e pos []).1 && !((nodeI e pos []).2.any fun n => (putSs [] (vf e.form [])).contains n)
theorem isValidExp1_c (V : List Str) (s : Str) : FC Tryz.prog 148 [sD s, .one (.ptr [strS V])] [bD (V.contains s)] := by
 have H := containsStr_c V s
 refine FC_of Tryz.call148 Tryz.func148 rfl (by kernel_rfl) (by simp only [rd, List.map_cons, List.map_nil, List.length_cons, List.length_nil, Tryz.ntmps148]; omega) ?_
 simp -implicitDefEqProofs only [go_sem, Tryz.results148]
 refine callF (H) (by simp -implicitDefEqProofs only [go_sem]) ?_
 simp -implicitDefEqProofs only [go_sem]
theorem isValidExpansion_c (e : Ex) (he : e.wt ≤ 1048576) (pos : Bool) : FC Tryz.prog 87 [exD e, bD pos] [bD (expOk e pos)] := by
 have hv : expOk e pos = (decide (e.nodes ≤ 60) && e.form.good && (nodeI e pos []).1 && !((nodeI e pos []).2.any fun n => (putSs [] (vf e.form [])).contains n)) := rfl
 have HN := nodesOf_c e (by omega)
 have hs := sizeE_le e
 have hfw := form_wt e
 have HG := isValidFormula_c e.form (by omega)
 simp only [exD, exC_eq, fmD, fmC_eq] at HN HG ⊢
 cases hn : decide (e.nodes ≤ 60)
 ·have hs2 : decide (60 < sizeE e) = true := by rw [hn] at hs; rw [decide_eq_true_eq]; rw [decide_eq_false_iff_not] at hs; omega
  rw [hn, Bool.false_and, Bool.false_and, Bool.false_and] at hv
  rw [hv]
  refine FC_ofN Tryz.call87 Tryz.func87 rfl (by kernel_rfl) (by simp only [rd, List.map_cons, List.map_nil, List.length_cons, List.length_nil, Tryz.ntmps87]; omega) ?_
  simp -implicitDefEqProofs only [go_sem, Tryz.results87]
  refine callF (HN) (by simp -implicitDefEqProofs only [go_sem, hs2]) ?_
  simp -implicitDefEqProofs only [go_sem, hs2]
 ·have hs2 : decide (60 < sizeE e) = false := by rw [hn] at hs; rw [decide_eq_false_iff_not]; rw [decide_eq_true_eq] at hs; omega
  cases hg : e.form.good
  ·rw [hn, hg, Bool.true_and, Bool.false_and, Bool.false_and] at hv
   rw [hv]
   rw [hg] at HG
   refine FC_ofN Tryz.call87 Tryz.func87 rfl (by kernel_rfl) (by simp only [rd, List.map_cons, List.map_nil, List.length_cons, List.length_nil, Tryz.ntmps87]; omega) ?_
   simp -implicitDefEqProofs only [go_sem, Tryz.results87]
   refine callF (HN) (by simp -implicitDefEqProofs only [go_sem, hs2]) ?_
   simp -implicitDefEqProofs only [go_sem, hs2]
   refine callF (HG) (by simp -implicitDefEqProofs only [go_sem]) ?_
   simp -implicitDefEqProofs only [go_sem]
  ·rw [hn, hg, Bool.true_and, Bool.true_and] at hv
   rw [hg] at HG
   have HF := free_c e.form (gforms' hg) (by omega)
   have hen := enodes_wt e
   have HI := node_c e he (gforms' hg) pos [] (by simp only [List.length_nil]; omega)
   unfold nodeP at HI
   generalize (nodeI e pos []).1 = b at hv HI
   generalize (nodeI e pos []).2 = E at hv HI
   generalize putSs [] (vf e.form []) = V at hv HF
   have HA := containsFuncStr_c E (fun s => V.contains s) 148 [.ptr [strS V]] fun s _ => isValidExp1_c V s
   simp only [exD, exC_eq, fmD, fmC_eq, List.map_nil] at HI HF
   refine FC_ofN Tryz.call87 Tryz.func87 rfl (by kernel_rfl) (by simp only [rd, List.map_cons, List.map_nil, List.length_cons, List.length_nil, Tryz.ntmps87]; omega) ?_
   simp -implicitDefEqProofs only [go_sem, Tryz.results87]
   refine callF (HN) (by simp -implicitDefEqProofs only [go_sem, hs2]) ?_
   simp -implicitDefEqProofs only [go_sem, hs2]
   refine callF (HG) (by simp -implicitDefEqProofs only [go_sem]) ?_
   simp -implicitDefEqProofs only [go_sem]
   refine callFr (HF) (by simp -implicitDefEqProofs only [go_sem]) ?_
   simp -implicitDefEqProofs only [go_sem]
   refine callPL [4, 5, 6] [21, 22, 23] [17] [] (HI) (by decide) rfl (by simp -implicitDefEqProofs only [go_sem]) (by simp -implicitDefEqProofs only [go_sem]) (by simp -implicitDefEqProofs only [go_sem]) (by simp -implicitDefEqProofs only [go_sem]) ?_
   simp -implicitDefEqProofs only [go_sem]
   refine ⟨fun hb => ?_, fun hb => Or.inl (by rw [hv, hb]; rfl)⟩
   refine callF (HA) (by simp -implicitDefEqProofs only [go_sem]) ?_
   simp -implicitDefEqProofs only [go_sem]
   exact Or.inl (by rw [hv, hb]; rfl)
end Go.Proofs.YtbccfiillleimaaGreat
namespace Go.Proofs.YtbccfiillleimaaGreat
set_option linter.unusedSimpArgs false
set_option linter.unusedVariables false
set_option linter.unusedSectionVars false
set_option maxRecDepth 4000
open Go.RowKit
theorem put_nodes (n : Str) (t : Tm) : ∀ f : Fm, f.forms = true → (putF n t f).2 = true → (putF n t f).1.nodes = f.nodes := fm_ind fun o a v ps ih hf h => by
 have hP := putF_eq n t (.mk o a v ps)
 have hf0 := hf
 rw [Fm.forms_eq, Bool.and_eq_true] at hf0
 obtain ⟨hh, hps⟩ := hf0
 have hps : ∀ x ∈ ps, x.forms = true := List.all_eq_true.1 hps
 cases h3 : o == 3
 ·rw [hP] at h ⊢
  change (if (o == 3) = true then _ else if (isQ o && _) = true then _ else if (isQ o && _) = true then _ else (Fm.mk o (.mk [] []) v ((ps.takeWhile fun x => (putF n t x).2).map fun x => (putF n t x).1), ps.all fun x => (putF n t x).2) : Fm × Bool).2 = true at h
  change (if (o == 3) = true then _ else if (isQ o && _) = true then _ else if (isQ o && _) = true then _ else (Fm.mk o (.mk [] []) v ((ps.takeWhile fun x => (putF n t x).2).map fun x => (putF n t x).1), ps.all fun x => (putF n t x).2) : Fm × Bool).1.nodes = _
  rw [h3, if_neg (by simp)] at h ⊢
  split
  ·rfl
  ·rename_i h1
   rw [if_neg h1] at h
   split
   ·rename_i h2
    rw [if_pos h2] at h; cases h
   ·rename_i h2
    rw [if_neg h2] at h
    have h1 : (ps.all fun x => (putF n t x).2) = true := h
    have hA := List.all_eq_true.1 h1
    have hw : (ps.takeWhile fun x => (putF n t x).2) = ps := by
     have := (takeW_at (l := ps) (p := fun x => (putF n t x).2) (k := ps.length) (Nat.le_refl _) (by rw [List.take_length]; exact hA) fun h => absurd h (Nat.lt_irrefl _)).1
     rw [this, List.take_length]
    rw [hw]
    show (Fm.mk o (.mk [] []) v (ps.map fun x => (putF n t x).1)).nodes = _
    rw [Fm.nodes_eq, Fm.nodes_eq]
    show 1 + ((ps.map fun x => (putF n t x).1).map Fm.nodes).sum = 1 + (ps.map Fm.nodes).sum
    rw [List.map_map]
    show 1 + (ps.map fun x => (putF n t x).1.nodes).sum = _
    rw [List.map_congr_left (g := Fm.nodes) fun x hx => ih x hx (hps x hx) (hA x hx)]
 ·have ho3 : o = 3 := by simpa using h3
  obtain ⟨_, hp⟩ := here_atom (f := .mk o a v ps) hh ho3
  have hp : ps = [] := hp
  rw [hP]
  change (if (o == 3) = true then (Fm.mk o (putT (bnd n t) a) v [], (putT (bnd n t) a).atomOk) else _ : Fm × Bool).1.nodes = _
  rw [h3, if_pos rfl, hp, Fm.nodes_eq, Fm.nodes_eq]
  rfl
theorem same_comm {α : Type} (a b : α) : same a b = same b a := by
 rw [Bool.eq_iff_iff, same_iff, same_iff]; exact eq_comm
theorem sb_put (n : Str) (t : Tm) (q : Fm) (hq : q.good = true) (hn : varOk n = true) (ht : t.good = true) (g : Fm) : ((sbF n t q).2 && same (sbF n t q).1 g) = ((putF n t q).2 && same g (putF n t q).1) := by
 have htn : t.names = true := ((Bool.and_eq_true _ _).mp ht).2
 have hqf := gforms' hq
 have h1 := sub_good n t hn htn q hqf
 have h2 := sub_put n t hn htn q hqf
 unfold sbF
 rw [hq, hn, ht]
 simp only [Bool.and_self, Bool.true_and]
 rw [h1]
 cases hp : (putF n t q).2
 ·simp only [Bool.false_and, Bool.false_eq_true, if_false]
 ·have hpf := put_forms n t q hqf hp
  have hpg : (putF n t q).1.good = true := by
   unfold Fm.good at hq ⊢
   rw [Bool.and_eq_true, decide_eq_true_eq] at hq ⊢
   rw [put_nodes n t q hqf hp]
   exact ⟨hq.1, hpf⟩
  rw [hpg]
  simp only [Bool.and_self, if_true, Bool.true_and]
  rw [h2.2 hp hpf, same_comm]
theorem good_part {f q : Fm} (h : f.good = true) (hm : q ∈ f.parts) : q.good = true := by
 unfold Fm.good at h ⊢
 rw [Bool.and_eq_true, decide_eq_true_eq] at h ⊢
 have hp := part_nodes hm
 have := h.2
 rw [Fm.forms_eq, Bool.and_eq_true] at this
 exact ⟨by omega, List.all_eq_true.1 this.2 q hm⟩
theorem runL_spec : ∀ (L : List (Bool × (List Str → Bool × List Str))) (S : List (Bool × List Str)) (hl : L.length = S.length) (E : List Str), E.Nodup → (∀ i (h : i < L.length), L[i].1 = true → ∀ E : List Str, E.Nodup → ((L[i].2 E).1 = true ↔ (S[i]'(by omega)).1 = true ∧ (E ++ (S[i]'(by omega)).2).Nodup) ∧ ((L[i].2 E).1 = true → (L[i].2 E).2 = E ++ (S[i]'(by omega)).2)) →
  ((runL L E).1 = true ↔ (∀ i (h : i < L.length), L[i].1 = true ∧ (S[i]'(by omega)).1 = true) ∧ (E ++ (S.map Prod.snd).flatten).Nodup) ∧ ((runL L E).1 = true → (runL L E).2 = E ++ (S.map Prod.snd).flatten)
 | [], [], _, E, hE, _ => ⟨⟨fun _ => ⟨fun i h => by simp at h, by simpa using hE⟩, fun _ => rfl⟩, fun _ => by simp [runL]⟩
 | [], _ :: _, hl, _, _, _ => by simp at hl
 | _ :: _, [], hl, _, _, _ => by simp at hl
 | (c, g) :: L, (s, N) :: S, hl, E, hE, h => by
  have hl' : L.length = S.length := by simpa using hl
  cases hc : c
  ·have : runL ((false, g) :: L) E = (false, E) := rfl
   rw [this]
   refine ⟨⟨fun h => (by cases h), fun h => ?_⟩, fun h => (by cases h)⟩
   have := (h.1 0 (by simp)).1
   cases this
  ·subst hc
   obtain ⟨k1, k2⟩ := h 0 (by simp) rfl E hE
   have k1 : (g E).1 = true ↔ s = true ∧ (E ++ N).Nodup := k1
   have k2 : (g E).1 = true → (g E).2 = E ++ N := k2
   cases hg : (g E).1
   ·have e0 : runL ((true, g) :: L) E = (false, (g E).2) := by unfold runL; rw [if_pos rfl, hg, if_neg (by simp)]
    rw [e0]
    rw [hg] at k1
    refine ⟨⟨fun h => (by cases h), fun h => ?_⟩, fun h => (by cases h)⟩
    have h1 := (h.1 0 (by simp)).2
    have h2 : (E ++ N).Nodup := by
     have := h.2
     rw [List.map_cons, List.flatten_cons, ← List.append_assoc] at this
     exact (List.nodup_append.1 this).1
    exact (by have := k1.2 ⟨h1, h2⟩; cases this)
   ·have e0 : runL ((true, g) :: L) E = runL L (g E).2 := by unfold runL; rw [if_pos rfl, hg, if_pos rfl]; cases L <;> rfl
    rw [e0, k2 hg]
    obtain ⟨s1, n1⟩ := k1.1 hg
    obtain ⟨r1, r2⟩ := runL_spec L S hl' (E ++ N) n1 fun i hi hci E hE => by
     have := h (i + 1) (by simpa using hi) (by simpa using hci) E hE
     simpa using this
    rw [List.map_cons, List.flatten_cons, ← List.append_assoc]
    refine ⟨r1.trans ⟨fun ⟨a, b⟩ => ⟨fun i hi => ?_, b⟩, fun ⟨a, b⟩ => ⟨fun i hi => ?_, b⟩⟩, r2⟩
    ·cases i with
     | zero => exact ⟨rfl, s1⟩
     | succ i => exact a i (by simpa using hi)
    ·exact a (i + 1) (by simpa using hi)
end Go.Proofs.YtbccfiillleimaaGreat
namespace Go.Proofs.YtbccfiillleimaaGreat
set_option linter.unusedSimpArgs false
set_option linter.unusedVariables false
set_option linter.unusedSectionVars false
set_option maxRecDepth 4000
open Go.RowKit
theorem all_iff {ps : List Ex} (t : Nat → Ex → Bool) (s : Nat → Ex → Bool) : (ps.mapIdx fun i p => (t i p && s i p)).all id = true ↔ ∀ i (h : i < ps.length), t i ps[i] = true ∧ s i ps[i] = true := by
 rw [List.all_eq_true]
 constructor
 ·intro h i hi
  have := h _ (List.getElem_mem (l := ps.mapIdx fun i p => (t i p && s i p)) (n := i) (by simpa using hi))
  simpa only [List.getElem_mapIdx, id, Bool.and_eq_true] using this
 ·intro h x hx
  obtain ⟨i, hi, rfl⟩ := List.getElem_of_mem hx
  have hi' : i < ps.length := by simpa using hi
  simp only [List.getElem_mapIdx, id, Bool.and_eq_true]
  exact h i hi'
theorem parts_spec (ps : List Ex) (t : Nat → Ex → Bool) (sg : Nat → Bool) (ih : ∀ i (h : i < ps.length), t i ps[i] = true → ∀ E : List Str, E.Nodup → ((nodeI ps[i] (sg i) E).1 = true ↔ nodeS ps[i] (sg i) = true ∧ (E ++ namesS ps[i] (sg i)).Nodup) ∧ ((nodeI ps[i] (sg i) E).1 = true → (nodeI ps[i] (sg i) E).2 = E ++ namesS ps[i] (sg i))) (E : List Str) (hE : E.Nodup) :
  ((runL (ps.mapIdx fun i p => (t i p, nodeI p (sg i))) E).1 = true ↔ (ps.mapIdx fun i p => (t i p && nodeS p (sg i))).all id = true ∧ (E ++ (ps.mapIdx fun i p => namesS p (sg i)).flatten).Nodup) ∧ ((runL (ps.mapIdx fun i p => (t i p, nodeI p (sg i))) E).1 = true → (runL (ps.mapIdx fun i p => (t i p, nodeI p (sg i))) E).2 = E ++ (ps.mapIdx fun i p => namesS p (sg i)).flatten) := by
 have h := runL_spec (ps.mapIdx fun i p => (t i p, nodeI p (sg i))) (ps.mapIdx fun i p => (nodeS p (sg i), namesS p (sg i))) (by simp) E hE fun i hi hc E hE => by
  have hi' : i < ps.length := by simpa using hi
  simp only [List.getElem_mapIdx] at hc ⊢
  exact ih i hi' hc E hE
 have em : (ps.mapIdx fun i p => (nodeS p (sg i), namesS p (sg i))).map Prod.snd = ps.mapIdx fun i p => namesS p (sg i) := by
  refine List.ext_getElem? fun i => ?_
  simp only [List.getElem?_map, List.getElem?_mapIdx, Option.map_map, Function.comp_def]
 rw [em] at h
 refine ⟨h.1.trans (and_congr_left fun _ => ?_), h.2⟩
 rw [all_iff]
 constructor
 ·intro a i hi
  have := a i (by simpa using hi)
  simpa only [List.getElem_mapIdx] using this
 ·intro a i hi
  have := a i (by simpa using hi)
  simpa only [List.getElem_mapIdx] using this
theorem node_spec : ∀ e : Ex, e.form.good = true → ∀ pos (E : List Str), E.Nodup → ((nodeI e pos E).1 = true ↔ nodeS e pos = true ∧ (E ++ namesS e pos).Nodup) ∧ ((nodeI e pos E).1 = true → (nodeI e pos E).2 = E ++ namesS e pos) := ex_ind fun f ts ps ih hg pos E hE => by
 rw [nodeI_eq, nodeS_eq, namesS_eq]
 have hg : f.good = true := hg
 have eF : (Ex.mk f ts ps).form = f := rfl
 have eT : (Ex.mk f ts ps).terms = ts := rfl
 have eP : (Ex.mk f ts ps).parts = ps := rfl
 simp only [eF, eT, eP]
 cases hq : isQ f.op
 ·have hst : strongE f pos = false := by unfold strongE; rw [hq]; rfl
  rw [hst]
  simp only [Bool.false_eq_true, if_false, List.nil_append]
  by_cases hc : ts.length = 0 ∧ ps.length = f.parts.length
  ·rw [if_pos hc]
   have h := parts_spec ps (tstN f) (fun i => sgn f i pos) (fun i hi ht E hE => ih ps[i] (List.getElem_mem hi) (by
    have hif : i < f.parts.length := by omega
    unfold tstN at ht
    rw [getD_eq hif] at ht
    rw [← same_iff.1 ht]
    exact good_part hg (List.getElem_mem hif)) _ E hE) E hE
   rw [show decide (ts.length = 0) = true by simp [hc.1], show decide (ps.length = f.parts.length) = true by simp [hc.2], Bool.true_and, Bool.true_and]
   have e1 : (fun (i : Nat) (p : Ex) => (same p.form (f.parts.getD i (mkF 0 [])) && nodeS p (sgn f i pos))) = fun i p => (tstN f i p && nodeS p (sgn f i pos)) := by
    funext i p; unfold tstN; rw [same_comm]
   rw [e1]
   exact h
  ·rw [if_neg hc]
   refine ⟨⟨fun h => (by cases h), fun h => ?_⟩, fun h => (by cases h)⟩
   have h := h.1
   simp only [Bool.and_eq_true, decide_eq_true_eq] at h
   exact absurd h.1 hc
 ·obtain ⟨q, hp, hqf⟩ := q_parts hq (gforms' hg)
  have hqg : q.good = true := good_part hg (by rw [hp]; simp)
  have hvar : varOk f.var = true := by
   have := gforms' hg
   rw [Fm.forms_eq, Bool.and_eq_true] at this
   exact here_q this.1 hq
  have esg : (fun (i : Nat) (p : Ex) => namesS p (sgn f i pos)) = fun i p => namesS p pos := by funext i p; rw [sgn_q hq]
  have hse : strongE f pos = ((f.op == 8) == pos) := by unfold strongE; rw [hq, Bool.true_and]
  simp only [if_true]
  rw [esg]
  have core : TOk ts → ts.length = ps.length → ∀ E1 : List Str, E1.Nodup → ((runL (ps.mapIdx fun i p => (tstQ f ts i p, nodeI p pos)) E1).1 = true ↔ (ps.mapIdx fun i p => (tstS f ts i p && nodeS p pos)).all id = true ∧ (E1 ++ (ps.mapIdx fun i p => namesS p pos).flatten).Nodup) ∧ ((runL (ps.mapIdx fun i p => (tstQ f ts i p, nodeI p pos)) E1).1 = true → (runL (ps.mapIdx fun i p => (tstQ f ts i p, nodeI p pos)) E1).2 = E1 ++ (ps.mapIdx fun i p => namesS p pos).flatten) := fun hT hl E1 hE1 => by
   have et : ∀ i (h : i < ps.length), tstQ f ts i ps[i] = tstS f ts i ps[i] := fun i hi => by
    have hit : i < ts.length := by omega
    obtain ⟨g1, g2⟩ := hT i hit
    have hpq : f.parts.getD 0 (mkF 0 []) = q := by
     have hp : f.parts = [q] := hp
     rw [hp]; rfl
    unfold tstQ tstS
    rw [getD_eq hit, hpq, sb_put f.var ts[i] q hqg hvar g1, g1, g2]
    simp only [Bool.not_false, Bool.and_self, Bool.true_and]
   have em : (ps.mapIdx fun i p => (tstQ f ts i p, nodeI p pos)) = ps.mapIdx fun i p => (tstS f ts i p, nodeI p pos) := by
    refine List.ext_getElem (by simp) fun i h1 h2 => ?_
    simp only [List.getElem_mapIdx]
    rw [et i (by simpa using h1)]
   rw [em]
   refine parts_spec ps (tstS f ts) (fun _ => pos) (fun i hi ht E hE => ih ps[i] (List.getElem_mem hi) ?_ _ E hE) E1 hE1
   have hit : i < ts.length := by omega
   have hpq : f.parts.getD 0 (mkF 0 []) = q := by
    have hp : f.parts = [q] := hp
    rw [hp]; rfl
   unfold tstS at ht
   rw [getD_eq hit, hpq] at ht
   simp only [Bool.and_eq_true] at ht
   rw [same_iff.1 ht.2]
   unfold Fm.good at hqg ⊢
   rw [Bool.and_eq_true, decide_eq_true_eq] at hqg ⊢
   rw [put_nodes _ _ q hqf ht.1.2]
   exact ⟨hqg.1, put_forms _ _ q hqf ht.1.2⟩
  have hTS : ts.length = ps.length → (ps.mapIdx fun i p => (tstS f ts i p && nodeS p pos)).all id = true → TOk ts := fun hl h k hk => by
   have h := (all_iff (tstS f ts) (fun _ p => nodeS p pos)).1 h k (by omega)
   have h := h.1
   unfold tstS at h
   rw [getD_eq hk] at h
   simp only [Bool.and_eq_true, Bool.not_eq_true'] at h
   exact ⟨h.1.1.1, h.1.1.2⟩
  unfold termsI
  simp only [eF, eT, eP]
  cases hd : dec (TOk ts)
  ·rw [if_neg (by simp)]
   simp only [Bool.false_eq_true, if_false, false_iff, false_implies, and_true]
   rintro ⟨h1, _⟩
   simp only [Bool.and_eq_true, decide_eq_true_eq] at h1
   exact dec_no.1 hd (hTS h1.1.1 h1.2)
  ·have hT : TOk ts := dec_iff.1 hd
   rw [if_pos rfl, ← hse]
   cases hst : strongE f pos
   ·simp only [Bool.false_eq_true, if_false, Bool.not_false, Bool.true_or, Bool.and_true, List.nil_append]
    by_cases hl : ps.length = ts.length
    ·have hl' : ts.length = ps.length := hl.symm
     rw [show decide (ps.length = ts.length) = true by simp [hl], show decide (ts.length = ps.length) = true by simp [hl'], if_pos rfl, Bool.true_and]
     exact core hT hl' E hE
    ·rw [show decide (ps.length = ts.length) = false by simp [hl], show decide (ts.length = ps.length) = false by simp; omega]
     simp
   ·simp only [if_true, Bool.not_true, Bool.false_or]
    have hbad : ts.length ≠ 1 → ∀ X : Prop, ¬ ((decide (ts.length = ps.length) && (decide (ts.length = 1) && varOk (ts.getD 0 Tm.zero).name) && (ps.mapIdx fun i p => (tstS f ts i p && nodeS p pos)).all id) = true ∧ X) := fun h X hh => by
     have := hh.1
     simp only [Bool.and_eq_true, decide_eq_true_eq] at this
     exact h this.1.2.1
    match ts, hT, core, hbad with
    | [], _, _, hbad => exact ⟨⟨fun h => (by cases h), fun h => absurd h (hbad (by simp) _)⟩, fun h => (by cases h)⟩
    | _ :: _ :: _, _, _, hbad => exact ⟨⟨fun h => (by cases h), fun h => absurd h (hbad (by simp) _)⟩, fun h => (by cases h)⟩
    | [t], hT, core, _ =>
     have e0 : ([t].getD 0 Tm.zero) = t := rfl
     simp only [e0, List.length_singleton, decide_true, Bool.true_and]
     cases hv : varOk t.name
     ·simp only [Bool.false_and, Bool.false_eq_true, if_false, Bool.and_false, false_and, iff_false, not_false_eq_true, false_implies, and_self]
     ·cases hcn : E.contains t.name
      ·have hn : t.name ∉ E := fun hm => by rw [List.contains_iff_mem.2 hm] at hcn; cases hcn
       have hE1 : (E ++ [t.name]).Nodup := by
        rw [List.nodup_append]
        refine ⟨hE, by simp, ?_⟩
        rintro a ha b hb rfl
        rw [List.mem_singleton] at hb
        subst hb; exact hn ha
       by_cases hl : ps.length = 1
       ·simp only [Bool.true_and, Bool.not_false, if_true, hl, decide_true, Bool.and_true]
        have := core hT hl.symm (E ++ [t.name]) hE1
        rw [List.append_assoc] at this
        exact this
       ·have hl2 : ¬ 1 = ps.length := fun h => hl h.symm
        simp only [Bool.true_and, Bool.not_false, if_true, hl, hl2, decide_false, Bool.false_eq_true, if_false, Bool.false_and, false_and, iff_false, not_false_eq_true, false_implies, and_self]
      ·simp only [Bool.not_true, Bool.and_false, Bool.false_eq_true, if_false, false_iff, false_implies, and_true]
       rintro ⟨_, h⟩
       have hm : t.name ∈ E := List.contains_iff_mem.1 hcn
       have := (List.nodup_append.1 h).2.2 _ hm t.name (by simp)
       exact this rfl
theorem exp_spec (e : Ex) (pos : Bool) : expOk e pos = specOk e pos := by
 unfold expOk specOk
 cases hg : e.form.good
 ·simp
 ·obtain ⟨h1, h2⟩ := node_spec e hg pos [] List.nodup_nil
  rw [List.nil_append] at h1 h2
  cases hn : decide (e.nodes ≤ 60)
  ·simp
  ·simp only [Bool.true_and]
   rw [Bool.eq_iff_iff, Bool.and_eq_true, Bool.and_eq_true, h1, dec_iff]
   constructor
   ·rintro ⟨⟨a, b⟩, c⟩
    refine ⟨a, b, fun n hn hm => ?_⟩
    rw [h2 (h1.2 ⟨a, b⟩), Bool.not_eq_true', List.any_eq_false] at c
    exact c n hn (List.contains_iff_mem.2 hm)
   ·rintro ⟨a, b, c⟩
    refine ⟨⟨a, b⟩, ?_⟩
    rw [h2 (h1.2 ⟨a, b⟩), Bool.not_eq_true', List.any_eq_false]
    exact fun n hn hm => c n hn (List.contains_iff_mem.1 hm)
end Go.Proofs.YtbccfiillleimaaGreat
namespace Go.Proofs.YtbccfiillleimaaGreat
set_option linter.unusedSimpArgs false
set_option linter.unusedVariables false
set_option linter.unusedSectionVars false
set_option maxRecDepth 4000
open Go.RowKit
theorem map_mapIdx' {α β γ : Type} (f : β → γ) (g : Nat → α → β) (l : List α) : (l.mapIdx g).map f = l.mapIdx fun i a => f (g i a) := List.ext_getElem (by simp) fun i h1 h2 => by simp
theorem nodeS_len {e : Ex} {pos : Bool} (h : nodeS e pos = true) : (isQ e.form.op = true → e.terms.length = e.parts.length) ∧ (isQ e.form.op = false → e.parts.length = e.form.parts.length) := by
 rw [nodeS_eq] at h
 cases hq : isQ e.form.op
 ·rw [hq, if_neg (by simp)] at h
  simp only [Bool.and_eq_true, decide_eq_true_eq] at h
  exact ⟨fun h => (by cases h), fun _ => h.1.2⟩
 ·rw [hq, if_pos rfl] at h
  simp only [Bool.and_eq_true, decide_eq_true_eq] at h
  exact ⟨fun _ => h.1.1, fun h => (by cases h)⟩
theorem strong_one {e : Ex} {pos : Bool} (h : nodeS e pos = true) (hs : strongE e.form pos = true) : e.terms.length = 1 ∧ e.parts.length = 1 := by
 have h1 := (nodeS_parts h).2 hs
 have hq : isQ e.form.op = true := by unfold strongE at hs; rw [Bool.and_eq_true] at hs; exact hs.1
 have : e.terms.length = e.parts.length := by
  rw [nodeS_eq, hq, if_pos rfl] at h
  simp only [Bool.and_eq_true, decide_eq_true_eq] at h
  exact h.1.1
 omega
theorem mapIdx_congr {α β : Type} (ps : List α) (g h : Nat → α → β) (H : ∀ i (hi : i < ps.length), g i ps[i] = h i ps[i]) : ps.mapIdx g = ps.mapIdx h := by
 refine List.ext_getElem (by simp) fun i h1 h2 => ?_
 have hi : i < ps.length := by simpa using h1
 simp only [List.getElem_mapIdx]
 exact H i hi
theorem nodup_inj {α : Type} {l : List α} (h : l.Nodup) {i j : Nat} (hi : i < l.length) (hj : j < l.length) (e : l[i] = l[j]) : i = j := by
 rw [List.nodup_iff_pairwise_ne, List.pairwise_iff_getElem] at h
 rcases Nat.lt_trichotomy i j with h1 | h1 | h1
 ·exact absurd e (h i j hi hj h1)
 ·exact h1
 ·exact absurd e.symm (h j i hj hi h1)
end Go.Proofs.YtbccfiillleimaaGreat
namespace Go.Proofs.YtbccfiillleimaaGreat
set_option linter.unusedSimpArgs false
set_option linter.unusedVariables false
set_option linter.unusedSectionVars false
set_option maxRecDepth 4000
open Go.RowKit
def Ex.zero : Ex := .mk (mkF 0 []) [] []
noncomputable def kx (ts us : List Tm) (i : Nat) : Int := idxP us fun a => same a (ts.getD i Tm.zero)
noncomputable def rst (ts us : List Tm) : List Nat := (List.range us.length).filter fun k => !(ts.any fun a => same a (us.getD k Tm.zero))
noncomputable def mrgJ (f : Fm) (ts : List Tm) (b : Ex) (pos : Bool) (L1 L2 : List (Ex × Bool)) : Ex × Bool :=
  if (isQ f.op && !strongE f pos) = true then
    (if (L2.all fun q => q.2) = true then (.mk f (ts ++ (rst ts b.terms).map fun k => b.terms.getD k Tm.zero) ((L2.map fun q => q.1) ++ (rst ts b.terms).map fun k => b.parts.getD k Ex.zero), true)
     else (.mk f (ts.take (L2.takeWhile fun q => q.2).length) ((L2.takeWhile fun q => q.2).map fun q => q.1), false))
  else if (!decide (ts.length = 0) && !same (ts.getD 0 Tm.zero) (b.terms.getD 0 Tm.zero)) = true then (.mk f [] [], false)
  else (.mk f (ts.take 1) ((L1.takeWhile fun q => q.2).map fun q => q.1), L1.all fun q => q.2)
noncomputable def mrg : Ex → Ex → Bool → Ex × Bool := Ex.fold fun f ts ps rs b pos => mrgJ f ts b pos
 ((ps.zip rs).mapIdx fun i q => q.2 (b.parts.getD i Ex.zero) (sgn f i pos))
 ((ps.zip rs).mapIdx fun i q => if 0 ≤ kx ts b.terms i then q.2 (b.parts.getD (kx ts b.terms i).toNat Ex.zero) pos else (q.1, true))
noncomputable abbrev mrg1 (a b : Ex) (pos : Bool) : List (Ex × Bool) := a.parts.mapIdx fun i p => mrg p (b.parts.getD i Ex.zero) (sgn a.form i pos)
noncomputable abbrev mrg2 (a b : Ex) (pos : Bool) : List (Ex × Bool) := a.parts.mapIdx fun i p => if 0 ≤ kx a.terms b.terms i then mrg p (b.parts.getD (kx a.terms b.terms i).toNat Ex.zero) pos else (p, true)
theorem mrg_eq (a b : Ex) (pos : Bool) : mrg a b pos = mrgJ a.form a.terms b pos (mrg1 a b pos) (mrg2 a b pos) := by
 cases a with
 | mk f ts ps =>
  conv => lhs; unfold mrg; rw [Ex.fold_eq]
  simp only [zip_map]
  rfl
theorem mrg1_len (a b : Ex) (pos : Bool) : (mrg1 a b pos).length = a.parts.length := by simp
theorem mrg2_len (a b : Ex) (pos : Bool) : (mrg2 a b pos).length = a.parts.length := by simp
theorem nodeS_form {e : Ex} {pos : Bool} (h : nodeS e pos = true) (i : Nat) (hi : i < e.parts.length) : e.parts[i].form = if isQ e.form.op = true then (putF e.form.var (e.terms.getD i Tm.zero) (e.form.parts.getD 0 (mkF 0 []))).1 else e.form.parts.getD i (mkF 0 []) := by
 rw [nodeS_eq] at h
 cases hq : isQ e.form.op
 ·rw [hq, if_neg (by simp), Bool.and_eq_true] at h
  have := (all_iff (ps := e.parts) (fun i p => same p.form (e.form.parts.getD i (mkF 0 []))) (fun i p => nodeS p (sgn e.form i pos))).1 h.2 i hi
  rw [if_neg (by simp)]
  exact same_iff.1 this.1
 ·rw [hq, if_pos rfl, Bool.and_eq_true] at h
  have := (all_iff (ps := e.parts) (fun i p => tstS e.form e.terms i p) (fun i p => nodeS p pos)).1 h.2 i hi
  have h1 := this.1
  unfold tstS at h1
  simp only [Bool.and_eq_true] at h1
  rw [if_pos rfl]
  exact same_iff.1 h1.2
theorem nodeS_once {e : Ex} {pos : Bool} (h : nodeS e pos = true) (hq : isQ e.form.op = true) : e.terms.Nodup := by
 have hl := (nodeS_len h).1 hq
 rw [nodeS_eq, hq, if_pos rfl, Bool.and_eq_true] at h
 rw [List.nodup_iff_pairwise_ne, List.pairwise_iff_getElem]
 intro i j hi hj hij e0
 have := (all_iff (ps := e.parts) (fun i p => tstS e.form e.terms i p) (fun i p => nodeS p pos)).1 h.2 j (by omega)
 have h1 := this.1
 unfold tstS at h1
 simp only [Bool.and_eq_true, Bool.not_eq_true'] at h1
 have h2 := h1.1.1.2
 rw [getD_eq hj, List.any_eq_false] at h2
 exact h2 e.terms[i] (by rw [List.mem_iff_getElem]; exact ⟨i, by rw [List.length_take]; omega, by rw [List.getElem_take]⟩) (by rw [same_iff, e0])
theorem idxP_same {us : List Tm} (hn : us.Nodup) {k : Nat} (hk : k < us.length) : (idxP us fun a => same a us[k]) = (k : Nat) := by
 refine idxP_found hk (fun x hx => same_no.2 fun e => ?_) (same_self _)
 obtain ⟨j, hj, rfl⟩ := List.mem_iff_getElem.1 hx
 rw [List.getElem_take] at e
 have hj2 := hj
 rw [List.length_take] at hj2
 have := nodup_inj hn (by omega) hk e
 omega
theorem idxP_pos {us : List Tm} {t : Tm} {k : Nat} (h : (idxP us fun a => same a t) = (k : Nat)) : ∃ hk : k < us.length, us[k] = t := by
 unfold idxP at h
 split at h
 ·rename_i ha
  have h1 : us.findIdx (fun a => same a t) = k := by omega
  have h2 : us.findIdx (fun a => same a t) < us.length := List.findIdx_lt_length.2 (List.any_eq_true.1 ha)
  have h3 := List.findIdx_getElem (w := h2)
  subst h1
  exact ⟨h2, same_iff.1 h3⟩
 ·omega
theorem kx_pos {ts us : List Tm} {i : Nat} (hi : i < ts.length) (h : 0 ≤ kx ts us i) : ∃ hk : (kx ts us i).toNat < us.length, us[(kx ts us i).toNat] = ts[i] := by
 unfold kx at h ⊢
 rw [getD_eq hi] at h ⊢
 exact idxP_pos (by omega)
end Go.Proofs.YtbccfiillleimaaGreat
namespace Go.Proofs.YtbccfiillleimaaGreat
set_option linter.unusedSimpArgs false
set_option linter.unusedVariables false
set_option linter.unusedSectionVars false
set_option maxRecDepth 4000
open Go.RowKit
theorem strongE_q {f : Fm} {pos : Bool} (hq : isQ f.op = true) : strongE f pos = ((f.op == 8) == pos) := by unfold strongE; rw [hq, Bool.true_and]
theorem specOk_node {e : Ex} {pos : Bool} (h : specOk e pos = true) : e.form.good = true ∧ nodeS e pos = true ∧ e.nodes ≤ 60 := by
 unfold specOk at h
 simp only [Bool.and_eq_true, decide_eq_true_eq] at h
 exact ⟨h.1.1.1, h.1.2, h.1.1.2⟩
end Go.Proofs.YtbccfiillleimaaGreat
namespace Go.Proofs.YtbccfiillleimaaGreat
set_option linter.unusedSimpArgs false
set_option linter.unusedVariables false
set_option linter.unusedSectionVars false
set_option maxRecDepth 4000
open Go.RowKit
set_option maxHeartbeats 1000000 in
theorem copyExpansion_of (e : Ex) (he : e.wt ≤ 1048576) (H : ∀ p ∈ e.parts, FC Tryz.prog 106 [exD p] [exD p]) : FC Tryz.prog 106 [exD e] [exD e] := by
 have hW := e.wt_eq
 have HF := copyFormula_c e.form (by omega)
 have HT := copyTerms_c e.terms (by omega)
 simp only [exD, exC_eq e, fmD, fmC_eq e.form] at HF ⊢
 refine FC_of Tryz.call106 Tryz.func106 rfl (by kernel_rfl) (by simp only [rd, List.map_cons, List.map_nil, List.length_cons, List.length_nil, Tryz.ntmps106]; omega) ?_
 simp -implicitDefEqProofs only [go_sem, Tryz.results106]
 refine drawn (by kernel_rfl) ?_
 simp -implicitDefEqProofs only [go_sem]
 refine dCallF (HF) (by simp -implicitDefEqProofs only [go_sem]) ?_
 simp -implicitDefEqProofs only [go_sem]
 refine dCallF (HT) (by simp -implicitDefEqProofs only [go_sem]) ?_
 simp -implicitDefEqProofs only [go_sem]
 refine ⟨by kernel_rfl, ?_⟩
 refine loop_rule (fun k : Nat => hd [(2, .one (.bx 2 0)), (3, .one (.bx 3 0)), (14, vT (exS e.parts)), (15, vI e.parts.length), (16, vI k)] [(2, [.t (.int .i64 0), .t (.str []), .nl 2, .t (.str []), .nl 5, .nl 2, .nl 7]), (3, [.t (.int .i64 e.form.op), .t (.str e.form.atom.name), .ow 258 0, .t (.str e.form.var), .ow 260 0, .ow 352 0, .ow 3000 0])]
  [(258, ⟨true, 2, e.form.atom.args.map tmC, 0, true⟩), (260, ⟨true, 5, e.form.parts.map fmC, 0, true⟩), (352, ⟨true, 2, e.terms.map tmC, 0, true⟩), (3000, ⟨true, 7, (e.parts.take k).map exC, 0, true⟩)]) (fun k => k ≤ e.parts.length) (fun k => e.parts.length - k) 0 (weak_hd ?_) (Nat.zero_le _) ?_
 ·simp -implicitDefEqProofs only [go_sem]
 ·intro k hk
  by_cases hlt : k < e.parts.length
  ·have hmin : min k e.parts.length ≤ 4294967295 := by omega
   have HC := H e.parts[k] (List.getElem_mem hlt)
   simp only [exD, exC_eq e.parts[k]] at HC
   simp -implicitDefEqProofs only [go_sem, hlt, getD_at, exC_eq e.parts[k]]
   refine drawn (by kernel_rfl) ?_
   simp -implicitDefEqProofs only [go_sem]
   refine dCallF (HC) (by simp -implicitDefEqProofs only [go_sem]) ?_
   simp -implicitDefEqProofs only [go_sem]
   refine dBuildDc (by simp -implicitDefEqProofs only [go_sem]) ?_
   simp -implicitDefEqProofs only [go_sem]
   refine dApD true (by simp -implicitDefEqProofs only [go_sem, ne_eq, List.length_map, List.length_take, hmin]) ?_
   simp -implicitDefEqProofs only [go_sem, ne_eq, List.length_map, List.length_take, hmin]
   refine ⟨by kernel_rfl, k + 1, hlt, by omega, weak_hd ?_⟩
   simp -implicitDefEqProofs only [go_sem]
   rw [wrap_s (by omega), List.take_succ_eq_append_getElem hlt, List.map_append, List.map_singleton, exC_eq e.parts[k]]
   exact ⟨rfl, rfl⟩
  ·have ht : e.parts.take k = e.parts := List.take_of_length_le (by omega)
   simp -implicitDefEqProofs only [go_sem, hlt, ht]
theorem copyExpansion_c : ∀ e : Ex, e.wt ≤ 1048576 → FC Tryz.prog 106 [exD e] [exD e] :=
 ex_ind fun f ts ps ih he => copyExpansion_of (.mk f ts ps) he fun p hp => ih p hp (Nat.le_trans (eparts_wt (a := .mk f ts ps) hp) he)
set_option maxHeartbeats 1000000 in
theorem l17Own_of (e : Ex) (he : e.wt ≤ 1048576) (H : ∀ p ∈ e.parts, FC Tryz.prog 104 [exD p] [exD p]) : FC Tryz.prog 104 [exD e] [exD e] := by
 have hW := e.wt_eq
 have hTW : tmsW e.terms = e.terms.length + (e.terms.map Tm.wt).sum := rfl
 have HF := l8Own_c e.form (by omega)
 simp only [exD, exC_eq e, fmD, fmC_eq e.form] at HF ⊢
 refine FC_of Tryz.call104 Tryz.func104 rfl (by kernel_rfl) (by simp only [rd, List.map_cons, List.map_nil, List.length_cons, List.length_nil, Tryz.ntmps104]; omega) ?_
 simp -implicitDefEqProofs only [go_sem, Tryz.results104]
 refine callF (HF) (by simp -implicitDefEqProofs only [go_sem]) ?_
 simp -implicitDefEqProofs only [go_sem]
 refine loop_rule (fun k : Nat => hd [(1, .one (.bx 1 0)), (2, .one (.bx 2 0)), (3, .one (.bx 3 0)), (4, vI k)] [(1, [.t (.int .i64 e.form.op), .t (.str e.form.atom.name), .t (tmS e.form.atom.args), .t (.str e.form.var), .t (fmS e.form.parts), .t (tmS e.terms), .t (exS e.parts)]), (2, [.t (.int .i64 0), .t (.str []), .nl 2, .t (.str []), .nl 5, .nl 2, .nl 7]), (3, [.t (.int .i64 e.form.op), .t (.str e.form.atom.name), .ow 258 0, .t (.str e.form.var), .ow 260 0, .ow 3000 0, .nl 7])]
  [(258, ⟨true, 2, e.form.atom.args.map tmC, 0, true⟩), (260, ⟨true, 5, e.form.parts.map fmC, 0, true⟩), (3000, ⟨true, 2, (e.terms.take k).map tmC, 0, true⟩)]) (fun k => k ≤ e.terms.length) (fun k => e.terms.length - k) 0 (weak_hd ?_) (Nat.zero_le _) ?_
 ·simp -implicitDefEqProofs only [go_sem]
 ·intro k hk
  by_cases hlt : k < e.terms.length
  ·have hmin : min k e.terms.length ≤ 4294967295 := by omega
   have hTk := mem_sum Tm.wt e.terms e.terms[k] (List.getElem_mem hlt)
   have HC := l2Own_c e.terms[k] (by omega)
   simp only [tmD, tmC_eq e.terms[k]] at HC
   simp -implicitDefEqProofs only [go_sem, hlt]
   refine drawn (by kernel_rfl) ?_
   simp -implicitDefEqProofs only [go_sem, hlt, getD_at, tmC_eq e.terms[k]]
   refine dCallF (HC) (by simp -implicitDefEqProofs only [go_sem]) ?_
   simp -implicitDefEqProofs only [go_sem]
   refine dBuildDc (by simp -implicitDefEqProofs only [go_sem]) ?_
   simp -implicitDefEqProofs only [go_sem]
   refine dApD true (by simp -implicitDefEqProofs only [go_sem, ne_eq, List.length_map, List.length_take, hmin]) ?_
   simp -implicitDefEqProofs only [go_sem, ne_eq, List.length_map, List.length_take, hmin]
   refine ⟨by kernel_rfl, k + 1, hlt, by omega, weak_hd ?_⟩
   simp -implicitDefEqProofs only [go_sem]
   rw [wrap_s (by omega), List.take_succ_eq_append_getElem hlt, List.map_append, List.map_singleton, tmC_eq e.terms[k]]
   exact ⟨rfl, rfl⟩
  ·have ht : e.terms.take k = e.terms := List.take_of_length_le (by omega)
   simp -implicitDefEqProofs only [go_sem, hlt, ht]
   refine loop_rule (fun k : Nat => hd [(1, .one (.bx 1 0)), (2, .one (.bx 2 0)), (3, .one (.bx 3 0)), (5, vI k)] [(1, [.t (.int .i64 e.form.op), .t (.str e.form.atom.name), .t (tmS e.form.atom.args), .t (.str e.form.var), .t (fmS e.form.parts), .t (tmS e.terms), .t (exS e.parts)]), (2, [.t (.int .i64 0), .t (.str []), .nl 2, .t (.str []), .nl 5, .nl 2, .nl 7]), (3, [.t (.int .i64 e.form.op), .t (.str e.form.atom.name), .ow 258 0, .t (.str e.form.var), .ow 260 0, .ow 3000 0, .ow 3001 0])]
    [(258, ⟨true, 2, e.form.atom.args.map tmC, 0, true⟩), (260, ⟨true, 5, e.form.parts.map fmC, 0, true⟩), (3000, ⟨true, 2, e.terms.map tmC, 0, true⟩), (3001, ⟨true, 7, (e.parts.take k).map exC, 0, true⟩)]) (fun k => k ≤ e.parts.length) (fun k => e.parts.length - k) 0 (weak_hd ?_) (Nat.zero_le _) ?_
   ·simp -implicitDefEqProofs only [go_sem]
   ·intro j hj
    by_cases hlj : j < e.parts.length
    ·have hmin : min j e.parts.length ≤ 4294967295 := by omega
     have HC := H e.parts[j] (List.getElem_mem hlj)
     simp only [exD, exC_eq e.parts[j]] at HC
     simp -implicitDefEqProofs only [go_sem, hlj]
     refine drawn (by kernel_rfl) ?_
     simp -implicitDefEqProofs only [go_sem, hlj, getD_at, exC_eq e.parts[j]]
     refine dCallF (HC) (by simp -implicitDefEqProofs only [go_sem]) ?_
     simp -implicitDefEqProofs only [go_sem]
     refine dBuildDc (by simp -implicitDefEqProofs only [go_sem]) ?_
     simp -implicitDefEqProofs only [go_sem]
     refine dApD true (by simp -implicitDefEqProofs only [go_sem, ne_eq, List.length_map, List.length_take, hmin]) ?_
     simp -implicitDefEqProofs only [go_sem, ne_eq, List.length_map, List.length_take, hmin]
     refine ⟨by kernel_rfl, j + 1, hlj, by omega, weak_hd ?_⟩
     simp -implicitDefEqProofs only [go_sem]
     rw [wrap_s (by omega), List.take_succ_eq_append_getElem hlj, List.map_append, List.map_singleton, exC_eq e.parts[j]]
     exact ⟨rfl, rfl⟩
    ·have ht : e.parts.take j = e.parts := List.take_of_length_le (by omega)
     simp -implicitDefEqProofs only [go_sem, hlj, ht]
theorem l17Own_c : ∀ e : Ex, e.wt ≤ 1048576 → FC Tryz.prog 104 [exD e] [exD e] :=
 ex_ind fun f ts ps ih he => l17Own_of (.mk f ts ps) he fun p hp => ih p hp (Nat.le_trans (eparts_wt (a := .mk f ts ps) hp) he)
end Go.Proofs.YtbccfiillleimaaGreat
namespace Go.Proofs.YtbccfiillleimaaGreat
set_option linter.unusedSimpArgs false
set_option linter.unusedVariables false
set_option linter.unusedSectionVars false
set_option maxRecDepth 4000
open Go.RowKit
theorem tw_at {α : Type} (p : α → Bool) : ∀ (L : List α) (k : Nat) (hk : k < L.length), (∀ j (h : j < k), p (L[j]'(by omega)) = true) → p L[k] = false → L.takeWhile p = L.take k
 | [], _, hk, _, _ => by simp at hk
 | x :: L, 0, _, _, h => by
  have h : p x = false := h
  rw [List.takeWhile_cons, h]; rfl
 | x :: L, k + 1, hk, H, h => by
  have h0 : p x = true := H 0 (by omega)
  rw [List.takeWhile_cons, h0, List.take_succ_cons]
  simp only [if_true]
  rw [tw_at p L k (by simpa using hk) (fun j hj => by have := H (j + 1) (by omega); simpa using this) (by simpa using h)]
theorem tw_all {α : Type} (p : α → Bool) : ∀ (L : List α), (∀ j (h : j < L.length), p L[j] = true) → L.takeWhile p = L ∧ L.all p = true
 | [], _ => ⟨rfl, rfl⟩
 | x :: L, H => by
  have h0 : p x = true := H 0 (by simp)
  obtain ⟨h1, h2⟩ := tw_all p L fun j hj => by have := H (j + 1) (by simpa using hj); simpa using this
  rw [List.takeWhile_cons, h0, List.all_cons, h0, h1, h2]
  exact ⟨rfl, rfl⟩
theorem all_bad {α : Type} (p : α → Bool) (L : List α) {k : Nat} (hk : k < L.length) (h : p L[k] = false) : L.all p = false := by
 rw [List.all_eq_false]; exact ⟨_, List.getElem_mem hk, by simp [h]⟩
theorem step_all {α : Type} {p : α → Bool} {L : List α} {k : Nat} (H : ∀ j (_ : j < k) (h : j < L.length), p L[j] = true) {hk : k < L.length} (h1 : p L[k] = true) : ∀ j (_ : j < k + 1) (h : j < L.length), p L[j] = true := fun j hj h => by
 by_cases e : j = k
 ·subst e; exact h1
 ·exact H j (by omega) h
theorem node_pair {a b : Ex} {pos : Bool} (ha : nodeS a pos = true) (hb : nodeS b pos = true) (hf : a.form = b.form) (hq : isQ a.form.op = false) : a.parts.length = b.parts.length ∧ ∀ i (h1 : i < a.parts.length) (h2 : i < b.parts.length), a.parts[i].form = b.parts[i].form := by
 have l1 := (nodeS_len ha).2 hq
 have l2 := (nodeS_len hb).2 (hf ▸ hq)
 refine ⟨by rw [l1, l2, hf], fun i h1 h2 => ?_⟩
 rw [nodeS_form ha i h1, nodeS_form hb i h2, if_neg (by rw [hq]; simp), if_neg (by rw [← hf, hq]; simp), hf]
theorem node_term {a b : Ex} {pos : Bool} (ha : nodeS a pos = true) (hb : nodeS b pos = true) (hf : a.form = b.form) (hq : isQ a.form.op = true) {i j : Nat} (h1 : i < a.parts.length) (h2 : j < b.parts.length) (ht : a.terms.getD i Tm.zero = b.terms.getD j Tm.zero) : a.parts[i].form = b.parts[j].form := by
 rw [nodeS_form ha i h1, nodeS_form hb j h2, if_pos hq, if_pos (hf ▸ hq), hf, ht]
theorem rst_succ (ts us : List Tm) (k : Nat) : ((List.range (k + 1)).filter fun k => !(ts.any fun a => same a (us.getD k Tm.zero))) = ((List.range k).filter fun k => !(ts.any fun a => same a (us.getD k Tm.zero))) ++ (if (ts.any fun a => same a (us.getD k Tm.zero)) = true then [] else [k]) := by
 rw [List.range_succ, List.filter_append]
 congr 1
 rw [List.filter_cons]
 split
 ·rw [if_neg (by rename_i h; simpa using h)]; rfl
 ·rw [if_pos (by rename_i h; simpa using h)]; rfl
noncomputable abbrev rstK (ts us : List Tm) (k : Nat) : List Nat := (List.range k).filter fun k => !(ts.any fun a => same a (us.getD k Tm.zero))
abbrev mrgP (p b : Ex) (pos : Bool) : Prop := FC Tryz.prog 109 [exD p, exD b, bD pos] [exD (mrg p b pos).1, bD (mrg p b pos).2]
set_option maxHeartbeats 8000000 in
theorem l17Merge_of (a : Ex) (ha : a.wt ≤ 1048576) (H : ∀ p ∈ a.parts, ∀ b : Ex, b.wt ≤ 1048576 → ∀ pos, nodeS p pos = true → nodeS b pos = true → p.form = b.form → mrgP p b pos) (b : Ex) (hb : b.wt ≤ 1048576) (pos : Bool) (hna : nodeS a pos = true) (hnb : nodeS b pos = true) (hf : a.form = b.form) : mrgP a b pos := by
 have hv := mrg_eq a b pos
 have hWa := a.wt_eq
 have hWb := b.wt_eq
 have hTa : tmsW a.terms = a.terms.length + (a.terms.map Tm.wt).sum := rfl
 have hTb : tmsW b.terms = b.terms.length + (b.terms.map Tm.wt).sum := rfl
 have hL1l := mrg1_len a b pos
 have hL2l := mrg2_len a b pos
 have hL1k : ∀ k (h : k < a.parts.length), (mrg1 a b pos)[k]'(by rw [hL1l]; exact h) = mrg a.parts[k] (b.parts.getD k Ex.zero) (sgn a.form k pos) := fun k h => by simp only [List.getElem_mapIdx]
 have hL2k : ∀ k (h : k < a.parts.length), (mrg2 a b pos)[k]'(by rw [hL2l]; exact h) = if 0 ≤ kx a.terms b.terms k then mrg a.parts[k] (b.parts.getD (kx a.terms b.terms k).toNat Ex.zero) pos else (a.parts[k], true) := fun k h => by simp only [List.getElem_mapIdx]
 have HO := l8Own_c a.form (by omega)
 have HQ := l17Quantifier_c a.form
 have HSt := l17Strong_c a.form pos
 have hse : (isQ a.form.op && ((a.form.op == 8) == pos)) = strongE a.form pos := rfl
 rw [hse] at HSt
 have hpa := (nodeS_parts hna).1
 have hpb := (nodeS_parts hnb).1
 unfold mrgP
 rw [hv]
 generalize hL1 : mrg1 a b pos = L1 at hL1l hL1k ⊢
 generalize hL2 : mrg2 a b pos = L2 at hL2l hL2k ⊢
 have hRR : ∃ R, mrgJ a.form a.terms b pos L1 L2 = R := ⟨_, rfl⟩
 obtain ⟨R, hR⟩ := hRR
 rw [hR]
 simp only [exD, exC_eq a, exC_eq b, exC_eq R.1, fmD, fmC_eq a.form] at HO HQ HSt ⊢
 have hnwq : isQ a.form.op = false → ¬ (isQ a.form.op && !strongE a.form pos) = true := fun h => by rw [h]; simp
 have hnws : strongE a.form pos = true → ¬ (isQ a.form.op && !strongE a.form pos) = true := fun h => by rw [h]; simp
 cases hq : isQ a.form.op
 ·-- no quantifier
  have hnw := hnwq hq
  rw [hq] at HQ
  have ht0 : a.terms.length = 0 := by
   rw [nodeS_eq, hq, if_neg (by simp)] at hna
   simp only [Bool.and_eq_true, decide_eq_true_eq] at hna
   exact hna.1.1
  have htn : a.terms = [] := List.length_eq_zero_iff.1 ht0
  have hsm : ¬ (!decide (a.terms.length = 0) && !same (a.terms.getD 0 Tm.zero) (b.terms.getD 0 Tm.zero)) = true := by rw [ht0]; simp
  obtain ⟨hpl, hfm⟩ := node_pair hna hnb hf hq
  have ht0i : (0 < (a.terms.length : Int)) = False := by rw [ht0]; simp
  have htk1 : a.terms.take 1 = [] := by rw [htn]; rfl
  refine FC_of Tryz.call109 Tryz.func109 rfl (by kernel_rfl) (by simp only [rd, List.map_cons, List.map_nil, List.length_cons, List.length_nil, Tryz.ntmps109]; omega) ?_
  simp -implicitDefEqProofs only [go_sem, Tryz.results109]
  refine callF (HO) (by simp -implicitDefEqProofs only [go_sem]) ?_
  simp -implicitDefEqProofs only [go_sem]
  refine callF (HQ) (by simp -implicitDefEqProofs only [go_sem, ht0i]) ?_
  simp -implicitDefEqProofs only [go_sem, ht0i]
  refine loop_rule (fun k : Nat => hd [(2, vT (.bool pos)), (3, .one (.bx 3 0)), (4, .one (.bx 4 0)), (6, .one (.bx 6 0)), (7, vT (.bool false)), (8, .one (.bx 8 0)), (9, .one (.bx 9 0)), (10, vI k)] [(3, [.t (.int .i64 a.form.op), .t (.str a.form.atom.name), .t (tmS a.form.atom.args), .t (.str a.form.var), .t (fmS a.form.parts), .t (tmS a.terms), .t (exS a.parts)]), (4, [.t (.int .i64 b.form.op), .t (.str b.form.atom.name), .t (tmS b.form.atom.args), .t (.str b.form.var), .t (fmS b.form.parts), .t (tmS b.terms), .t (exS b.parts)]), (6, [.t (.int .i64 0), .t (.str []), .nl 2, .t (.str []), .nl 5, .nl 2, .nl 7]), (8, [.t (.int .i64 a.form.op), .t (.str a.form.atom.name), .t (tmS a.form.atom.args), .t (.str a.form.var), .t (fmS a.form.parts)]), (9, [.t (.int .i64 a.form.op), .t (.str a.form.atom.name), .ow 674 0, .t (.str a.form.var), .ow 676 0, .ow 3000 0, .ow 3001 0])]
   [(674, ⟨true, 2, a.form.atom.args.map tmC, 0, true⟩), (676, ⟨true, 5, a.form.parts.map fmC, 0, true⟩), (3000, ⟨true, 2, (a.terms.take 1).map tmC, 0, true⟩), (3001, ⟨true, 7, (L1.take k).map fun q => exC q.1, 0, true⟩)]) (fun k => k ≤ a.parts.length ∧ ∀ j (_ : j < k) (h : j < L1.length), L1[j].2 = true) (fun k => a.parts.length - k) 0 (weak_hd ?_) ⟨Nat.zero_le _, fun j h => absurd h (by omega)⟩ ?_
  ·simp -implicitDefEqProofs only [go_sem, htk1]
  ·rintro k ⟨hk, hal⟩
   by_cases hlt : k < a.parts.length
   ·have hkb : k < b.parts.length := by omega
    have hkL : k < L1.length := by omega
    have hfk := hfm k hlt hkb
    have hwa := mem_sum Ex.wt a.parts a.parts[k] (List.getElem_mem hlt)
    have hwb := mem_sum Ex.wt b.parts b.parts[k] (List.getElem_mem hkb)
    have HPo := l17Sign_c a.form k pos
    have hsg : (pos != (a.form.op == 4 || (a.form.op == 7 && ((k : Int) == 0)))) = sgn a.form k pos := rfl
    rw [hsg] at HPo
    have HC := H a.parts[k] (List.getElem_mem hlt) b.parts[k] (by omega) (sgn a.form k pos) (hpa k hlt) (by rw [hf]; exact hpb k hkb) hfk
    have hRk := hL1k k hlt
    rw [getD_eq hkb] at hRk
    unfold mrgP at HC
    rw [← hRk] at HC
    have htk : L1.take (k + 1) = L1.take k ++ [L1[k]] := List.take_succ_eq_append_getElem hkL
    generalize hq : L1[k] = q at HC htk hRk
    have hmin : min k L1.length ≤ 4294967295 := by omega
    have hmin2 : min k L1.length + 1 ≤ 4294967296 := by omega
    simp only [fmD, fmC_eq a.form, exD, exC_eq a.parts[k], exC_eq b.parts[k], exC_eq q.1] at HPo HC
    cases hq2 : q.2
    ·rw [hq2] at HC
     have htw := tw_at (fun q : Ex × Bool => q.2) L1 k hkL (fun j h => hal j h (by omega)) (by rw [hq]; exact hq2)
     have hRe : R = (.mk a.form (a.terms.take 1) ((L1.take k).map fun q => q.1), false) := by
      rw [← hR]; unfold mrgJ
      rw [if_neg hnw, if_neg hsm, htw, all_bad (fun q : Ex × Bool => q.2) L1 hkL (by rw [hq]; exact hq2)]
     subst hRe
     simp -implicitDefEqProofs only [go_sem, hlt]
     refine drawn (by kernel_rfl) ?_
     simp -implicitDefEqProofs only [go_sem, hlt, hkb, getD_at, exC_eq a.parts[k], exC_eq b.parts[k]]
     refine dCallF (HPo) (by simp -implicitDefEqProofs only [go_sem]) ?_
     simp -implicitDefEqProofs only [go_sem]
     refine dCallF (HC) (by simp -implicitDefEqProofs only [go_sem]) ?_
     simp -implicitDefEqProofs only [go_sem]
     refine ⟨by kernel_rfl, ?_⟩
     simp [Ex.form, Ex.terms, Ex.parts, Function.comp_def]
    ·rw [hq2] at HC
     simp -implicitDefEqProofs only [go_sem, hlt]
     refine drawn (by kernel_rfl) ?_
     simp -implicitDefEqProofs only [go_sem, hlt, hkb, getD_at, exC_eq a.parts[k], exC_eq b.parts[k]]
     refine dCallF (HPo) (by simp -implicitDefEqProofs only [go_sem]) ?_
     simp -implicitDefEqProofs only [go_sem]
     refine dCallF (HC) (by simp -implicitDefEqProofs only [go_sem]) ?_
     simp -implicitDefEqProofs only [go_sem]
     refine ⟨by kernel_rfl, ?_⟩
     refine buildDc (by simp -implicitDefEqProofs only [go_sem]) ?_
     simp -implicitDefEqProofs only [go_sem]
     refine apD true (by simp -implicitDefEqProofs only [go_sem, ne_eq, List.length_map, List.length_take, hmin, hmin2]) ?_
     simp -implicitDefEqProofs only [go_sem, ne_eq, List.length_map, List.length_take, hmin, hmin2]
     refine ⟨k + 1, ⟨hlt, step_all hal (hk := hkL) (by rw [hq]; exact hq2)⟩, by omega, weak_hd ?_⟩
     simp -implicitDefEqProofs only [go_sem]
     rw [wrap_s (by omega), htk, List.map_append, List.map_singleton, exC_eq q.1]
     exact ⟨rfl, rfl⟩
   ·have ht : L1.take k = L1 := List.take_of_length_le (by omega)
    obtain ⟨w1, w2⟩ := tw_all (fun q : Ex × Bool => q.2) L1 fun j h => hal j (by omega) h
    have hRe : R = (.mk a.form (a.terms.take 1) (L1.map fun q => q.1), true) := by
     rw [← hR]; unfold mrgJ
     rw [if_neg hnw, if_neg hsm, w1, w2]
    subst hRe
    rw [ht]
    simp -implicitDefEqProofs only [go_sem, hlt]
    exact ⟨rfl, rfl, rfl, rfl, rfl, rfl, by simp only [Ex.parts, List.map_map]; rfl⟩
 ·rw [hq] at HQ
  cases hs : strongE a.form pos
  ·-- weak
   rw [hs] at HSt
   have hw : (isQ a.form.op && !strongE a.form pos) = true := by rw [hq, hs]; rfl
   have hla := (nodeS_len hna).1 hq
   have hlb := (nodeS_len hnb).1 (hf ▸ hq)
   have hdb := nodeS_once hnb (hf ▸ hq)
   refine FC_of Tryz.call109 Tryz.func109 rfl (by kernel_rfl) (by simp only [rd, List.map_cons, List.map_nil, List.length_cons, List.length_nil, Tryz.ntmps109]; omega) ?_
   simp -implicitDefEqProofs only [go_sem, Tryz.results109]
   refine callF (HO) (by simp -implicitDefEqProofs only [go_sem]) ?_
   simp -implicitDefEqProofs only [go_sem]
   refine callF (HQ) (by simp -implicitDefEqProofs only [go_sem]) ?_
   simp -implicitDefEqProofs only [go_sem]
   refine callF (HSt) (by simp -implicitDefEqProofs only [go_sem]) ?_
   simp -implicitDefEqProofs only [go_sem]
   refine loop_rule (fun k : Nat => hd [(2, vT (.bool pos)), (3, .one (.bx 3 0)), (4, .one (.bx 4 0)), (6, .one (.bx 6 0)), (7, vT (.bool false)), (8, .one (.bx 8 0)), (9, .one (.bx 9 0)), (13, vI k)] [(3, [.t (.int .i64 a.form.op), .t (.str a.form.atom.name), .t (tmS a.form.atom.args), .t (.str a.form.var), .t (fmS a.form.parts), .t (tmS a.terms), .t (exS a.parts)]), (4, [.t (.int .i64 b.form.op), .t (.str b.form.atom.name), .t (tmS b.form.atom.args), .t (.str b.form.var), .t (fmS b.form.parts), .t (tmS b.terms), .t (exS b.parts)]), (6, [.t (.int .i64 0), .t (.str []), .nl 2, .t (.str []), .nl 5, .nl 2, .nl 7]), (8, [.t (.int .i64 a.form.op), .t (.str a.form.atom.name), .t (tmS a.form.atom.args), .t (.str a.form.var), .t (fmS a.form.parts)]), (9, [.t (.int .i64 a.form.op), .t (.str a.form.atom.name), .ow 674 0, .t (.str a.form.var), .ow 676 0, .ow 3000 0, .ow 3001 0])]
    [(674, ⟨true, 2, a.form.atom.args.map tmC, 0, true⟩), (676, ⟨true, 5, a.form.parts.map fmC, 0, true⟩), (3000, ⟨true, 2, (a.terms.take k).map tmC, 0, true⟩), (3001, ⟨true, 7, (L2.take k).map fun q => exC q.1, 0, true⟩)]) (fun k => k ≤ a.terms.length ∧ ∀ j (_ : j < k) (h : j < L2.length), L2[j].2 = true) (fun k => a.terms.length - k) 0 (weak_hd ?_) ⟨Nat.zero_le _, fun j h => absurd h (by omega)⟩ ?_
   ·simp -implicitDefEqProofs only [go_sem]
   ·rintro k ⟨hk, hal⟩
    by_cases hlt : k < a.terms.length
    ·have hlp : k < a.parts.length := by omega
     have hkL : k < L2.length := by omega
     have hTk := mem_sum Tm.wt a.terms a.terms[k] (List.getElem_mem hlt)
     have hwa := mem_sum Ex.wt a.parts a.parts[k] (List.getElem_mem hlp)
     have HTk := l2Own_c a.terms[k] (by omega)
     have HOk := l17Own_c a.parts[k] (by omega)
     have HIx := l16Index_c b.terms a.terms[k]
     have hkx : (idxP b.terms fun x => same x a.terms[k]) = kx a.terms b.terms k := by unfold kx; rw [getD_eq hlt]
     rw [hkx] at HIx
     have hRk := hL2k k hlp
     have htk : L2.take (k + 1) = L2.take k ++ [L2[k]] := List.take_succ_eq_append_getElem hkL
     have htt : a.terms.take (k + 1) = a.terms.take k ++ [a.terms[k]] := List.take_succ_eq_append_getElem hlt
     have hmin : min k L2.length ≤ 4294967295 := by omega
     have hmin2 : min k L2.length + 1 ≤ 4294967296 := by omega
     have hmt : min k a.terms.length ≤ 4294967295 := by omega
     have hmt2 : min k a.terms.length + 1 ≤ 4294967296 := by omega
     simp only [exD, exC_eq a.parts[k], tmD, tmC_eq a.terms[k]] at HTk HOk HIx
     by_cases h0 : 0 ≤ kx a.terms b.terms k
     ·obtain ⟨hkb, hte⟩ := kx_pos hlt h0
      rw [if_pos h0] at hRk
      obtain ⟨j, hj⟩ : ∃ j : Nat, kx a.terms b.terms k = (j : Int) := ⟨(kx a.terms b.terms k).toNat, by omega⟩
      have hjn : (kx a.terms b.terms k).toNat = j := by omega
      rw [hj] at HIx
      simp only [hjn] at hkb hte hRk
      have hjp : j < b.parts.length := by omega
      have hge : ((0 : Int) ≤ (j : Int)) = True := by simp
      have hwb := mem_sum Ex.wt b.parts b.parts[j] (List.getElem_mem hjp)
      have hpk := hpa k hlp
      have hpj := hpb j hjp
      rw [sgn_q hq] at hpk
      rw [sgn_q (hf ▸ hq)] at hpj
      have HC := H a.parts[k] (List.getElem_mem hlp) b.parts[j] (by omega) pos hpk hpj (node_term hna hnb hf hq hlp hjp (by rw [getD_eq hlt, getD_eq hkb, hte]))
      rw [getD_eq hjp] at hRk
      unfold mrgP at HC
      rw [← hRk] at HC
      generalize hq : L2[k] = q at HC htk hRk
      simp only [exD, exC_eq a.parts[k], exC_eq b.parts[j], exC_eq q.1] at HC
      cases hq2 : q.2
      ·rw [hq2] at HC
       have htw := tw_at (fun q : Ex × Bool => q.2) L2 k hkL (fun j h => hal j h (by omega)) (by rw [hq]; exact hq2)
       have hRe : R = (.mk a.form (a.terms.take k) ((L2.take k).map fun q => q.1), false) := by
        rw [← hR]; unfold mrgJ
        rw [if_pos hw, if_neg (by rw [all_bad (fun q : Ex × Bool => q.2) L2 hkL (by rw [hq]; exact hq2)]; simp), htw, List.length_take, Nat.min_eq_left (by omega)]
       subst hRe
       simp -implicitDefEqProofs only [go_sem, hlt, hlp, getD_at, exC_eq a.parts[k]]
       refine callF (HOk) (by simp -implicitDefEqProofs only [go_sem]) ?_
       simp -implicitDefEqProofs only [go_sem]
       refine drawn (by kernel_rfl) ?_
       simp -implicitDefEqProofs only [go_sem, hlt, getD_at, tmC_eq a.terms[k]]
       refine dCallF (HIx) (by simp -implicitDefEqProofs only [go_sem]) ?_
       simp -implicitDefEqProofs only [go_sem]
       refine ⟨by kernel_rfl, ?_⟩
       refine drawn (by kernel_rfl) ?_
       simp -implicitDefEqProofs only [go_sem, hlp, hjp, getD_at, exC_eq a.parts[k], exC_eq b.parts[j]]
       refine dCallF (HC) (by simp -implicitDefEqProofs only [go_sem]) ?_
       simp -implicitDefEqProofs only [go_sem]
       refine ⟨by kernel_rfl, ?_⟩
       simp [Ex.form, Ex.terms, Ex.parts, Function.comp_def]
      ·rw [hq2] at HC
       have hq2 : (L2[k]'hkL).2 = true := by rw [hq]; exact hq2
       simp -implicitDefEqProofs only [go_sem, hlt, hlp, getD_at, exC_eq a.parts[k]]
       refine callF (HOk) (by simp -implicitDefEqProofs only [go_sem]) ?_
       simp -implicitDefEqProofs only [go_sem]
       refine drawn (by kernel_rfl) ?_
       simp -implicitDefEqProofs only [go_sem, hlt, getD_at, tmC_eq a.terms[k]]
       refine dCallF (HIx) (by simp -implicitDefEqProofs only [go_sem]) ?_
       simp -implicitDefEqProofs only [go_sem]
       refine ⟨by kernel_rfl, ?_⟩
       refine drawn (by kernel_rfl) ?_
       simp -implicitDefEqProofs only [go_sem, hlp, hjp, getD_at, exC_eq a.parts[k], exC_eq b.parts[j]]
       refine dCallF (HC) (by simp -implicitDefEqProofs only [go_sem]) ?_
       simp -implicitDefEqProofs only [go_sem]
       refine ⟨by kernel_rfl, ?_⟩
       refine drawn (by kernel_rfl) ?_
       simp -implicitDefEqProofs only [go_sem, hlt, getD_at, tmC_eq a.terms[k]]
       refine dCallF (HTk) (by simp -implicitDefEqProofs only [go_sem]) ?_
       simp -implicitDefEqProofs only [go_sem]
       refine dBuildDc (by simp -implicitDefEqProofs only [go_sem]) ?_
       simp -implicitDefEqProofs only [go_sem]
       refine dApD true (by simp -implicitDefEqProofs only [go_sem, ne_eq, List.length_map, List.length_take, hmt, hmt2]) ?_
       simp -implicitDefEqProofs only [go_sem, ne_eq, List.length_map, List.length_take, hmt, hmt2]
       refine ⟨by kernel_rfl, ?_⟩
       refine buildDc (by simp -implicitDefEqProofs only [go_sem]) ?_
       simp -implicitDefEqProofs only [go_sem]
       refine apD true (by simp -implicitDefEqProofs only [go_sem, ne_eq, List.length_map, List.length_take, hmin, hmin2]) ?_
       simp -implicitDefEqProofs only [go_sem, ne_eq, List.length_map, List.length_take, hmin, hmin2]
       refine ⟨k + 1, ⟨hlt, step_all hal (hk := hkL) hq2⟩, by omega, weak_hd ?_⟩
       simp -implicitDefEqProofs only [go_sem]
       rw [wrap_s (by omega), htk, htt, List.map_append, List.map_append, List.map_singleton, List.map_singleton, exC_eq q.1, tmC_eq a.terms[k]]
       exact ⟨rfl, rfl, rfl⟩
     ·rw [if_neg h0] at hRk
      have hq : L2[k] = (a.parts[k], true) := hRk
      have hq2 : (L2[k]'hkL).2 = true := by rw [hq]
      generalize kx a.terms b.terms k = x at h0 HIx
      have hge : (0 ≤ x) = False := by simpa using h0
      simp -implicitDefEqProofs only [go_sem, hlt, hlp, getD_at, exC_eq a.parts[k]]
      refine callF (HOk) (by simp -implicitDefEqProofs only [go_sem]) ?_
      simp -implicitDefEqProofs only [go_sem]
      refine drawn (by kernel_rfl) ?_
      simp -implicitDefEqProofs only [go_sem, hlt, getD_at, tmC_eq a.terms[k]]
      refine dCallF (HIx) (by simp -implicitDefEqProofs only [go_sem]) ?_
      simp -implicitDefEqProofs only [go_sem]
      refine ⟨by kernel_rfl, ?_⟩
      simp -implicitDefEqProofs only [go_sem, hge]
      refine drawn (by kernel_rfl) ?_
      simp -implicitDefEqProofs only [go_sem, hlt, getD_at, tmC_eq a.terms[k]]
      refine dCallF (HTk) (by simp -implicitDefEqProofs only [go_sem]) ?_
      simp -implicitDefEqProofs only [go_sem]
      refine dBuildDc (by simp -implicitDefEqProofs only [go_sem]) ?_
      simp -implicitDefEqProofs only [go_sem]
      refine dApD true (by simp -implicitDefEqProofs only [go_sem, ne_eq, List.length_map, List.length_take, hmt, hmt2]) ?_
      simp -implicitDefEqProofs only [go_sem, ne_eq, List.length_map, List.length_take, hmt, hmt2]
      refine ⟨by kernel_rfl, ?_⟩
      refine buildDc (by simp -implicitDefEqProofs only [go_sem]) ?_
      simp -implicitDefEqProofs only [go_sem]
      refine apD true (by simp -implicitDefEqProofs only [go_sem, ne_eq, List.length_map, List.length_take, hmin, hmin2]) ?_
      simp -implicitDefEqProofs only [go_sem, ne_eq, List.length_map, List.length_take, hmin, hmin2]
      refine ⟨k + 1, ⟨hlt, step_all hal (hk := hkL) hq2⟩, by omega, weak_hd ?_⟩
      simp -implicitDefEqProofs only [go_sem]
      rw [wrap_s (by omega), htk, htt, List.map_append, List.map_append, List.map_singleton, List.map_singleton, hq, exC_eq a.parts[k], tmC_eq a.terms[k]]
      exact ⟨rfl, rfl, rfl⟩
    ·have ht : L2.take k = L2 := List.take_of_length_le (by omega)
     have htt : a.terms.take k = a.terms := List.take_of_length_le (by omega)
     obtain ⟨w1, w2⟩ := tw_all (fun q : Ex × Bool => q.2) L2 fun j h => hal j (by omega) h
     have hRe : R = (.mk a.form (a.terms ++ (rst a.terms b.terms).map fun k => b.terms.getD k Tm.zero) ((L2.map fun q => q.1) ++ (rst a.terms b.terms).map fun k => b.parts.getD k Ex.zero), true) := by
      rw [← hR]; unfold mrgJ
      rw [if_pos hw, if_pos w2]
     subst hRe
     rw [ht, htt]
     simp -implicitDefEqProofs only [go_sem, hlt]
     refine loop_rule (fun k : Nat => hd [(2, vT (.bool pos)), (3, .one (.bx 3 0)), (4, .one (.bx 4 0)), (6, .one (.bx 6 0)), (7, vT (.bool false)), (8, .one (.bx 8 0)), (9, .one (.bx 9 0)), (17, vI k)] [(3, [.t (.int .i64 a.form.op), .t (.str a.form.atom.name), .t (tmS a.form.atom.args), .t (.str a.form.var), .t (fmS a.form.parts), .t (tmS a.terms), .t (exS a.parts)]), (4, [.t (.int .i64 b.form.op), .t (.str b.form.atom.name), .t (tmS b.form.atom.args), .t (.str b.form.var), .t (fmS b.form.parts), .t (tmS b.terms), .t (exS b.parts)]), (6, [.t (.int .i64 0), .t (.str []), .nl 2, .t (.str []), .nl 5, .nl 2, .nl 7]), (8, [.t (.int .i64 a.form.op), .t (.str a.form.atom.name), .t (tmS a.form.atom.args), .t (.str a.form.var), .t (fmS a.form.parts)]), (9, [.t (.int .i64 a.form.op), .t (.str a.form.atom.name), .ow 674 0, .t (.str a.form.var), .ow 676 0, .ow 3000 0, .ow 3001 0])]
      [(674, ⟨true, 2, a.form.atom.args.map tmC, 0, true⟩), (676, ⟨true, 5, a.form.parts.map fmC, 0, true⟩), (3000, ⟨true, 2, (a.terms ++ (rstK a.terms b.terms k).map fun k => b.terms.getD k Tm.zero).map tmC, 0, true⟩), (3001, ⟨true, 7, ((L2.map fun q => q.1) ++ (rstK a.terms b.terms k).map fun k => b.parts.getD k Ex.zero).map exC, 0, true⟩)]) (fun k => k ≤ b.terms.length) (fun k => b.terms.length - k) 0 (weak_hd ?_) (Nat.zero_le _) ?_
     ·simp -implicitDefEqProofs only [go_sem, rstK, List.range_zero, List.filter_nil, List.map_nil, List.append_nil, List.map_map, Function.comp_def]
     ·intro i hi
      by_cases hlt2 : i < b.terms.length
      ·have hip : i < b.parts.length := by omega
       have hTi := mem_sum Tm.wt b.terms b.terms[i] (List.getElem_mem hlt2)
       have hwi := mem_sum Ex.wt b.parts b.parts[i] (List.getElem_mem hip)
       have HTi := l2Own_c b.terms[i] (by omega)
       have HOi := l17Own_c b.parts[i] (by omega)
       have HIx := l16Index_c a.terms b.terms[i]
       have hany := idxP_any a.terms fun x => same x b.terms[i]
       have hrs := rst_succ a.terms b.terms i
       have hrl : (rstK a.terms b.terms i).length ≤ i := by
        have := List.length_filter_le (fun k => !(a.terms.any fun x => same x (b.terms.getD k Tm.zero))) (List.range i)
        rw [List.length_range] at this
        exact this
       rw [getD_eq hlt2] at hrs
       generalize (idxP a.terms fun x => same x b.terms[i]) = x at HIx hany
       rw [← hany] at hrs
       generalize hK : rstK a.terms b.terms i = K at hrl hrs ⊢
       have hm1 : a.terms.length + K.length ≤ 4294967295 := by omega
       have hm2 : a.terms.length + K.length + 1 ≤ 4294967296 := by omega
       have hm3 : L2.length + K.length ≤ 4294967295 := by omega
       have hm4 : L2.length + K.length + 1 ≤ 4294967296 := by omega
       have hK' : ((List.range i).filter fun k => !(a.terms.any fun a => same a (b.terms.getD k Tm.zero))) = K := hK
       rw [hK'] at hrs
       have hrs : rstK a.terms b.terms (i + 1) = _ := hrs
       simp only [exD, exC_eq b.parts[i], tmD, tmC_eq b.terms[i]] at HTi HOi HIx
       by_cases h0 : 0 ≤ x
       ·have hx0 : (x < 0) = False := by simp; omega
        rw [decide_eq_true h0, if_pos rfl, List.append_nil] at hrs
        simp -implicitDefEqProofs only [go_sem, hlt2]
        refine drawn (by kernel_rfl) ?_
        simp -implicitDefEqProofs only [go_sem, hlt2, getD_at, tmC_eq b.terms[i]]
        refine dCallF (HIx) (by simp -implicitDefEqProofs only [go_sem, hx0]) ?_
        simp -implicitDefEqProofs only [go_sem, hx0]
        refine ⟨by kernel_rfl, i + 1, hlt2, by omega, weak_hd ?_⟩
        simp -implicitDefEqProofs only [go_sem]
        rw [wrap_s (by omega), hrs]
        exact ⟨rfl, rfl, rfl⟩
       ·have hx0 : (x < 0) = True := by simp; omega
        rw [decide_eq_false h0, if_neg (by simp)] at hrs
        simp -implicitDefEqProofs only [go_sem, hlt2]
        refine drawn (by kernel_rfl) ?_
        simp -implicitDefEqProofs only [go_sem, hlt2, getD_at, tmC_eq b.terms[i]]
        refine dCallF (HIx) (by simp -implicitDefEqProofs only [go_sem, hx0]) ?_
        simp -implicitDefEqProofs only [go_sem, hx0]
        refine ⟨by kernel_rfl, ?_⟩
        refine drawn (by kernel_rfl) ?_
        simp -implicitDefEqProofs only [go_sem, hlt2, getD_at, tmC_eq b.terms[i]]
        refine dCallF (HTi) (by simp -implicitDefEqProofs only [go_sem]) ?_
        simp -implicitDefEqProofs only [go_sem]
        refine dBuildDc (by simp -implicitDefEqProofs only [go_sem]) ?_
        simp -implicitDefEqProofs only [go_sem]
        refine dApD true (by simp -implicitDefEqProofs only [go_sem, ne_eq, List.length_map, List.length_append, hm1, hm2]) ?_
        simp -implicitDefEqProofs only [go_sem, ne_eq, List.length_map, List.length_append, hm1, hm2]
        refine ⟨by kernel_rfl, ?_⟩
        refine drawn (by kernel_rfl) ?_
        simp -implicitDefEqProofs only [go_sem, hip, getD_at, exC_eq b.parts[i]]
        refine dCallF (HOi) (by simp -implicitDefEqProofs only [go_sem]) ?_
        simp -implicitDefEqProofs only [go_sem]
        refine dBuildDc (by simp -implicitDefEqProofs only [go_sem]) ?_
        simp -implicitDefEqProofs only [go_sem]
        refine dApD true (by simp -implicitDefEqProofs only [go_sem, ne_eq, List.length_map, List.length_append, hm3, hm4]) ?_
        simp -implicitDefEqProofs only [go_sem, ne_eq, List.length_map, List.length_append, hm3, hm4]
        refine ⟨by kernel_rfl, i + 1, hlt2, by omega, weak_hd ?_⟩
        simp -implicitDefEqProofs only [go_sem]
        rw [wrap_s (by omega), hrs]
        simp only [List.map_append, List.map_cons, List.map_nil, List.append_assoc, getD_eq hlt2, getD_eq hip, exC_eq b.parts[i], tmC_eq b.terms[i]]
        exact ⟨trivial, trivial, trivial⟩
      ·have hi2 : i = b.terms.length := by omega
       subst hi2
       simp -implicitDefEqProofs only [go_sem, hlt2]
       exact ⟨rfl, rfl, rfl, rfl, rfl, rfl, rfl⟩
  ·-- strong
   have hnw := hnws hs
   rw [hs] at HSt
   obtain ⟨ta, pa⟩ := strong_one hna hs
   obtain ⟨tb, pb⟩ := strong_one hnb (by rw [← hf]; exact hs)
   have ht0 : 0 < a.terms.length := by omega
   have ht0i : (0 < (a.terms.length : Int)) = True := by rw [ta]; simp
   have htb0 : 0 < b.terms.length := by omega
   have htb0i : (0 < (b.terms.length : Int)) = True := by rw [tb]; simp
   have HSm := l2Same_c a.terms[0] b.terms[0]
   have HTo := l2Own_c a.terms[0] (by have := mem_sum Tm.wt a.terms a.terms[0] (List.getElem_mem ht0); omega)
   simp only [tmD, tmC_eq a.terms[0], tmC_eq b.terms[0]] at HSm HTo
   cases hsm0 : same a.terms[0] b.terms[0]
   ·rw [hsm0] at HSm
    have hRe : R = (.mk a.form [] [], false) := by
     rw [← hR]; unfold mrgJ
     rw [if_neg hnw, getD_eq ht0, getD_eq htb0, hsm0, if_pos (by rw [ta]; rfl)]
    subst hRe
    refine FC_of Tryz.call109 Tryz.func109 rfl (by kernel_rfl) (by simp only [rd, List.map_cons, List.map_nil, List.length_cons, List.length_nil, Tryz.ntmps109]; omega) ?_
    simp -implicitDefEqProofs only [go_sem, Tryz.results109]
    refine callF (HO) (by simp -implicitDefEqProofs only [go_sem]) ?_
    simp -implicitDefEqProofs only [go_sem]
    refine callF (HQ) (by simp -implicitDefEqProofs only [go_sem]) ?_
    simp -implicitDefEqProofs only [go_sem]
    refine callF (HSt) (by simp -implicitDefEqProofs only [go_sem, ht0i]) ?_
    simp -implicitDefEqProofs only [go_sem, ht0i]
    refine drawn (by kernel_rfl) ?_
    simp -implicitDefEqProofs only [go_sem, ht0i, htb0i, ht0, htb0, getD_at, tmC_eq a.terms[0], tmC_eq b.terms[0]]
    refine dCallF (HSm) (by simp -implicitDefEqProofs only [go_sem]) ?_
    simp -implicitDefEqProofs only [go_sem]
    refine ⟨by kernel_rfl, ?_⟩
    simp [Ex.form, Ex.terms, Ex.parts]
   ·rw [hsm0] at HSm
    have hsm : ¬ (!decide (a.terms.length = 0) && !same (a.terms.getD 0 Tm.zero) (b.terms.getD 0 Tm.zero)) = true := by rw [getD_eq ht0, getD_eq htb0, hsm0]; simp
    have hpl : a.parts.length = b.parts.length := by omega
    have hfm : ∀ i (h1 : i < a.parts.length) (h2 : i < b.parts.length), a.parts[i].form = b.parts[i].form := fun i h1 h2 => by
     obtain rfl : i = 0 := by omega
     exact node_term hna hnb hf hq h1 h2 (by rw [getD_eq ht0, getD_eq htb0]; exact same_iff.1 hsm0)
    have htk1 : a.terms.take 1 = [a.terms[0]] := by
     obtain ⟨t, ht⟩ := List.length_eq_one_iff.1 ta
     simp [ht]
    refine FC_of Tryz.call109 Tryz.func109 rfl (by kernel_rfl) (by simp only [rd, List.map_cons, List.map_nil, List.length_cons, List.length_nil, Tryz.ntmps109]; omega) ?_
    simp -implicitDefEqProofs only [go_sem, Tryz.results109]
    refine callF (HO) (by simp -implicitDefEqProofs only [go_sem]) ?_
    simp -implicitDefEqProofs only [go_sem]
    refine callF (HQ) (by simp -implicitDefEqProofs only [go_sem]) ?_
    simp -implicitDefEqProofs only [go_sem]
    refine callF (HSt) (by simp -implicitDefEqProofs only [go_sem, ht0i]) ?_
    simp -implicitDefEqProofs only [go_sem, ht0i]
    refine drawn (by kernel_rfl) ?_
    simp -implicitDefEqProofs only [go_sem, ht0i, htb0i, ht0, htb0, getD_at, tmC_eq a.terms[0], tmC_eq b.terms[0]]
    refine dCallF (HSm) (by simp -implicitDefEqProofs only [go_sem]) ?_
    simp -implicitDefEqProofs only [go_sem]
    refine ⟨by kernel_rfl, ?_⟩
    refine drawn (by kernel_rfl) ?_
    simp -implicitDefEqProofs only [go_sem, ht0i, ht0, getD_at, tmC_eq a.terms[0]]
    refine dCallF (HTo) (by simp -implicitDefEqProofs only [go_sem]) ?_
    simp -implicitDefEqProofs only [go_sem]
    refine dBuildDc (by simp -implicitDefEqProofs only [go_sem]) ?_
    simp -implicitDefEqProofs only [go_sem]
    refine dApD true (by simp -implicitDefEqProofs only [go_sem, ne_eq]) ?_
    simp -implicitDefEqProofs only [go_sem, ne_eq]
    refine ⟨by kernel_rfl, ?_⟩
    refine loop_rule (fun k : Nat => hd [(2, vT (.bool pos)), (3, .one (.bx 3 0)), (4, .one (.bx 4 0)), (6, .one (.bx 6 0)), (7, vT (.bool false)), (8, .one (.bx 8 0)), (9, .one (.bx 9 0)), (10, vI k)] [(3, [.t (.int .i64 a.form.op), .t (.str a.form.atom.name), .t (tmS a.form.atom.args), .t (.str a.form.var), .t (fmS a.form.parts), .t (tmS a.terms), .t (exS a.parts)]), (4, [.t (.int .i64 b.form.op), .t (.str b.form.atom.name), .t (tmS b.form.atom.args), .t (.str b.form.var), .t (fmS b.form.parts), .t (tmS b.terms), .t (exS b.parts)]), (6, [.t (.int .i64 0), .t (.str []), .nl 2, .t (.str []), .nl 5, .nl 2, .nl 7]), (8, [.t (.int .i64 a.form.op), .t (.str a.form.atom.name), .t (tmS a.form.atom.args), .t (.str a.form.var), .t (fmS a.form.parts)]), (9, [.t (.int .i64 a.form.op), .t (.str a.form.atom.name), .ow 674 0, .t (.str a.form.var), .ow 676 0, .ow 1728 0, .ow 3001 0])]
     [(674, ⟨true, 2, a.form.atom.args.map tmC, 0, true⟩), (676, ⟨true, 5, a.form.parts.map fmC, 0, true⟩), (1728, ⟨true, 2, (a.terms.take 1).map tmC, 0, true⟩), (3001, ⟨true, 7, (L1.take k).map fun q => exC q.1, 0, true⟩)]) (fun k => k ≤ a.parts.length ∧ ∀ j (_ : j < k) (h : j < L1.length), L1[j].2 = true) (fun k => a.parts.length - k) 0 (weak_hd ?_) ⟨Nat.zero_le _, fun j h => absurd h (by omega)⟩ ?_
    ·simp -implicitDefEqProofs only [go_sem, htk1, tmC_eq a.terms[0]]
    ·rintro k ⟨hk, hal⟩
     by_cases hlt : k < a.parts.length
     ·have hkb : k < b.parts.length := by omega
      have hkL : k < L1.length := by omega
      have hfk := hfm k hlt hkb
      have hwa := mem_sum Ex.wt a.parts a.parts[k] (List.getElem_mem hlt)
      have hwb := mem_sum Ex.wt b.parts b.parts[k] (List.getElem_mem hkb)
      have HPo := l17Sign_c a.form k pos
      have hsg : (pos != (a.form.op == 4 || (a.form.op == 7 && ((k : Int) == 0)))) = sgn a.form k pos := rfl
      rw [hsg] at HPo
      have HC := H a.parts[k] (List.getElem_mem hlt) b.parts[k] (by omega) (sgn a.form k pos) (hpa k hlt) (by rw [hf]; exact hpb k hkb) hfk
      have hRk := hL1k k hlt
      rw [getD_eq hkb] at hRk
      unfold mrgP at HC
      rw [← hRk] at HC
      have htk : L1.take (k + 1) = L1.take k ++ [L1[k]] := List.take_succ_eq_append_getElem hkL
      generalize hq : L1[k] = q at HC htk hRk
      have hmin : min k L1.length ≤ 4294967295 := by omega
      have hmin2 : min k L1.length + 1 ≤ 4294967296 := by omega
      simp only [fmD, fmC_eq a.form, exD, exC_eq a.parts[k], exC_eq b.parts[k], exC_eq q.1] at HPo HC
      cases hq2 : q.2
      ·rw [hq2] at HC
       have htw := tw_at (fun q : Ex × Bool => q.2) L1 k hkL (fun j h => hal j h (by omega)) (by rw [hq]; exact hq2)
       have hRe : R = (.mk a.form (a.terms.take 1) ((L1.take k).map fun q => q.1), false) := by
        rw [← hR]; unfold mrgJ
        rw [if_neg hnw, if_neg hsm, htw, all_bad (fun q : Ex × Bool => q.2) L1 hkL (by rw [hq]; exact hq2)]
       subst hRe
       simp -implicitDefEqProofs only [go_sem, hlt]
       refine drawn (by kernel_rfl) ?_
       simp -implicitDefEqProofs only [go_sem, hlt, hkb, getD_at, exC_eq a.parts[k], exC_eq b.parts[k]]
       refine dCallF (HPo) (by simp -implicitDefEqProofs only [go_sem]) ?_
       simp -implicitDefEqProofs only [go_sem]
       refine dCallF (HC) (by simp -implicitDefEqProofs only [go_sem]) ?_
       simp -implicitDefEqProofs only [go_sem]
       refine ⟨by kernel_rfl, ?_⟩
       simp [Ex.form, Ex.terms, Ex.parts, Function.comp_def]
      ·rw [hq2] at HC
       simp -implicitDefEqProofs only [go_sem, hlt]
       refine drawn (by kernel_rfl) ?_
       simp -implicitDefEqProofs only [go_sem, hlt, hkb, getD_at, exC_eq a.parts[k], exC_eq b.parts[k]]
       refine dCallF (HPo) (by simp -implicitDefEqProofs only [go_sem]) ?_
       simp -implicitDefEqProofs only [go_sem]
       refine dCallF (HC) (by simp -implicitDefEqProofs only [go_sem]) ?_
       simp -implicitDefEqProofs only [go_sem]
       refine ⟨by kernel_rfl, ?_⟩
       refine buildDc (by simp -implicitDefEqProofs only [go_sem]) ?_
       simp -implicitDefEqProofs only [go_sem]
       refine apD true (by simp -implicitDefEqProofs only [go_sem, ne_eq, List.length_map, List.length_take, hmin, hmin2]) ?_
       simp -implicitDefEqProofs only [go_sem, ne_eq, List.length_map, List.length_take, hmin, hmin2]
       refine ⟨k + 1, ⟨hlt, step_all hal (hk := hkL) (by rw [hq]; exact hq2)⟩, by omega, weak_hd ?_⟩
       simp -implicitDefEqProofs only [go_sem]
       rw [wrap_s (by omega), htk, List.map_append, List.map_singleton, exC_eq q.1]
       exact ⟨rfl, rfl⟩
     ·have ht : L1.take k = L1 := List.take_of_length_le (by omega)
      obtain ⟨w1, w2⟩ := tw_all (fun q : Ex × Bool => q.2) L1 fun j h => hal j (by omega) h
      have hRe : R = (.mk a.form (a.terms.take 1) (L1.map fun q => q.1), true) := by
       rw [← hR]; unfold mrgJ
       rw [if_neg hnw, if_neg hsm, w1, w2]
      subst hRe
      rw [ht]
      simp -implicitDefEqProofs only [go_sem, hlt]
      exact ⟨rfl, rfl, rfl, rfl, rfl, rfl, by simp only [Ex.parts, List.map_map]; rfl⟩
theorem l17Merge_c : ∀ a : Ex, a.wt ≤ 1048576 → ∀ b : Ex, b.wt ≤ 1048576 → ∀ pos, nodeS a pos = true → nodeS b pos = true → a.form = b.form → mrgP a b pos :=
 ex_ind fun f ts ps ih ha b hb pos hna hnb hf => l17Merge_of (.mk f ts ps) ha (fun p hp b hb pos hna hnb hf => ih p hp (Nat.le_trans (eparts_wt (a := .mk f ts ps) hp) ha) b hb pos hna hnb hf) b hb pos hna hnb hf
end Go.Proofs.YtbccfiillleimaaGreat
namespace Go.Proofs.YtbccfiillleimaaGreat
set_option linter.unusedSimpArgs false
set_option linter.unusedVariables false
set_option linter.unusedSectionVars false
set_option maxRecDepth 4000
open Go.RowKit
noncomputable def tkM (a b : Ex) (k : Nat) : List Tm := a.terms ++ (rstK a.terms b.terms k).map fun i => b.terms.getD i Tm.zero
noncomputable def mpM (a b : Ex) (pos : Bool) (k i : Nat) (p : Ex) : Ex := if (decide (0 ≤ kx a.terms b.terms i) && decide (kx a.terms b.terms i < (k : Int))) = true then (mrg p (b.parts.getD (kx a.terms b.terms i).toNat Ex.zero) pos).1 else p
noncomputable def pkM (a b : Ex) (pos : Bool) (k : Nat) : List Ex := a.parts.mapIdx (mpM a b pos k) ++ (rstK a.terms b.terms k).map fun i => b.parts.getD i Ex.zero
theorem tkM_zero (a b : Ex) : tkM a b 0 = a.terms := by unfold tkM rstK; simp
theorem pkM_zero (a b : Ex) (pos : Bool) : pkM a b pos 0 = a.parts := by
 unfold pkM rstK
 rw [List.range_zero, List.filter_nil, List.map_nil, List.append_nil]
 refine List.ext_getElem (by simp) fun i h1 h2 => ?_
 rw [List.getElem_mapIdx]
 unfold mpM
 rw [if_neg]
 simp only [Bool.and_eq_true, decide_eq_true_eq]
 omega
theorem mem_any {ts : List Tm} {t : Tm} : (ts.any fun x => same x t) = true ↔ t ∈ ts := by
 rw [List.any_eq_true]
 constructor
 ·rintro ⟨x, hx, h⟩
  rw [same_iff] at h
  subst h; exact hx
 ·exact fun h => ⟨t, h, same_self _⟩
theorem rstK_new {ts us : List Tm} {k : Nat} (hk : k < us.length) (h : us[k] ∉ ts) : rstK ts us (k + 1) = rstK ts us k ++ [k] := by
 have := rst_succ ts us k
 rw [getD_eq hk, if_neg (fun e => h (mem_any.1 e))] at this
 exact this
theorem rstK_old {ts us : List Tm} {k : Nat} (hk : k < us.length) (h : us[k] ∈ ts) : rstK ts us (k + 1) = rstK ts us k := by
 have := rst_succ ts us k
 rw [getD_eq hk, if_pos (mem_any.2 h), List.append_nil] at this
 exact this
theorem rstK_len (ts us : List Tm) (k : Nat) : (rstK ts us k).length ≤ k := by
 have := List.length_filter_le (fun k => !(ts.any fun x => same x (us.getD k Tm.zero))) (List.range k)
 rw [List.length_range] at this
 exact this
theorem rstK_mem {ts us : List Tm} {k i : Nat} (h : i ∈ rstK ts us k) : i < k := by
 exact List.mem_range.1 (List.mem_filter.1 h).1
theorem tkM_new {a b : Ex} {k : Nat} (hk : k < b.terms.length) (h : b.terms[k] ∉ a.terms) : tkM a b (k + 1) = tkM a b k ++ [b.terms[k]] := by
 unfold tkM
 rw [rstK_new hk h, List.map_append, List.map_singleton, getD_eq hk, List.append_assoc]
theorem tkM_old {a b : Ex} {k : Nat} (hk : k < b.terms.length) (h : b.terms[k] ∈ a.terms) : tkM a b (k + 1) = tkM a b k := by
 unfold tkM
 rw [rstK_old hk h]
theorem tkM_any {a b : Ex} {k : Nat} (hd : b.terms.Nodup) (hk : k < b.terms.length) (h : b.terms[k] ∉ a.terms) : ((tkM a b k).any fun x => same x b.terms[k]) = false := by
 rw [Bool.eq_false_iff]
 intro hc
 rw [mem_any] at hc
 unfold tkM at hc
 rcases List.mem_append.1 hc with hc | hc
 ·exact h hc
 ·obtain ⟨i, hi, e⟩ := List.mem_map.1 hc
  have hik := rstK_mem hi
  have hil : i < b.terms.length := by omega
  rw [getD_eq hil] at e
  have := nodup_inj hd hil hk e
  omega
theorem tkM_idx {a b : Ex} {k i : Nat} (hd : a.terms.Nodup) (hk : k < b.terms.length) (hi : i < a.terms.length) (h : a.terms[i] = b.terms[k]) : (idxP (tkM a b k) fun x => same x b.terms[k]) = (i : Nat) := by
 have hl : i < (tkM a b k).length := by unfold tkM; rw [List.length_append]; omega
 have hg : (tkM a b k)[i] = a.terms[i] := List.getElem_append_left hi
 refine idxP_found hl (fun x hx => same_no.2 fun e => ?_) (by rw [hg, h]; exact same_self _)
 subst e
 unfold tkM at hx
 rw [List.take_append_of_le_length (by omega)] at hx
 obtain ⟨j, hj, e⟩ := List.mem_iff_getElem.1 hx
 rw [List.getElem_take, ← h] at e
 have hj2 := hj
 rw [List.length_take] at hj2
 have := nodup_inj hd (by omega) hi e
 omega
theorem kx_at {a b : Ex} {k i : Nat} (hd : b.terms.Nodup) (hk : k < b.terms.length) (hi : i < a.terms.length) (h : a.terms[i] = b.terms[k]) : kx a.terms b.terms i = (k : Int) := by
 unfold kx
 rw [getD_eq hi, h]
 exact idxP_same hd hk
theorem kx_is {a b : Ex} {k i : Nat} (hi : i < a.terms.length) (h : kx a.terms b.terms i = (k : Int)) : ∃ hk : k < b.terms.length, b.terms[k] = a.terms[i] := by
 have := kx_pos hi (by omega : 0 ≤ kx a.terms b.terms i)
 rw [h] at this
 simpa using this
theorem pkM_new {a b : Ex} {pos : Bool} {k : Nat} (hla : a.terms.length = a.parts.length) (hlb : b.terms.length = b.parts.length) (hk : k < b.terms.length) (h : b.terms[k] ∉ a.terms) : pkM a b pos (k + 1) = pkM a b pos k ++ [b.parts[k]'(by omega)] := by
 unfold pkM
 rw [rstK_new hk h, List.map_append, List.map_singleton, getD_eq (by omega : k < b.parts.length), ← List.append_assoc]
 congr 2
 refine mapIdx_congr _ _ _ fun i hi => ?_
 have hit : i < a.terms.length := by omega
 have hne : kx a.terms b.terms i ≠ (k : Int) := fun e => by
  obtain ⟨_, e2⟩ := kx_is hit e
  exact h (e2 ▸ List.getElem_mem hit)
 unfold mpM
 rw [show decide (kx a.terms b.terms i < ((k + 1 : Nat) : Int)) = decide (kx a.terms b.terms i < (k : Int)) from decide_eq_decide.2 (by omega)]
theorem pkM_len (a b : Ex) (pos : Bool) (k : Nat) : (pkM a b pos k).length = a.parts.length + (rstK a.terms b.terms k).length := by
 unfold pkM; simp
theorem pkM_at {a b : Ex} {pos : Bool} {k i : Nat} (hd : b.terms.Nodup) (hla : a.terms.length = a.parts.length) (hk : k < b.terms.length) (hi : i < a.terms.length) (h : a.terms[i] = b.terms[k]) : (pkM a b pos k)[i]'(by rw [pkM_len]; omega) = a.parts[i]'(by omega) := by
 unfold pkM
 rw [List.getElem_append_left (by rw [List.length_mapIdx]; omega), List.getElem_mapIdx]
 unfold mpM
 rw [kx_at hd hk hi h, if_neg]
 simp
theorem pkM_old {a b : Ex} {pos : Bool} {k i : Nat} (hda : a.terms.Nodup) (hdb : b.terms.Nodup) (hla : a.terms.length = a.parts.length) (hlb : b.terms.length = b.parts.length) (hk : k < b.terms.length) (hi : i < a.terms.length) (h : a.terms[i] = b.terms[k]) : pkM a b pos (k + 1) = (pkM a b pos k).set i (mrg (a.parts[i]'(by omega)) (b.parts[k]'(by omega)) pos).1 := by
 have hip : i < a.parts.length := by omega
 unfold pkM
 rw [rstK_old hk (h ▸ List.getElem_mem hi), List.set_append_left _ _ (by rw [List.length_mapIdx]; omega)]
 congr 1
 refine List.ext_getElem (by simp) fun j h1 h2 => ?_
 have hjp : j < a.parts.length := by rw [List.length_mapIdx] at h1; exact h1
 rw [List.getElem_mapIdx, List.getElem_set]
 split
 ·rename_i e
  subst e
  unfold mpM
  rw [kx_at hdb hk hi h, if_pos (by simp only [Bool.and_eq_true, decide_eq_true_eq]; omega), Int.toNat_natCast, getD_eq (by omega : k < b.parts.length)]
 ·rename_i e
  rw [List.getElem_mapIdx]
  have hne : kx a.terms b.terms j ≠ (k : Int) := fun e2 => by
   obtain ⟨_, e3⟩ := kx_is (by omega : j < a.terms.length) e2
   exact e (nodup_inj hda hi (by omega) (h.trans e3))
  unfold mpM
  rw [show decide (kx a.terms b.terms j < ((k + 1 : Nat) : Int)) = decide (kx a.terms b.terms j < (k : Int)) from decide_eq_decide.2 (by omega)]
theorem pkM_end {a b : Ex} {pos : Bool} (hla : a.terms.length = a.parts.length) : pkM a b pos b.terms.length = ((mrg2 a b pos).map fun q => q.1) ++ (rst a.terms b.terms).map fun k => b.parts.getD k Ex.zero := by
 unfold pkM
 congr 1
 rw [show (mrg2 a b pos).map (fun q => q.1) = a.parts.mapIdx _ from map_mapIdx' _ _ _]
 refine mapIdx_congr _ _ _ fun i hi => ?_
 unfold mpM
 by_cases h0 : 0 ≤ kx a.terms b.terms i
 ·obtain ⟨hk, _⟩ := kx_pos (by omega : i < a.terms.length) h0
  rw [if_pos (by simp only [Bool.and_eq_true, decide_eq_true_eq]; omega), if_pos h0]
 ·rw [if_neg (by simp only [Bool.and_eq_true, decide_eq_true_eq]; omega), if_neg h0]
theorem sum_set (w : Ex → Nat) : ∀ (l : List Ex) (i : Nat) (r : Ex) (h : i < l.length), ((l.set i r).map w).sum + w l[i] = (l.map w).sum + w r
 | x :: l, 0, r, _ => by simp; omega
 | x :: l, i + 1, r, h => by
  have := sum_set w l i r (by simpa using h)
  simp only [List.set_cons_succ, List.map_cons, List.sum_cons, List.getElem_cons_succ]
  omega
theorem mrg_wt : ∀ (a b : Ex) (pos : Bool), nodeS a pos = true → nodeS b pos = true → a.form = b.form → (mrg a b pos).2 = true → (mrg a b pos).1.wt ≤ a.wt + b.wt := ex_ind fun f ts ps ih b pos hna hnb hf hok => by
 generalize ha : Ex.mk f ts ps = a at hna hf hok ⊢
 have hps : ps = a.parts := by rw [← ha]; rfl
 rw [hps] at ih
 clear hps ha
 have hWa := a.wt_eq
 have hWb := b.wt_eq
 have hTa : tmsW a.terms = a.terms.length + (a.terms.map Tm.wt).sum := rfl
 have hTb : tmsW b.terms = b.terms.length + (b.terms.map Tm.wt).sum := rfl
 have hpa := (nodeS_parts hna).1
 have hpb := (nodeS_parts hnb).1
 rw [mrg_eq] at hok ⊢
 by_cases hw : (isQ a.form.op && !strongE a.form pos) = true
 ·have hq : isQ a.form.op = true := by rw [Bool.and_eq_true] at hw; exact hw.1
  have hla := (nodeS_len hna).1 hq
  have hlb := (nodeS_len hnb).1 (hf ▸ hq)
  have hda := nodeS_once hna hq
  have hdb := nodeS_once hnb (hf ▸ hq)
  unfold mrgJ at hok ⊢
  rw [if_pos hw] at hok ⊢
  by_cases hall : ((mrg2 a b pos).all fun q => q.2) = true
  ·rw [if_pos hall]
   rw [← pkM_end hla]
   have hbits : ∀ i (hi : i < a.parts.length), ((mrg2 a b pos)[i]'(by rw [mrg2_len]; exact hi)).2 = true := fun i hi => List.all_eq_true.1 hall _ (List.getElem_mem _)
   have key : ∀ k, k ≤ b.terms.length → tmsW (tkM a b k) + ((pkM a b pos k).length + ((pkM a b pos k).map Ex.wt).sum) ≤ tmsW a.terms + (a.parts.length + (a.parts.map Ex.wt).sum) + (psum Tm.wt b.terms k + k + (psum Ex.wt b.parts k + k)) := by
    intro k
    induction k with
    | zero => intro _; rw [tkM_zero, pkM_zero]; omega
    | succ k ihk =>
     intro hk
     have hk' : k < b.terms.length := by omega
     have hkp : k < b.parts.length := by omega
     have h1 := ihk (by omega)
     have s1 := psum_succ Tm.wt b.terms k hk'
     have s2 := psum_succ Ex.wt b.parts k hkp
     by_cases hm : b.terms[k] ∈ a.terms
     ·obtain ⟨i, hi, e⟩ := List.mem_iff_getElem.1 hm
      have hip : i < a.parts.length := by omega
      rw [tkM_old hk' hm, pkM_old hda hdb hla hlb hk' hi e, List.length_set]
      have hat := pkM_at (pos := pos) hdb hla hk' hi e
      have hlt : i < (pkM a b pos k).length := by rw [pkM_len]; omega
      have h2 := sum_set Ex.wt (pkM a b pos k) i (mrg a.parts[i] b.parts[k] pos).1 hlt
      rw [hat] at h2
      have hb := hbits i hip
      rw [List.getElem_mapIdx, kx_at hdb hk' hi e, if_pos (by omega), Int.toNat_natCast, getD_eq hkp] at hb
      have g1 := hpa i hip
      have g2 := hpb k hkp
      rw [sgn_q hq] at g1
      rw [sgn_q (hf ▸ hq)] at g2
      have h3 := ih a.parts[i] (List.getElem_mem hip) b.parts[k] pos g1 g2 (node_term hna hnb hf hq hip hkp (by rw [getD_eq hi, getD_eq hk', e])) hb
      omega
     ·rw [tkM_new hk' hm, pkM_new hla hlb hk' hm]
      unfold tmsW at h1 ⊢
      simp only [List.length_append, List.map_append, List.sum_append, List.length_cons, List.length_nil, List.map_cons, List.map_nil, List.sum_cons, List.sum_nil]
      omega
   have h := key b.terms.length (Nat.le_refl _)
   rw [psum_all Tm.wt b.terms _ (Nat.le_refl _), psum_all Ex.wt b.parts _ (by omega)] at h
   rw [Ex.wt_eq]
   show a.form.wt + tmsW (tkM a b b.terms.length) + ((pkM a b pos b.terms.length).length + ((pkM a b pos b.terms.length).map Ex.wt).sum) ≤ _
   omega
  ·rw [if_neg hall] at hok
   cases hok
 ·unfold mrgJ at hok ⊢
  rw [if_neg hw] at hok ⊢
  split at hok
  ·cases hok
  ·rename_i hsm
   rw [if_neg hsm]
   have hall : ((mrg1 a b pos).all fun q => q.2) = true := hok
   obtain ⟨w1, -⟩ := tw_all (fun q : Ex × Bool => q.2) (mrg1 a b pos) fun j h => List.all_eq_true.1 hall _ (List.getElem_mem _)
   rw [w1, Ex.wt_eq]
   have hlen : a.parts.length = b.parts.length ∧ ∀ i (h1 : i < a.parts.length) (h2 : i < b.parts.length), a.parts[i].form = b.parts[i].form := by
    cases hq : isQ a.form.op
    ·exact node_pair hna hnb hf hq
    ·have hs : strongE a.form pos = true := by
      rw [hq, Bool.true_and, Bool.not_eq_true', Bool.not_eq_false] at hw
      exact hw
     obtain ⟨ta, pa⟩ := strong_one hna hs
     obtain ⟨tb, pb⟩ := strong_one hnb (by rw [← hf]; exact hs)
     refine ⟨by omega, fun i h1 h2 => ?_⟩
     obtain rfl : i = 0 := by omega
     refine node_term hna hnb hf hq h1 h2 ?_
     rw [ta] at hsm
     simpa [same_iff] using hsm
   have hs : (((mrg1 a b pos).map fun q => q.1).map Ex.wt).sum ≤ (a.parts.map Ex.wt).sum + (b.parts.map Ex.wt).sum := by
    have key : ∀ k, k ≤ a.parts.length → ((((mrg1 a b pos).take k).map fun q => q.1).map Ex.wt).sum ≤ psum Ex.wt a.parts k + psum Ex.wt b.parts k := by
     intro k
     induction k with
     | zero => intro _; simp
     | succ k ihk =>
      intro hk
      have h1 := ihk (by omega)
      have hka : k < a.parts.length := by omega
      have hkb : k < b.parts.length := by omega
      have s1 := psum_succ Ex.wt a.parts k hka
      have s2 := psum_succ Ex.wt b.parts k hkb
      have hkl : k < (mrg1 a b pos).length := by rw [mrg1_len]; exact hka
      have hq : (mrg1 a b pos)[k] = mrg a.parts[k] b.parts[k] (sgn a.form k pos) := by rw [List.getElem_mapIdx, getD_eq hkb]
      have hb : ((mrg1 a b pos)[k]).2 = true := List.all_eq_true.1 hall _ (List.getElem_mem hkl)
      rw [hq] at hb
      have h3 := ih a.parts[k] (List.getElem_mem hka) b.parts[k] _ (hpa k hka) (by rw [hf]; exact hpb k hkb) (hlen.2 k hka hkb) hb
      rw [List.take_succ_eq_append_getElem hkl, hq]
      simp only [List.map_append, List.sum_append, List.map_cons, List.map_nil, List.sum_cons, List.sum_nil]
      omega
    have := key a.parts.length (Nat.le_refl _)
    rw [List.take_of_length_le (by rw [mrg1_len]; exact Nat.le_refl _), psum_all Ex.wt a.parts _ (Nat.le_refl _), psum_all Ex.wt b.parts _ (by omega)] at this
    exact this
   have ht : tmsW (a.terms.take 1) ≤ tmsW a.terms := by
    cases h : a.terms with
    | nil => exact Nat.le_refl _
    | cons t l => unfold tmsW; simp; omega
   show a.form.wt + tmsW (a.terms.take 1) + ((((mrg1 a b pos).map fun q => q.1)).length + (((mrg1 a b pos).map fun q => q.1).map Ex.wt).sum) ≤ _
   rw [List.length_map, mrg1_len]
   omega
end Go.Proofs.YtbccfiillleimaaGreat
